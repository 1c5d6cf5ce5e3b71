/- Judge: plain. Rests of orders by computing; the one order of what the law tries first. No program is named here. -/
import Derived.Test.YtfealopjdkilfaaDoorJdg1
namespace Go.Proofs.YtfealopjdkilfaaDoor.Jdg
open Go
open Reg (Val Res applyR zeroV In64)
def doneB (l : List En) (m : Nat) : Bool := (List.range l.length).all fun i => match l[i]? with
  | some x => !sure x || m.testBit i
  | none => true
def freeB (l : List En) (m i : Nat) (x : En) : Bool := !m.testBit i && (!never x && (List.range l.length).all fun k => match l[k]? with
  | some y => decide (k = i) || (m.testBit k || (!sure y || !ahead y x))
  | none => true)
def fromB (l : List En) : Nat → Val → List Nat → Bool
  | m, _, [] => doneB l m
  | m, v, i :: r => match l[i]? with
    | some x => freeB l m i x && (match next v x with
      | some v' => fromB l (ins m i) v' r
      | none => false)
    | none => false
theorem done_iff (l : List En) (m : Nat) : doneB l m = true ↔ Done l m := by
  unfold doneB Done
  rw [List.all_eq_true]
  constructor
  · intro h i x hx hs
    have := h i (List.mem_range.2 (List.getElem?_eq_some_iff.1 hx).1)
    rw [hx] at this
    simp only [hs] at this
    simpa using this
  · intro h i hi
    cases hx : l[i]? with
    | none => rfl
    | some x =>
      simp only
      cases hs : sure x with
      | false => rfl
      | true => rw [h i x hx hs]; rfl
theorem free_iff (l : List En) (m i : Nat) (x : En) : freeB l m i x = true ↔ Free l m i x := by
  unfold freeB Free
  rw [Bool.and_eq_true, Bool.and_eq_true, Bool.not_eq_true', Bool.not_eq_true', List.all_eq_true]
  constructor
  · rintro ⟨h1, h2, h3⟩
    refine ⟨h1, h2, fun k y hy hk hm hs => ?_⟩
    have := h3 k (List.mem_range.2 (List.getElem?_eq_some_iff.1 hy).1)
    rw [hy] at this
    simp only [decide_eq_false hk, hm, hs, Bool.not_true, Bool.false_or] at this
    simpa using this
  · rintro ⟨h1, h2, h3⟩
    refine ⟨h1, h2, fun k hk => ?_⟩
    cases hy : l[k]? with
    | none => rfl
    | some y =>
      simp only
      by_cases e : k = i
      · rw [decide_eq_true e]; rfl
      · cases hm : m.testBit k with
        | true => simp
        | false =>
          cases hs : sure y with
          | false => simp
          | true => rw [h3 k y hy e hm hs]; simp
theorem from_iffB (l : List En) : ∀ (q : List Nat) (m : Nat) (v : Val), fromB l m v q = true ↔ From l m v q
  | [], m, v => done_iff l m
  | i :: r, m, v => by
    unfold fromB From
    constructor
    · intro h
      split at h
      · rename_i x hx
        rw [Bool.and_eq_true] at h
        obtain ⟨h1, h2⟩ := h
        split at h2
        · rename_i v' hv
          exact ⟨x, v', hx, (free_iff l m i x).1 h1, hv, (from_iffB l r _ _).1 h2⟩
        · cases h2
      · cases h
    · rintro ⟨x, v', hx, hf, hv, h⟩
      rw [hx]
      simp only
      rw [(free_iff l m i x).2 hf, hv]
      exact (from_iffB l r _ _).2 h
def allL (b : Nat) : Nat → List (List Nat)
  | 0 => [[]]
  | n + 1 => [] :: (List.range b).flatMap fun i => (allL b n).map (i :: ·)
theorem mem_all {b : Nat} : ∀ {n : Nat} {q : List Nat}, q.length ≤ n → (∀ i ∈ q, i < b) → q ∈ allL b n
  | 0, [], _, _ => List.mem_singleton.2 rfl
  | n + 1, [], _, _ => List.mem_cons_self
  | 0, _ :: _, h, _ => absurd h (by simp)
  | n + 1, i :: r, h, hb => by
    refine List.mem_cons_of_mem _ (List.mem_flatMap.2 ⟨i, List.mem_range.2 (hb i List.mem_cons_self), List.mem_map.2 ⟨r, mem_all (by simpa using h) (fun j hj => hb j (List.mem_cons_of_mem _ hj)), rfl⟩⟩)
theorem from_lt {l : List En} : ∀ {q : List Nat} {m : Nat} {v : Val}, From l m v q → ∀ i ∈ q, i < l.length
  | [], _, _, _, i, hi => by cases hi
  | k :: r, m, v, ⟨x, v', hx, hf, hv, h⟩, i, hi => by
    rcases List.mem_cons.1 hi with rfl | hi
    · exact (List.getElem?_eq_some_iff.1 hx).1
    · exact from_lt h i hi
/-- what the law tries first -/
def L3 : List En := [⟨⟨2, 0, [97], zeroV, 0⟩, 1, 4, 0, zeroV, true⟩, ⟨⟨2, 0, [98], zeroV, 0⟩, 2, 3, 0, zeroV, true⟩, ⟨⟨1, 0, [], zeroV, 0⟩, 5, 5, 0, ⟨true, [97]⟩, false⟩]
theorem only3 : (allL 3 3).all (fun q => !fromB L3 0 zeroV q || decide (q = [1, 0, 2])) = true := by decide +kernel
theorem from3 : From L3 0 zeroV [1, 0, 2] := (from_iffB L3 _ _ _).1 (by decide +kernel)
theorem from3_only {q : List Nat} (h : From L3 0 zeroV q) : q = [1, 0, 2] := by
  have h1 := from_len h
  have h2 : left 3 0 = 3 := by decide
  have hm : q ∈ allL 3 3 := mem_all (by rw [← h2]; exact h1) (from_lt h)
  have := List.all_eq_true.1 only3 q hm
  rw [(from_iffB L3 q 0 zeroV).2 h] at this
  simpa using this
theorem right3 : Right L3 zeroV [] [1, 0, 2] := right_of_from Is.nil (fun j z hj => by cases hj) from3
theorem wrong3 : ¬ Right L3 zeroV [] [0, 1, 2] := fun h => by
  obtain ⟨p, hp, hf⟩ := from_of_right Is.nil h
  rw [from3_only hf] at hp
  revert hp
  decide
theorem some_iff {l : List En} {v : Val} (q : List Int) : (∃ p, Right l v [] (q ++ p)) ↔ Right l v [] q ∨ ∃ i : Nat, i < l.length ∧ (i : Int) ∉ q ∧ ∃ p, Right l v [] ((q ++ [(i : Int)]) ++ p) := by
  constructor
  · rintro ⟨p, h⟩
    cases p with
    | nil => exact .inl (by rwa [List.append_nil] at h)
    | cons k p =>
      refine .inr ?_
      obtain ⟨h1, h2⟩ := right_apart (List.nodup_nil) h
      rw [List.nil_append] at h1
      obtain ⟨i, rfl, hi⟩ := h2 k (by simp)
      refine ⟨i, hi, fun hc => ?_, p, by rwa [List.append_assoc]⟩
      rw [List.nodup_append] at h1
      exact h1.2.2 _ hc _ List.mem_cons_self rfl
  · rintro (h | ⟨i, _, _, p, h⟩)
    · exact ⟨[], by rwa [List.append_nil]⟩
    · exact ⟨(i : Int) :: p, by rwa [List.append_assoc] at h⟩
end Go.Proofs.YtfealopjdkilfaaDoor.Jdg
