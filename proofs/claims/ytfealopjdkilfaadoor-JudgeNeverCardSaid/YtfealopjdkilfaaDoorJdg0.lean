/- Judge: plain. Orders of entries; a search; what is right. No program is named here. -/
import Derived.Test.YtfealopjdkilfaaDoorReg1
namespace Go.Proofs.YtfealopjdkilfaaDoor.Jdg
open Go
open Reg (Val Res applyR zeroV In64)
structure En where
  op : Reg.Op
  s : Int
  e : Int
  er : Int
  av : Val
  w : Bool
def never (x : En) : Bool := decide (0 < x.e) && decide (x.er = 12)
def sure (x : En) : Bool := decide (0 < x.e) && (!decide (x.er = 13) && !never x)
def ahead (a b : En) : Bool := (sure a || never a) && decide (a.e < b.s)
/-- may the register's answer be the entry's? -/
def fits (x : En) (r : Res) : Bool := !sure x || ((decide (r.e = x.er) && decide (r.a = x.av)) && decide (r.w = x.w))
def next (v : Val) (x : En) : Option Val := if fits x (applyR v x.op) = true then some (applyR v x.op).v else none
variable (l : List En)
/-- all that are sure lie in a set -/
def Done (m : Nat) : Prop := ∀ i x, l[i]? = some x → sure x = true → m.testBit i = true
/-- an entry that may come next -/
def Free (m i : Nat) (x : En) : Prop := m.testBit i = false ∧ never x = false ∧ ∀ k y, l[k]? = some y → k ≠ i → m.testBit k = false → sure y = true → ahead y x = false
def ins (m i : Nat) : Nat := m ||| (1 <<< i)
theorem ins_bit (m i j : Nat) : (ins m i).testBit j = (m.testBit j || decide (i = j)) := by
  unfold ins
  rw [Nat.testBit_or, Nat.testBit_shiftLeft]
  by_cases h : i = j
  · subst h; simp
  · rw [decide_eq_false h]
    by_cases h2 : i ≤ j
    · have : 1 ≤ j - i := by omega
      rw [show j - i = (j - i - 1) + 1 by omega, Nat.testBit_succ]
      simp
    · rw [decide_eq_false (by omega)]; simp
theorem ins_lt {m i : Nat} (hm : m < 65536) (hi : i < 16) : ins m i < 65536 := by
  unfold ins
  exact Nat.or_lt_two_pow (n := 16) hm (by rw [Nat.shiftLeft_eq, Nat.one_mul]; exact Nat.pow_lt_pow_right (by decide) hi)
/-- a rest of an order, from a state on -/
def From : Nat → Val → List Nat → Prop
  | m, _, [] => Done l m
  | m, v, i :: r => ∃ x v', l[i]? = some x ∧ Free l m i x ∧ next v x = some v' ∧ From (ins m i) v' r
/-- an order that is right, behind what has been done -/
def Right : Val → List Int → List Int → Prop
  | _, pre, [] => ∀ (i : Nat) x, l[i]? = some x → sure x = true → (i : Int) ∈ pre
  | v, pre, k :: r => ∃ (i : Nat) (x : En) (v' : Val), k = i ∧ l[i]? = some x ∧ k ∉ pre ∧ never x = false ∧ (∀ (j : Nat) y, (j : Int) ∈ pre → l[j]? = some y → ahead x y = false) ∧ next v x = some v' ∧ Right v' (pre ++ [k]) r
def Is (m : Nat) (pre : List Int) : Prop := ∀ i : Nat, m.testBit i = true ↔ (i : Int) ∈ pre
theorem Is.nil : Is 0 [] := fun i => by simp
theorem Is.ins {m : Nat} {pre : List Int} (h : Is m pre) (i : Nat) : Is (ins m i) (pre ++ [(i : Int)]) := fun j => by
  rw [ins_bit, Bool.or_eq_true, h j, List.mem_append, List.mem_singleton, decide_eq_true_eq]
  constructor
  · rintro (h | rfl)
    · exact .inl h
    · exact .inr rfl
  · rintro (h | h)
    · exact .inl h
    · exact .inr (by omega)
variable {l}
theorem right_later : ∀ {q : List Int} {v : Val} {pre : List Int}, Right l v pre q → ∀ (k : Nat) y, l[k]? = some y → sure y = true → (k : Int) ∈ pre ∨ ∀ (j : Nat) z, (j : Int) ∈ pre → l[j]? = some z → ahead y z = false
  | [], v, pre, h, k, y, hk, hs => .inl (h k y hk hs)
  | c :: r, v, pre, ⟨i, x, v', hc, hx, hn, hv, ha, hx2, h⟩, k, y, hk, hs => by
    rcases right_later h k y hk hs with h1 | h1
    · rcases List.mem_append.1 h1 with h1 | h1
      · exact .inl h1
      · rw [List.mem_singleton, hc] at h1
        have e : k = i := by omega
        subst e
        have : y = x := Option.some.inj (hk.symm.trans hx)
        subst this
        exact .inr ha
    · exact .inr fun j z hj hz => h1 j z (List.mem_append_left _ hj) hz
theorem from_of_right : ∀ {q : List Int} {v : Val} {pre : List Int} {m : Nat}, Is m pre → Right l v pre q → ∃ p : List Nat, q = p.map (fun i : Nat => (i : Int)) ∧ From l m v p
  | [], v, pre, m, hm, h => ⟨[], rfl, fun i x hx hs => (hm i).2 (h i x hx hs)⟩
  | c :: r, v, pre, m, hm, ⟨i, x, v', hc, hx, hn, hv, ha, hx2, h⟩ => by
    subst hc
    obtain ⟨p, rfl, hp⟩ := from_of_right (hm.ins i) h
    refine ⟨i :: p, rfl, x, v', hx, ⟨?_, hv, fun k y hk hki hkm hs => ?_⟩, hx2, hp⟩
    · cases e : m.testBit i with
      | false => rfl
      | true => exact absurd ((hm i).1 e) hn
    · rcases right_later h k y hk hs with h1 | h1
      · rcases List.mem_append.1 h1 with h1 | h1
        · rw [(hm k).2 h1] at hkm; cases hkm
        · rw [List.mem_singleton] at h1; omega
      · exact h1 i x (List.mem_append_right _ (List.mem_singleton.2 rfl)) hx
def Inv (l : List En) (pre : List Int) : Prop := ∀ (j : Nat) z, (j : Int) ∈ pre → l[j]? = some z → ∀ (k : Nat) y, l[k]? = some y → (k : Int) ∉ pre → sure y = true → ahead y z = false
theorem right_of_from : ∀ {p : List Nat} {v : Val} {pre : List Int} {m : Nat}, Is m pre → Inv l pre → From l m v p → Right l v pre (p.map (fun i : Nat => (i : Int)))
  | [], v, pre, m, hm, _, h => fun i x hx hs => (hm i).1 (h i x hx hs)
  | i :: r, v, pre, m, hm, hI, ⟨x, v', hx, ⟨h1, h2, h3⟩, hv, h⟩ => by
    have hni : (i : Int) ∉ pre := fun hc => by rw [(hm i).2 hc] at h1; cases h1
    refine ⟨i, x, v', rfl, hx, hni, h2, fun j y hj hy => ?_, hv, right_of_from (hm.ins i) (fun j z hj hz k y hk hkp hs => ?_) h⟩
    · cases hs : sure x with
      | true => exact hI j y hj hy i x hx hni hs
      | false => unfold ahead; rw [hs, h2]; rfl
    · have hk2 : (k : Int) ∉ pre := fun hc => hkp (List.mem_append_left _ hc)
      rcases List.mem_append.1 hj with hj | hj
      · exact hI j z hj hz k y hk hk2 hs
      · rw [List.mem_singleton] at hj
        have e : j = i := Int.ofNat_inj.1 hj
        subst e
        have : z = x := Option.some.inj (hz.symm.trans hx)
        subst this
        refine h3 k y hk ?_ ?_ hs
        · rintro rfl
          exact hkp (List.mem_append_right _ (List.mem_singleton.2 rfl))
        · cases e : m.testBit k with
          | false => rfl
          | true => exact absurd ((hm k).1 e) hk2
theorem from_iff (v : Val) : (∃ p, From l 0 v p) ↔ ∃ q, Right l v [] q :=
  ⟨fun ⟨p, h⟩ => ⟨_, right_of_from Is.nil (fun j z hj => by cases hj) h⟩, fun ⟨q, h⟩ => by
    obtain ⟨p, _, hp⟩ := from_of_right Is.nil h
    exact ⟨p, hp⟩⟩
/-- how many entries are not in a set yet -/
def left (n m : Nat) : Nat := ((List.range n).filter fun i => !m.testBit i).length
theorem left_ins {n m i : Nat} (hi : i < n) (hm : m.testBit i = false) : left n (ins m i) < left n m := by
  unfold left
  have h1 : ((List.range n).filter fun j => !(ins m i).testBit j) = ((List.range n).filter fun j => !m.testBit j).filter fun j => !decide (i = j) := by
    rw [List.filter_filter]
    congr 1
    funext j
    rw [ins_bit, Bool.not_or, Bool.and_comm]
  rw [h1]
  have hmem : i ∈ (List.range n).filter fun j => !m.testBit j := List.mem_filter.2 ⟨List.mem_range.2 hi, by rw [hm]; rfl⟩
  exact List.length_filter_lt_length_iff_exists.2 ⟨i, hmem, by simp⟩
theorem left_le (n m : Nat) : left n m ≤ n := by
  unfold left
  have := List.length_filter_le (fun i => !m.testBit i) (List.range n)
  rwa [List.length_range] at this
theorem from_len {l : List En} : ∀ {q : List Nat} {m : Nat} {v : Val}, From l m v q → q.length ≤ left l.length m
  | [], _, _, _ => Nat.zero_le _
  | i :: r, m, v, ⟨x, v', hx, hf, _, h⟩ => by
    have h1 := from_len h
    have h2 := left_ins (List.getElem?_eq_some_iff.1 hx).1 hf.1
    rw [List.length_cons]; omega
end Go.Proofs.YtfealopjdkilfaaDoor.Jdg
