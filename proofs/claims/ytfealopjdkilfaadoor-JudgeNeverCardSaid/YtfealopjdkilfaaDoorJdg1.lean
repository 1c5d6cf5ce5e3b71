/- Judge: plain. What the program's check says; entries of a law; runs; entries that never took effect. No program is named here. -/
import Derived.Test.YtfealopjdkilfaaDoorJdg0
namespace Go.Proofs.YtfealopjdkilfaaDoor.Jdg
open Go
open Reg (Val Res applyR zeroV In64)
/-! the program's check of an order -/
def Apart (n : Nat) : List Int → List Int → Prop
  | _, [] => True
  | pre, k :: r => (∃ i : Nat, k = i ∧ i < n) ∧ k ∉ pre ∧ Apart n (pre ++ [k]) r
def Whole (l : List En) (pre q : List Int) : Prop := ∀ (i : Nat) x, l[i]? = some x → (sure x = true → (i : Int) ∈ pre ++ q) ∧ (never x = true → (i : Int) ∉ q)
def Walk (l : List En) : Val → List Int → List Int → Prop
  | _, _, [] => True
  | v, pre, k :: r => ∃ (i : Nat) (x : En) (v' : Val), k = i ∧ l[i]? = some x ∧ (∀ (j : Nat) y, (j : Int) ∈ pre → l[j]? = some y → ahead x y = false) ∧ next v x = some v' ∧ Walk l v' (pre ++ [k]) r
theorem right_iff (l : List En) : ∀ (q : List Int) (v : Val) (pre : List Int), Right l v pre q ↔ Apart l.length pre q ∧ Whole l pre q ∧ Walk l v pre q
  | [], v, pre => by
    constructor
    · intro h
      exact ⟨trivial, fun i x hx => ⟨fun hs => by rw [List.append_nil]; exact h i x hx hs, fun _ hc => by cases hc⟩, trivial⟩
    · rintro ⟨_, h, _⟩ i x hx hs
      have := (h i x hx).1 hs
      rwa [List.append_nil] at this
  | k :: r, v, pre => by
    constructor
    · rintro ⟨i, x, v', hk, hx, hn, hv, ha, hx2, h⟩
      obtain ⟨h1, h2, h3⟩ := (right_iff l r v' (pre ++ [k])).1 h
      refine ⟨⟨⟨i, hk, (List.getElem?_eq_some_iff.1 hx).1⟩, hn, h1⟩, fun j y hy => ?_, ⟨i, x, v', hk, hx, ha, hx2, h3⟩⟩
      obtain ⟨h4, h5⟩ := h2 j y hy
      refine ⟨fun hs => by rw [show pre ++ k :: r = (pre ++ [k]) ++ r by simp]; exact h4 hs, fun hs hc => ?_⟩
      rcases List.mem_cons.1 hc with hc | hc
      · rw [hk] at hc
        have e : j = i := Int.ofNat_inj.1 hc
        subst e
        have : y = x := Option.some.inj (hy.symm.trans hx)
        subst this
        rw [hv] at hs; cases hs
      · exact h5 hs hc
    · rintro ⟨⟨_, hn, h1⟩, h2, ⟨i, x, v', hk, hx, ha, hx2, h3⟩⟩
      refine ⟨i, x, v', hk, hx, hn, ?_, ha, hx2, (right_iff l r v' (pre ++ [k])).2 ⟨h1, fun j y hy => ?_, h3⟩⟩
      · cases e : never x with
        | false => rfl
        | true => exact absurd (by rw [hk]; exact List.mem_cons_self) ((h2 i x hx).2 e)
      · obtain ⟨h4, h5⟩ := h2 j y hy
        exact ⟨fun hs => by rw [show (pre ++ [k]) ++ r = pre ++ k :: r by simp]; exact h4 hs, fun hs hc => h5 hs (List.mem_cons_of_mem _ hc)⟩
theorem right_apart {l : List En} : ∀ {q : List Int} {v : Val} {pre : List Int}, pre.Nodup → Right l v pre q → (pre ++ q).Nodup ∧ ∀ k ∈ q, ∃ i : Nat, k = i ∧ i < l.length
  | [], v, pre, hp, h => ⟨by rwa [List.append_nil], fun k hk => by cases hk⟩
  | k :: r, v, pre, hp, ⟨i, x, v', hk, hx, hn, hv, ha, hx2, h⟩ => by
    obtain ⟨h1, h2⟩ := right_apart (by
      rw [List.nodup_append]
      exact ⟨hp, by simp, fun a ha b hb => by rw [List.mem_singleton] at hb; rintro rfl; exact hn (hb ▸ ha)⟩) h
    refine ⟨by rw [show pre ++ k :: r = (pre ++ [k]) ++ r by simp]; exact h1, fun j hj => ?_⟩
    rcases List.mem_cons.1 hj with rfl | hj
    · exact ⟨i, hk, (List.getElem?_eq_some_iff.1 hx).1⟩
    · exact h2 j hj
/-! a law's entries -/
structure Ar where
  k : Nat
  t : Nat
  o : Nat
  n : Nat
  s : Nat
  lg : Nat
  er : Nat
  v : Nat
  w : Bool
def txt (n : Nat) : Val := if n % 4 = 0 then ⟨false, []⟩ else if n % 4 = 1 then ⟨true, [97]⟩ else if n % 4 = 2 then ⟨true, [49]⟩ else ⟨true, [50]⟩
def err (n : Nat) : Int := if n % 8 < 3 then 0 else if n % 8 = 3 then 11 else if n % 8 = 4 then 12 else if n % 8 = 5 then 13 else if n % 8 = 6 then 4 else 9
def opE (x : Ar) : Reg.Op := ⟨1 + (x.k % 5 : Nat), 0, (txt x.t).t, txt x.o, (x.n % 3 : Nat)⟩
def toldE (x : Ar) : En := ⟨opE x, 1 + (x.s % 16 : Nat), if x.lg % 8 = 0 then 0 else (x.s % 16 : Nat) + (x.lg % 8 : Nat), if x.lg % 8 = 0 then 0 else err x.er, if x.lg % 8 = 0 then zeroV else txt x.v, x.w⟩
theorem txt_cases (n : Nat) (C : Val → Prop) (h0 : C ⟨false, []⟩) (h1 : C ⟨true, [97]⟩) (h2 : C ⟨true, [49]⟩) (h3 : C ⟨true, [50]⟩) : C (txt n) := by
  unfold txt
  split
  · exact h0
  split
  · exact h1
  split
  · exact h2
  exact h3
theorem good_op (x : Ar) : Reg.good (opE x) = true := by
  unfold Reg.good opE
  have h1 : (txt x.t).t.length ≤ 32 := txt_cases x.t (fun v => v.t.length ≤ 32) (by decide) (by decide) (by decide) (by decide)
  have h2 : Reg.goodV (txt x.o) = true := txt_cases x.o (fun v => Reg.goodV v = true) (by decide) (by decide) (by decide) (by decide)
  simp only [Bool.and_eq_true, decide_eq_true_eq]
  refine ⟨by omega, by omega, by decide, by decide, h1, h2⟩
/-! what was done one by one -/
def stW (W : List Nat) (i : Nat) : Int := match W[i]? with
  | some w => max (10 * (i : Int) + 10 - (w % 40 : Nat)) 1
  | none => 10 * (i : Int) + 10
def enW (W : List Nat) (i : Nat) : Int := match W[i]? with
  | some w => 10 * (i : Int) + 11 + (w / 8 : Nat)
  | none => 10 * (i : Int) + 11
theorem stW_le (W : List Nat) (i : Nat) : stW W i ≤ 10 * (i : Int) + 10 ∧ 1 ≤ stW W i := by
  unfold stW
  split <;> omega
theorem enW_le (W : List Nat) (i : Nat) : 10 * (i : Int) + 11 ≤ enW W i := by
  unfold enW
  split <;> omega
def run1 (W : List Nat) (i : Nat) (v : Val) (x : Ar) : En := ⟨opE x, stW W i, enW W i, (applyR v (opE x)).e, (applyR v (opE x)).a, (applyR v (opE x)).w⟩
def runs (W : List Nat) : Nat → Val → List Ar → List En
  | _, _, [] => []
  | i, v, x :: r => run1 W i v x :: runs W (i + 1) (applyR v (opE x)).v r
theorem applyR_err (v : Val) (x : Ar) : (applyR v (opE x)).e ≠ 12 ∧ (applyR v (opE x)).e ≠ 13 := by
  unfold applyR
  rw [if_neg (by rw [good_op]; decide)]
  split
  · simp
  split
  · simp
  split
  · split <;> simp [Reg.stay]
  split
  · unfold Reg.addR
    split
    · simp [Reg.stay]
    · split <;> simp [Reg.stay]
  · simp [Reg.stay]
theorem run1_sure (W : List Nat) (i : Nat) (v : Val) (x : Ar) : sure (run1 W i v x) = true ∧ never (run1 W i v x) = false := by
  have h1 := enW_le W i
  obtain ⟨h2, h3⟩ := applyR_err v x
  have hn : never (run1 W i v x) = false := by
    unfold never run1
    simp only
    rw [decide_eq_false h2, Bool.and_false]
  refine ⟨?_, hn⟩
  unfold sure
  rw [hn]
  show (decide (0 < enW W i) && (!decide ((applyR v (opE x)).e = 13) && !false)) = true
  rw [decide_eq_false h3, decide_eq_true (by omega)]; rfl
theorem run1_next (W : List Nat) (i : Nat) (v : Val) (x : Ar) : next v (run1 W i v x) = some (applyR v (opE x)).v := by
  unfold next
  rw [if_pos]
  · rfl
  · unfold fits run1
    simp
def upto (n : Nat) : List Int := (List.range n).map fun i : Nat => (i : Int)
theorem upto_succ (n : Nat) : upto (n + 1) = upto n ++ [(n : Int)] := by
  unfold upto
  rw [List.range_succ, List.map_append]; rfl
theorem mem_upto {n : Nat} {j : Nat} : (j : Int) ∈ upto n ↔ j < n := by
  unfold upto
  rw [List.mem_map]
  constructor
  · rintro ⟨i, hi, e⟩
    have := List.mem_range.1 hi
    omega
  · intro h
    exact ⟨j, List.mem_range.2 h, rfl⟩
theorem runs_right (W : List Nat) : ∀ (r : List Ar) (d : List En) (v : Val), (∀ (j : Nat) y, d[j]? = some y → y.s ≤ 10 * (j : Int) + 10) →
    ∃ q, Right (d ++ runs W d.length v r) v (upto d.length) q
  | [], d, v, hd => ⟨[], fun i x hx _ => by
    unfold runs at hx
    rw [List.append_nil] at hx
    exact mem_upto.2 (List.getElem?_eq_some_iff.1 hx).1⟩
  | x :: r, d, v, hd => by
    obtain ⟨q, h⟩ := runs_right W r (d ++ [run1 W d.length v x]) (applyR v (opE x)).v (fun j y hy => by
      rw [List.getElem?_append] at hy
      split at hy
      · exact hd j y hy
      · have := List.getElem?_eq_some_iff.1 hy
        obtain ⟨h1, h2⟩ := this
        simp only [List.length_singleton] at h1
        have e : j = d.length := by omega
        subst e
        simp only [Nat.sub_self, List.getElem_cons_zero] at h2
        subst h2
        exact (stW_le W d.length).1)
    rw [List.length_append, List.length_singleton, List.append_assoc] at h
    have e : d ++ ([run1 W d.length v x] ++ runs W (d.length + 1) (applyR v (opE x)).v r) = d ++ runs W d.length v (x :: r) := rfl
    rw [e] at h
    refine ⟨(d.length : Int) :: q, d.length, run1 W d.length v x, (applyR v (opE x)).v, rfl, ?_, ?_, (run1_sure W _ v x).2, fun j y hj hy => ?_, run1_next W _ v x, ?_⟩
    · rw [List.getElem?_append_right (Nat.le_refl _), Nat.sub_self]; rfl
    · intro hc
      have := mem_upto.1 hc
      omega
    · have hj := mem_upto.1 hj
      rw [List.getElem?_append_left hj] at hy
      have h1 := hd j y hy
      have h2 := enW_le W d.length
      unfold ahead
      rw [show decide ((run1 W d.length v x).e < y.s) = false from decide_eq_false (by show ¬ enW W d.length < y.s; omega), Bool.and_false]
    · rw [← upto_succ]; exact h
/-- the value that never was -/
def neverT : List UInt8 := [110, 101, 118, 101, 114]
def lastE : En := ⟨⟨1, 0, [], zeroV, 0⟩, 1000, 1000, 0, ⟨true, neverT⟩, false⟩
theorem itoa_never (n : Int) : Lib.itoa n ≠ neverT := by
  unfold Lib.itoa neverT
  split
  · intro h; injection h with h; revert h; decide
  · obtain ⟨d, r, hd, he⟩ := Reg.dec_head n.toNat
    rw [he]
    intro h
    injection h with h
    have := congrArg UInt8.toNat h
    rw [Reg.ofNat_dig hd] at this
    have e : (110 : UInt8).toNat = 110 := rfl
    omega
theorem apply_never {v : Val} {x : Reg.Op} (hv : v.t ≠ neverT) (hx : x.t ≠ neverT) : (applyR v x).v.t ≠ neverT := by
  unfold applyR
  split
  · exact hv
  split
  · exact hx
  split
  · decide
  split
  · split
    · exact hx
    · exact hv
  split
  · unfold Reg.addR
    split
    · exact hv
    · split
      · exact hv
      · exact itoa_never _
  · exact hv
theorem last_sure : sure lastE = true := by decide
theorem next_last {v v' : Val} (h : next v lastE = some v') : v = ⟨true, neverT⟩ := by
  unfold next at h
  split at h
  · rename_i hf
    unfold fits at hf
    rw [last_sure] at hf
    simp only [Bool.not_true, Bool.false_or, Bool.and_eq_true, decide_eq_true_eq] at hf
    have e : (applyR v lastE.op).a = v := rfl
    rw [e] at hf
    exact hf.1.2
  · cases h
theorem no_last (l : List En) (hl : ∀ x ∈ l, x.op.t ≠ neverT) : ∀ (q : List Int) (v : Val) (pre : List Int), v.t ≠ neverT → (l.length : Int) ∉ pre → ¬ Right (l ++ [lastE]) v pre q
  | [], v, pre, hv, hp, h => hp (h l.length lastE (by simp) last_sure)
  | k :: r, v, pre, hv, hp, ⟨i, x, v', hk, hx, hn, hnv, ha, hx2, h⟩ => by
    by_cases e : i = l.length
    · subst e
      rw [List.getElem?_append_right (Nat.le_refl _), Nat.sub_self] at hx
      obtain rfl := Option.some.inj hx
      have := next_last hx2
      subst this
      exact hv rfl
    · have hlt : i < l.length := by
        have := (List.getElem?_eq_some_iff.1 hx).1
        rw [List.length_append, List.length_singleton] at this
        omega
      rw [List.getElem?_append_left hlt] at hx
      have hm := List.mem_of_getElem? hx
      have hv' : v'.t ≠ neverT := by
        unfold next at hx2
        split at hx2
        · obtain rfl := Option.some.inj hx2
          exact apply_never hv (hl x hm)
        · cases hx2
      refine no_last l hl r v' (pre ++ [k]) hv' (fun hc => ?_) h
      rcases List.mem_append.1 hc with hc | hc
      · exact hp hc
      · rw [List.mem_singleton, hk] at hc
        exact e (Int.ofNat_inj.1 hc).symm
theorem runs_ops (W : List Nat) : ∀ (r : List Ar) (i : Nat) (v : Val), ∀ x ∈ runs W i v r, x.op.t ≠ neverT
  | [], i, v, x, hx => by cases hx
  | y :: r, i, v, x, hx => by
    rcases List.mem_cons.1 hx with rfl | hx
    · show (txt y.t).t ≠ neverT
      exact txt_cases y.t (fun v => v.t ≠ neverT) (by decide) (by decide) (by decide) (by decide)
    · exact runs_ops W r (i + 1) _ x hx
theorem runs_len (W : List Nat) : ∀ (r : List Ar) (i : Nat) (v : Val), (runs W i v r).length = r.length
  | [], _, _ => rfl
  | _ :: r, i, v => by unfold runs; rw [List.length_cons, List.length_cons, runs_len W r]
/-! entries that never took effect -/
def Mix (a b : List En) : Prop := ∃ f : Nat → Nat, (∀ i j, i < a.length → j < a.length → f i = f j → i = j) ∧ (∀ (i : Nat) x, a[i]? = some x → b[f i]? = some x) ∧ ∀ (j : Nat) y, b[j]? = some y → (∃ i, i < a.length ∧ f i = j) ∨ never y = true
theorem Mix.nil : Mix [] [] := ⟨fun i => i, fun i j (h : i < 0) => absurd h (Nat.not_lt_zero i), fun i x (h : none = some x) => (by cases h), fun j y (h : none = some y) => (by cases h)⟩
theorem at_snoc {α : Type} {l : List α} {x y : α} {i : Nat} (h : (l ++ [x])[i]? = some y) : (i < l.length ∧ l[i]? = some y) ∨ (i = l.length ∧ y = x) := by
  rcases Nat.lt_trichotomy i l.length with hi | hi | hi
  · rw [List.getElem?_append_left hi] at h
    exact .inl ⟨hi, h⟩
  · subst hi
    rw [List.getElem?_append_right (Nat.le_refl _), Nat.sub_self] at h
    exact .inr ⟨rfl, (Option.some.inj h).symm⟩
  · rw [List.getElem?_eq_none (by rw [List.length_append, List.length_singleton]; omega)] at h; cases h
theorem Mix.both {a b : List En} (h : Mix a b) (x : En) : Mix (a ++ [x]) (b ++ [x]) := by
  obtain ⟨f, h1, h2, h3⟩ := h
  have hlt : ∀ i, i < a.length → f i < b.length := fun i hi => by
    have := h2 i a[i] (List.getElem?_eq_getElem hi)
    exact (List.getElem?_eq_some_iff.1 this).1
  refine ⟨fun i => if i = a.length then b.length else f i, fun i j hi hj e => ?_, fun i y hy => ?_, fun j y hy => ?_⟩
  · rw [List.length_append, List.length_singleton] at hi hj
    simp only at e
    by_cases hia : i = a.length
    · by_cases hja : j = a.length
      · omega
      · rw [if_pos hia, if_neg hja] at e
        have := hlt j (by omega)
        omega
    · by_cases hja : j = a.length
      · rw [if_neg hia, if_pos hja] at e
        have := hlt i (by omega)
        omega
      · rw [if_neg hia, if_neg hja] at e
        exact h1 i j (by omega) (by omega) e
  · rcases at_snoc hy with ⟨hi, hy⟩ | ⟨hi, hy⟩
    · simp only
      rw [if_neg (by omega), List.getElem?_append_left (hlt i hi)]
      exact h2 i y hy
    · simp only
      rw [if_pos hi, List.getElem?_append_right (Nat.le_refl _), Nat.sub_self, hy]; rfl
  · rcases at_snoc hy with ⟨hi, hy⟩ | ⟨hi, hy⟩
    · rcases h3 j y hy with ⟨i, h4, h5⟩ | h4
      · exact .inl ⟨i, by rw [List.length_append]; omega, by simp only; rw [if_neg (by omega)]; exact h5⟩
      · exact .inr h4
    · exact .inl ⟨a.length, by rw [List.length_append, List.length_singleton]; omega, by simp only; rw [if_pos trivial]; exact hi.symm⟩
theorem Mix.skip {a b : List En} (h : Mix a b) {x : En} (hx : never x = true) : Mix a (b ++ [x]) := by
  obtain ⟨f, h1, h2, h3⟩ := h
  refine ⟨f, h1, fun i y hy => ?_, fun j y hy => ?_⟩
  · have := h2 i y hy
    rw [List.getElem?_append_left (List.getElem?_eq_some_iff.1 this).1]
    exact this
  · rcases at_snoc hy with ⟨hi, hy⟩ | ⟨hi, hy⟩
    · exact h3 j y hy
    · subst hy; exact .inr hx
section
variable {a b : List En} {f : Nat → Nat}
theorem never_sure {x : En} (h : never x = true) : sure x = false := by unfold sure; rw [h]; simp
theorem mix_mem (h1 : ∀ i j, i < a.length → j < a.length → f i = f j → i = j) {pre : List Nat} (hp : ∀ i ∈ pre, i < a.length) {i : Nat} (hi : i < a.length) : (f i : Int) ∈ pre.map (fun j => (f j : Int)) ↔ i ∈ pre := by
  rw [List.mem_map]
  constructor
  · rintro ⟨j, hj, e⟩
    have := h1 j i (hp j hj) hi (Int.ofNat_inj.1 e)
    rwa [← this]
  · intro h; exact ⟨i, h, rfl⟩
theorem cast_mem {pre : List Nat} {i : Nat} : (i : Int) ∈ pre.map (fun j : Nat => (j : Int)) ↔ i ∈ pre := by
  rw [List.mem_map]
  constructor
  · rintro ⟨j, hj, e⟩
    rwa [← Int.ofNat_inj.1 e]
  · intro h; exact ⟨i, h, rfl⟩
theorem mix_right (h1 : ∀ i j, i < a.length → j < a.length → f i = f j → i = j) (h2 : ∀ (i : Nat) x, a[i]? = some x → b[f i]? = some x) (h3 : ∀ (j : Nat) y, b[j]? = some y → (∃ i, i < a.length ∧ f i = j) ∨ never y = true) :
    ∀ (q : List Int) (v : Val) (pre : List Nat), (∀ i ∈ pre, i < a.length) → Right a v (pre.map fun j : Nat => (j : Int)) q → ∃ p, Right b v (pre.map fun j => (f j : Int)) p
  | [], v, pre, hp, h => ⟨[], fun j y hy hs => by
    rcases h3 j y hy with ⟨i, hi, rfl⟩ | hn
    · have hx := h2 i a[i] (List.getElem?_eq_getElem hi)
      have e : y = a[i] := Option.some.inj (hy.symm.trans hx)
      have := h i a[i] (List.getElem?_eq_getElem hi) (e ▸ hs)
      exact (mix_mem h1 hp hi).2 (cast_mem.1 this)
    · rw [never_sure hn] at hs; cases hs⟩
  | k :: r, v, pre, hp, ⟨i, x, v', hk, hx, hn, hv, ha, hx2, h⟩ => by
    subst hk
    have hi := (List.getElem?_eq_some_iff.1 hx).1
    obtain ⟨p, h⟩ := mix_right h1 h2 h3 r v' (pre ++ [i]) (fun j hj => by
      rcases List.mem_append.1 hj with hj | hj
      · exact hp j hj
      · rw [List.mem_singleton] at hj; omega) (by rw [List.map_append]; exact h)
    rw [List.map_append] at h
    refine ⟨(f i : Int) :: p, f i, x, v', rfl, h2 i x hx, fun hc => hn (cast_mem.2 ((mix_mem h1 hp hi).1 hc)), hv, fun j y hj hy => ?_, hx2, h⟩
    obtain ⟨c, hc, e⟩ := List.mem_map.1 hj
    have e := Int.ofNat_inj.1 e
    subst e
    have hca := hp c hc
    have hz := h2 c a[c] (List.getElem?_eq_getElem hca)
    have e : y = a[c] := Option.some.inj (hy.symm.trans hz)
    rw [e]
    exact ha c a[c] (cast_mem.2 hc) (List.getElem?_eq_getElem hca)
theorem mix_left (h1 : ∀ i j, i < a.length → j < a.length → f i = f j → i = j) (h2 : ∀ (i : Nat) x, a[i]? = some x → b[f i]? = some x) (h3 : ∀ (j : Nat) y, b[j]? = some y → (∃ i, i < a.length ∧ f i = j) ∨ never y = true) :
    ∀ (q : List Int) (v : Val) (pre : List Nat), (∀ i ∈ pre, i < a.length) → Right b v (pre.map fun j => (f j : Int)) q → ∃ p, Right a v (pre.map fun j : Nat => (j : Int)) p
  | [], v, pre, hp, h => ⟨[], fun i x hx hs => cast_mem.2 ((mix_mem h1 hp (List.getElem?_eq_some_iff.1 hx).1).1 (h (f i) x (h2 i x hx) hs))⟩
  | k :: r, v, pre, hp, ⟨j, x, v', hk, hx, hn, hv, ha, hx2, h⟩ => by
    subst hk
    rcases h3 j x hx with ⟨i, hi, rfl⟩ | hn2
    · obtain ⟨p, h⟩ := mix_left h1 h2 h3 r v' (pre ++ [i]) (fun j hj => by
        rcases List.mem_append.1 hj with hj | hj
        · exact hp j hj
        · rw [List.mem_singleton] at hj; omega) (by rw [List.map_append]; exact h)
      rw [List.map_append] at h
      have hz := h2 i a[i] (List.getElem?_eq_getElem hi)
      have e : x = a[i] := Option.some.inj (hx.symm.trans hz)
      refine ⟨(i : Int) :: p, i, x, v', rfl, by rw [e]; exact List.getElem?_eq_getElem hi, fun hc => hn ((mix_mem h1 hp hi).2 (cast_mem.1 hc)), hv, fun c y hc hy => ?_, hx2, h⟩
      exact ha (f c) y (List.mem_map.2 ⟨c, cast_mem.1 hc, rfl⟩) (h2 c y hy)
    · rw [hn2] at hv; cases hv
end
theorem Mix.right {a b : List En} (h : Mix a b) (v : Val) : (∃ q, Right a v [] q) ↔ ∃ q, Right b v [] q := by
  obtain ⟨f, h1, h2, h3⟩ := h
  exact ⟨fun ⟨q, h⟩ => mix_right h1 h2 h3 q v [] (fun i hi => by cases hi) h, fun ⟨q, h⟩ => mix_left h1 h2 h3 q v [] (fun i hi => by cases hi) h⟩
def offE (x : Ar) : En := ⟨opE x, 1 + (x.s % 16 : Nat), max (toldE x).e (1 + (x.s % 16 : Nat)), 12, (toldE x).av, x.w⟩
theorem off_never (x : Ar) : never (offE x) = true := by
  have h : (0 : Int) < max (toldE x).e (1 + (x.s % 16 : Nat)) := by omega
  show (decide ((0 : Int) < max (toldE x).e (1 + (x.s % 16 : Nat))) && decide ((12 : Int) = 12)) = true
  rw [decide_eq_true h]; rfl
end Go.Proofs.YtfealopjdkilfaaDoor.Jdg
