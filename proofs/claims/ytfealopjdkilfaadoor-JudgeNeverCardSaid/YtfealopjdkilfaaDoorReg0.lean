/- Registers: plain. Numbers as texts. No program is named here. -/
import Derived.Lib.ItoaNum
import Derived.Lib.AtoiAllCases
import Derived.Lib.ParseIntBTie
namespace Go.Proofs.YtfealopjdkilfaaDoor.Reg
open Go Go.Lib
/-! digits -/
theorem ofNat_dig {d : Nat} (h : d < 10) : (UInt8.ofNat (48 + d)).toNat = 48 + d := by rw [UInt8.toNat_ofNat']; omega
theorem parse_app : ∀ (l : List UInt8) (acc : Nat) (c : UInt8) (a : Nat), parseUint10 acc l = .ok a → parseUint10 acc (l ++ [c]) = parseUint10 a [c]
  | [], acc, c, a, h => by
    simp only [parseUint10] at h
    injection h with h
    rw [h]; rfl
  | x :: l, acc, c, a, h => by
    rw [List.cons_append]
    unfold parseUint10 at h ⊢
    by_cases h1 : 48 ≤ x.toNat ∧ x.toNat ≤ 57
    · rw [if_pos h1] at h ⊢
      by_cases h2 : 1844674407370955162 ≤ acc
      · rw [if_pos h2] at h; cases h
      · rw [if_neg h2] at h ⊢
        by_cases h3 : 18446744073709551616 ≤ acc * 10 + (x.toNat - 48)
        · rw [if_pos h3] at h; cases h
        · rw [if_neg h3] at h ⊢
          exact parse_app l _ c a h
    · rw [if_neg h1] at h; cases h
theorem parse_dec : ∀ (u : Nat), u < 18446744073709551616 → parseUint10 0 (decDigits u) = .ok u := by
  intro u
  induction u using Nat.strongRecOn with
  | _ u ih =>
    intro hu
    have step : ∀ a d, d < 10 → a * 10 + d < 18446744073709551616 → parseUint10 a [UInt8.ofNat (48 + d)] = .ok (a * 10 + d) := fun a d hd ha => by
      unfold parseUint10
      rw [ofNat_dig hd, if_pos (by omega), if_neg (by omega), if_neg (by omega)]
      unfold parseUint10
      rw [Nat.add_sub_cancel_left]
    by_cases h : u < 10
    · rw [decDigits_one h, step 0 u h (by omega)]
      congr 1; omega
    · have e : decDigits u = decDigits (u / 10) ++ [UInt8.ofNat (48 + u % 10)] := by
        rw [decDigits, dif_neg h]
      rw [e, parse_app _ _ _ _ (ih (u / 10) (by omega) (by omega)), step (u / 10) (u % 10) (by omega) (by omega)]
      congr 1; omega
theorem dec_head : ∀ (u : Nat), ∃ (d : Nat) (r : List UInt8), d < 10 ∧ decDigits u = UInt8.ofNat (48 + d) :: r := by
  intro u
  induction u using Nat.strongRecOn with
  | _ u ih =>
    by_cases h : u < 10
    · exact ⟨u, [], h, decDigits_one h⟩
    · obtain ⟨d, r, h1, h2⟩ := ih (u / 10) (by omega)
      exact ⟨d, r ++ [UInt8.ofNat (48 + u % 10)], h1, by rw [decDigits, dif_neg h, h2]; rfl⟩
theorem dec_ne (u : Nat) : decDigits u ≠ [] := by
  obtain ⟨d, r, _, h⟩ := dec_head u
  rw [h]; exact List.cons_ne_nil _ _
theorem mag_dec {u : Nat} (h : u < 18446744073709551616) : parseMag (decDigits u) = .ok u := by
  unfold parseMag
  rw [if_neg (dec_ne u), parse_dec u h]
/-- a number within 64 bits -/
def In64 (v : Int) : Prop := -9223372036854775808 ≤ v ∧ v ≤ 9223372036854775807
theorem atoi_itoa {v : Int} (h : In64 v) : atoiAll (itoa v) = .ok v := by
  have h1 := h.1
  have h2 := h.2
  unfold itoa
  by_cases hn : v < 0
  · rw [if_pos hn, atoiAll_minus, mag_dec (by omega)]
    unfold signed
    simp only
    rw [if_neg (by omega)]
    congr 1; omega
  · rw [if_neg hn]
    obtain ⟨d, r, hd, he⟩ := dec_head v.toNat
    have hm := mag_dec (u := v.toNat) (by omega)
    rw [he] at hm ⊢
    rw [atoiAll_plain _ _ (by rw [ofNat_dig hd]; omega) (by rw [ofNat_dig hd]; omega), hm]
    unfold signless
    simp only
    rw [if_neg (by omega)]
    congr 1; omega
/-! the document's number -/
def refStep (n : Int) (c : UInt8) : Option Int :=
  if c.toNat < 48 ∨ 57 < c.toNat then none
  else if n < -922337203685477580 ∨ (n = -922337203685477580 ∧ 8 < c.toNat - 48) then none
  else some (10 * n - (c.toNat - 48 : Nat))
def refAcc (n : Int) : List UInt8 → Option Int
  | [] => some n
  | c :: r => match refStep n c with
    | none => none
    | some m => refAcc m r
theorem ref_app : ∀ (l : List UInt8) (n : Int) (c : UInt8) (a : Int), refAcc n l = some a → refAcc n (l ++ [c]) = refStep a c
  | [], n, c, a, h => by
    cases h
    show (match refStep n c with | none => none | some m => refAcc m []) = _
    cases refStep n c <;> rfl
  | x :: l, n, c, a, h => by
    rw [List.cons_append]
    unfold refAcc at h ⊢
    cases e : refStep n x with
    | none => rw [e] at h; cases h
    | some m =>
      rw [e] at h
      exact ref_app l m c a h
theorem ref_dec : ∀ (u : Nat), u ≤ 9223372036854775808 → refAcc 0 (decDigits u) = some (-(u : Int)) := by
  intro u
  induction u using Nat.strongRecOn with
  | _ u ih =>
    intro hu
    have step : ∀ (a d : Nat), d < 10 → a * 10 + d ≤ 9223372036854775808 → refStep (-(a : Int)) (UInt8.ofNat (48 + d)) = some (-((a * 10 + d : Nat) : Int)) := fun a d hd ha => by
      unfold refStep
      rw [ofNat_dig hd, if_neg (by omega), if_neg (by omega), Nat.add_sub_cancel_left]
      congr 1; omega
    by_cases h : u < 10
    · rw [decDigits_one h]
      have := step 0 u h (by omega)
      show (match refStep 0 (UInt8.ofNat (48 + u)) with | none => none | some m => refAcc m []) = _
      rw [show (0 : Int) = -((0 : Nat) : Int) from rfl, this]
      show some _ = some _
      congr 2; omega
    · have e : decDigits u = decDigits (u / 10) ++ [UInt8.ofNat (48 + u % 10)] := by
        rw [decDigits, dif_neg h]
      rw [e, ref_app _ _ _ _ (ih (u / 10) (by omega) (by omega)), step (u / 10) (u % 10) (by omega) (by omega)]
      congr 2; omega
theorem refStep_in {n m : Int} {c : UInt8} (h : -9223372036854775808 ≤ n ∧ n ≤ 0) (e : refStep n c = some m) : -9223372036854775808 ≤ m ∧ m ≤ 0 := by
  unfold refStep at e
  split at e
  · cases e
  · split at e
    · cases e
    · cases e; omega
theorem refAcc_in : ∀ (l : List UInt8) {n m : Int}, -9223372036854775808 ≤ n ∧ n ≤ 0 → refAcc n l = some m → -9223372036854775808 ≤ m ∧ m ≤ 0
  | [], n, m, h, e => by cases e; exact h
  | c :: l, n, m, h, e => by
    unfold refAcc at e
    cases g : refStep n c with
    | none => rw [g] at e; cases e
    | some k => rw [g] at e; exact refAcc_in l (refStep_in h g) e
/-- behind the sign -/
def refMag (below : Bool) (s : List UInt8) : Option Int :=
  if s = [] ∨ 19 < s.length then none
  else match refAcc 0 s with
    | none => none
    | some n => if below = true then some n else if n = -9223372036854775808 then none else some (-n)
def refNum (l : List UInt8) : Option Int :=
  match l with
  | [] => none
  | c :: r => if c.toNat = 45 then refMag true r else refMag false (c :: r)
theorem refMag_in {b : Bool} {s : List UInt8} {v : Int} (h : refMag b s = some v) : In64 v := by
  unfold refMag at h
  split at h
  · cases h
  · cases e : refAcc 0 s with
    | none => rw [e] at h; cases h
    | some n =>
      rw [e] at h
      have := refAcc_in s (by omega) e
      simp only at h
      unfold In64
      split at h
      · cases h; omega
      · split at h
        · cases h
        · cases h; omega
theorem refNum_in {l : List UInt8} {v : Int} (h : refNum l = some v) : In64 v := by
  unfold refNum at h
  split at h
  · cases h
  · split at h
    · exact refMag_in h
    · exact refMag_in h
theorem dec_len {u : Nat} (h : u < 10000000000000000000) : (decDigits u).length ≤ 19 := by
  rw [decDigits_length]
  apply Classical.byContradiction
  intro g
  have h1 : ∀ (k u : Nat), k + 1 ≤ nDigits u → 10 ^ k ≤ u ∨ k = 0 := by
    intro k
    induction k with
    | zero => intro u _; exact .inr rfl
    | succ k ih =>
      intro u hk
      by_cases hu : u < 10
      · rw [nDigits_small hu] at hk; omega
      · rw [nDigits_big hu] at hk
        refine .inl ?_
        rcases ih (u / 10) (by omega) with h2 | h2
        · rw [Nat.pow_succ]; omega
        · subst h2; rw [Nat.pow_succ]; omega
  have := h1 19 u (by omega)
  have h10 : (10 : Nat) ^ 19 = 10000000000000000000 := by decide
  omega
theorem refNum_itoa {v : Int} (h : In64 v) : refNum (itoa v) = some v := by
  have h1 := h.1
  have h2 := h.2
  unfold itoa
  by_cases hn : v < 0
  · rw [if_pos hn]
    show (if (45 : UInt8).toNat = 45 then refMag true (decDigits v.natAbs) else refMag false (45 :: decDigits v.natAbs)) = _
    rw [if_pos (show (45 : UInt8).toNat = 45 from rfl)]
    unfold refMag
    have hl := dec_len (u := v.natAbs) (by omega)
    rw [if_neg (by intro k; rcases k with k | k; exact dec_ne _ k; omega), ref_dec _ (by omega)]
    simp only [if_true]
    congr 1; omega
  · rw [if_neg hn]
    obtain ⟨d, r, hd, he⟩ := dec_head v.toNat
    have hl := dec_len (u := v.toNat) (by omega)
    have hr := ref_dec v.toNat (by omega)
    have hne := dec_ne v.toNat
    rw [he] at hl hr hne ⊢
    unfold refNum
    simp only
    rw [if_neg (by rw [ofNat_dig hd]; omega)]
    unfold refMag
    rw [if_neg (by intro k; rcases k with k | k; exact hne k; omega), hr]
    simp only [Bool.false_eq_true, if_false]
    rw [if_neg (by omega)]
    congr 1; omega
/-- the number that a text is, if it is one -/
def num? (l : List UInt8) : Option Int := match atoiAll l with
  | .ok v => if itoa v = l then some v else none
  | _ => none
theorem num?_some {l : List UInt8} {v : Int} (h : num? l = some v) : In64 v ∧ itoa v = l := by
  unfold num? at h
  split at h
  · rename_i x e
    split at h
    · cases h; exact ⟨atoiAll_bounds e, ‹_›⟩
    · cases h
  · cases h
theorem num?_itoa {v : Int} (h : In64 v) : num? (itoa v) = some v := by
  unfold num?
  rw [atoi_itoa h]
  simp only [if_true]
theorem num?_none {l : List UInt8} (h : num? l = none) {v : Int} (hv : In64 v) : itoa v ≠ l := fun e => by
  rw [← e, num?_itoa hv] at h; cases h
/-- the document's way to the same number -/
def refNum? (l : List UInt8) : Option Int := match refNum l with
  | some v => if itoa v = l then some v else none
  | none => none
theorem refNum?_eq (l : List UInt8) : refNum? l = num? l := by
  cases h : num? l with
  | some v =>
    obtain ⟨h1, h2⟩ := num?_some h
    unfold refNum?
    have := refNum_itoa h1
    rw [h2] at this
    rw [this]
    simp only [h2, if_true]
  | none =>
    unfold refNum?
    cases e : refNum l with
    | none => rfl
    | some v =>
      simp only
      rw [if_neg (num?_none h (refNum_in e))]
end Go.Proofs.YtfealopjdkilfaaDoor.Reg
