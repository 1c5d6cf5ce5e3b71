/- Rows of an array that may be written. No program is named here. -/
import Derived.Test.YtafcbipmmjegcaaVm10
namespace Go.Proofs.Ytafcbipmmjegcaa.Vm
open Go Go.RowKit
namespace Row
section
variable {α : Type} {C : α → List T} {k : Nat}
def aggs (C : α → List T) (l : List α) : List T := l.map fun x => .agg (C x)
def flat (C : α → List T) (l : List α) : List T := l.flatMap C
theorem aggs_len (l : List α) : (aggs C l).length = l.length := by simp [aggs]
theorem aggs_at {l : List α} {i : Nat} {x : α} (h : l[i]? = some x) : (aggs C l)[i]? = some (.agg (C x)) := by rw [aggs, List.getElem?_map, h]; rfl
theorem aggs_snoc (l : List α) (x : α) : aggs C (l ++ [x]) = aggs C l ++ [.agg (C x)] := by simp [aggs]
theorem aggs_flat (l : List α) : (aggs C l).flatMap elCells = flat C l := by simp [aggs, flat, List.flatMap_map, elCells]
theorem flat_app (l m : List α) : flat C (l ++ m) = flat C l ++ flat C m := by simp [flat]
theorem flat_cons (x : α) (l : List α) : flat C (x :: l) = C x ++ flat C l := by simp [flat]
theorem flat_len (hk : ∀ x, (C x).length = k) : ∀ l : List α, (flat C l).length = l.length * k
  | [] => by simp [flat]
  | x :: l => by rw [flat_cons, List.length_append, hk, flat_len hk l, List.length_cons, Nat.add_mul]; omega
theorem takes (hk : ∀ x, (C x).length = k) (l : List α) (R : List T) : ((flat C l ++ R).drop 0).take (l.length * k) = flat C l := by
  rw [List.drop_zero, List.take_left' (flat_len hk l)]
theorem one (h : ∀ x, (C x).all T.one = true) : ∀ l : List α, (flat C l).all T.one = true
  | [] => rfl
  | x :: l => by rw [flat_cons, List.all_append, h x, one h l]; rfl
theorem chunk_flat (hk : ∀ x, (C x).length = k) : ∀ l : List α, chunk true k l.length (flat C l) = aggs C l
  | [] => rfl
  | x :: l => by
    rw [flat_cons]
    show (if true then T.agg ((C x ++ flat C l).take k) else _) :: chunk true k l.length ((C x ++ flat C l).drop k) = _
    rw [if_pos rfl, List.take_left' (hk x), List.drop_left' (hk x), chunk_flat hk l]; rfl
theorem split_at {l : List α} {i : Nat} (hi : i < l.length) : l = l.take i ++ l[i] :: l.drop (i + 1) := by
  rw [← List.drop_eq_getElem_cons hi, List.take_append_drop]
/-- a row that is set -/
theorem set_row (hk : ∀ x, (C x).length = k) (l : List α) (i : Nat) (hi : i < l.length) (x : α) (R : List T) : (flat C l ++ R).take (i * k) ++ C x ++ (flat C l ++ R).drop (i * k + k) = flat C (l.set i x) ++ R := by
  have e := split_at hi
  have h1 : flat C l = flat C (l.take i) ++ (C l[i] ++ flat C (l.drop (i + 1))) := by
    conv => lhs; rw [e]
    rw [flat_app, flat_cons]
  have h2 : l.set i x = l.take i ++ x :: l.drop (i + 1) := List.set_eq_take_append_cons_drop.trans (if_pos hi)
  have hl : (flat C (l.take i)).length = i * k := by rw [flat_len hk, List.length_take, Nat.min_eq_left (by omega)]
  have hl2 : (flat C (l.take i) ++ C l[i]).length = i * k + k := by rw [List.length_append, hl, hk]
  have h3 : flat C l ++ R = (flat C (l.take i) ++ C l[i]) ++ (flat C (l.drop (i + 1)) ++ R) := by rw [h1]; simp [List.append_assoc]
  have h4 : flat C l ++ R = flat C (l.take i) ++ (C l[i] ++ (flat C (l.drop (i + 1)) ++ R)) := by rw [h1]; simp [List.append_assoc]
  have h5 : (flat C l ++ R).take (i * k) = flat C (l.take i) := by rw [h4, List.take_left' hl]
  have h6 : (flat C l ++ R).drop (i * k + k) = flat C (l.drop (i + 1)) ++ R := by rw [h3, List.drop_left' hl2]
  rw [h5, h6, h2, flat_app, flat_cons]
  simp [List.append_assoc]
/-- the cells from a row on -/
theorem drop_row (hk : ∀ x, (C x).length = k) (l : List α) (i : Nat) (hi : i < l.length) (R : List T) : (flat C l ++ R).drop (i * k) = C l[i] ++ (flat C (l.drop (i + 1)) ++ R) := by
  have e := split_at hi
  have h1 : flat C l = flat C (l.take i) ++ (C l[i] ++ flat C (l.drop (i + 1))) := by
    conv => lhs; rw [e]
    rw [flat_app, flat_cons]
  have hl : (flat C (l.take i)).length = i * k := by rw [flat_len hk, List.length_take, Nat.min_eq_left (by omega)]
  rw [h1, List.append_assoc, List.drop_left' hl, List.append_assoc]
theorem fit (hk : ∀ x, (C x).length = k) (l : List α) (i : Nat) (hi : i < l.length) (R : List T) : i * k + k ≤ (flat C l ++ R).length := by
  rw [List.length_append, flat_len hk]
  have : (i + 1) * k ≤ l.length * k := Nat.mul_le_mul_right k hi
  rw [Nat.add_mul] at this
  omega
/-- an array becomes a slice: what `ImpM.slot` asks -/
theorem fz_len (hk : ∀ x, (C x).length = k) {cs R : List T} {l : List α} {n : Nat} (h : cs = flat C l ++ R) (hn : n = l.length) : 0 + n * k ≤ cs.length := by rw [h, hn, List.length_append, flat_len hk]; omega
theorem fz_one (hk : ∀ x, (C x).length = k) (h1 : ∀ x, (C x).all T.one = true) {cs R : List T} {l : List α} {n : Nat} (h : cs = flat C l ++ R) (hn : n = l.length) : ((cs.drop 0).take (n * k)).all T.one = true := by rw [h, hn, takes hk]; exact one h1 l
theorem fz_es (hk : ∀ x, (C x).length = k) {cs R : List T} {l : List α} {n : Nat} (h : cs = flat C l ++ R) (hn : n = l.length) : chunk true k n ((cs.drop 0).take (n * k)) = aggs C l := by rw [h, hn, takes hk]; exact chunk_flat hk l
end
end Row
end Go.Proofs.Ytafcbipmmjegcaa.Vm
