/- Registers by the engine: what an operation does. -/
import Derived.Test.YtfealopjdkilfaaDoorRegN
namespace Go.Proofs.YtfealopjdkilfaaDoor.Vm
open Go Go.RowKit
set_option maxRecDepth 100000
namespace X4
open Go.Lib (itoa)
open Reg (In64 num? Val Res goodV good numV zeroV stay over sumV addR applyR)
def vC (v : Val) : List T := [bool v.h, str v.t]
def opC (x : Reg.Op) : List T := [int x.k, int x.key, str x.t, bool x.o.h, str x.o.t, int x.n]
def resT (r : Res) : T := .tup [.agg (vC r.v), .agg [int r.e, bool r.a.h, str r.a.t], bool r.w]
theorem strE (x : List UInt8) : decide ((⟨x.toArray⟩ : ByteArray) = ByteArray.mk #[]) = decide (x = []) := by
  rw [Bool.eq_iff_iff, decide_eq_true_eq, decide_eq_true_eq]
  constructor
  · intro e; injection e with e; simpa using e
  · rintro rfl; rfl
theorem sizeL (x : List UInt8) : (⟨x.toArray⟩ : ByteArray).size = x.length := by show x.toArray.size = _; simp
theorem vgood_post (v : Val) : TCalls Tryd.prog 28 [.agg (vC v)] [] none_ (callPost (told (bool (goodV v)) [] [])) := by
  have hQ : ∀ y, y = bool (goodV v) → callPost (told (bool (goodV v)) [] []) y [] none_ := fun y h => told_post h
  generalize callPost (told (bool (goodV v)) [] []) = Q at *
  obtain ⟨h, x⟩ := v
  have hs := sizeL x
  have he := strE x
  unfold Reg.goodV at hQ
  simp only at hQ
  unfold vC
  by_cases hl : x.length ≤ 32
  · rw [decide_eq_true hl] at hQ
    cases h with
    | true =>
      have hQ := hQ _ rfl
      refine TCalls.of Tryd.func28 rfl (CanCall.of Tryd.func28 rfl (by decide)) [] fun Γ => ?_
      refine run_sound (⟨fun _ _ => .no, [], fun _ => none⟩) 400 (B := ∀ (b : Nat), b = b ∧ bsplit (decide ((↑(ByteArray.size (ByteArray.mk (List.toArray (Val.t { h := true, t := x })))) : Int) ≤ (32 : Int))) (b = b ∧ Q (T.v (Value.bool true)) [] fun x => none) (Q (T.v (Value.bool false)) [] fun x => none)) (by kernel_rfl) ?_
      repeat' (first | exact rfl | exact Nat.le_of_ble_eq_true rfl | refine And.intro ?_ ?_ | intro _ | refine bsplit_mk (fun _ => ?_) (fun _ => ?_))
      all_goals first
        | exact hQ
        | (exfalso; rename_i h; rw [hs] at h; simp only [decide_eq_false_iff_not] at h; omega)
        | trace_state
    | false =>
      have hQ := hQ _ rfl
      rw [← he] at hQ
      refine TCalls.of Tryd.func28 rfl (CanCall.of Tryd.func28 rfl (by decide)) [] fun Γ => ?_
      refine run_sound (⟨fun _ _ => .no, [], fun _ => none⟩) 400 (B := ∀ (b : Nat), b = b ∧ bsplit (decide ((↑(ByteArray.size (ByteArray.mk (List.toArray (Val.t { h := false, t := x })))) : Int) ≤ (32 : Int))) (b = b ∧ b = b ∧ Q (T.v (Value.bool (decide ((ByteArray.mk (List.toArray (Val.t { h := false, t := x }))) = (ByteArray.mk (#[])))))) [] fun x => none) (Q (T.v (Value.bool false)) [] fun x => none)) (by kernel_rfl) ?_
      repeat' (first | exact rfl | exact Nat.le_of_ble_eq_true rfl | refine And.intro ?_ ?_ | intro _ | refine bsplit_mk (fun _ => ?_) (fun _ => ?_))
      all_goals first
        | exact hQ
        | (exfalso; rename_i h; rw [hs] at h; simp only [decide_eq_false_iff_not] at h; omega)
        | trace_state
  · rw [decide_eq_false hl] at hQ
    have hQ := hQ _ rfl
    refine TCalls.of Tryd.func28 rfl (CanCall.of Tryd.func28 rfl (by decide)) [] fun Γ => ?_
    refine run_sound (⟨fun _ _ => .no, [], fun _ => none⟩) 400 (B := ∀ (b : Nat), b = b ∧ bsplit (decide ((↑(ByteArray.size (ByteArray.mk (List.toArray (Val.t { h := h, t := x })))) : Int) ≤ (32 : Int))) (b = b ∧ bsplit (Val.h { h := h, t := x }) (Q (T.v (Value.bool true)) [] fun x => none) (b = b ∧ Q (T.v (Value.bool (decide ((ByteArray.mk (List.toArray (Val.t { h := h, t := x }))) = (ByteArray.mk (#[])))))) [] fun x => none)) (Q (T.v (Value.bool false)) [] fun x => none)) (by kernel_rfl) ?_
    repeat' (first | exact rfl | exact Nat.le_of_ble_eq_true rfl | refine And.intro ?_ ?_ | intro _ | refine bsplit_mk (fun _ => ?_) (fun _ => ?_))
    all_goals first
      | exact hQ
      | (exfalso; have g := of_decide_eq_true ‹decide ((((⟨x.toArray⟩ : ByteArray).size : Nat) : Int) ≤ 32) = true›; rw [hs] at g; omega)
      | trace_state
theorem good_post (x : Reg.Op) : TCalls Tryd.prog 22 [.agg (opC x)] [] none_ (callPost (told (bool (good x)) [] [])) := by
  have hQ : ∀ y, y = bool (good x) → callPost (told (bool (good x)) [] []) y [] none_ := fun y h => told_post h
  generalize callPost (told (bool (good x)) [] []) = Q at *
  have hs := sizeL x.t
  have c1 := vgood_post x.o
  have hg : good x = (decide (x.k ≥ 1) && (decide (x.k ≤ 5) && (decide (x.key ≥ 0) && (decide (x.key < 6) && (decide ((((⟨x.t.toArray⟩ : ByteArray).size : Nat) : Int) ≤ 32) && goodV x.o))))) := by
    unfold Reg.good
    rw [hs]
    have : decide (((x.t.length : Nat) : Int) ≤ 32) = decide (x.t.length ≤ 32) := by rw [Bool.eq_iff_iff, decide_eq_true_eq, decide_eq_true_eq]; omega
    rw [this]
  rw [hg] at hQ
  clear hg
  generalize goodV x.o = w at *
  unfold opC vC at *
  refine TCalls.of Tryd.func22 rfl (CanCall.of Tryd.func22 rfl (by decide)) [] fun Γ => ?_
  refine run_sound (⟨fun | 1, 27 => told (bool w) [] [] | _, _ => .no, [], fun  | _ => none⟩) 400 (B := ∀ (b : Nat), b = b ∧ bsplit (decide (Reg.Op.k x ≥ (1 : Int))) (b = b ∧ bsplit (decide (Reg.Op.k x ≤ (5 : Int))) (b = b ∧ bsplit (decide (Reg.Op.key x ≥ (0 : Int))) (b = b ∧ bsplit (decide (Reg.Op.key x < (6 : Int))) (b = b ∧ bsplit (decide ((↑(ByteArray.size (ByteArray.mk (List.toArray (Reg.Op.t x)))) : Int) ≤ (32 : Int))) (b = b ∧ TCalls Tryd.prog (28 : Nat) [T.agg [T.v (Value.bool (Val.h (Reg.Op.o x))), T.v (Value.string (ByteArray.mk (List.toArray (Val.t (Reg.Op.o x)))))]] [] (fun x => none) (callPost (Hint.call false Unit (fun x => True) [] false (fun x => bool w) (fun x => []) fun x => none_)) ∧ ∀ (a : Unit), True → Q (T.v (Value.bool w)) [] fun x => none) (Q (T.v (Value.bool false)) [] fun x => none)) (Q (T.v (Value.bool false)) [] fun x => none)) (Q (T.v (Value.bool false)) [] fun x => none)) (Q (T.v (Value.bool false)) [] fun x => none)) (Q (T.v (Value.bool false)) [] fun x => none)) (by kernel_rfl) ?_
  repeat' (first | exact rfl | exact Nat.le_of_ble_eq_true rfl | refine And.intro ?_ ?_ | intro _ | refine bsplit_mk (fun _ => ?_) (fun _ => ?_))
  all_goals first
    | exact c1
    | (refine hQ _ (congrArg bool ?_); rw [‹decide (x.k ≥ 1) = false›]; rfl)
    | (refine hQ _ (congrArg bool ?_); rw [‹decide (x.k ≥ 1) = true›, ‹decide (x.k ≤ 5) = false›]; rfl)
    | (refine hQ _ (congrArg bool ?_); rw [‹decide (x.k ≥ 1) = true›, ‹decide (x.k ≤ 5) = true›, ‹decide (x.key ≥ 0) = false›]; rfl)
    | (refine hQ _ (congrArg bool ?_); rw [‹decide (x.k ≥ 1) = true›, ‹decide (x.k ≤ 5) = true›, ‹decide (x.key ≥ 0) = true›, ‹decide (x.key < 6) = false›]; rfl)
    | (refine hQ _ (congrArg bool ?_); rw [‹decide (x.k ≥ 1) = true›, ‹decide (x.k ≤ 5) = true›, ‹decide (x.key ≥ 0) = true›, ‹decide (x.key < 6) = true›, ‹decide ((((⟨x.t.toArray⟩ : ByteArray).size : Nat) : Int) ≤ 32) = false›]; rfl)
    | (refine hQ _ (congrArg bool ?_); rw [‹decide (x.k ≥ 1) = true›, ‹decide (x.k ≤ 5) = true›, ‹decide (x.key ≥ 0) = true›, ‹decide (x.key < 6) = true›, ‹decide ((((⟨x.t.toArray⟩ : ByteArray).size : Nat) : Int) ≤ 32) = true›]; rfl)
    | (clear c1; trace_state)
theorem stays_post (v : Val) (e : Int) : TCalls Tryd.prog 23 [.agg (vC v), int e] [] none_ (callPost (told (resT (stay v e)) [] [])) := by
  have hQ : callPost (told (resT (stay v e)) [] []) (resT (stay v e)) [] none_ := told_post rfl
  generalize callPost (told (resT (stay v e)) [] []) = Q at *
  unfold resT Reg.stay vC at *
  refine TCalls.of Tryd.func23 rfl (CanCall.of Tryd.func23 rfl (by decide)) [] fun Γ => ?_
  refine run_sound (⟨fun  | _, _ => .no, [], fun | 1 => some ⟨[0], [5], .take true [0,1,2,3] (.one 4 (.one 5 (.take false [6] .done)))⟩ | _ => none⟩) 400 (B := ∀ (b b_1 b_2 : Nat), b = b ∧ b = b ∧ ((2 : Nat) = nat_lit 2 ∧ List.all [T.v (Value.bool (Val.h v)), T.v (Value.string (ByteArray.mk (List.toArray (Val.t v))))] T.one = true) ∧ b_1 = b_1 ∧ (0 : Nat) + nat_lit 2 ≤ (2 : Nat) ∧ ((3 : Nat) = nat_lit 3 ∧ List.all [T.v (Value.int IntKind.i64 e), T.v (Value.bool (Val.h v)), T.v (Value.string (ByteArray.mk (List.toArray (Val.t v))))] T.one = true) ∧ b_2 = b_2 ∧ (0 : Nat) + nat_lit 3 ≤ (3 : Nat) ∧ b_1 = b_1 ∧ b_2 = b_2 ∧ Q (T.tup [T.agg [T.v (Value.bool (Val.h v)), T.v (Value.string (ByteArray.mk (List.toArray (Val.t v))))], T.agg [T.v (Value.int IntKind.i64 e), T.v (Value.bool (Val.h v)), T.v (Value.string (ByteArray.mk (List.toArray (Val.t v))))], T.v (Value.bool false)]) [] fun x => none) (by kernel_rfl) ?_
  repeat' (first | exact rfl | exact Nat.le_of_ble_eq_true rfl | refine And.intro ?_ ?_ | intro _ | refine bsplit_mk (fun _ => ?_) (fun _ => ?_))
  all_goals first
    | exact hQ
    | trace_state
theorem add_post (g : Gs) (v : Val) (hl : v.t.length ≤ 1000) (m : Int) (hm : In64 m) : TCalls Tryd.prog 24 [.agg (vC v), int m] (obsG g) none_ (callPost (told (resT (addR v m)) [0, 1, 2] (obsG g))) := by
  have hQ : ∀ y, y = resT (addR v m) → callPost (told (resT (addR v m)) [0, 1, 2] (obsG g)) y (obsG g) none_ := fun y h => told_post h
  generalize callPost (told (resT (addR v m)) [0, 1, 2] (obsG g)) = Q at *
  have hm1 := hm.1
  have hm2 := hm.2
  cases hn : numV v with
  | none =>
    have hQ : Q (resT (stay v 4)) (obsG g) none_ := hQ _ (by unfold Reg.addR; rw [hn])
    have c1 : TCalls Tryd.prog 29 [.agg [bool v.h, str v.t]] (obsG g) none_ (callPost (.call false Int (fun _ => True) [0, 1, 2] false (fun n => .tup [int n, bool false]) (fun _ => obsG g) (fun _ => none_))) := num_none g v hl hn _ (fun n => ⟨n, trivial, rfl, rfl, Nat.le_of_ble_eq_true rfl, fun h => by cases h⟩)
    have c2 := stays_post v 4
    unfold resT Reg.stay vC at *
    unfold obsG at *
    generalize tabC = TC at *
    refine TCalls.of Tryd.func24 rfl (CanCall.of Tryd.func24 rfl (by decide)) [0, 1, 2] fun Γ => ?_
    refine run_sound (⟨fun | 1, 1 => .call false Int (fun _ => True) [0, 1, 2] false (fun n => .tup [int n, bool false]) (fun _ => [(0, .whole TC g.t1 g.f1), (1, .whole #[.iface g.tp g.p] g.t2 g.f2), (2, .whole #[.iface g.tq g.q] g.t3 g.f3)]) (fun _ => none_) | 3, 1 => told (.tup [.agg [bool v.h, str v.t], .agg [int 4, bool v.h, str v.t], bool false]) [] [] | _, _ => .no, [((0, 4), ([1, 2, 4, 5, 7], 6))], fun | 8 => some ⟨[], [4], .take true [0,1,2] (.one 3 (.one 4 (.take false [5] .done)))⟩ | _ => none⟩) 400 (B := ∀ (b b_1 b_2 : Nat), b = b ∧ TCalls Tryd.prog (29 : Nat) [T.agg [T.v (Value.bool (Val.h v)), T.v (Value.string (ByteArray.mk (List.toArray (Val.t v))))]] [((0 : Nat), Ob.whole TC (Gs.t1 g) (Gs.f1 g)), ((1 : Nat), Ob.whole #[Value.iface (Gs.tp g) (Gs.p g)] (Gs.t2 g) (Gs.f2 g)), ((2 : Nat), Ob.whole #[Value.iface (Gs.tq g) (Gs.q g)] (Gs.t3 g) (Gs.f3 g))] (fun x => none) (callPost (Hint.call false Int (fun x => True) [(0 : Nat), (1 : Nat), (2 : Nat)] false (fun n => T.tup [int n, bool false]) (fun x => [((0 : Nat), Ob.whole TC (Gs.t1 g) (Gs.f1 g)), ((1 : Nat), Ob.whole #[Value.iface (Gs.tp g) (Gs.p g)] (Gs.t2 g) (Gs.f2 g)), ((2 : Nat), Ob.whole #[Value.iface (Gs.tq g) (Gs.q g)] (Gs.t3 g) (Gs.f3 g))]) fun x => none_)) ∧ ∀ (a : Int), True → b = b ∧ TCalls Tryd.prog (23 : Nat) [T.agg [T.v (Value.bool (Val.h v)), T.v (Value.string (ByteArray.mk (List.toArray (Val.t v))))], T.v (Value.int IntKind.i64 (4 : Int))] [] (fun x => none) (callPost (Hint.call false Unit (fun x => True) [] false (fun x => T.tup [T.agg [bool (Val.h v), str (Val.t v)], T.agg [int (4 : Int), bool (Val.h v), str (Val.t v)], bool false]) (fun x => []) fun x => none_)) ∧ ∀ (a : Unit), True → ((2 : Nat) = nat_lit 2 ∧ List.all [T.v (Value.bool (Val.h v)), T.v (Value.string (ByteArray.mk (List.toArray (Val.t v))))] T.one = true) ∧ b_1 = b_1 ∧ (0 : Nat) + nat_lit 2 ≤ (2 : Nat) ∧ ((3 : Nat) = nat_lit 3 ∧ List.all [T.v (Value.int IntKind.i64 (4 : Int)), T.v (Value.bool (Val.h v)), T.v (Value.string (ByteArray.mk (List.toArray (Val.t v))))] T.one = true) ∧ b_2 = b_2 ∧ (0 : Nat) + nat_lit 3 ≤ (3 : Nat) ∧ b_1 = b_1 ∧ b_2 = b_2 ∧ Q (T.tup [T.agg [T.v (Value.bool (Val.h v)), T.v (Value.string (ByteArray.mk (List.toArray (Val.t v))))], T.agg [T.v (Value.int IntKind.i64 (4 : Int)), T.v (Value.bool (Val.h v)), T.v (Value.string (ByteArray.mk (List.toArray (Val.t v))))], T.v (Value.bool false)]) [((0 : Nat), Ob.whole TC (Gs.t1 g) (Gs.f1 g)), ((1 : Nat), Ob.whole #[Value.iface (Gs.tp g) (Gs.p g)] (Gs.t2 g) (Gs.f2 g)), ((2 : Nat), Ob.whole #[Value.iface (Gs.tq g) (Gs.q g)] (Gs.t3 g) (Gs.f3 g))] fun x => none) (by kernel_rfl) ?_
    repeat' (first | exact rfl | exact Nat.le_of_ble_eq_true rfl | refine And.intro ?_ ?_ | intro _ | refine bsplit_mk (fun _ => ?_) (fun _ => ?_))
    all_goals first
      | exact c1
      | exact c2
      | exact hQ
      | trace_state
  | some n =>
    have c1 := num_some g v hl n hn
    have h64 := Reg.numV_in hn
    have h1 := h64.1
    have h2 := h64.2
    by_cases ho : over n m = true
    · have hQ : Q (resT (stay v 9)) (obsG g) none_ := hQ _ (by unfold Reg.addR; rw [hn]; simp only; rw [if_pos ho])
      have ho : n + m < -9223372036854775808 ∨ 9223372036854775807 < n + m := by
        unfold Reg.over at ho
        rwa [Bool.or_eq_true, decide_eq_true_eq, decide_eq_true_eq] at ho
      obtain ⟨w, hw, hw2⟩ : ∃ w : Int, T.v (.int .i64 (IntKind.wrap .i64 (n + m))) = int w ∧ ((0 < m ∧ w < n) ∨ (m < 0 ∧ n < w)) := by
        refine ⟨IntKind.wrap .i64 (n + m), rfl, ?_⟩
        rw [IntKind.wrap_i64]; omega
      have c2 := stays_post v 9
      have t1 : (decide (w > n) != decide (m > 0)) = true := by
        rcases hw2 with ⟨a, b⟩ | ⟨a, b⟩
        · rw [decide_eq_false (by omega), decide_eq_true (by omega)]; rfl
        · rw [decide_eq_true (by omega), decide_eq_false (by omega)]; rfl
      have t2 : (m != 0) = true := by simp; omega
      clear hn ho hw2 h64 hm
      unfold resT Reg.stay vC at *
      unfold obsG at *
      generalize tabC = TC at *
      refine TCalls.of Tryd.func24 rfl (CanCall.of Tryd.func24 rfl (by decide)) [0, 1, 2] fun Γ => ?_
      refine run_sound (⟨fun | 1, 1 => told (.tup [int n, bool true]) [0, 1, 2] [(0, .whole TC g.t1 g.f1), (1, .whole #[.iface g.tp g.p] g.t2 g.f2), (2, .whole #[.iface g.tq g.q] g.t3 g.f3)] | 4, 2 => .res (int w) | 6, 1 => told (.tup [.agg [bool v.h, str v.t], .agg [int 9, bool v.h, str v.t], bool false]) [] [] | _, _ => .no, [((0, 7), ([4, 5, 9], 6))], fun | 8 => some ⟨[6], [4], .take true [0,1,2] (.one 3 (.one 4 (.take false [5] .done)))⟩ | _ => none⟩) 400 (B := ∀ (b b_1 b_2 : Nat), b = b ∧ TCalls Tryd.prog (29 : Nat) [T.agg [T.v (Value.bool (Val.h v)), T.v (Value.string (ByteArray.mk (List.toArray (Val.t v))))]] [((0 : Nat), Ob.whole TC (Gs.t1 g) (Gs.f1 g)), ((1 : Nat), Ob.whole #[Value.iface (Gs.tp g) (Gs.p g)] (Gs.t2 g) (Gs.f2 g)), ((2 : Nat), Ob.whole #[Value.iface (Gs.tq g) (Gs.q g)] (Gs.t3 g) (Gs.f3 g))] (fun x => none) (callPost (Hint.call false Unit (fun x => True) [(0 : Nat), (1 : Nat), (2 : Nat)] false (fun x => T.tup [int n, bool true]) (fun x => [((0 : Nat), Ob.whole TC (Gs.t1 g) (Gs.f1 g)), ((1 : Nat), Ob.whole #[Value.iface (Gs.tp g) (Gs.p g)] (Gs.t2 g) (Gs.f2 g)), ((2 : Nat), Ob.whole #[Value.iface (Gs.tq g) (Gs.q g)] (Gs.t3 g) (Gs.f3 g))]) fun x => none_)) ∧ ∀ (a : Unit), True → T.v (Value.int IntKind.i64 (IntKind.wrap IntKind.i64 (n + m))) = T.v (Value.int IntKind.i64 w) ∧ bsplit (!decide (w > n) == decide (m > (0 : Int))) (bsplit (m != (0 : Int)) (b = b ∧ TCalls Tryd.prog (23 : Nat) [T.agg [T.v (Value.bool (Val.h v)), T.v (Value.string (ByteArray.mk (List.toArray (Val.t v))))], T.v (Value.int IntKind.i64 (9 : Int))] [] (fun x => none) (callPost (Hint.call false Unit (fun x => True) [] false (fun x => T.tup [T.agg [bool (Val.h v), str (Val.t v)], T.agg [int (9 : Int), bool (Val.h v), str (Val.t v)], bool false]) (fun x => []) fun x => none_)) ∧ ∀ (a : Unit), True → ((2 : Nat) = nat_lit 2 ∧ List.all [T.v (Value.bool (Val.h v)), T.v (Value.string (ByteArray.mk (List.toArray (Val.t v))))] T.one = true) ∧ b_1 = b_1 ∧ (0 : Nat) + nat_lit 2 ≤ (2 : Nat) ∧ ((3 : Nat) = nat_lit 3 ∧ List.all [T.v (Value.int IntKind.i64 (9 : Int)), T.v (Value.bool (Val.h v)), T.v (Value.string (ByteArray.mk (List.toArray (Val.t v))))] T.one = true) ∧ b_2 = b_2 ∧ (0 : Nat) + nat_lit 3 ≤ (3 : Nat) ∧ b_1 = b_1 ∧ b_2 = b_2 ∧ Q (T.tup [T.agg [T.v (Value.bool (Val.h v)), T.v (Value.string (ByteArray.mk (List.toArray (Val.t v))))], T.agg [T.v (Value.int IntKind.i64 (9 : Int)), T.v (Value.bool (Val.h v)), T.v (Value.string (ByteArray.mk (List.toArray (Val.t v))))], T.v (Value.bool false)]) [((0 : Nat), Ob.whole TC (Gs.t1 g) (Gs.f1 g)), ((1 : Nat), Ob.whole #[Value.iface (Gs.tp g) (Gs.p g)] (Gs.t2 g) (Gs.f2 g)), ((2 : Nat), Ob.whole #[Value.iface (Gs.tq g) (Gs.q g)] (Gs.t3 g) (Gs.f3 g))] fun x => none) (TWk Tryd.prog Γ (fin Tryd.prog Tryd.f24 [(0 : Nat), (1 : Nat), (2 : Nat)] Q) [It.code (sub (bd Tryd.f24) [(1 : Nat), (1 : Nat), (1 : Nat), (1 : Nat), (1 : Nat)])] { fr := [T.und, T.und, T.und, T.und, T.ptr (4 : Nat) b_1 (0 : Nat), T.ptr (5 : Nat) b_2 (0 : Nat), T.und, T.und, T.und, T.v (Value.int IntKind.i64 w), T.und, T.und, T.und, T.und, T.und, T.und, T.und, T.und, T.und, T.und, T.und, T.und, T.und, T.und, T.und, T.und, T.und, T.und, T.und, T.und, T.und, T.und, T.und, T.und, T.und, T.und, T.und, T.und, T.und, T.und, T.und, T.und, T.und, T.und, T.und, T.und, T.und], ob := [((0 : Nat), Ob.whole TC (Gs.t1 g) (Gs.f1 g)), ((1 : Nat), Ob.whole #[Value.iface (Gs.tp g) (Gs.p g)] (Gs.t2 g) (Gs.f2 g)), ((2 : Nat), Ob.whole #[Value.iface (Gs.tq g) (Gs.q g)] (Gs.t3 g) (Gs.f3 g)), (b, Ob.cells [T.v (Value.bool (Val.h v)), T.v (Value.string (ByteArray.mk (List.toArray (Val.t v))))]), (b_1, Ob.cells [T.v (Value.bool false), T.v (Value.string (ByteArray.mk (#[])))]), (b_2, Ob.cells [T.v (Value.int IntKind.i64 (0 : Int)), T.v (Value.bool false), T.v (Value.string (ByteArray.mk (#[])))])], gl := fun x => none })) (TWk Tryd.prog Γ (fin Tryd.prog Tryd.f24 [(0 : Nat), (1 : Nat), (2 : Nat)] Q) [It.code (sub (bd Tryd.f24) [(1 : Nat), (1 : Nat), (1 : Nat), (1 : Nat), (1 : Nat)])] { fr := [T.und, T.und, T.und, T.und, T.ptr (4 : Nat) b_1 (0 : Nat), T.ptr (5 : Nat) b_2 (0 : Nat), T.und, T.und, T.und, T.v (Value.int IntKind.i64 w), T.und, T.und, T.und, T.und, T.und, T.und, T.und, T.und, T.und, T.und, T.und, T.und, T.und, T.und, T.und, T.und, T.und, T.und, T.und, T.und, T.und, T.und, T.und, T.und, T.und, T.und, T.und, T.und, T.und, T.und, T.und, T.und, T.und, T.und, T.und, T.und, T.und], ob := [((0 : Nat), Ob.whole TC (Gs.t1 g) (Gs.f1 g)), ((1 : Nat), Ob.whole #[Value.iface (Gs.tp g) (Gs.p g)] (Gs.t2 g) (Gs.f2 g)), ((2 : Nat), Ob.whole #[Value.iface (Gs.tq g) (Gs.q g)] (Gs.t3 g) (Gs.f3 g)), (b, Ob.cells [T.v (Value.bool (Val.h v)), T.v (Value.string (ByteArray.mk (List.toArray (Val.t v))))]), (b_1, Ob.cells [T.v (Value.bool false), T.v (Value.string (ByteArray.mk (#[])))]), (b_2, Ob.cells [T.v (Value.int IntKind.i64 (0 : Int)), T.v (Value.bool false), T.v (Value.string (ByteArray.mk (#[])))])], gl := fun x => none })) (by kernel_rfl) ?_
      repeat' (first | exact rfl | exact Nat.le_of_ble_eq_true rfl | refine And.intro ?_ ?_ | intro _ | refine bsplit_mk (fun _ => ?_) (fun _ => ?_))
      all_goals first
        | exact c1
        | exact c2
        | exact hw
        | exact hQ
        | (exfalso; rename_i h; rw [t1] at h; cases h; done)
        | (exfalso; rename_i h; rw [t2] at h; cases h; done)
        | (exfalso; simp_all; done)
        | trace_state
    · have ho : over n m = false := by simpa using ho
      have hQ : Q (resT ⟨sumV n m, 0, sumV n m, true⟩) (obsG g) none_ := hQ _ (by unfold Reg.addR; rw [hn]; simp only; rw [if_neg (by rw [ho]; decide)])
      have hin := Reg.over_in ho
      have hi1 := hin.1
      have hi2 := hin.2
      have c2 := fmt_any g (n + m) hin
      have hw : T.v (.int .i64 (IntKind.wrap .i64 (n + m))) = int (n + m) := congrArg int (wrap_i64 (by omega) (by omega))
      have t1 : m ≠ 0 → (decide (n + m > n) != decide (m > 0)) = false := fun h => by
        by_cases a : 0 < m
        · rw [decide_eq_true (show n + m > n by omega), decide_eq_true (show m > 0 by omega)]; rfl
        · rw [decide_eq_false (show ¬ n + m > n by omega), decide_eq_false (show ¬ m > 0 by omega)]; rfl
      clear hn ho h64 hm
      unfold resT Reg.sumV vC at *
      simp only at hQ
      generalize itoa (n + m) = S at *
      unfold obsG at *
      generalize tabC = TC at *
      refine TCalls.of Tryd.func24 rfl (CanCall.of Tryd.func24 rfl (by decide)) [0, 1, 2] fun Γ => ?_
      refine run_sound (⟨fun | 1, 1 => told (.tup [int n, bool true]) [0, 1, 2] [(0, .whole TC g.t1 g.f1), (1, .whole #[.iface g.tp g.p] g.t2 g.f2), (2, .whole #[.iface g.tq g.q] g.t3 g.f3)] | 4, 2 => .res (int (n + m)) | 6, 1 => .no | 7, 1 => told (str S) [0, 1, 2] [(0, .whole TC g.t1 g.f1), (1, .whole #[.iface g.tp g.p] g.t2 g.f2), (2, .whole #[.iface g.tq g.q] g.t3 g.f3)] | _, _ => .no, [((0, 6), ([2, 4, 5], 6))], fun | 8 => some ⟨[6], [4], .take true [0,1,2] (.one 3 (.one 4 (.take false [5] .done)))⟩ | _ => none⟩) 400 (B := ∀ (b b_1 b_2 : Nat), b = b ∧ TCalls Tryd.prog (29 : Nat) [T.agg [T.v (Value.bool (Val.h v)), T.v (Value.string (ByteArray.mk (List.toArray (Val.t v))))]] [((0 : Nat), Ob.whole TC (Gs.t1 g) (Gs.f1 g)), ((1 : Nat), Ob.whole #[Value.iface (Gs.tp g) (Gs.p g)] (Gs.t2 g) (Gs.f2 g)), ((2 : Nat), Ob.whole #[Value.iface (Gs.tq g) (Gs.q g)] (Gs.t3 g) (Gs.f3 g))] (fun x => none) (callPost (Hint.call false Unit (fun x => True) [(0 : Nat), (1 : Nat), (2 : Nat)] false (fun x => T.tup [int n, bool true]) (fun x => [((0 : Nat), Ob.whole TC (Gs.t1 g) (Gs.f1 g)), ((1 : Nat), Ob.whole #[Value.iface (Gs.tp g) (Gs.p g)] (Gs.t2 g) (Gs.f2 g)), ((2 : Nat), Ob.whole #[Value.iface (Gs.tq g) (Gs.q g)] (Gs.t3 g) (Gs.f3 g))]) fun x => none_)) ∧ ∀ (a : Unit), True → T.v (Value.int IntKind.i64 (IntKind.wrap IntKind.i64 (n + m))) = T.v (Value.int IntKind.i64 (n + m)) ∧ bsplit (!decide (n + m > n) == decide (m > (0 : Int))) (bsplit (m != (0 : Int)) (TWk Tryd.prog Γ (fin Tryd.prog Tryd.f24 [(0 : Nat), (1 : Nat), (2 : Nat)] Q) [It.code (sub (bd Tryd.f24) [(1 : Nat), (1 : Nat), (1 : Nat), (1 : Nat), (0 : Nat), (1 : Nat), (0 : Nat)]), It.code (sub (bd Tryd.f24) [(1 : Nat), (1 : Nat), (1 : Nat), (1 : Nat), (1 : Nat)])] { fr := [T.und, T.und, T.ptr (3 : Nat) b (0 : Nat), T.und, T.ptr (4 : Nat) b_1 (0 : Nat), T.ptr (5 : Nat) b_2 (0 : Nat), T.und, T.und, T.und, T.und, T.und, T.und, T.und, T.und, T.und, T.und, T.und, T.und, T.und, T.und, T.und, T.und, T.und, T.und, T.und, T.und, T.und, T.und, T.und, T.und, T.und, T.und, T.und, T.und, T.und, T.und, T.und, T.und, T.und, T.und, T.und, T.und, T.und, T.und, T.und, T.und, T.und], ob := [((0 : Nat), Ob.whole TC (Gs.t1 g) (Gs.f1 g)), ((1 : Nat), Ob.whole #[Value.iface (Gs.tp g) (Gs.p g)] (Gs.t2 g) (Gs.f2 g)), ((2 : Nat), Ob.whole #[Value.iface (Gs.tq g) (Gs.q g)] (Gs.t3 g) (Gs.f3 g)), (b, Ob.cells [T.v (Value.bool (Val.h v)), T.v (Value.string (ByteArray.mk (List.toArray (Val.t v))))]), (b_1, Ob.cells [T.v (Value.bool false), T.v (Value.string (ByteArray.mk (#[])))]), (b_2, Ob.cells [T.v (Value.int IntKind.i64 (0 : Int)), T.v (Value.bool false), T.v (Value.string (ByteArray.mk (#[])))])], gl := fun x => none }) (TCalls Tryd.prog (30 : Nat) [T.v (Value.int IntKind.i64 (n + m)), T.v (Value.int IntKind.i64 (10 : Int))] [((0 : Nat), Ob.whole TC (Gs.t1 g) (Gs.f1 g)), ((1 : Nat), Ob.whole #[Value.iface (Gs.tp g) (Gs.p g)] (Gs.t2 g) (Gs.f2 g)), ((2 : Nat), Ob.whole #[Value.iface (Gs.tq g) (Gs.q g)] (Gs.t3 g) (Gs.f3 g))] (fun x => none) (callPost (Hint.call false Unit (fun x => True) [(0 : Nat), (1 : Nat), (2 : Nat)] false (fun x => str S) (fun x => [((0 : Nat), Ob.whole TC (Gs.t1 g) (Gs.f1 g)), ((1 : Nat), Ob.whole #[Value.iface (Gs.tp g) (Gs.p g)] (Gs.t2 g) (Gs.f2 g)), ((2 : Nat), Ob.whole #[Value.iface (Gs.tq g) (Gs.q g)] (Gs.t3 g) (Gs.f3 g))]) fun x => none_)) ∧ ∀ (a : Unit), True → ∀ (b : Nat), ((2 : Nat) = nat_lit 2 ∧ List.all [T.v (Value.bool true), T.v (Value.string (ByteArray.mk (List.toArray S)))] T.one = true) ∧ b = b ∧ (0 : Nat) + nat_lit 2 ≤ (2 : Nat) ∧ b = b ∧ b = b ∧ ((2 : Nat) = nat_lit 2 ∧ List.all [T.v (Value.bool true), T.v (Value.string (ByteArray.mk (List.toArray S)))] T.one = true) ∧ b_1 = b_1 ∧ (0 : Nat) + nat_lit 2 ≤ (2 : Nat) ∧ ((3 : Nat) = nat_lit 3 ∧ List.all [T.v (Value.int IntKind.i64 (0 : Int)), T.v (Value.bool true), T.v (Value.string (ByteArray.mk (List.toArray S)))] T.one = true) ∧ b_2 = b_2 ∧ (0 : Nat) + nat_lit 3 ≤ (3 : Nat) ∧ b_1 = b_1 ∧ b_2 = b_2 ∧ Q (T.tup [T.agg [T.v (Value.bool true), T.v (Value.string (ByteArray.mk (List.toArray S)))], T.agg [T.v (Value.int IntKind.i64 (0 : Int)), T.v (Value.bool true), T.v (Value.string (ByteArray.mk (List.toArray S)))], T.v (Value.bool true)]) [((0 : Nat), Ob.whole TC (Gs.t1 g) (Gs.f1 g)), ((1 : Nat), Ob.whole #[Value.iface (Gs.tp g) (Gs.p g)] (Gs.t2 g) (Gs.f2 g)), ((2 : Nat), Ob.whole #[Value.iface (Gs.tq g) (Gs.q g)] (Gs.t3 g) (Gs.f3 g))] fun x => none)) (TCalls Tryd.prog (30 : Nat) [T.v (Value.int IntKind.i64 (n + m)), T.v (Value.int IntKind.i64 (10 : Int))] [((0 : Nat), Ob.whole TC (Gs.t1 g) (Gs.f1 g)), ((1 : Nat), Ob.whole #[Value.iface (Gs.tp g) (Gs.p g)] (Gs.t2 g) (Gs.f2 g)), ((2 : Nat), Ob.whole #[Value.iface (Gs.tq g) (Gs.q g)] (Gs.t3 g) (Gs.f3 g))] (fun x => none) (callPost (Hint.call false Unit (fun x => True) [(0 : Nat), (1 : Nat), (2 : Nat)] false (fun x => str S) (fun x => [((0 : Nat), Ob.whole TC (Gs.t1 g) (Gs.f1 g)), ((1 : Nat), Ob.whole #[Value.iface (Gs.tp g) (Gs.p g)] (Gs.t2 g) (Gs.f2 g)), ((2 : Nat), Ob.whole #[Value.iface (Gs.tq g) (Gs.q g)] (Gs.t3 g) (Gs.f3 g))]) fun x => none_)) ∧ ∀ (a : Unit), True → ∀ (b : Nat), ((2 : Nat) = nat_lit 2 ∧ List.all [T.v (Value.bool true), T.v (Value.string (ByteArray.mk (List.toArray S)))] T.one = true) ∧ b = b ∧ (0 : Nat) + nat_lit 2 ≤ (2 : Nat) ∧ b = b ∧ b = b ∧ ((2 : Nat) = nat_lit 2 ∧ List.all [T.v (Value.bool true), T.v (Value.string (ByteArray.mk (List.toArray S)))] T.one = true) ∧ b_1 = b_1 ∧ (0 : Nat) + nat_lit 2 ≤ (2 : Nat) ∧ ((3 : Nat) = nat_lit 3 ∧ List.all [T.v (Value.int IntKind.i64 (0 : Int)), T.v (Value.bool true), T.v (Value.string (ByteArray.mk (List.toArray S)))] T.one = true) ∧ b_2 = b_2 ∧ (0 : Nat) + nat_lit 3 ≤ (3 : Nat) ∧ b_1 = b_1 ∧ b_2 = b_2 ∧ Q (T.tup [T.agg [T.v (Value.bool true), T.v (Value.string (ByteArray.mk (List.toArray S)))], T.agg [T.v (Value.int IntKind.i64 (0 : Int)), T.v (Value.bool true), T.v (Value.string (ByteArray.mk (List.toArray S)))], T.v (Value.bool true)]) [((0 : Nat), Ob.whole TC (Gs.t1 g) (Gs.f1 g)), ((1 : Nat), Ob.whole #[Value.iface (Gs.tp g) (Gs.p g)] (Gs.t2 g) (Gs.f2 g)), ((2 : Nat), Ob.whole #[Value.iface (Gs.tq g) (Gs.q g)] (Gs.t3 g) (Gs.f3 g))] fun x => none)) (by kernel_rfl) ?_
      repeat' (first | exact rfl | exact Nat.le_of_ble_eq_true rfl | refine And.intro ?_ ?_ | intro _ | refine bsplit_mk (fun _ => ?_) (fun _ => ?_))
      all_goals first
        | exact c1
        | exact c2
        | exact hw
        | exact hQ
        | (exfalso; simp_all; done)
        | trace_state
theorem apply_post (g : Gs) (v : Val) (hl : v.t.length ≤ 1000) (x : Reg.Op) (hm : In64 x.n) : TCalls Tryd.prog 14 [.agg (vC v), .agg (opC x)] (obsG g) none_ (callPost (told (resT (applyR v x)) [0, 1, 2] (obsG g))) := by
  have hQ : ∀ y, y = resT (applyR v x) → callPost (told (resT (applyR v x)) [0, 1, 2] (obsG g)) y (obsG g) none_ := fun y h => told_post h
  generalize callPost (told (resT (applyR v x)) [0, 1, 2] (obsG g)) = Q at *
  have c1 := good_post x
  have ca := add_post g v hl x.n hm
  have cs := fun e => stays_post v e
  by_cases hg : good x = false
  · have hQ : Q (resT ⟨v, 1, zeroV, false⟩) (obsG g) none_ := hQ _ (by unfold Reg.applyR; rw [if_pos hg])
    rw [hg] at c1
    unfold resT Reg.zeroV opC vC at *
    unfold obsG at *
    generalize tabC = TC at *
    refine TCalls.of Tryd.func14 rfl (CanCall.of Tryd.func14 rfl (by decide)) [0, 1, 2] fun Γ => ?_
    refine run_sound (⟨fun | 1, 1 => told (bool false) [] [] | _, _ => .no, [((0, 3), ([2, 3, 4, 5], 7))], fun  | _ => none⟩) 400 (B := ∀ (b b_1 b_2 b_3 : Nat), b_1 = b_1 ∧ TCalls Tryd.prog (22 : Nat) [T.agg [T.v (Value.int IntKind.i64 (Reg.Op.k x)), T.v (Value.int IntKind.i64 (Reg.Op.key x)), T.v (Value.string (ByteArray.mk (List.toArray (Reg.Op.t x)))), T.v (Value.bool (Val.h (Reg.Op.o x))), T.v (Value.string (ByteArray.mk (List.toArray (Val.t (Reg.Op.o x))))), T.v (Value.int IntKind.i64 (Reg.Op.n x))]] [] (fun x => none) (callPost (Hint.call false Unit (fun x => True) [] false (fun x => bool false) (fun x => []) fun x => none_)) ∧ ∀ (a : Unit), True → b = b ∧ ((2 : Nat) = nat_lit 2 ∧ List.all [T.v (Value.bool (Val.h v)), T.v (Value.string (ByteArray.mk (List.toArray (Val.t v))))] T.one = true) ∧ b_2 = b_2 ∧ (0 : Nat) + nat_lit 2 ≤ (2 : Nat) ∧ ((3 : Nat) = nat_lit 3 ∧ List.all [T.v (Value.int IntKind.i64 (1 : Int)), T.v (Value.bool false), T.v (Value.string (ByteArray.mk (#[])))] T.one = true) ∧ b_3 = b_3 ∧ (0 : Nat) + nat_lit 3 ≤ (3 : Nat) ∧ b_2 = b_2 ∧ b_3 = b_3 ∧ Q (T.tup [T.agg [T.v (Value.bool (Val.h v)), T.v (Value.string (ByteArray.mk (List.toArray (Val.t v))))], T.agg [T.v (Value.int IntKind.i64 (1 : Int)), T.v (Value.bool false), T.v (Value.string (ByteArray.mk (#[])))], T.v (Value.bool false)]) [((0 : Nat), Ob.whole TC (Gs.t1 g) (Gs.f1 g)), ((1 : Nat), Ob.whole #[Value.iface (Gs.tp g) (Gs.p g)] (Gs.t2 g) (Gs.f2 g)), ((2 : Nat), Ob.whole #[Value.iface (Gs.tq g) (Gs.q g)] (Gs.t3 g) (Gs.f3 g))] fun x => none) (by kernel_rfl) ?_
    repeat' (first | exact rfl | exact Nat.le_of_ble_eq_true rfl | refine And.intro ?_ ?_ | intro _ | refine bsplit_mk (fun _ => ?_) (fun _ => ?_))
    all_goals first
      | exact c1
      | exact hQ
      | trace_state
  · have hg : good x = true := by simpa using hg
    rw [hg] at c1
    have hA : applyR v x = if x.k = 2 then ⟨⟨true, x.t⟩, 0, zeroV, true⟩ else if x.k = 3 then ⟨zeroV, 0, zeroV, true⟩ else if x.k = 4 then (if v = x.o then ⟨⟨true, x.t⟩, 0, zeroV, true⟩ else stay v 11) else if x.k = 5 then addR v x.n else stay v 0 := by unfold Reg.applyR; rw [if_neg (by rw [hg]; decide)]
    rw [hA] at hQ
    clear hA
    by_cases h2 : x.k = 2
    · rw [if_pos h2] at hQ
      have hQ := hQ _ rfl
      rw [show opC x = [int 2, int x.key, str x.t, bool x.o.h, str x.o.t, int x.n] by unfold opC; rw [h2]] at c1 ⊢
      unfold resT Reg.zeroV vC at *
      unfold obsG at *
      generalize tabC = TC at *
      refine TCalls.of Tryd.func14 rfl (CanCall.of Tryd.func14 rfl (by decide)) [0, 1, 2] fun Γ => ?_
      refine run_sound (⟨fun | 1, 1 => told (bool true) [] [] | _, _ => .no, [((0, 2), ([2, 4, 5], 7)), ((0, 5), ([2, 3, 4, 5], 7))], fun  | _ => none⟩) 400 (B := ∀ (b b b_1 b_2 : Nat), b = b ∧ TCalls Tryd.prog (22 : Nat) [T.agg [T.v (Value.int IntKind.i64 (2 : Int)), T.v (Value.int IntKind.i64 (Reg.Op.key x)), T.v (Value.string (ByteArray.mk (List.toArray (Reg.Op.t x)))), T.v (Value.bool (Val.h (Reg.Op.o x))), T.v (Value.string (ByteArray.mk (List.toArray (Val.t (Reg.Op.o x))))), T.v (Value.int IntKind.i64 (Reg.Op.n x))]] [] (fun x => none) (callPost (Hint.call false Unit (fun x => True) [] false (fun x => bool true) (fun x => []) fun x => none_)) ∧ ∀ (a : Unit), True → b = b ∧ b = b ∧ ((2 : Nat) = nat_lit 2 ∧ List.all [T.v (Value.bool true), T.v (Value.string (ByteArray.mk (List.toArray (Reg.Op.t x))))] T.one = true) ∧ b_1 = b_1 ∧ (0 : Nat) + nat_lit 2 ≤ (2 : Nat) ∧ ((3 : Nat) = nat_lit 3 ∧ List.all [T.v (Value.int IntKind.i64 (0 : Int)), T.v (Value.bool false), T.v (Value.string (ByteArray.mk (#[])))] T.one = true) ∧ b_2 = b_2 ∧ (0 : Nat) + nat_lit 3 ≤ (3 : Nat) ∧ b_1 = b_1 ∧ b_2 = b_2 ∧ Q (T.tup [T.agg [T.v (Value.bool true), T.v (Value.string (ByteArray.mk (List.toArray (Reg.Op.t x))))], T.agg [T.v (Value.int IntKind.i64 (0 : Int)), T.v (Value.bool false), T.v (Value.string (ByteArray.mk (#[])))], T.v (Value.bool true)]) [((0 : Nat), Ob.whole TC (Gs.t1 g) (Gs.f1 g)), ((1 : Nat), Ob.whole #[Value.iface (Gs.tp g) (Gs.p g)] (Gs.t2 g) (Gs.f2 g)), ((2 : Nat), Ob.whole #[Value.iface (Gs.tq g) (Gs.q g)] (Gs.t3 g) (Gs.f3 g))] fun x => none) (by kernel_rfl) ?_
      repeat' (first | exact rfl | exact Nat.le_of_ble_eq_true rfl | refine And.intro ?_ ?_ | intro _ | refine bsplit_mk (fun _ => ?_) (fun _ => ?_))
      all_goals first
        | exact c1
        | exact hQ
        | trace_state
    rw [if_neg h2] at hQ
    by_cases h3 : x.k = 3
    · rw [if_pos h3] at hQ
      have hQ := hQ _ rfl
      rw [show opC x = [int 3, int x.key, str x.t, bool x.o.h, str x.o.t, int x.n] by unfold opC; rw [h3]] at c1 ⊢
      unfold resT Reg.zeroV vC at *
      unfold obsG at *
      generalize tabC = TC at *
      refine TCalls.of Tryd.func14 rfl (CanCall.of Tryd.func14 rfl (by decide)) [0, 1, 2] fun Γ => ?_
      refine run_sound (⟨fun | 1, 1 => told (bool true) [] [] | _, _ => .no, [((0, 2), ([2, 4, 5], 7)), ((0, 7), ([2, 3, 4, 5], 7))], fun  | _ => none⟩) 400 (B := ∀ (b b b_1 b_2 : Nat), b = b ∧ TCalls Tryd.prog (22 : Nat) [T.agg [T.v (Value.int IntKind.i64 (3 : Int)), T.v (Value.int IntKind.i64 (Reg.Op.key x)), T.v (Value.string (ByteArray.mk (List.toArray (Reg.Op.t x)))), T.v (Value.bool (Val.h (Reg.Op.o x))), T.v (Value.string (ByteArray.mk (List.toArray (Val.t (Reg.Op.o x))))), T.v (Value.int IntKind.i64 (Reg.Op.n x))]] [] (fun x => none) (callPost (Hint.call false Unit (fun x => True) [] false (fun x => bool true) (fun x => []) fun x => none_)) ∧ ∀ (a : Unit), True → b = b ∧ b = b ∧ ((2 : Nat) = nat_lit 2 ∧ List.all [T.v (Value.bool false), T.v (Value.string (ByteArray.mk (#[])))] T.one = true) ∧ b_1 = b_1 ∧ (0 : Nat) + nat_lit 2 ≤ (2 : Nat) ∧ ((3 : Nat) = nat_lit 3 ∧ List.all [T.v (Value.int IntKind.i64 (0 : Int)), T.v (Value.bool false), T.v (Value.string (ByteArray.mk (#[])))] T.one = true) ∧ b_2 = b_2 ∧ (0 : Nat) + nat_lit 3 ≤ (3 : Nat) ∧ b_1 = b_1 ∧ b_2 = b_2 ∧ Q (T.tup [T.agg [T.v (Value.bool false), T.v (Value.string (ByteArray.mk (#[])))], T.agg [T.v (Value.int IntKind.i64 (0 : Int)), T.v (Value.bool false), T.v (Value.string (ByteArray.mk (#[])))], T.v (Value.bool true)]) [((0 : Nat), Ob.whole TC (Gs.t1 g) (Gs.f1 g)), ((1 : Nat), Ob.whole #[Value.iface (Gs.tp g) (Gs.p g)] (Gs.t2 g) (Gs.f2 g)), ((2 : Nat), Ob.whole #[Value.iface (Gs.tq g) (Gs.q g)] (Gs.t3 g) (Gs.f3 g))] fun x => none) (by kernel_rfl) ?_
      repeat' (first | exact rfl | exact Nat.le_of_ble_eq_true rfl | refine And.intro ?_ ?_ | intro _ | refine bsplit_mk (fun _ => ?_) (fun _ => ?_))
      all_goals first
        | exact c1
        | exact hQ
        | trace_state
    rw [if_neg h3] at hQ
    by_cases h4 : x.k = 4
    · rw [if_pos h4] at hQ
      rw [show opC x = [int 4, int x.key, str x.t, bool x.o.h, str x.o.t, int x.n] by unfold opC; rw [h4]] at c1 ⊢
      have cs := cs 11
      have q1 : v = x.o → Q (resT ⟨⟨true, x.t⟩, 0, zeroV, true⟩) (obsG g) none_ := fun h => hQ _ (by rw [if_pos h])
      have q2 : v ≠ x.o → Q (resT (stay v 11)) (obsG g) none_ := fun h => hQ _ (by rw [if_neg h])
      clear hQ ca
      have hv : v = x.o ↔ v.h = x.o.h ∧ (⟨v.t.toArray⟩ : ByteArray) = ⟨x.o.t.toArray⟩ := by
        rw [strI]
        constructor
        · intro h; rw [h]; exact ⟨rfl, rfl⟩
        · rintro ⟨a, b⟩
          obtain ⟨p, q⟩ := v
          cases hx : x.o with
          | mk p2 q2 => rw [hx] at a b; simp only at a b; rw [a, b]
      rw [hv] at q1
      rw [ne_eq, hv] at q2
      unfold resT Reg.zeroV Reg.stay vC at *
      unfold obsG at *
      generalize tabC = TC at *
      refine TCalls.of Tryd.func14 rfl (CanCall.of Tryd.func14 rfl (by decide)) [0, 1, 2] fun Γ => ?_
      refine run_sound (⟨fun | 1, 1 => told (bool true) [] [] | 10, 1 => told (.tup [.agg [bool v.h, str v.t], .agg [int 11, bool v.h, str v.t], bool false]) [] [] | _, _ => .no, [((0, 2), ([2, 4, 5], 7)), ((0, 11), ([2, 3, 4, 5], 7))], fun  | _ => none⟩) 400 (B := ∀ (b b_1 b_2 b_3 : Nat), b_1 = b_1 ∧ TCalls Tryd.prog (22 : Nat) [T.agg [T.v (Value.int IntKind.i64 (4 : Int)), T.v (Value.int IntKind.i64 (Reg.Op.key x)), T.v (Value.string (ByteArray.mk (List.toArray (Reg.Op.t x)))), T.v (Value.bool (Val.h (Reg.Op.o x))), T.v (Value.string (ByteArray.mk (List.toArray (Val.t (Reg.Op.o x))))), T.v (Value.int IntKind.i64 (Reg.Op.n x))]] [] (fun x => none) (callPost (Hint.call false Unit (fun x => True) [] false (fun x => bool true) (fun x => []) fun x => none_)) ∧ ∀ (a : Unit), True → b_1 = b_1 ∧ b_1 = b_1 ∧ b_1 = b_1 ∧ b = b ∧ b_1 = b_1 ∧ bsplit (Val.h v == Val.h (Reg.Op.o x) && (ByteArray.toList (ByteArray.mk (List.toArray (Val.t v))) == ByteArray.toList (ByteArray.mk (List.toArray (Val.t (Reg.Op.o x)))) && true)) (b_1 = b_1 ∧ ((2 : Nat) = nat_lit 2 ∧ List.all [T.v (Value.bool true), T.v (Value.string (ByteArray.mk (List.toArray (Reg.Op.t x))))] T.one = true) ∧ b_2 = b_2 ∧ (0 : Nat) + nat_lit 2 ≤ (2 : Nat) ∧ ((3 : Nat) = nat_lit 3 ∧ List.all [T.v (Value.int IntKind.i64 (0 : Int)), T.v (Value.bool false), T.v (Value.string (ByteArray.mk (#[])))] T.one = true) ∧ b_3 = b_3 ∧ (0 : Nat) + nat_lit 3 ≤ (3 : Nat) ∧ b_2 = b_2 ∧ b_3 = b_3 ∧ Q (T.tup [T.agg [T.v (Value.bool true), T.v (Value.string (ByteArray.mk (List.toArray (Reg.Op.t x))))], T.agg [T.v (Value.int IntKind.i64 (0 : Int)), T.v (Value.bool false), T.v (Value.string (ByteArray.mk (#[])))], T.v (Value.bool true)]) [((0 : Nat), Ob.whole TC (Gs.t1 g) (Gs.f1 g)), ((1 : Nat), Ob.whole #[Value.iface (Gs.tp g) (Gs.p g)] (Gs.t2 g) (Gs.f2 g)), ((2 : Nat), Ob.whole #[Value.iface (Gs.tq g) (Gs.q g)] (Gs.t3 g) (Gs.f3 g))] fun x => none) (b_1 = b_1 ∧ b = b ∧ TCalls Tryd.prog (23 : Nat) [T.agg [T.v (Value.bool (Val.h v)), T.v (Value.string (ByteArray.mk (List.toArray (Val.t v))))], T.v (Value.int IntKind.i64 (11 : Int))] [] (fun x => none) (callPost (Hint.call false Unit (fun x => True) [] false (fun x => T.tup [T.agg [bool (Val.h v), str (Val.t v)], T.agg [int (11 : Int), bool (Val.h v), str (Val.t v)], bool false]) (fun x => []) fun x => none_)) ∧ ∀ (a : Unit), True → ((2 : Nat) = nat_lit 2 ∧ List.all [T.v (Value.bool (Val.h v)), T.v (Value.string (ByteArray.mk (List.toArray (Val.t v))))] T.one = true) ∧ b_2 = b_2 ∧ (0 : Nat) + nat_lit 2 ≤ (2 : Nat) ∧ ((3 : Nat) = nat_lit 3 ∧ List.all [T.v (Value.int IntKind.i64 (11 : Int)), T.v (Value.bool (Val.h v)), T.v (Value.string (ByteArray.mk (List.toArray (Val.t v))))] T.one = true) ∧ b_3 = b_3 ∧ (0 : Nat) + nat_lit 3 ≤ (3 : Nat) ∧ b_2 = b_2 ∧ b_3 = b_3 ∧ Q (T.tup [T.agg [T.v (Value.bool (Val.h v)), T.v (Value.string (ByteArray.mk (List.toArray (Val.t v))))], T.agg [T.v (Value.int IntKind.i64 (11 : Int)), T.v (Value.bool (Val.h v)), T.v (Value.string (ByteArray.mk (List.toArray (Val.t v))))], T.v (Value.bool false)]) [((0 : Nat), Ob.whole TC (Gs.t1 g) (Gs.f1 g)), ((1 : Nat), Ob.whole #[Value.iface (Gs.tp g) (Gs.p g)] (Gs.t2 g) (Gs.f2 g)), ((2 : Nat), Ob.whole #[Value.iface (Gs.tq g) (Gs.q g)] (Gs.t3 g) (Gs.f3 g))] fun x => none)) (by kernel_rfl) ?_
      repeat' (first | exact rfl | exact Nat.le_of_ble_eq_true rfl | refine And.intro ?_ ?_ | intro _ | refine bsplit_mk (fun _ => ?_) (fun _ => ?_))
      all_goals first
        | exact c1
        | exact cs
        | exact q1 (by simp_all)
        | exact q2 (by simp_all)
        | trace_state
    rw [if_neg h4] at hQ
    have n2 : (x.k == 2) = false := by simpa using h2
    have n3 : (x.k == 3) = false := by simpa using h3
    have n4 : (x.k == 4) = false := by simpa using h4
    by_cases h5 : x.k = 5
    · rw [if_pos h5] at hQ
      have hQ := hQ _ rfl
      rw [show opC x = [int 5, int x.key, str x.t, bool x.o.h, str x.o.t, int x.n] by unfold opC; rw [h5]] at c1 ⊢
      clear n2 n3 n4 cs
      generalize addR v x.n = R at *
      unfold resT vC at *
      unfold obsG at *
      generalize tabC = TC at *
      refine TCalls.of Tryd.func14 rfl (CanCall.of Tryd.func14 rfl (by decide)) [0, 1, 2] fun Γ => ?_
      refine run_sound (⟨fun | 1, 1 => told (bool true) [] [] | 12, 3 => told (.tup [.agg [bool R.v.h, str R.v.t], .agg [int R.e, bool R.a.h, str R.a.t], bool R.w]) [0, 1, 2] [(0, .whole TC g.t1 g.f1), (1, .whole #[.iface g.tp g.p] g.t2 g.f2), (2, .whole #[.iface g.tq g.q] g.t3 g.f3)] | _, _ => .no, [((0, 2), ([2, 4, 5], 7)), ((0, 13), ([2, 4, 5], 7))], fun  | _ => none⟩) 400 (B := ∀ (b b_1 b_2 b_3 : Nat), b_1 = b_1 ∧ TCalls Tryd.prog (22 : Nat) [T.agg [T.v (Value.int IntKind.i64 (5 : Int)), T.v (Value.int IntKind.i64 (Reg.Op.key x)), T.v (Value.string (ByteArray.mk (List.toArray (Reg.Op.t x)))), T.v (Value.bool (Val.h (Reg.Op.o x))), T.v (Value.string (ByteArray.mk (List.toArray (Val.t (Reg.Op.o x))))), T.v (Value.int IntKind.i64 (Reg.Op.n x))]] [] (fun x => none) (callPost (Hint.call false Unit (fun x => True) [] false (fun x => bool true) (fun x => []) fun x => none_)) ∧ ∀ (a : Unit), True → b_1 = b_1 ∧ b_1 = b_1 ∧ b_1 = b_1 ∧ b_1 = b_1 ∧ b_1 = b_1 ∧ b = b ∧ b_1 = b_1 ∧ TCalls Tryd.prog (24 : Nat) [T.agg [T.v (Value.bool (Val.h v)), T.v (Value.string (ByteArray.mk (List.toArray (Val.t v))))], T.v (Value.int IntKind.i64 (Reg.Op.n x))] [((0 : Nat), Ob.whole TC (Gs.t1 g) (Gs.f1 g)), ((1 : Nat), Ob.whole #[Value.iface (Gs.tp g) (Gs.p g)] (Gs.t2 g) (Gs.f2 g)), ((2 : Nat), Ob.whole #[Value.iface (Gs.tq g) (Gs.q g)] (Gs.t3 g) (Gs.f3 g))] (fun x => none) (callPost (Hint.call false Unit (fun x => True) [(0 : Nat), (1 : Nat), (2 : Nat)] false (fun x => T.tup [T.agg [bool (Val.h (Res.v R)), str (Val.t (Res.v R))], T.agg [int (Res.e R), bool (Val.h (Res.a R)), str (Val.t (Res.a R))], bool (Res.w R)]) (fun x => [((0 : Nat), Ob.whole TC (Gs.t1 g) (Gs.f1 g)), ((1 : Nat), Ob.whole #[Value.iface (Gs.tp g) (Gs.p g)] (Gs.t2 g) (Gs.f2 g)), ((2 : Nat), Ob.whole #[Value.iface (Gs.tq g) (Gs.q g)] (Gs.t3 g) (Gs.f3 g))]) fun x => none_)) ∧ ∀ (a : Unit), True → ((2 : Nat) = nat_lit 2 ∧ List.all [T.v (Value.bool (Val.h (Res.v R))), T.v (Value.string (ByteArray.mk (List.toArray (Val.t (Res.v R)))))] T.one = true) ∧ b_2 = b_2 ∧ (0 : Nat) + nat_lit 2 ≤ (2 : Nat) ∧ ((3 : Nat) = nat_lit 3 ∧ List.all [T.v (Value.int IntKind.i64 (Res.e R)), T.v (Value.bool (Val.h (Res.a R))), T.v (Value.string (ByteArray.mk (List.toArray (Val.t (Res.a R)))))] T.one = true) ∧ b_3 = b_3 ∧ (0 : Nat) + nat_lit 3 ≤ (3 : Nat) ∧ b_2 = b_2 ∧ b_3 = b_3 ∧ Q (T.tup [T.agg [T.v (Value.bool (Val.h (Res.v R))), T.v (Value.string (ByteArray.mk (List.toArray (Val.t (Res.v R)))))], T.agg [T.v (Value.int IntKind.i64 (Res.e R)), T.v (Value.bool (Val.h (Res.a R))), T.v (Value.string (ByteArray.mk (List.toArray (Val.t (Res.a R)))))], T.v (Value.bool (Res.w R))]) [((0 : Nat), Ob.whole TC (Gs.t1 g) (Gs.f1 g)), ((1 : Nat), Ob.whole #[Value.iface (Gs.tp g) (Gs.p g)] (Gs.t2 g) (Gs.f2 g)), ((2 : Nat), Ob.whole #[Value.iface (Gs.tq g) (Gs.q g)] (Gs.t3 g) (Gs.f3 g))] fun x => none) (by kernel_rfl) ?_
      repeat' (first | exact rfl | exact Nat.le_of_ble_eq_true rfl | refine And.intro ?_ ?_ | intro _ | refine bsplit_mk (fun _ => ?_) (fun _ => ?_))
      all_goals first
        | exact c1
        | exact ca
        | exact hQ
        | trace_state
    rw [if_neg h5] at hQ
    have n5 : (x.k == 5) = false := by simpa using h5
    have hQ := hQ _ rfl
    have cs := cs 0
    clear ca
    unfold resT Reg.stay opC vC at *
    unfold obsG at *
    generalize tabC = TC at *
    refine TCalls.of Tryd.func14 rfl (CanCall.of Tryd.func14 rfl (by decide)) [0, 1, 2] fun Γ => ?_
    refine run_sound (⟨fun | 1, 1 => told (bool true) [] [] | 13, 1 => told (.tup [.agg [bool v.h, str v.t], .agg [int 0, bool v.h, str v.t], bool false]) [] [] | _, _ => .no, [((0, 2), ([2, 4, 5], 7)), ((0, 4), ([3, 4, 5], 7)), ((0, 6), ([4, 5], 7)), ((0, 8), ([3, 4, 5], 7)), ((0, 10), ([2, 4, 5], 7)), ((0, 12), ([2, 3, 4, 5], 7))], fun  | _ => none⟩) 400 (B := ∀ (b b_1 b_2 b_3 : Nat), b_1 = b_1 ∧ TCalls Tryd.prog (22 : Nat) [T.agg [T.v (Value.int IntKind.i64 (Reg.Op.k x)), T.v (Value.int IntKind.i64 (Reg.Op.key x)), T.v (Value.string (ByteArray.mk (List.toArray (Reg.Op.t x)))), T.v (Value.bool (Val.h (Reg.Op.o x))), T.v (Value.string (ByteArray.mk (List.toArray (Val.t (Reg.Op.o x))))), T.v (Value.int IntKind.i64 (Reg.Op.n x))]] [] (fun x => none) (callPost (Hint.call false Unit (fun x => True) [] false (fun x => bool true) (fun x => []) fun x => none_)) ∧ ∀ (a : Unit), True → b_1 = b_1 ∧ bsplit (Reg.Op.k x == (2 : Int)) (TWk Tryd.prog Γ (fin Tryd.prog Tryd.f14 [(0 : Nat), (1 : Nat), (2 : Nat)] Q) [It.code (sub (bd Tryd.f14) [(1 : Nat), (0 : Nat), (0 : Nat), (1 : Nat), (1 : Nat), (1 : Nat), (0 : Nat)]), It.blk (0 : Nat), It.code (sub (bd Tryd.f14) [(1 : Nat), (1 : Nat)])] { fr := [T.und, T.und, T.und, T.ptr (4 : Nat) b_1 (0 : Nat), T.ptr (5 : Nat) b_2 (0 : Nat), T.ptr (6 : Nat) b_3 (0 : Nat), T.und, T.und, T.und, T.und, T.und, T.und, T.und, T.und, T.und, T.und, T.und, T.und, T.und, T.und, T.und, T.und, T.und, T.und, T.und, T.und, T.und, T.und, T.und, T.und, T.und, T.und, T.und, T.und, T.und, T.und, T.und, T.und, T.und, T.und, T.und, T.und, T.und, T.und, T.und, T.und, T.und, T.und, T.und, T.und, T.und, T.und, T.und, T.und, T.und, T.und, T.und, T.und, T.und, T.und, T.und, T.und, T.und, T.und, T.und, T.und], ob := [((0 : Nat), Ob.whole TC (Gs.t1 g) (Gs.f1 g)), ((1 : Nat), Ob.whole #[Value.iface (Gs.tp g) (Gs.p g)] (Gs.t2 g) (Gs.f2 g)), ((2 : Nat), Ob.whole #[Value.iface (Gs.tq g) (Gs.q g)] (Gs.t3 g) (Gs.f3 g)), (b, Ob.cells [T.v (Value.bool (Val.h v)), T.v (Value.string (ByteArray.mk (List.toArray (Val.t v))))]), (b_1, Ob.cells [T.v (Value.int IntKind.i64 (Reg.Op.k x)), T.v (Value.int IntKind.i64 (Reg.Op.key x)), T.v (Value.string (ByteArray.mk (List.toArray (Reg.Op.t x)))), T.v (Value.bool (Val.h (Reg.Op.o x))), T.v (Value.string (ByteArray.mk (List.toArray (Val.t (Reg.Op.o x))))), T.v (Value.int IntKind.i64 (Reg.Op.n x))]), (b_2, Ob.cells [T.v (Value.bool false), T.v (Value.string (ByteArray.mk (#[])))]), (b_3, Ob.cells [T.v (Value.int IntKind.i64 (0 : Int)), T.v (Value.bool false), T.v (Value.string (ByteArray.mk (#[])))])], gl := fun x => none }) (b_1 = b_1 ∧ bsplit (Reg.Op.k x == (3 : Int)) (TWk Tryd.prog Γ (fin Tryd.prog Tryd.f14 [(0 : Nat), (1 : Nat), (2 : Nat)] Q) [It.code (sub (bd Tryd.f14) [(1 : Nat), (0 : Nat), (0 : Nat), (1 : Nat), (1 : Nat), (1 : Nat), (1 : Nat), (1 : Nat), (0 : Nat)]), It.blk (0 : Nat), It.code (sub (bd Tryd.f14) [(1 : Nat), (1 : Nat)])] { fr := [T.und, T.und, T.und, T.und, T.ptr (5 : Nat) b_2 (0 : Nat), T.ptr (6 : Nat) b_3 (0 : Nat), T.und, T.und, T.und, T.und, T.und, T.und, T.und, T.und, T.und, T.und, T.und, T.und, T.und, T.und, T.und, T.und, T.und, T.und, T.und, T.und, T.und, T.und, T.und, T.und, T.und, T.und, T.und, T.und, T.und, T.und, T.und, T.und, T.und, T.und, T.und, T.und, T.und, T.und, T.und, T.und, T.und, T.und, T.und, T.und, T.und, T.und, T.und, T.und, T.und, T.und, T.und, T.und, T.und, T.und, T.und, T.und, T.und, T.und, T.und, T.und], ob := [((0 : Nat), Ob.whole TC (Gs.t1 g) (Gs.f1 g)), ((1 : Nat), Ob.whole #[Value.iface (Gs.tp g) (Gs.p g)] (Gs.t2 g) (Gs.f2 g)), ((2 : Nat), Ob.whole #[Value.iface (Gs.tq g) (Gs.q g)] (Gs.t3 g) (Gs.f3 g)), (b, Ob.cells [T.v (Value.bool (Val.h v)), T.v (Value.string (ByteArray.mk (List.toArray (Val.t v))))]), (b_1, Ob.cells [T.v (Value.int IntKind.i64 (Reg.Op.k x)), T.v (Value.int IntKind.i64 (Reg.Op.key x)), T.v (Value.string (ByteArray.mk (List.toArray (Reg.Op.t x)))), T.v (Value.bool (Val.h (Reg.Op.o x))), T.v (Value.string (ByteArray.mk (List.toArray (Val.t (Reg.Op.o x))))), T.v (Value.int IntKind.i64 (Reg.Op.n x))]), (b_2, Ob.cells [T.v (Value.bool false), T.v (Value.string (ByteArray.mk (#[])))]), (b_3, Ob.cells [T.v (Value.int IntKind.i64 (0 : Int)), T.v (Value.bool false), T.v (Value.string (ByteArray.mk (#[])))])], gl := fun x => none }) (b_1 = b_1 ∧ bsplit (Reg.Op.k x == (4 : Int)) (b = b ∧ b_1 = b_1 ∧ bsplit (Val.h v == Val.h (Reg.Op.o x) && (ByteArray.toList (ByteArray.mk (List.toArray (Val.t v))) == ByteArray.toList (ByteArray.mk (List.toArray (Val.t (Reg.Op.o x)))) && true)) (TWk Tryd.prog Γ (fin Tryd.prog Tryd.f14 [(0 : Nat), (1 : Nat), (2 : Nat)] Q) [It.code (sub (bd Tryd.f14) [(1 : Nat), (0 : Nat), (0 : Nat), (1 : Nat), (1 : Nat), (1 : Nat), (1 : Nat), (1 : Nat), (1 : Nat), (1 : Nat), (0 : Nat)]), It.blk (0 : Nat), It.code (sub (bd Tryd.f14) [(1 : Nat), (1 : Nat)])] { fr := [T.und, T.und, T.und, T.ptr (4 : Nat) b_1 (0 : Nat), T.ptr (5 : Nat) b_2 (0 : Nat), T.ptr (6 : Nat) b_3 (0 : Nat), T.und, T.und, T.und, T.und, T.und, T.und, T.und, T.und, T.und, T.und, T.und, T.und, T.und, T.und, T.und, T.und, T.und, T.und, T.und, T.und, T.und, T.und, T.und, T.und, T.und, T.und, T.und, T.und, T.und, T.und, T.und, T.und, T.und, T.und, T.und, T.und, T.und, T.und, T.und, T.und, T.und, T.und, T.und, T.und, T.und, T.und, T.und, T.und, T.und, T.und, T.und, T.und, T.und, T.und, T.und, T.und, T.und, T.und, T.und, T.und], ob := [((0 : Nat), Ob.whole TC (Gs.t1 g) (Gs.f1 g)), ((1 : Nat), Ob.whole #[Value.iface (Gs.tp g) (Gs.p g)] (Gs.t2 g) (Gs.f2 g)), ((2 : Nat), Ob.whole #[Value.iface (Gs.tq g) (Gs.q g)] (Gs.t3 g) (Gs.f3 g)), (b, Ob.cells [T.v (Value.bool (Val.h v)), T.v (Value.string (ByteArray.mk (List.toArray (Val.t v))))]), (b_1, Ob.cells [T.v (Value.int IntKind.i64 (Reg.Op.k x)), T.v (Value.int IntKind.i64 (Reg.Op.key x)), T.v (Value.string (ByteArray.mk (List.toArray (Reg.Op.t x)))), T.v (Value.bool (Val.h (Reg.Op.o x))), T.v (Value.string (ByteArray.mk (List.toArray (Val.t (Reg.Op.o x))))), T.v (Value.int IntKind.i64 (Reg.Op.n x))]), (b_2, Ob.cells [T.v (Value.bool false), T.v (Value.string (ByteArray.mk (#[])))]), (b_3, Ob.cells [T.v (Value.int IntKind.i64 (0 : Int)), T.v (Value.bool false), T.v (Value.string (ByteArray.mk (#[])))])], gl := fun x => none }) (b_1 = b_1 ∧ bsplit (Reg.Op.k x == (4 : Int)) (TWk Tryd.prog Γ (fin Tryd.prog Tryd.f14 [(0 : Nat), (1 : Nat), (2 : Nat)] Q) [It.code (sub (bd Tryd.f14) [(1 : Nat), (0 : Nat), (0 : Nat), (1 : Nat), (1 : Nat), (1 : Nat), (1 : Nat), (1 : Nat), (1 : Nat), (1 : Nat), (1 : Nat), (1 : Nat), (0 : Nat)]), It.blk (0 : Nat), It.code (sub (bd Tryd.f14) [(1 : Nat), (1 : Nat)])] { fr := [T.und, T.und, T.ptr (3 : Nat) b (0 : Nat), T.und, T.ptr (5 : Nat) b_2 (0 : Nat), T.ptr (6 : Nat) b_3 (0 : Nat), T.und, T.und, T.und, T.und, T.und, T.und, T.und, T.und, T.und, T.und, T.und, T.und, T.und, T.und, T.und, T.und, T.und, T.und, T.und, T.und, T.und, T.und, T.und, T.und, T.und, T.und, T.und, T.und, T.und, T.und, T.und, T.und, T.und, T.und, T.und, T.und, T.und, T.und, T.und, T.und, T.und, T.und, T.und, T.und, T.und, T.und, T.und, T.und, T.und, T.und, T.und, T.und, T.und, T.und, T.und, T.und, T.und, T.und, T.und, T.und], ob := [((0 : Nat), Ob.whole TC (Gs.t1 g) (Gs.f1 g)), ((1 : Nat), Ob.whole #[Value.iface (Gs.tp g) (Gs.p g)] (Gs.t2 g) (Gs.f2 g)), ((2 : Nat), Ob.whole #[Value.iface (Gs.tq g) (Gs.q g)] (Gs.t3 g) (Gs.f3 g)), (b, Ob.cells [T.v (Value.bool (Val.h v)), T.v (Value.string (ByteArray.mk (List.toArray (Val.t v))))]), (b_1, Ob.cells [T.v (Value.int IntKind.i64 (Reg.Op.k x)), T.v (Value.int IntKind.i64 (Reg.Op.key x)), T.v (Value.string (ByteArray.mk (List.toArray (Reg.Op.t x)))), T.v (Value.bool (Val.h (Reg.Op.o x))), T.v (Value.string (ByteArray.mk (List.toArray (Val.t (Reg.Op.o x))))), T.v (Value.int IntKind.i64 (Reg.Op.n x))]), (b_2, Ob.cells [T.v (Value.bool false), T.v (Value.string (ByteArray.mk (#[])))]), (b_3, Ob.cells [T.v (Value.int IntKind.i64 (0 : Int)), T.v (Value.bool false), T.v (Value.string (ByteArray.mk (#[])))])], gl := fun x => none }) (b_1 = b_1 ∧ bsplit (Reg.Op.k x == (5 : Int)) (TWk Tryd.prog Γ (fin Tryd.prog Tryd.f14 [(0 : Nat), (1 : Nat), (2 : Nat)] Q) [It.code (sub (bd Tryd.f14) [(1 : Nat), (0 : Nat), (0 : Nat), (1 : Nat), (1 : Nat), (1 : Nat), (1 : Nat), (1 : Nat), (1 : Nat), (1 : Nat), (1 : Nat), (1 : Nat), (1 : Nat), (1 : Nat), (0 : Nat)]), It.blk (0 : Nat), It.code (sub (bd Tryd.f14) [(1 : Nat), (1 : Nat)])] { fr := [T.und, T.und, T.ptr (3 : Nat) b (0 : Nat), T.ptr (4 : Nat) b_1 (0 : Nat), T.ptr (5 : Nat) b_2 (0 : Nat), T.ptr (6 : Nat) b_3 (0 : Nat), T.und, T.und, T.und, T.und, T.und, T.und, T.und, T.und, T.und, T.und, T.und, T.und, T.und, T.und, T.und, T.und, T.und, T.und, T.und, T.und, T.und, T.und, T.und, T.und, T.und, T.und, T.und, T.und, T.und, T.und, T.und, T.und, T.und, T.und, T.und, T.und, T.und, T.und, T.und, T.und, T.und, T.und, T.und, T.und, T.und, T.und, T.und, T.und, T.und, T.und, T.und, T.und, T.und, T.und, T.und, T.und, T.und, T.und, T.und, T.und], ob := [((0 : Nat), Ob.whole TC (Gs.t1 g) (Gs.f1 g)), ((1 : Nat), Ob.whole #[Value.iface (Gs.tp g) (Gs.p g)] (Gs.t2 g) (Gs.f2 g)), ((2 : Nat), Ob.whole #[Value.iface (Gs.tq g) (Gs.q g)] (Gs.t3 g) (Gs.f3 g)), (b, Ob.cells [T.v (Value.bool (Val.h v)), T.v (Value.string (ByteArray.mk (List.toArray (Val.t v))))]), (b_1, Ob.cells [T.v (Value.int IntKind.i64 (Reg.Op.k x)), T.v (Value.int IntKind.i64 (Reg.Op.key x)), T.v (Value.string (ByteArray.mk (List.toArray (Reg.Op.t x)))), T.v (Value.bool (Val.h (Reg.Op.o x))), T.v (Value.string (ByteArray.mk (List.toArray (Val.t (Reg.Op.o x))))), T.v (Value.int IntKind.i64 (Reg.Op.n x))]), (b_2, Ob.cells [T.v (Value.bool false), T.v (Value.string (ByteArray.mk (#[])))]), (b_3, Ob.cells [T.v (Value.int IntKind.i64 (0 : Int)), T.v (Value.bool false), T.v (Value.string (ByteArray.mk (#[])))])], gl := fun x => none }) (b = b ∧ TCalls Tryd.prog (23 : Nat) [T.agg [T.v (Value.bool (Val.h v)), T.v (Value.string (ByteArray.mk (List.toArray (Val.t v))))], T.v (Value.int IntKind.i64 (0 : Int))] [] (fun x => none) (callPost (Hint.call false Unit (fun x => True) [] false (fun x => T.tup [T.agg [bool (Val.h v), str (Val.t v)], T.agg [int (0 : Int), bool (Val.h v), str (Val.t v)], bool false]) (fun x => []) fun x => none_)) ∧ ∀ (a : Unit), True → ((2 : Nat) = nat_lit 2 ∧ List.all [T.v (Value.bool (Val.h v)), T.v (Value.string (ByteArray.mk (List.toArray (Val.t v))))] T.one = true) ∧ b_2 = b_2 ∧ (0 : Nat) + nat_lit 2 ≤ (2 : Nat) ∧ ((3 : Nat) = nat_lit 3 ∧ List.all [T.v (Value.int IntKind.i64 (0 : Int)), T.v (Value.bool (Val.h v)), T.v (Value.string (ByteArray.mk (List.toArray (Val.t v))))] T.one = true) ∧ b_3 = b_3 ∧ (0 : Nat) + nat_lit 3 ≤ (3 : Nat) ∧ b_2 = b_2 ∧ b_3 = b_3 ∧ Q (T.tup [T.agg [T.v (Value.bool (Val.h v)), T.v (Value.string (ByteArray.mk (List.toArray (Val.t v))))], T.agg [T.v (Value.int IntKind.i64 (0 : Int)), T.v (Value.bool (Val.h v)), T.v (Value.string (ByteArray.mk (List.toArray (Val.t v))))], T.v (Value.bool false)]) [((0 : Nat), Ob.whole TC (Gs.t1 g) (Gs.f1 g)), ((1 : Nat), Ob.whole #[Value.iface (Gs.tp g) (Gs.p g)] (Gs.t2 g) (Gs.f2 g)), ((2 : Nat), Ob.whole #[Value.iface (Gs.tq g) (Gs.q g)] (Gs.t3 g) (Gs.f3 g))] fun x => none)))) (b_1 = b_1 ∧ bsplit (Reg.Op.k x == (4 : Int)) (TWk Tryd.prog Γ (fin Tryd.prog Tryd.f14 [(0 : Nat), (1 : Nat), (2 : Nat)] Q) [It.code (sub (bd Tryd.f14) [(1 : Nat), (0 : Nat), (0 : Nat), (1 : Nat), (1 : Nat), (1 : Nat), (1 : Nat), (1 : Nat), (1 : Nat), (1 : Nat), (1 : Nat), (1 : Nat), (0 : Nat)]), It.blk (0 : Nat), It.code (sub (bd Tryd.f14) [(1 : Nat), (1 : Nat)])] { fr := [T.und, T.und, T.ptr (3 : Nat) b (0 : Nat), T.und, T.ptr (5 : Nat) b_2 (0 : Nat), T.ptr (6 : Nat) b_3 (0 : Nat), T.und, T.und, T.und, T.und, T.und, T.und, T.und, T.und, T.und, T.und, T.und, T.und, T.und, T.und, T.und, T.und, T.und, T.und, T.und, T.und, T.und, T.und, T.und, T.und, T.und, T.und, T.und, T.und, T.und, T.und, T.und, T.und, T.und, T.und, T.und, T.und, T.und, T.und, T.und, T.und, T.und, T.und, T.und, T.und, T.und, T.und, T.und, T.und, T.und, T.und, T.und, T.und, T.und, T.und, T.und, T.und, T.und, T.und, T.und, T.und], ob := [((0 : Nat), Ob.whole TC (Gs.t1 g) (Gs.f1 g)), ((1 : Nat), Ob.whole #[Value.iface (Gs.tp g) (Gs.p g)] (Gs.t2 g) (Gs.f2 g)), ((2 : Nat), Ob.whole #[Value.iface (Gs.tq g) (Gs.q g)] (Gs.t3 g) (Gs.f3 g)), (b, Ob.cells [T.v (Value.bool (Val.h v)), T.v (Value.string (ByteArray.mk (List.toArray (Val.t v))))]), (b_1, Ob.cells [T.v (Value.int IntKind.i64 (Reg.Op.k x)), T.v (Value.int IntKind.i64 (Reg.Op.key x)), T.v (Value.string (ByteArray.mk (List.toArray (Reg.Op.t x)))), T.v (Value.bool (Val.h (Reg.Op.o x))), T.v (Value.string (ByteArray.mk (List.toArray (Val.t (Reg.Op.o x))))), T.v (Value.int IntKind.i64 (Reg.Op.n x))]), (b_2, Ob.cells [T.v (Value.bool false), T.v (Value.string (ByteArray.mk (#[])))]), (b_3, Ob.cells [T.v (Value.int IntKind.i64 (0 : Int)), T.v (Value.bool false), T.v (Value.string (ByteArray.mk (#[])))])], gl := fun x => none }) (b_1 = b_1 ∧ bsplit (Reg.Op.k x == (5 : Int)) (TWk Tryd.prog Γ (fin Tryd.prog Tryd.f14 [(0 : Nat), (1 : Nat), (2 : Nat)] Q) [It.code (sub (bd Tryd.f14) [(1 : Nat), (0 : Nat), (0 : Nat), (1 : Nat), (1 : Nat), (1 : Nat), (1 : Nat), (1 : Nat), (1 : Nat), (1 : Nat), (1 : Nat), (1 : Nat), (1 : Nat), (1 : Nat), (0 : Nat)]), It.blk (0 : Nat), It.code (sub (bd Tryd.f14) [(1 : Nat), (1 : Nat)])] { fr := [T.und, T.und, T.ptr (3 : Nat) b (0 : Nat), T.ptr (4 : Nat) b_1 (0 : Nat), T.ptr (5 : Nat) b_2 (0 : Nat), T.ptr (6 : Nat) b_3 (0 : Nat), T.und, T.und, T.und, T.und, T.und, T.und, T.und, T.und, T.und, T.und, T.und, T.und, T.und, T.und, T.und, T.und, T.und, T.und, T.und, T.und, T.und, T.und, T.und, T.und, T.und, T.und, T.und, T.und, T.und, T.und, T.und, T.und, T.und, T.und, T.und, T.und, T.und, T.und, T.und, T.und, T.und, T.und, T.und, T.und, T.und, T.und, T.und, T.und, T.und, T.und, T.und, T.und, T.und, T.und, T.und, T.und, T.und, T.und, T.und, T.und], ob := [((0 : Nat), Ob.whole TC (Gs.t1 g) (Gs.f1 g)), ((1 : Nat), Ob.whole #[Value.iface (Gs.tp g) (Gs.p g)] (Gs.t2 g) (Gs.f2 g)), ((2 : Nat), Ob.whole #[Value.iface (Gs.tq g) (Gs.q g)] (Gs.t3 g) (Gs.f3 g)), (b, Ob.cells [T.v (Value.bool (Val.h v)), T.v (Value.string (ByteArray.mk (List.toArray (Val.t v))))]), (b_1, Ob.cells [T.v (Value.int IntKind.i64 (Reg.Op.k x)), T.v (Value.int IntKind.i64 (Reg.Op.key x)), T.v (Value.string (ByteArray.mk (List.toArray (Reg.Op.t x)))), T.v (Value.bool (Val.h (Reg.Op.o x))), T.v (Value.string (ByteArray.mk (List.toArray (Val.t (Reg.Op.o x))))), T.v (Value.int IntKind.i64 (Reg.Op.n x))]), (b_2, Ob.cells [T.v (Value.bool false), T.v (Value.string (ByteArray.mk (#[])))]), (b_3, Ob.cells [T.v (Value.int IntKind.i64 (0 : Int)), T.v (Value.bool false), T.v (Value.string (ByteArray.mk (#[])))])], gl := fun x => none }) (b = b ∧ TCalls Tryd.prog (23 : Nat) [T.agg [T.v (Value.bool (Val.h v)), T.v (Value.string (ByteArray.mk (List.toArray (Val.t v))))], T.v (Value.int IntKind.i64 (0 : Int))] [] (fun x => none) (callPost (Hint.call false Unit (fun x => True) [] false (fun x => T.tup [T.agg [bool (Val.h v), str (Val.t v)], T.agg [int (0 : Int), bool (Val.h v), str (Val.t v)], bool false]) (fun x => []) fun x => none_)) ∧ ∀ (a : Unit), True → ((2 : Nat) = nat_lit 2 ∧ List.all [T.v (Value.bool (Val.h v)), T.v (Value.string (ByteArray.mk (List.toArray (Val.t v))))] T.one = true) ∧ b_2 = b_2 ∧ (0 : Nat) + nat_lit 2 ≤ (2 : Nat) ∧ ((3 : Nat) = nat_lit 3 ∧ List.all [T.v (Value.int IntKind.i64 (0 : Int)), T.v (Value.bool (Val.h v)), T.v (Value.string (ByteArray.mk (List.toArray (Val.t v))))] T.one = true) ∧ b_3 = b_3 ∧ (0 : Nat) + nat_lit 3 ≤ (3 : Nat) ∧ b_2 = b_2 ∧ b_3 = b_3 ∧ Q (T.tup [T.agg [T.v (Value.bool (Val.h v)), T.v (Value.string (ByteArray.mk (List.toArray (Val.t v))))], T.agg [T.v (Value.int IntKind.i64 (0 : Int)), T.v (Value.bool (Val.h v)), T.v (Value.string (ByteArray.mk (List.toArray (Val.t v))))], T.v (Value.bool false)]) [((0 : Nat), Ob.whole TC (Gs.t1 g) (Gs.f1 g)), ((1 : Nat), Ob.whole #[Value.iface (Gs.tp g) (Gs.p g)] (Gs.t2 g) (Gs.f2 g)), ((2 : Nat), Ob.whole #[Value.iface (Gs.tq g) (Gs.q g)] (Gs.t3 g) (Gs.f3 g))] fun x => none)))))) (by kernel_rfl) ?_
    repeat' (first | exact rfl | exact Nat.le_of_ble_eq_true rfl | refine And.intro ?_ ?_ | intro _ | refine bsplit_mk (fun _ => ?_) (fun _ => ?_))
    all_goals first
      | exact c1
      | exact cs
      | exact hQ
      | (exfalso; rename_i h; rw [n2] at h; cases h; done)
      | (exfalso; rename_i h; rw [n3] at h; cases h; done)
      | (exfalso; rename_i h; rw [n4] at h; cases h; done)
      | (exfalso; rename_i h; rw [n5] at h; cases h; done)
      | (exfalso; simp_all; done)
      | trace_state
end X4
end Go.Proofs.YtfealopjdkilfaaDoor.Vm
