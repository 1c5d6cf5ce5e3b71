/- The contracts of layer 5 (view), on: Same. -/
import Derived.Test.YtidhblpcaccchaaView2
import Derived.ChangeKeysEq
namespace Go.Proofs.Ytidhblpcaccchaa
open Go.RowKit
namespace View
def eight (L M : Nat → Nat) : Bool := (L 0 == M 0) && (L 1 == M 1) && (L 2 == M 2) && (L 3 == M 3) && (L 4 == M 4) && (L 5 == M 5) && (L 6 == M 6) && (L 7 == M 7)
def sameB (e f : Int) (ms ns : List Mem) (L M : Nat → Nat) : Bool := (e == f) && (eight L M && decide (ms = ns))

theorem cellsU8 : Try.prog.cellsOf 5 = 1 := by kernel_rfl
set_option maxHeartbeats 1000000 in
theorem eqArr (w : World) (L M : Nat → Nat) : (binOp .eql 26 (.agg #[.int .u8 (L 0), .int .u8 (L 1), .int .u8 (L 2), .int .u8 (L 3), .int .u8 (L 4), .int .u8 (L 5), .int .u8 (L 6), .int .u8 (L 7)]) (.agg #[.int .u8 (M 0), .int .u8 (M 1), .int .u8 (M 2), .int .u8 (M 3), .int .u8 (M 4), .int .u8 (M 5), .int .u8 (M 6), .int .u8 (M 7)])).run Try.prog w = .ok (.bool (eight L M)) w := by
  obtain ⟨i0, hi, -, -, -⟩ := info_parts infoU8
  rw [run_eql_struct, show (10000 : Nat) = 9999 + 1 from rfl, run_equalIn_array w 9999 _ _ Try.underlying26 hi, cellsU8, show List.range 8 = [0, 1, 2, 3, 4, 5, 6, 7] from rfl]
  have hx : ∀ (a b : Nat), (Op.equalIn 9999 5 (.int .u8 a) (.int .u8 b)).run Try.prog w = .ok ((a : Int) == (b : Int)) w := fun a b => run_equalIn_int w 9998 5 .u8 .u8 a b Try.underlying5
  have hb : ∀ a b : Nat, ((a : Int) == (b : Int)) = (a == b) := fun a b => by rw [Bool.eq_iff_iff, beq_iff_eq, beq_iff_eq]; omega
  simp only [Op.eqItems, Sem.run_bind]
  simp [go_sem, hx, hb, eight]
  repeat' split
  all_goals simp_all

set_option maxRecDepth 100000 in
set_option maxHeartbeats 2000000 in
theorem Same_any (e f : Int) (A B : Option Addr) (c d : Nat) (ms ns : List Mem) (L M : Nat → Nat) (w : World) (hA : RowsAt w w.heap.size 3 A (ms.map Mem.cells)) (hB : RowsAt w w.heap.size 3 B (ns.map Mem.cells)) (hl : ms.length ≤ 1000000) (hl' : ns.length ≤ 1000000) :
    Calls Try.prog 21 #[VV e A ms.length c L, VV f B ns.length d M] w fun r w' => r = .returned (.bool (sameB e f ms ns L M)) ∧ Below w.heap.size w w' := by
  have HA := Lib.hid hA
  have HB := Lib.hid hB
  clear hA hB
  have hq := fun w => eqArr w L M
  by_cases he : e = f
  · have te : (e == f) = true := by simp [he]
    have HE := Lib.hid he
    clear he
    cases h8 : eight L M with
    | false =>
      have HF : Hid (sameB e f ms ns L M = false) := Lib.hid (by unfold sameB; rw [h8]; simp)
      go_enter Try.func21, Try.ntmps21
      go_wp2_with fail
      go_ret
      exact ⟨ret_bool HF.out.symm, bl_alloc (bl_alloc (Below.refl _ _) _) _⟩
    | true =>
      have HF : Hid (sameB e f ms ns L M = decide (ms = ns)) := Lib.hid (by unfold sameB; rw [h8, te]; simp)
      go_enter Try.func21, Try.ntmps21
      go_wp2_with fail
      (with_reducible refine (Equal_any A B c d ms ns _ ((HA.out.up _).up _) ((HB.out.up _).up _) hl hl').mono ?_); rintro e1 w1 ⟨rfl, hb1⟩
      have HB1 := Lib.hid (bl_next (bl_alloc (bl_alloc (Below.refl w.heap.size w) _) _) hb1)
      clear hb1
      go_wp2_with fail
      go_ret
      exact ⟨ret_bool HF.out.symm, HB1.out⟩
  · have te : (e == f) = false := by simp [he]
    have HF : Hid (sameB e f ms ns L M = false) := Lib.hid (by unfold sameB; rw [te]; rfl)
    clear he
    go_enter Try.func21, Try.ntmps21
    go_wp2_with fail
    go_ret
    exact ⟨ret_bool HF.out.symm, bl_alloc (bl_alloc (Below.refl _ _) _) _⟩
end View
end Go.Proofs.Ytidhblpcaccchaa
