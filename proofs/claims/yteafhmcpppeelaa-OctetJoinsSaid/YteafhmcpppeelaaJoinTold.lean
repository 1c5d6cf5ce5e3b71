/- told: the program's part and the document's. -/
import Derived.Test.YteafhmcpppeelaaJoinRef
import Derived.Deep.CutBlock
import Derived.Deep.RegionHeld3
import Derived.Test.YteafhmcpppeelaaSets
namespace Go.Proofs.Yteafhmcpppeelaa
open Go.RowKit
namespace Joins
open Oct

/-- the program's part of a part of the document -/
def norm (q : Part) : Part := if q.kind = 1 then ⟨1, q.size, q.n, ⟨#[]⟩⟩ else if q.kind = 2 then ⟨2, 0, 0, q.s⟩ else if q.kind = 3 then ⟨3, 0, 0, q.s⟩ else ⟨0, 0, 0, ⟨#[]⟩⟩
def Kinds (q : Part) : Prop := q.kind = 0 ∨ q.kind = 1 ∨ q.kind = 2 ∨ q.kind = 3
def Told (w : World) (sz : Int) (n : Nat) (s : ByteArray) (e : Ending) (w' : World) : Prop :=
  ∃ d : Int, (d = 0 ∨ d = 1 ∨ d = 2 ∨ d = 3) ∧ e = .returned (.tuple #[(norm ⟨d, sz, n, s⟩).val, (⟨d, sz, n, s⟩ : Part).val]) ∧ Below w.heap.size w w'

theorem four {w : World} {g : Nat} {t : TypeId} {y0 y1 y2 y3 : Value} (h : Blk w g t #[y0, y1, y2, y3]) : w.cell? ⟨g, 0, none⟩ = some y0 ∧ w.cell? ⟨g, 1, none⟩ = some y1 ∧ w.cell? ⟨g, 2, none⟩ = some y2 ∧ w.cell? ⟨g, 3, none⟩ = some y3 ∧ w.frozen? ⟨g, 0, none⟩ = false ∧ w.frozen? ⟨g, 1, none⟩ = false ∧ w.frozen? ⟨g, 2, none⟩ = false ∧ w.frozen? ⟨g, 3, none⟩ = false :=
  ⟨h.cell 0, h.cell 1, h.cell 2, h.cell 3, h.frozen 0, h.frozen 1, h.frozen 2, h.frozen 3⟩
theorem four_after {W w6 : World} (hb : Below W.drew.heap.size W.drew w6) {g : Nat} {t : TypeId} {y0 y1 y2 y3 : Value} (h : Blk W g t #[y0, y1, y2, y3]) : w6.cell? ⟨g, 0, none⟩ = some y0 ∧ w6.cell? ⟨g, 1, none⟩ = some y1 ∧ w6.cell? ⟨g, 2, none⟩ = some y2 ∧ w6.cell? ⟨g, 3, none⟩ = some y3 ∧ w6.frozen? ⟨g, 0, none⟩ = false ∧ w6.frozen? ⟨g, 1, none⟩ = false ∧ w6.frozen? ⟨g, 2, none⟩ = false ∧ w6.frozen? ⟨g, 3, none⟩ = false :=
  four (h.drew.below hb h.drew.lt)

set_option maxRecDepth 100000 in
set_option maxHeartbeats 2000000 in
theorem told (kd sz : Int) (n : Nat) (s : ByteArray) (w : World) :
    Calls Try.prog 42 #[.agg #[.int .i64 kd, .int .i64 sz, .int .u64 n, .string s]] w fun e w' => Told w sz n s e w' := by
  go_enter Try.func42, Try.ntmps42
  go_upto_region 2 with (fail)
  generalize (wrap64 (kd.tmod 16 + 16)).tmod 16 = v at *
  have X := Lib.hid (Blk.new w 87 #[.int .i64 kd, .int .i64 sz, .int .u64 (n : Int), .string s])
  have P := Lib.hid (Blk.new (w.alloc (.cells #[.int .i64 kd, .int .i64 sz, .int .u64 (n : Int), .string s] 87)) 71 #[.int .i64 0, .int .i64 0, .int .u64 0, .string ⟨#[]⟩])
  have B1 := Lib.hid (bl_alloc (Below.refl w.heap.size w) (.cells #[.int .i64 kd, .int .i64 sz, .int .u64 (n : Int), .string s] 87))
  have z1 : (w.alloc (.cells #[.int .i64 kd, .int .i64 sz, .int .u64 (n : Int), .string s] 87)).heap.size = w.heap.size + 1 := by simp
  rw [z1] at P
  generalize w.alloc (.cells #[.int .i64 kd, .int .i64 sz, .int .u64 (n : Int), .string s] 87) = W1 at *
  have X := Lib.hid (X.out.alloc (.cells #[.int .i64 0, .int .i64 0, .int .u64 0, .string ⟨#[]⟩] 71))
  have B2 := Lib.hid (bl_alloc B1.out (.cells #[.int .i64 0, .int .i64 0, .int .u64 0, .string ⟨#[]⟩] 71))
  have z2 : (W1.alloc (.cells #[.int .i64 0, .int .i64 0, .int .u64 0, .string ⟨#[]⟩] 71)).heap.size = w.heap.size + 1 + 1 := by simp [z1]
  have Q := Lib.hid (Blk.new (W1.alloc (.cells #[.int .i64 0, .int .i64 0, .int .u64 0, .string ⟨#[]⟩] 71)) 88 #[.int .i64 0, .int .i64 0, .int .u64 0, .string ⟨#[]⟩])
  rw [z2] at Q
  generalize W1.alloc (.cells #[.int .i64 0, .int .i64 0, .int .u64 0, .string ⟨#[]⟩] 71) = W2 at *
  have X := Lib.hid (X.out.alloc (.cells #[.int .i64 0, .int .i64 0, .int .u64 0, .string ⟨#[]⟩] 88))
  have P := Lib.hid (P.out.alloc (.cells #[.int .i64 0, .int .i64 0, .int .u64 0, .string ⟨#[]⟩] 88))
  have B3 := Lib.hid (bl_alloc B2.out (.cells #[.int .i64 0, .int .i64 0, .int .u64 0, .string ⟨#[]⟩] 88))
  have z3 : (W2.alloc (.cells #[.int .i64 0, .int .i64 0, .int .u64 0, .string ⟨#[]⟩] 88)).heap.size = w.heap.size + 1 + 1 + 1 := by simp [z2]
  generalize W2.alloc (.cells #[.int .i64 0, .int .i64 0, .int .u64 0, .string ⟨#[]⟩] 88) = W3 at *
  generalize hg : w.heap.size = g at *
  have x1 := X.out.cell 1
  have x2 := X.out.cell 2
  have x3 := X.out.cell 3
  simp at x1 x2 x3
  go_upto_region 3 with (fail)
  have M := Lib.hid (Blk.new W3 88 #[.int .i64 v, .int .i64 sz, .int .u64 (n : Int), .string s])
  rw [z3] at M
  have X := Lib.hid (X.out.alloc (.cells #[.int .i64 v, .int .i64 sz, .int .u64 (n : Int), .string s] 88))
  have P := Lib.hid (P.out.alloc (.cells #[.int .i64 v, .int .i64 sz, .int .u64 (n : Int), .string s] 88))
  have Q := Lib.hid (Q.out.alloc (.cells #[.int .i64 v, .int .i64 sz, .int .u64 (n : Int), .string s] 88))
  have hg3 : g ≤ W3.heap.size := by omega
  have B4 := Lib.hid (B3.out.alloc hg3 (.cells #[.int .i64 v, .int .i64 sz, .int .u64 (n : Int), .string s] 88))
  generalize W3.alloc (.cells #[.int .i64 v, .int .i64 sz, .int .u64 (n : Int), .string s] 88) = W4 at *
  clear x1 x2 x3 z1 z2 z3 B1 B2 B3
  have x1 := X.out.cell 1
  have x2 := X.out.cell 2
  have x3 := X.out.cell 3
  have m0 := M.out.cell 0
  have m1 := M.out.cell 1
  have m2 := M.out.cell 2
  have m3 := M.out.cell 3
  have p0 := P.out.cell 0
  have p1 := P.out.cell 1
  have p2 := P.out.cell 2
  have p3 := P.out.cell 3
  have q0 := Q.out.cell 0
  have q1 := Q.out.cell 1
  have q2 := Q.out.cell 2
  have q3 := Q.out.cell 3
  simp at x1 x2 x3 m0 m1 m2 m3 p0 p1 p2 p3 q0 q1 q2 q3
  have mf0 := M.out.frozen 0
  have pf0 := P.out.frozen 0
  have pf1 := P.out.frozen 1
  have pf2 := P.out.frozen 2
  have pf3 := P.out.frozen 3
  have qf0 := Q.out.frozen 0
  have qf1 := Q.out.frozen 1
  have qf2 := Q.out.frozen 2
  have qf3 := Q.out.frozen 3
  have hv : v = 0 ∨ v ≠ 0 ∧ v.tmod 3 = 1 ∨ v ≠ 0 ∧ v.tmod 3 = 2 ∨ v ≠ 0 ∧ v.tmod 3 ≠ 1 ∧ v.tmod 3 ≠ 2 := by omega
  rcases hv with rfl | ⟨h0, h1⟩ | ⟨h0, h1⟩ | ⟨h0, h1, h2⟩
  · go_wp2_with fail
    go_region
    all_goals go_wp2_with fail
    have z0 : (⟨#[]⟩ : ByteArray) = ⟨#[]⟩ := rfl
    refine bodyPost_ret (v := .tuple #[(norm ⟨0, sz, n, s⟩).val, (⟨0, sz, n, s⟩ : Part).val]) (by simp [results, Try.results42, go_sem, norm, Part.val, p0, p1, p2, p3, q0, q1, q2, q3]) rfl ?_
    refine ⟨0, .inl rfl, rfl, ?_⟩
    subst hg
    exact (Below.setCell (Below.setCell (Below.setCell (Below.setCell (Below.setCell (Below.setCell (Below.setCell (Below.setCell B4.out (show w.heap.size ≤ w.heap.size + 1 by omega) _) (show w.heap.size ≤ w.heap.size + 1 by omega) _) (show w.heap.size ≤ w.heap.size + 1 by omega) _) (show w.heap.size ≤ w.heap.size + 1 by omega) _) (show w.heap.size ≤ w.heap.size + 1 + 1 by omega) _) (show w.heap.size ≤ w.heap.size + 1 + 1 by omega) _) (show w.heap.size ≤ w.heap.size + 1 + 1 by omega) _) (show w.heap.size ≤ w.heap.size + 1 + 1 by omega) _).drew
  · ·
      have t0 : (v == 0) = false := by simp [h0]
      have t1 : (v.tmod 3 == 1) = true := by simp [h1]
      go_upto_region 7 with (fail)
      have X := Lib.hid (X.out.far (p := ⟨g + 1 + 1 + 1, 0, none⟩) (show g ≠ g + 1 + 1 + 1 by omega) (.int .i64 1))
      have P := Lib.hid (P.out.far (p := ⟨g + 1 + 1 + 1, 0, none⟩) (show g + 1 ≠ g + 1 + 1 + 1 by omega) (.int .i64 1))
      have Q := Lib.hid (Q.out.far (p := ⟨g + 1 + 1 + 1, 0, none⟩) (show g + 1 + 1 ≠ g + 1 + 1 + 1 by omega) (.int .i64 1))
      have M := Lib.hid (show Blk (W4.setCell ⟨g + 1 + 1 + 1, 0, none⟩ (.int .i64 1)) (g + 1 + 1 + 1) 88 #[.int .i64 1, .int .i64 sz, .int .u64 (n : Int), .string s] by simpa using M.out.set_ 0 (.int .i64 1))
      have B5 := Lib.hid (Below.setCell (p := ⟨g + 1 + 1 + 1, 0, none⟩) B4.out (show g ≤ g + 1 + 1 + 1 by omega) (.int .i64 1))
      clear B4 x1 x2 x3 m0 m1 m2 m3 p0 p1 p2 p3 q0 q1 q2 q3 mf0 pf0 pf1 pf2 pf3 qf0 qf1 qf2 qf3
      generalize W4.setCell ⟨g + 1 + 1 + 1, 0, none⟩ (.int .i64 1) = W5 at *
      have x1 := X.out.cell 1
      have x2 := X.out.cell 2
      have x3 := X.out.cell 3
      have m0 := M.out.cell 0
      have m1 := M.out.cell 1
      have m2 := M.out.cell 2
      have m3 := M.out.cell 3
      simp at x1 x2 x3 m0 m1 m2 m3
      have n1 : ¬ g = g + 1 + 1 := by omega
      have n2 : ¬ g + 1 + 1 = g := by omega
      go_region_held3 (fun w' => w'.cell? ⟨g, 1, none⟩ = some (.int .i64 sz) ∧ w'.cell? ⟨g, 2, none⟩ = some (.int .u64 (n : Int)) ∧ w'.cell? ⟨g + 1 + 1 + 1, 0, none⟩ = some (.int .i64 1) ∧ w'.cell? ⟨g + 1 + 1 + 1, 1, none⟩ = some (.int .i64 sz) ∧ w'.cell? ⟨g + 1 + 1 + 1, 2, none⟩ = some (.int .u64 (n : Int)) ∧ w'.cell? ⟨g + 1 + 1 + 1, 3, none⟩ = some (.string s)) (go_keep) ((go_at_call 34; refine (Num_any _ _ _).mono ?_; rintro e w6 ⟨rfl, hb6⟩; obtain ⟨-, x1, x2, -⟩ := four_after hb6 X.out; obtain ⟨m0, m1, m2, m3, -⟩ := four_after hb6 M.out; obtain ⟨p0, p1, p2, p3, pf0, pf1, pf2, pf3⟩ := four_after hb6 P.out; obtain ⟨q0, q1, q2, q3, qf0, qf1, qf2, qf3⟩ := four_after hb6 Q.out; have hb6 := Lib.hid hb6))
      all_goals
        have HB6 := Lib.hid (bl_next (show Below w.heap.size w W5.drew from below_drewN (by rw [hg]; exact B5.out) 1) hb6.out)
        go_wp2_with fail
        refine bodyPost_ret (v := .tuple #[(norm ⟨1, sz, n, s⟩).val, (⟨1, sz, n, s⟩ : Part).val]) (by simp [results, Try.results42, go_sem, norm, Part.val, p0, p1, p2, p3, q0, q1, q2, q3]) rfl ?_
        refine ⟨1, by omega, rfl, ?_⟩
        subst hg
        exact Below.setCell (Below.setCell (Below.setCell (Below.setCell (Below.setCell (Below.setCell (Below.setCell (Below.setCell HB6.out (show w.heap.size ≤ w.heap.size + 1 by omega) _) (show w.heap.size ≤ w.heap.size + 1 by omega) _) (show w.heap.size ≤ w.heap.size + 1 by omega) _) (show w.heap.size ≤ w.heap.size + 1 by omega) _) (show w.heap.size ≤ w.heap.size + 1 + 1 by omega) _) (show w.heap.size ≤ w.heap.size + 1 + 1 by omega) _) (show w.heap.size ≤ w.heap.size + 1 + 1 by omega) _) (show w.heap.size ≤ w.heap.size + 1 + 1 by omega) _
  · ·
      have t0 : (v == 0) = false := by simp [h0]
      have t1 : (v.tmod 3 == 1) = false := by simp [h1]
      have t2 : (v.tmod 3 == 2) = true := by simp [h1]
      go_upto_region 10 with (fail)
      have X := Lib.hid (X.out.far (p := ⟨g + 1 + 1 + 1, 0, none⟩) (show g ≠ g + 1 + 1 + 1 by omega) (.int .i64 2))
      have P := Lib.hid (P.out.far (p := ⟨g + 1 + 1 + 1, 0, none⟩) (show g + 1 ≠ g + 1 + 1 + 1 by omega) (.int .i64 2))
      have Q := Lib.hid (Q.out.far (p := ⟨g + 1 + 1 + 1, 0, none⟩) (show g + 1 + 1 ≠ g + 1 + 1 + 1 by omega) (.int .i64 2))
      have M := Lib.hid (show Blk (W4.setCell ⟨g + 1 + 1 + 1, 0, none⟩ (.int .i64 2)) (g + 1 + 1 + 1) 88 #[.int .i64 2, .int .i64 sz, .int .u64 (n : Int), .string s] by simpa using M.out.set_ 0 (.int .i64 2))
      have B5 := Lib.hid (Below.setCell (p := ⟨g + 1 + 1 + 1, 0, none⟩) B4.out (show g ≤ g + 1 + 1 + 1 by omega) (.int .i64 2))
      clear B4 x1 x2 x3 m0 m1 m2 m3 p0 p1 p2 p3 q0 q1 q2 q3 mf0 pf0 pf1 pf2 pf3 qf0 qf1 qf2 qf3
      generalize W4.setCell ⟨g + 1 + 1 + 1, 0, none⟩ (.int .i64 2) = W5 at *
      have x1 := X.out.cell 1
      have x2 := X.out.cell 2
      have x3 := X.out.cell 3
      have m0 := M.out.cell 0
      have m1 := M.out.cell 1
      have m2 := M.out.cell 2
      have m3 := M.out.cell 3
      simp at x1 x2 x3 m0 m1 m2 m3
      have n1 : ¬ g = g + 1 + 1 := by omega
      have n2 : ¬ g + 1 + 1 = g := by omega
      go_region_held3 (fun w' => w'.cell? ⟨g, 3, none⟩ = some (.string s) ∧ w'.cell? ⟨g + 1 + 1 + 1, 0, none⟩ = some (.int .i64 2) ∧ w'.cell? ⟨g + 1 + 1 + 1, 1, none⟩ = some (.int .i64 sz) ∧ w'.cell? ⟨g + 1 + 1 + 1, 2, none⟩ = some (.int .u64 (n : Int)) ∧ w'.cell? ⟨g + 1 + 1 + 1, 3, none⟩ = some (.string s)) (go_keep) ((go_at_call 46; refine (Text_any _ _).mono ?_; rintro e w6 ⟨rfl, hb6⟩; obtain ⟨-, -, -, x3, -⟩ := four_after hb6 X.out; obtain ⟨m0, m1, m2, m3, -⟩ := four_after hb6 M.out; obtain ⟨p0, p1, p2, p3, pf0, pf1, pf2, pf3⟩ := four_after hb6 P.out; obtain ⟨q0, q1, q2, q3, qf0, qf1, qf2, qf3⟩ := four_after hb6 Q.out; have hb6 := Lib.hid hb6))
      all_goals
        have HB6 := Lib.hid (bl_next (show Below w.heap.size w W5.drew from below_drewN (by rw [hg]; exact B5.out) 1) hb6.out)
        go_wp2_with fail
        refine bodyPost_ret (v := .tuple #[(norm ⟨2, sz, n, s⟩).val, (⟨2, sz, n, s⟩ : Part).val]) (by simp [results, Try.results42, go_sem, norm, Part.val, p0, p1, p2, p3, q0, q1, q2, q3]) rfl ?_
        refine ⟨2, by omega, rfl, ?_⟩
        subst hg
        exact Below.setCell (Below.setCell (Below.setCell (Below.setCell (Below.setCell (Below.setCell (Below.setCell (Below.setCell HB6.out (show w.heap.size ≤ w.heap.size + 1 by omega) _) (show w.heap.size ≤ w.heap.size + 1 by omega) _) (show w.heap.size ≤ w.heap.size + 1 by omega) _) (show w.heap.size ≤ w.heap.size + 1 by omega) _) (show w.heap.size ≤ w.heap.size + 1 + 1 by omega) _) (show w.heap.size ≤ w.heap.size + 1 + 1 by omega) _) (show w.heap.size ≤ w.heap.size + 1 + 1 by omega) _) (show w.heap.size ≤ w.heap.size + 1 + 1 by omega) _
  · ·
      have t0 : (v == 0) = false := by simp [h0]
      have t1 : (v.tmod 3 == 1) = false := by simp [h1]
      have t2 : (v.tmod 3 == 2) = false := by simp [h2]
      go_upto_region 12 with (fail)
      have X := Lib.hid (X.out.far (p := ⟨g + 1 + 1 + 1, 0, none⟩) (show g ≠ g + 1 + 1 + 1 by omega) (.int .i64 3))
      have P := Lib.hid (P.out.far (p := ⟨g + 1 + 1 + 1, 0, none⟩) (show g + 1 ≠ g + 1 + 1 + 1 by omega) (.int .i64 3))
      have Q := Lib.hid (Q.out.far (p := ⟨g + 1 + 1 + 1, 0, none⟩) (show g + 1 + 1 ≠ g + 1 + 1 + 1 by omega) (.int .i64 3))
      have M := Lib.hid (show Blk (W4.setCell ⟨g + 1 + 1 + 1, 0, none⟩ (.int .i64 3)) (g + 1 + 1 + 1) 88 #[.int .i64 3, .int .i64 sz, .int .u64 (n : Int), .string s] by simpa using M.out.set_ 0 (.int .i64 3))
      have B5 := Lib.hid (Below.setCell (p := ⟨g + 1 + 1 + 1, 0, none⟩) B4.out (show g ≤ g + 1 + 1 + 1 by omega) (.int .i64 3))
      clear B4 x1 x2 x3 m0 m1 m2 m3 p0 p1 p2 p3 q0 q1 q2 q3 mf0 pf0 pf1 pf2 pf3 qf0 qf1 qf2 qf3
      generalize W4.setCell ⟨g + 1 + 1 + 1, 0, none⟩ (.int .i64 3) = W5 at *
      have x1 := X.out.cell 1
      have x2 := X.out.cell 2
      have x3 := X.out.cell 3
      have m0 := M.out.cell 0
      have m1 := M.out.cell 1
      have m2 := M.out.cell 2
      have m3 := M.out.cell 3
      simp at x1 x2 x3 m0 m1 m2 m3
      have n1 : ¬ g = g + 1 + 1 := by omega
      have n2 : ¬ g + 1 + 1 = g := by omega
      go_region_held3 (fun w' => w'.cell? ⟨g, 3, none⟩ = some (.string s) ∧ w'.cell? ⟨g + 1 + 1 + 1, 0, none⟩ = some (.int .i64 3) ∧ w'.cell? ⟨g + 1 + 1 + 1, 1, none⟩ = some (.int .i64 sz) ∧ w'.cell? ⟨g + 1 + 1 + 1, 2, none⟩ = some (.int .u64 (n : Int)) ∧ w'.cell? ⟨g + 1 + 1 + 1, 3, none⟩ = some (.string s)) (go_keep) ((go_at_call 50; refine (Raw_any _ _).mono ?_; rintro e w6 ⟨rfl, hb6⟩; obtain ⟨-, -, -, x3, -⟩ := four_after hb6 X.out; obtain ⟨m0, m1, m2, m3, -⟩ := four_after hb6 M.out; obtain ⟨p0, p1, p2, p3, pf0, pf1, pf2, pf3⟩ := four_after hb6 P.out; obtain ⟨q0, q1, q2, q3, qf0, qf1, qf2, qf3⟩ := four_after hb6 Q.out; have hb6 := Lib.hid hb6))
      all_goals
        have HB6 := Lib.hid (bl_next (show Below w.heap.size w W5.drew from below_drewN (by rw [hg]; exact B5.out) 1) hb6.out)
        go_wp2_with fail
        refine bodyPost_ret (v := .tuple #[(norm ⟨3, sz, n, s⟩).val, (⟨3, sz, n, s⟩ : Part).val]) (by simp [results, Try.results42, go_sem, norm, Part.val, p0, p1, p2, p3, q0, q1, q2, q3]) rfl ?_
        refine ⟨3, by omega, rfl, ?_⟩
        subst hg
        exact Below.setCell (Below.setCell (Below.setCell (Below.setCell (Below.setCell (Below.setCell (Below.setCell (Below.setCell HB6.out (show w.heap.size ≤ w.heap.size + 1 by omega) _) (show w.heap.size ≤ w.heap.size + 1 by omega) _) (show w.heap.size ≤ w.heap.size + 1 by omega) _) (show w.heap.size ≤ w.heap.size + 1 by omega) _) (show w.heap.size ≤ w.heap.size + 1 + 1 by omega) _) (show w.heap.size ≤ w.heap.size + 1 + 1 by omega) _) (show w.heap.size ≤ w.heap.size + 1 + 1 by omega) _) (show w.heap.size ≤ w.heap.size + 1 + 1 by omega) _
end Joins
end Go.Proofs.Yteafhmcpppeelaa
