/- The contracts of layer 5 (view), on: remove, add, Apply. -/
import Derived.Test.YtidhblpcaccchaaView2
import Derived.Test.YtidhblpcaccchaaPhases
import Derived.StillTailTactics
namespace Go.Proofs.Ytidhblpcaccchaa
open Go.RowKit
namespace View

theorem own_open {w : World} {base : Nat} {v : Value} {ms : List Mem} (h : w.ownsRow base 38 3 v ms.length (ms.flatMap Mem.cells)) (hn : 0 < ms.length) :
    ∃ g cap, v = .slice (some ⟨g, 0, none⟩) ms.length cap ∧ base ≤ g ∧ g < w.heap.size ∧ ms.length ≤ cap ∧ cap ≤ 9223372036854775807 ∧ RowsAt w w.heap.size 3 (some ⟨g, 0, none⟩) (ms.map Mem.cells) ∧ ∀ j, w.frozen? ⟨g, j, none⟩ = false := by
  rcases h.2 with ⟨_, h0⟩ | ⟨g, cap, cur, rfl, hg, hh, hc, hm, hcs, ht⟩
  · omega
  · refine ⟨g, cap, rfl, hg, Blk.lt (t := 38) (cs := cur) hh, hc, hm, ?_, fun j => Blk.frozen (t := 38) (cs := cur) hh j⟩
    obtain ⟨A, c, e, _, hr⟩ := rows_of_own (f := Mem.cells) Mem.cells_len (by decide) h
    injection e with e1
    subst e1
    exact hr

set_option maxRecDepth 100000 in
set_option maxHeartbeats 2000000 in
theorem remove_any (e' : Int) (A : Option Addr) (c i : Nat) (ms : List Mem) (L : Nat → Nat) (w : World) (hA : RowsAt w w.heap.size 3 A (ms.map Mem.cells)) (hl : ms.length ≤ 1000000) (hc : ms.length ≤ c) (hc' : c ≤ 9223372036854775807) (hi : i < ms.length) (h0 : 0 ≤ e') (h1 : e' ≤ 4294967295) :
    Calls Try.prog 68 #[VV e' A ms.length c L, .int .i64 i] w fun e w' => (∃ x, e = .returned (.tuple #[x, .bool (removeV ⟨e', ms, L⟩ i).2]) ∧ ViewV w' (removeV ⟨e', ms, L⟩ i).1 x) ∧ Below w.heap.size w w' := by
  have HA := Lib.hid hA
  clear hA
  go_enter Try.func68, Try.ntmps68
  go_wp2_with fail
  (with_reducible refine (Clone_any A c ms _ ((HA.out.up _).up _) hl).mono ?_); rintro e1 w1 ⟨⟨v, rfl, hown⟩, hb1⟩
  obtain ⟨g, cap, rfl, hg, hgl, hcap, hcm, hrow, hfz⟩ := own_open hown (by omega)
  have hz := hb1.size
  simp at hz hg
  go_wp2_with fail
  (with_reducible refine (Delete_any g cap i ms w1 hrow hfz hi hl hcap hcm).mono ?_); rintro e1 w2 ⟨⟨rfl, hrow2⟩, hf2⟩
  have hb2 := bl_fr (w := (w.alloc _).alloc _) hb1 hf2 (fun k hk => by simp; omega)
  obtain ⟨hcc, hcf⟩ := bcell hb2
  have hz2 := hb2.size
  simp at hz2
  have HC2 := Lib.hid hb2
  have hgl2 : g < w2.heap.size := by have := hf2.size; omega
  have hel : (ms.eraseIdx i).length = ms.length - 1 := List.length_eraseIdx_of_lt hi
  have HB2 := Lib.hid (bl_next (bl_alloc (bl_alloc (Below.refl w.heap.size w) _) _) hb2)
  have HR2 := Lib.hid hrow2
  rw [← hel]
  have HEL := Lib.hid hel
  have HA2 := Lib.hid ((((HA.out.up _).up _).below hb2).more hb2.size)
  clear hrow2 hrow hfz hown hb1 hb2 hf2 hel
  go_wp2_with fail
  refine (Ready_any 0 (some ⟨g, 0, none⟩) cap (ms.eraseIdx i) (fun _ => 0) w2 HR2.out (by have := HEL.out; omega)).mono ?_; rintro e1 w3 ⟨rfl, hb3⟩
  have hz3 := hb3.size
  clear hcc hcf
  have HC3 := Lib.hid (HC2.out.trans (hb3.mono HC2.out.size))
  obtain ⟨hd, hdf⟩ := bcell HC3.out
  have HB3 := Lib.hid (bl_next HB2.out hb3)
  have HA3 := Lib.hid (HA2.out.lift hb3)
  have HR3 := Lib.hid (HR2.out.lift hb3)
  clear hb3
  by_cases hr : ready (ms.eraseIdx i) = 0
  · have t : (((ready (ms.eraseIdx i) : Nat) : Int) == 0) = true := by simp [hr]
    have HF : Hid (removeV ⟨e', ms, L⟩ i = (⟨e', ms, L⟩, false)) := Lib.hid (if_pos hr)
    clear hr
    go_wp2_with fail
    refine bodyPost_ret (v := .tuple #[VV e' A ms.length c L, .bool false]) ?_ rfl ?_
    · simp [results, Try.results68, go_sem, hd]
    · refine ⟨⟨_, by rw [HF.out], ?_⟩, below_set10 HB3.out (by omega) _ _ _ _ _ _ _ _ _ _⟩
      rw [HF.out]
      exact ⟨A, c, rfl, hc, hc', HA.out.lift (below_set10 HB3.out (by omega) _ _ _ _ _ _ _ _ _ _)⟩
  · have t : (((ready (ms.eraseIdx i) : Nat) : Int) == 0) = false := by simp [hr]
    have HR := Lib.hid hr
    clear hr
    go_wp2_with fail
    by_cases hmx : e' = 4294967295
    · have tm : (e' == 4294967295) = true := by simp [hmx]
      have HF : Hid (removeV ⟨e', ms, L⟩ i = (⟨e', ms, L⟩, false)) := Lib.hid ((if_neg HR.out).trans (if_pos hmx))
      clear hmx
      refine (next_max _ _ _ _ _ _ _ _ _ tm).mono ?_; rintro e1 w4 ⟨rfl, hb4⟩
      have hz4 := hb4.size
      clear hd hdf
      obtain ⟨hx, hxf⟩ := bcell (HC3.out.trans (hb4.mono HC3.out.size))
      have HB4 := Lib.hid (bl_next HB3.out hb4)
      clear hb4 tm
      go_wp2_with fail
      refine bodyPost_ret (v := .tuple #[VV e' A ms.length c L, .bool false]) ?_ rfl ?_
      · simp [results, Try.results68, go_sem, hx]
      · refine ⟨⟨_, by rw [HF.out], ?_⟩, below_set10 HB4.out (by omega) _ _ _ _ _ _ _ _ _ _⟩
        rw [HF.out]
        exact ⟨A, c, rfl, hc, hc', HA.out.lift (below_set10 HB4.out (by omega) _ _ _ _ _ _ _ _ _ _)⟩
    · have HF : Hid (removeV ⟨e', ms, L⟩ i = (⟨e' + 1, ms.eraseIdx i, L⟩, true)) := Lib.hid ((if_neg HR.out).trans (if_neg hmx))
      refine (next_go _ _ _ _ _ _ _ _ _ h0 (by omega)).mono ?_; rintro e1 w4 ⟨rfl, hb4⟩
      have hz4 := hb4.size
      clear hd hdf
      obtain ⟨hx, hxf⟩ := bcell (HC3.out.trans (hb4.mono HC3.out.size))
      have HB4 := Lib.hid (bl_next HB3.out hb4)
      have HR4 := Lib.hid (HR3.out.lift hb4)
      clear hb4 hmx
      go_wp2_with fail
      refine bodyPost_ret (v := .tuple #[VV (e' + 1) (some ⟨g, 0, none⟩) (ms.eraseIdx i).length cap L, .bool true]) ?_ rfl ?_
      · simp [results, Try.results68, go_sem, hx]
      · refine ⟨⟨_, by rw [HF.out], ?_⟩, below_set10 HB4.out (by omega) _ _ _ _ _ _ _ _ _ _⟩
        rw [HF.out]
        exact ⟨_, cap, rfl, by have := HEL.out; show (ms.eraseIdx i).length ≤ cap; omega, hcm, rows_set10 HR4.out (by omega) (by omega) _ _ _ _ _ _ _ _ _ _⟩

abbrev VC (e : Int) (A : Option Addr) (n c : Nat) (L : Nat → Nat) : Array Value := #[.int .u32 e, .slice A n c, .int .u8 (L 0), .int .u8 (L 1), .int .u8 (L 2), .int .u8 (L 3), .int .u8 (L 4), .int .u8 (L 5), .int .u8 (L 6), .int .u8 (L 7)]
theorem vc_get (e : Int) (A : Option Addr) (n c : Nat) (L : Nat → Nat) {k : Nat} (hk : k < 8) : (VC e A n c L)[2 + k]? = some (.int .u8 (L k)) := by
  match k, hk with
  | 0, _ => rfl
  | 1, _ => rfl
  | 2, _ => rfl
  | 3, _ => rfl
  | 4, _ => rfl
  | 5, _ => rfl
  | 6, _ => rfl
  | 7, _ => rfl
theorem vc_set (e : Int) (A : Option Addr) (n c : Nat) (L : Nat → Nat) {k : Nat} (hk : k < 8) (x : Nat) : (VC e A n c L).setIfInBounds (2 + k) (.int .u8 x) = VC e A n c (upd L k x) := by
  match k, hk with
  | 0, _ => rfl
  | 1, _ => rfl
  | 2, _ => rfl
  | 3, _ => rfl
  | 4, _ => rfl
  | 5, _ => rfl
  | 6, _ => rfl
  | 7, _ => rfl
theorem below_of_drew {W w' : World} (h : Below W.drew.heap.size W.drew w') : Below W.heap.size W w' := ⟨h.os, h.tape, h.output, h.size, h.block⟩
def okB (node life : Nat) : Bool := decide (1 ≤ node ∧ node ≤ 8 ∧ 1 ≤ life ∧ life ≤ 200)

/-- where 'next' is laid, and what it holds -/
def AddR (wc : World) (V : Option Addr → Nat → Array Value) (ok : Bool) (ms2 : List Mem) (s7 s8 : Value) (wx : World) : Prop :=
  ∃ (g7 g2 : Nat) (c2 : Nat), s7 = .pointer (some ⟨g7, 0, none⟩) ∧ s8 = .bool ok ∧ wc.heap.size ≤ g7 ∧ Below wc.heap.size wc wx ∧
    Blk wx g7 28 (V (some ⟨g2, 0, none⟩) c2) ∧ ms2.length ≤ c2 ∧ c2 ≤ 9223372036854775807 ∧ RowsAt wx wx.heap.size 3 (some ⟨g2, 0, none⟩) (ms2.map Mem.cells) ∧ g2 ≠ g7 ∧ wc.heap.size ≤ g2 ∧ g2 < wx.heap.size
theorem own_slice {w : World} {base g c : Nat} {ms : List Mem} (h : w.ownsRow base 38 3 (.slice (some ⟨g, 0, none⟩) ms.length c) ms.length (ms.flatMap Mem.cells)) :
    ms.length ≤ c ∧ c ≤ 9223372036854775807 ∧ g < w.heap.size ∧ RowsAt w w.heap.size 3 (some ⟨g, 0, none⟩) (ms.map Mem.cells) := by
  obtain ⟨A, c', e, h1, hr⟩ := rows_of_own (f := Mem.cells) Mem.cells_len (by decide) h
  injection e with e1 e2 e3
  subst e1 e3
  rcases h.2 with ⟨h0, _⟩ | ⟨g', cap, cur, e, _, hh, hc, hm, _⟩
  · cases h0
  · injection e with e1 e2 e3
    injection e1 with e1
    injection e1 with e1
    subst e1 e3
    exact ⟨hc, hm, Blk.lt (t := 38) (cs := cur) hh, hr⟩
theorem own_add {w : World} {base g c : Nat} {ms : List Mem} {m : Mem} (h : w.ownsRow base 38 3 (.slice (some ⟨g, 0, none⟩) (ms.length + 1) c) (ms.length + 1) (ms.flatMap Mem.cells ++ m.cells)) :
    w.ownsRow base 38 3 (.slice (some ⟨g, 0, none⟩) (ms ++ [m]).length c) (ms ++ [m]).length ((ms ++ [m]).flatMap Mem.cells) := by
  simpa using h
theorem addR_set {wc w3 : World} {g2 c2 r : Nat} {ms2 : List Mem} {ok : Bool} {z0 z1 z2 z3 z4 z5 z6 z7 z8 z9 : Value} {V : Option Addr → Nat → Array Value} (hB : Below wc.heap.size wc w3) (ho : w3.ownsRow wc.heap.size 38 3 (.slice (some ⟨g2, 0, none⟩) ms2.length c2) ms2.length (ms2.flatMap Mem.cells))
    (hr : Blk w3 r 28 #[z0, z1, z2, z3, z4, z5, z6, z7, z8, z9]) (hle : wc.heap.size ≤ r) (a0 a1 a2 a3 a4 a5 a6 a7 a8 a9 : Value) (hV : #[a0, a1, a2, a3, a4, a5, a6, a7, a8, a9] = V (some ⟨g2, 0, none⟩) c2) :
    AddR wc V ok ms2 (.pointer (some ⟨r, 0, none⟩)) (.bool ok) ((((((((((w3.setCell ⟨r, 0, none⟩ a0).setCell ⟨r, 1, none⟩ a1).setCell ⟨r, 2, none⟩ a2).setCell ⟨r, 3, none⟩ a3).setCell ⟨r, 4, none⟩ a4).setCell ⟨r, 5, none⟩ a5).setCell ⟨r, 6, none⟩ a6).setCell ⟨r, 7, none⟩ a7).setCell ⟨r, 8, none⟩ a8).setCell ⟨r, 9, none⟩ a9) := by
  obtain ⟨h1, h2, h3, h4⟩ := own_slice ho
  have hne : g2 ≠ r := fun e => own_far ho hr (by decide) (by rw [e]; rfl)
  refine ⟨r, _, c2, rfl, rfl, hle, below_set10 hB hle _ _ _ _ _ _ _ _ _ _, ?_, h1, h2, rows_set10 h4 h3 hne _ _ _ _ _ _ _ _ _ _, hne, (ho.lt g2 rfl).1, by rw [size_set10']; exact h3⟩
  rw [← hV]
  have := (((((((((hr.set_ 0 a0).set_ 1 a1).set_ 2 a2).set_ 3 a3).set_ 4 a4).set_ 5 a5).set_ 6 a6).set_ 7 a7).set_ 8 a8).set_ 9 a9
  simpa using this
theorem addR_new {wc w3 : World} {g2 c2 : Nat} {ms2 : List Mem} {ok : Bool} {Z : Array Value} {V : Option Addr → Nat → Array Value} (hB : Below wc.heap.size wc w3) (ho : w3.ownsRow wc.heap.size 38 3 (.slice (some ⟨g2, 0, none⟩) ms2.length c2) ms2.length (ms2.flatMap Mem.cells))
    (hV : Z = V (some ⟨g2, 0, none⟩) c2) : AddR wc V ok ms2 (.pointer (some ⟨w3.heap.size, 0, none⟩)) (.bool ok) (w3.alloc (.cells Z 28)) := by
  obtain ⟨h1, h2, h3, h4⟩ := own_slice ho
  refine ⟨_, _, c2, rfl, rfl, hB.size, bl_alloc hB _, ?_, h1, h2, h4.up _, by omega, (ho.lt g2 rfl).1, by simp; omega⟩
  rw [← hV]
  exact Blk.new _ _ _

set_option maxRecDepth 100000 in
set_option maxHeartbeats 8000000 in
theorem add_any (e' : Int) (A : Option Addr) (c : Nat) (ms : List Mem) (L : Nat → Nat) (kd node life : Nat) (ep rq : Int) (w : World) (hA : RowsAt w w.heap.size 3 A (ms.map Mem.cells)) (hl : ms.length ≤ 1000000) (hc : ms.length ≤ c) (hc' : c ≤ 9223372036854775807) (h0 : 0 ≤ e') (h1 : e' ≤ 4294967295) (hL : ∀ k, L k < 256) (hn : node < 256) (hlf : life < 256) :
    Calls Try.prog 67 #[VV e' A ms.length c L, .agg #[.int .u8 kd, .int .u8 node, .int .u8 life, .int .u32 ep, .int .u32 rq]] w fun e w' => (∃ x, e = .returned (.tuple #[x, .bool (addV ⟨e', ms, L⟩ node life).2]) ∧ ViewV w' (addV ⟨e', ms, L⟩ node life).1 x) ∧ Below w.heap.size w w' := by
  have HA := Lib.hid hA
  have HL := Lib.hid hL
  clear hA hL
  go_enter Try.func67, Try.ntmps67
  go_upto_region 1 with (fail)
  have hb3 := bl_alloc (bl_alloc (bl_alloc (Below.refl w.heap.size w) (.cells #[.int .u32 e', .slice A ms.length c, .int .u8 (L 0), .int .u8 (L 1), .int .u8 (L 2), .int .u8 (L 3), .int .u8 (L 4), .int .u8 (L 5), .int .u8 (L 6), .int .u8 (L 7)] 28)) (.cells #[.int .u8 kd, .int .u8 node, .int .u8 life, .int .u32 ep, .int .u32 rq] 35)) (.cells #[.int .u32 0, .slice none 0 0, .int .u8 0, .int .u8 0, .int .u8 0, .int .u8 0, .int .u8 0, .int .u8 0, .int .u8 0, .int .u8 0] 28)
  have HA3 := Lib.hid (HA.out.lift hb3)
  have HB3 := Lib.hid hb3
  have X := Lib.hid (((Blk.new w 28 #[.int .u32 e', .slice A ms.length c, .int .u8 (L 0), .int .u8 (L 1), .int .u8 (L 2), .int .u8 (L 3), .int .u8 (L 4), .int .u8 (L 5), .int .u8 (L 6), .int .u8 (L 7)]).alloc (.cells #[.int .u8 kd, .int .u8 node, .int .u8 life, .int .u32 ep, .int .u32 rq] 35)).alloc (.cells #[.int .u32 0, .slice none 0 0, .int .u8 0, .int .u8 0, .int .u8 0, .int .u8 0, .int .u8 0, .int .u8 0, .int .u8 0, .int .u8 0] 28))
  have Y := Lib.hid ((Blk.new_ (w := w.alloc (.cells #[.int .u32 e', .slice A ms.length c, .int .u8 (L 0), .int .u8 (L 1), .int .u8 (L 2), .int .u8 (L 3), .int .u8 (L 4), .int .u8 (L 5), .int .u8 (L 6), .int .u8 (L 7)] 28)) (g := w.heap.size + 1) (t := 35) (cs := #[.int .u8 kd, .int .u8 node, .int .u8 life, .int .u32 ep, .int .u32 rq]) (by simp)).alloc (.cells #[.int .u32 0, .slice none 0 0, .int .u8 0, .int .u8 0, .int .u8 0, .int .u8 0, .int .u8 0, .int .u8 0, .int .u8 0, .int .u8 0] 28))
  have Z := Lib.hid (Blk.new_ (w := (w.alloc (.cells #[.int .u32 e', .slice A ms.length c, .int .u8 (L 0), .int .u8 (L 1), .int .u8 (L 2), .int .u8 (L 3), .int .u8 (L 4), .int .u8 (L 5), .int .u8 (L 6), .int .u8 (L 7)] 28)).alloc (.cells #[.int .u8 kd, .int .u8 node, .int .u8 life, .int .u32 ep, .int .u32 rq] 35)) (g := w.heap.size + 1 + 1) (t := 28) (cs := #[.int .u32 0, .slice none 0 0, .int .u8 0, .int .u8 0, .int .u8 0, .int .u8 0, .int .u8 0, .int .u8 0, .int .u8 0, .int .u8 0]) (by simp))
  clear hb3
  generalize ((w.alloc (.cells #[.int .u32 e', .slice A ms.length c, .int .u8 (L 0), .int .u8 (L 1), .int .u8 (L 2), .int .u8 (L 3), .int .u8 (L 4), .int .u8 (L 5), .int .u8 (L 6), .int .u8 (L 7)] 28)).alloc (.cells #[.int .u8 kd, .int .u8 node, .int .u8 life, .int .u32 ep, .int .u32 rq] 35)).alloc (.cells #[.int .u32 0, .slice none 0 0, .int .u8 0, .int .u8 0, .int .u8 0, .int .u8 0, .int .u8 0, .int .u8 0, .int .u8 0, .int .u8 0] 28) = W at *
  have ly := Y.out.lt
  have lz := Z.out.lt
  have lx := X.out.lt
  obtain ⟨gv, hgv⟩ : ∃ gv, gv = w.heap.size := ⟨_, rfl⟩
  obtain ⟨gc, hgc⟩ : ∃ gc, gc = w.heap.size + 1 := ⟨_, rfl⟩
  obtain ⟨gr, hgr⟩ : ∃ gr, gr = w.heap.size + 1 + 1 := ⟨_, rfl⟩
  have n1 : gv ≠ gc := by omega
  have n2 : gv ≠ gr := by omega
  have n3 : gc ≠ gr := by omega
  have lgr : w.heap.size ≤ gr := by omega
  rw [← hgr] at Z lz ⊢
  rw [← hgc] at Y ly ⊢
  rw [← hgv] at X lx ⊢
  have LGV := Lib.hid hgv
  clear hgv hgc hgr
  have x0 := X.out.cell 0
  have x1 := X.out.cell 1
  have x2 := X.out.cell 2
  have x3 := X.out.cell 3
  have x4 := X.out.cell 4
  have x5 := X.out.cell 5
  have x6 := X.out.cell 6
  have x7 := X.out.cell 7
  have x8 := X.out.cell 8
  have x9 := X.out.cell 9
  have y0 := Y.out.cell 0
  have y1 := Y.out.cell 1
  have y2 := Y.out.cell 2
  have y3 := Y.out.cell 3
  have y4 := Y.out.cell 4
  simp at x0 x1 x2 x3 x4 x5 x6 x7 x8 x9 y0 y1 y2 y3 y4
  go_cut [6] (fun s6 wx => s6 = .bool (okB node life) ∧ W = wx)
  case first =>
    by_cases hok : 1 ≤ node ∧ node ≤ 8 ∧ 1 ≤ life ∧ life ≤ 200
    · have HM : Hid (okB node life = true) := Lib.hid (decide_eq_true hok)
      obtain ⟨hx1, hx2, hx3, hx4⟩ := hok
      go_wp2_with fail
      go_meet
      exact ⟨by first | (rw [HM.out]; done) | (rw [HM.out]; congr 1; simp; omega), rfl⟩
    · have HM : Hid (okB node life = false) := Lib.hid (decide_eq_false hok)
      have hx : node < 1 ∨ (1 ≤ node ∧ 8 < node) ∨ (1 ≤ node ∧ node ≤ 8 ∧ life < 1) ∨ (1 ≤ node ∧ node ≤ 8 ∧ 1 ≤ life ∧ 200 < life) := by omega
      clear hok
      rcases hx with hx | ⟨hx1, hx2⟩ | ⟨hx1, hx2, hx3⟩ | ⟨hx1, hx2, hx3, hx4⟩
      all_goals
        go_wp2_with fail
        go_meet
        exact ⟨by first | (rw [HM.out]; done) | (rw [HM.out]; congr 1; simp; omega), rfl⟩
  case rest =>
    obtain ⟨rfl, rfl⟩ := hcut
    go_upto_region 2 with (fail)
    go_cut [6, 52] (fun s6 s52 wx => s52 = .bool (!may ⟨e', ms, L⟩ node life) ∧ Below W.heap.size W wx)
    case first =>
      by_cases hok : 1 ≤ node ∧ node ≤ 8 ∧ 1 ≤ life ∧ life ≤ 200
      · have HO : Hid (okB node life = true) := Lib.hid (decide_eq_true hok)
        rw [HO.out]
        obtain ⟨k, rfl⟩ : ∃ k, node = k + 1 := ⟨node - 1, by omega⟩
        have hk8 : k < 8 := by omega
        have xk : W.cell? ⟨gv, 2 + k, none⟩ = some (.int .u8 (L k)) := (X.out.cell (2 + k)).trans (vc_get e' A ms.length c L hk8)
        have hlk := HL.out k
        generalize hlkk : L k = lk at *
        have HLK := Lib.hid hlkk
        clear hlkk
        have hat := atI_lt ms (k + 1)
        cases ha : atN ms (k + 1) with
        | some j =>
          have hi : atI ms (k + 1) = j := by simp [atI, ha]
          have HM : Hid (may ⟨e', ms, L⟩ (k + 1) life = false) := Lib.hid (decide_eq_false (fun h => by have := h.2.2.2.2.1; rw [ha] at this; cases this))
          have hcall := fun (w : World) (hw : RowsAt w w.heap.size 3 A (ms.map Mem.cells)) => at_any e' A c (k + 1) ms L w hw (by omega)
          rw [hi, show ((k + 1 : Nat) : Int) = (k : Int) + 1 from by omega] at hcall
          have HCALL := Lib.hid hcall
          clear hcall hi ha hok hat
          refine wp_region_phases [6] (by kernel_rfl) (by kernel_rfl) (by kernel_rfl) ?_
          simp only [wpPhases, List.take_succ_cons, List.take_zero, List.drop_succ_cons, List.drop_zero, Nat.sub_zero]
          repeat go_big_quiet_step (fail)
          refine wpQuiet_nil ?_
          go_wp2_with fail
          (with_reducible refine (HCALL.out W.drew (HA3.out.drew.more (by simp))).mono ?_); rintro e1 w1 ⟨rfl, hb1⟩
          have HB1 := Lib.hid hb1
          obtain ⟨x0, x1, x2, x3, x4, x5, x6, x7, x8, x9⟩ := (X.out.after hb1).ten
          obtain ⟨y0, y1, y2, y3, y4⟩ := (Y.out.after hb1).five
          rw [show ((k + 1 : Nat) : Int) = (k : Int) + 1 from by omega] at y1
          clear hb1
          go_wp2_with fail
          repeat go_big_quiet_step (fail)
          refine wpQuiet_nil ?_
          all_goals
            go_wp2_with fail
            go_meet
            exact ⟨by rw [HM.out]; first | rfl | (congr 1; simp; omega), (show Below W.heap.size W _ from below_of_drew HB1.out)⟩
        | none =>
          have hi : atI ms (k + 1) = -1 := by simp [atI, ha]
          have hcall := fun (w : World) (hw : RowsAt w w.heap.size 3 A (ms.map Mem.cells)) => at_any e' A c (k + 1) ms L w hw (by omega)
          rw [hi, show ((k + 1 : Nat) : Int) = (k : Int) + 1 from by omega] at hcall
          have HCALL := Lib.hid hcall
          have XK := Lib.hid (fun w1 (hb1 : Below W.drew.heap.size W.drew w1) => show w1.cell? ⟨gv, 2 + k, none⟩ = some (.int .u8 lk) from (hb1.cell (p := ⟨gv, 2 + k, none⟩) lx).trans ((World.cell?_drew W _).trans xk))
          clear hcall hi hat
          have hx : 8 ≤ ms.length ∨ (ms.length < 8 ∧ life ≤ lk) ∨ (ms.length < 8 ∧ lk < life) := by omega
          rcases hx with hx | ⟨hx1, hx2⟩ | ⟨hx1, hx2⟩
          · have HM : Hid (may ⟨e', ms, L⟩ (k + 1) life = false) := Lib.hid (decide_eq_false (fun h => by have h6 := h.2.2.2.2.2.1; have h6 : ms.length < 8 := h6; omega))
            clear hok ha
            have t8 : decide ((8 : Int) ≤ (ms.length : Int)) = true := by simp; omega
            refine wp_region_phases [6] (by kernel_rfl) (by kernel_rfl) (by kernel_rfl) ?_
            simp only [wpPhases, List.take_succ_cons, List.take_zero, List.drop_succ_cons, List.drop_zero, Nat.sub_zero]
            repeat go_big_quiet_step (fail)
            refine wpQuiet_nil ?_
            go_wp2_with fail
            (with_reducible refine (HCALL.out W.drew (HA3.out.drew.more (by simp))).mono ?_); rintro e1 w1 ⟨rfl, hb1⟩
            have HB1 := Lib.hid hb1
            obtain ⟨x0, x1, x2, x3, x4, x5, x6, x7, x8, x9⟩ := (X.out.after hb1).ten
            obtain ⟨y0, y1, y2, y3, y4⟩ := (Y.out.after hb1).five
            rw [show ((k + 1 : Nat) : Int) = (k : Int) + 1 from by omega] at y1
            have xk := XK.out _ hb1
            clear hb1
            go_wp2_with fail
            repeat go_big_quiet_step (fail)
            refine wpQuiet_nil ?_
            all_goals
              go_wp2_with fail
              go_meet
              exact ⟨by rw [HM.out]; first | rfl | (congr 1; simp; omega), (show Below W.heap.size W _ from below_of_drew HB1.out)⟩
          · have HM : Hid (may ⟨e', ms, L⟩ (k + 1) life = false) := Lib.hid (decide_eq_false (fun h => by have h7 : L (k + 1 - 1) < life := h.2.2.2.2.2.2; rw [show k + 1 - 1 = k from rfl, HLK.out] at h7; omega))
            clear hok ha
            have t8 : decide ((8 : Int) ≤ (ms.length : Int)) = false := by simp; omega
            have t9 : decide ((life : Int) ≤ (lk : Int)) = true := by simp; omega
            refine wp_region_phases [6] (by kernel_rfl) (by kernel_rfl) (by kernel_rfl) ?_
            simp only [wpPhases, List.take_succ_cons, List.take_zero, List.drop_succ_cons, List.drop_zero, Nat.sub_zero]
            repeat go_big_quiet_step (fail)
            refine wpQuiet_nil ?_
            go_wp2_with fail
            (with_reducible refine (HCALL.out W.drew (HA3.out.drew.more (by simp))).mono ?_); rintro e1 w1 ⟨rfl, hb1⟩
            have HB1 := Lib.hid hb1
            obtain ⟨x0, x1, x2, x3, x4, x5, x6, x7, x8, x9⟩ := (X.out.after hb1).ten
            obtain ⟨y0, y1, y2, y3, y4⟩ := (Y.out.after hb1).five
            rw [show ((k + 1 : Nat) : Int) = (k : Int) + 1 from by omega] at y1
            have xk := XK.out _ hb1
            clear hb1
            go_wp2_with fail
            repeat go_big_quiet_step (fail)
            refine wpQuiet_nil ?_
            all_goals
              go_wp2_with fail
              go_meet
              exact ⟨by rw [HM.out]; first | rfl | (congr 1; simp; omega), (show Below W.heap.size W _ from below_of_drew HB1.out)⟩
          · have HM : Hid (may ⟨e', ms, L⟩ (k + 1) life = true) := Lib.hid (decide_eq_true ⟨hok.1, hok.2.1, hok.2.2.1, hok.2.2.2, ha, hx1, by show L (k + 1 - 1) < life; rw [show k + 1 - 1 = k from rfl, HLK.out]; exact hx2⟩)
            clear hok ha
            have t8 : decide ((8 : Int) ≤ (ms.length : Int)) = false := by simp; omega
            have t9 : decide ((life : Int) ≤ (lk : Int)) = false := by simp; omega
            refine wp_region_phases [6] (by kernel_rfl) (by kernel_rfl) (by kernel_rfl) ?_
            simp only [wpPhases, List.take_succ_cons, List.take_zero, List.drop_succ_cons, List.drop_zero, Nat.sub_zero]
            repeat go_big_quiet_step (fail)
            refine wpQuiet_nil ?_
            go_wp2_with fail
            (with_reducible refine (HCALL.out W.drew (HA3.out.drew.more (by simp))).mono ?_); rintro e1 w1 ⟨rfl, hb1⟩
            have HB1 := Lib.hid hb1
            obtain ⟨x0, x1, x2, x3, x4, x5, x6, x7, x8, x9⟩ := (X.out.after hb1).ten
            obtain ⟨y0, y1, y2, y3, y4⟩ := (Y.out.after hb1).five
            rw [show ((k + 1 : Nat) : Int) = (k : Int) + 1 from by omega] at y1
            have xk := XK.out _ hb1
            clear hb1
            go_wp2_with fail
            repeat go_big_quiet_step (fail)
            refine wpQuiet_nil ?_
            all_goals
              go_wp2_with fail
              go_meet
              exact ⟨by rw [HM.out]; first | rfl | (congr 1; simp; omega), (show Below W.heap.size W _ from below_of_drew HB1.out)⟩
      · have HM : Hid (may ⟨e', ms, L⟩ node life = false) := Lib.hid (decide_eq_false (fun h => hok ⟨h.1, h.2.1, h.2.2.1, h.2.2.2.1⟩))
        have HO : Hid (okB node life = false) := Lib.hid (decide_eq_false hok)
        rw [HO.out]
        clear hok
        go_quiet (fail)
        go_wp2_with fail
        go_meet
        exact ⟨by first | (rw [HM.out]; done) | (rw [HM.out]; rfl), below_drewN (Below.refl _ _) _⟩
    case rest =>
      obtain ⟨rfl, hbc⟩ := hcut
      have X := Lib.hid (X.out.behind hbc)
      have Y := Lib.hid (Y.out.behind hbc)
      have Z := Lib.hid (Z.out.behind hbc)
      have HBC := Lib.hid (HB3.out.trans (hbc.mono HB3.out.size))
      have HAC := Lib.hid (HA3.out.lift hbc)
      have lz := Z.out.lt
      clear x0 x1 x2 x3 x4 x5 x6 x7 x8 x9 y0 y1 y2 y3 y4 hbc
      obtain ⟨x0, x1, x2, x3, x4, x5, x6, x7, x8, x9⟩ := X.out.ten
      obtain ⟨y0, y1, y2, y3, y4⟩ := Y.out.five
      cases hmay : may ⟨e', ms, L⟩ node life with
      | false =>
        have HF : Hid (addV ⟨e', ms, L⟩ node life = (⟨e', ms, L⟩, false)) := Lib.hid (by unfold addV; rw [hmay]; rfl)
        have zf := Z.out.frozen
        obtain ⟨z0, z1, z2, z3, z4, z5, z6, z7, z8, z9⟩ := Z.out.ten
        clear hmay
        go_wp2_with fail
        refine bodyPost_ret (v := .tuple #[VV e' A ms.length c L, .bool false]) ?_ rfl ?_
        · simp [results, Try.results67, go_sem, z0, z1, z2, z3, z4, z5, z6, z7, z8, z9]
        · refine ⟨⟨_, by rw [HF.out], ?_⟩, below_set10 HBC.out lgr _ _ _ _ _ _ _ _ _ _⟩
          rw [HF.out]
          exact ⟨A, c, rfl, hc, hc', HA.out.lift (below_set10 HBC.out lgr _ _ _ _ _ _ _ _ _ _)⟩
      | true =>
        have hmay' : 1 ≤ node ∧ node ≤ 8 ∧ 1 ≤ life ∧ life ≤ 200 ∧ atN ms node = none ∧ ms.length < 8 ∧ L (node - 1) < life := of_decide_eq_true hmay
        obtain ⟨k, rfl⟩ : ∃ k, node = k + 1 := ⟨node - 1, by omega⟩
        have hk8 : k < 8 := by omega
        have hl8 := hmay'.2.2.2.2.2.1
        clear hmay'
        obtain ⟨i0, hi0, hz0, hz1, hz2⟩ := info_parts infoMem
        have CL := Lib.hid (fun (wx : World) (hx : RowsAt wx wx.heap.size 3 A (ms.map Mem.cells)) => Clone_any A c ms wx hx hl)
        obtain ⟨wq, rfl⟩ : ∃ wq : World, wq = wc := ⟨_, rfl⟩
        go_upto_region 4 with (fail)
        go_cut [7, 8] (fun s7 s8 wx => AddR wq (fun A2 c2 => if e' = 4294967295 then VC e' A ms.length c L else VC (e' + 1) A2 (ms.length + 1) c2 L) (decide (e' ≠ 4294967295)) (ms ++ [(⟨k + 1, life, false⟩ : Mem)]) s7 s8 wx)
        case first =>
          have hne1 : ms.length + 1 ≤ 9 := by omega
          by_cases hmx : e' = 4294967295
          · have t : (e' == 4294967295) = true := by simp [hmx]
            have NXT := Lib.hid (fun A' n' c' wx => next_max e' A c ms.length L A' n' c' wx t)
            have HX := Lib.hid hmx
            have lgv : gv < wq.heap.size := X.out.lt
            have lgc : gc < wq.heap.size := Y.out.lt
            have HAD : Hid (RowsAt wq.drew wq.drew.heap.size 3 A (ms.map Mem.cells)) := Lib.hid HAC.out.drew
            clear hmx
            go_region_held3 (fun w' => w'.cell? ⟨gv, 0, none⟩ = some (.int .u32 e') ∧ w'.cell? ⟨gv, 1, none⟩ = some (.slice A ms.length c) ∧ w'.cell? ⟨gv, 2, none⟩ = some (.int .u8 (L 0)) ∧ w'.cell? ⟨gv, 3, none⟩ = some (.int .u8 (L 1)) ∧ w'.cell? ⟨gv, 4, none⟩ = some (.int .u8 (L 2)) ∧ w'.cell? ⟨gv, 5, none⟩ = some (.int .u8 (L 3)) ∧ w'.cell? ⟨gv, 6, none⟩ = some (.int .u8 (L 4)) ∧ w'.cell? ⟨gv, 7, none⟩ = some (.int .u8 (L 5)) ∧ w'.cell? ⟨gv, 8, none⟩ = some (.int .u8 (L 6)) ∧ w'.cell? ⟨gv, 9, none⟩ = some (.int .u8 (L 7)) ∧ w'.cell? ⟨gc, 1, none⟩ = some (.int .u8 ((k : Int) + 1)) ∧ w'.cell? ⟨gc, 2, none⟩ = some (.int .u8 life))
              (go_keep)
              (first
                | (go_at_call 69; refine (CL.out _ (by first | exact HAD.out | exact HAD.out.up _ | exact (HAD.out.up _).up _)).mono ?_; rintro e1 w1 ⟨⟨v1, rfl, hown1⟩, hb1⟩; have BL1 := Lib.hid (bl_next (w := wq) (by first | exact (Below.refl _ _).drew | exact bl_alloc (Below.refl _ _).drew _ | exact bl_alloc (bl_alloc (Below.refl _ _).drew _) _) hb1); have OW := Lib.hid (own_mono (base' := wq.heap.size) hown1 (by first | exact Nat.le_refl _ | (simp; done) | (simp; omega) | fail)); (first | have BB := Lib.hid (Blk.behind (t := 38) (cs := #[.int .u8 ((k : Int) + 1), .int .u8 life, .bool false]) (g := wq.heap.size) (by first | exact Blk.new _ _ _ | exact (Blk.new _ _ _).alloc _ | exact Blk.new1 _ _ _ _ | exact (Blk.new1 _ _ _ _).alloc _ | fail) hb1) | have BB := Lib.hid (Blk.behind (t := 38) (cs := #[.int .u8 ((k : Int) + 1), .int .u8 life, .bool false]) (g := wq.heap.size + 1) (by first | exact Blk.new _ _ _ | exact (Blk.new _ _ _).alloc _ | exact Blk.new1 _ _ _ _ | exact (Blk.new1 _ _ _ _).alloc _ | fail) hb1) | skip); (first | have RR := Lib.hid (Blk.behind (t := 28) (cs := #[.int .u32 0, .slice none 0 0, .int .u8 0, .int .u8 0, .int .u8 0, .int .u8 0, .int .u8 0, .int .u8 0, .int .u8 0, .int .u8 0]) (g := wq.heap.size) (by first | exact Blk.new _ _ _ | exact (Blk.new _ _ _).alloc _ | exact Blk.new1 _ _ _ _ | exact (Blk.new1 _ _ _ _).alloc _ | fail) hb1) | have RR := Lib.hid (Blk.behind (t := 28) (cs := #[.int .u32 0, .slice none 0 0, .int .u8 0, .int .u8 0, .int .u8 0, .int .u8 0, .int .u8 0, .int .u8 0, .int .u8 0, .int .u8 0]) (g := wq.heap.size + 1) (by first | exact Blk.new _ _ _ | exact (Blk.new _ _ _).alloc _ | exact Blk.new1 _ _ _ _ | exact (Blk.new1 _ _ _ _).alloc _ | fail) hb1) | skip); obtain ⟨x0, x1, x2, x3, x4, x5, x6, x7, x8, x9⟩ := (X.out.behind BL1.out).ten; obtain ⟨y0, y1, y2, y3, y4⟩ := (Y.out.behind BL1.out).five; rw [show ((k + 1 : Nat) : Int) = (k : Int) + 1 from by omega] at y1; clear hb1 hown1)
                | (refine step_append_lies _ (by rfl) (.tmp 58) (.tmp 64) _ (by rfl) wq.heap.size 38 i0 _ 3 3 Try.underlying25 hi0 hz0 hz1 hz2 rfl (by omega) v1 ms.length (ms.flatMap Mem.cells) (by rfl) (by first | exact OW.out | exact OW.out.alloc _ | exact (OW.out.alloc _).alloc _) ⟨wq.heap.size, 0, none⟩ 1 1 [.int .u8 ((k : Int) + 1), .int .u8 life, .bool false] (by rfl) (by rfl) (World.news_of_block (cs := #[.int .u8 ((k : Int) + 1), .int .u8 life, .bool false]) (t := 38) (fr := (0, 0)) (by first | exact BB.out | exact BB.out.alloc _ | exact (BB.out.alloc _).alloc _)) (by simp [Value.oneCell']) (by omega) (by unfold maxLen; omega) (by omega) (by have := BL1.out.size; simp; omega) _ rfl ?_; intro g2 c2 w2 hown2 hg2 hat2 hlt2; have BL2 := Lib.hid (below_grown (w0 := wq) (B := wq.heap.size) (v := v1) (by first | exact BL1.out | exact bl_alloc BL1.out _ | exact bl_alloc (bl_alloc BL1.out _) _) (by have := BL1.out.size; simp; omega) hg2 (fun q hq => (OW.out.lt q hq).1) (by have := BL1.out.size; simp; omega)); have OW2 := Lib.hid hown2; (first | have RR := Lib.hid (Blk.grownFar (t := 28) (cs := #[.int .u32 0, .slice none 0 0, .int .u8 0, .int .u8 0, .int .u8 0, .int .u8 0, .int .u8 0, .int .u8 0, .int .u8 0, .int .u8 0]) hg2 (by first | exact RR.out | exact RR.out.alloc _ | exact (RR.out.alloc _).alloc _) (by first | exact OW.out | exact OW.out.alloc _ | exact (OW.out.alloc _).alloc _) (by decide)) | have RR := Lib.hid (Blk.grownFar (g := w1.heap.size) (t := 28) (cs := #[.int .u32 0, .slice none 0 0, .int .u8 0, .int .u8 0, .int .u8 0, .int .u8 0, .int .u8 0, .int .u8 0, .int .u8 0, .int .u8 0]) hg2 (by first | exact Blk.new _ _ _ | exact (Blk.new _ _ _).alloc _ | exact Blk.new1 _ _ _ _ | exact (Blk.new1 _ _ _ _).alloc _ | fail) (by first | exact OW.out | exact OW.out.alloc _ | exact (OW.out.alloc _).alloc _) (by decide)) | have RR := Lib.hid (Blk.grownFar (g := w1.heap.size + 1) (t := 28) (cs := #[.int .u32 0, .slice none 0 0, .int .u8 0, .int .u8 0, .int .u8 0, .int .u8 0, .int .u8 0, .int .u8 0, .int .u8 0, .int .u8 0]) hg2 (by first | exact Blk.new _ _ _ | exact (Blk.new _ _ _).alloc _ | exact Blk.new1 _ _ _ _ | exact (Blk.new1 _ _ _ _).alloc _ | fail) (by first | exact OW.out | exact OW.out.alloc _ | exact (OW.out.alloc _).alloc _) (by decide)) | skip); obtain ⟨x0, x1, x2, x3, x4, x5, x6, x7, x8, x9⟩ := (X.out.behind BL2.out).ten; obtain ⟨y0, y1, y2, y3, y4⟩ := (Y.out.behind BL2.out).five; rw [show ((k + 1 : Nat) : Int) = (k : Int) + 1 from by omega] at y1; clear hown2 hg2 hat2)
                | (refine step_append_lies _ (by rfl) (.tmp 58) (.tmp 64) _ (by rfl) wq.heap.size 38 i0 _ 3 3 Try.underlying25 hi0 hz0 hz1 hz2 rfl (by omega) v1 ms.length (ms.flatMap Mem.cells) (by rfl) (by first | exact OW.out | exact OW.out.alloc _ | exact (OW.out.alloc _).alloc _) ⟨wq.heap.size + 1, 0, none⟩ 1 1 [.int .u8 ((k : Int) + 1), .int .u8 life, .bool false] (by rfl) (by rfl) (World.news_of_block (cs := #[.int .u8 ((k : Int) + 1), .int .u8 life, .bool false]) (t := 38) (fr := (0, 0)) (by first | exact BB.out | exact BB.out.alloc _ | exact (BB.out.alloc _).alloc _)) (by simp [Value.oneCell']) (by omega) (by unfold maxLen; omega) (by omega) (by have := BL1.out.size; simp; omega) _ rfl ?_; intro g2 c2 w2 hown2 hg2 hat2 hlt2; have BL2 := Lib.hid (below_grown (w0 := wq) (B := wq.heap.size) (v := v1) (by first | exact BL1.out | exact bl_alloc BL1.out _ | exact bl_alloc (bl_alloc BL1.out _) _) (by have := BL1.out.size; simp; omega) hg2 (fun q hq => (OW.out.lt q hq).1) (by have := BL1.out.size; simp; omega)); have OW2 := Lib.hid hown2; (first | have RR := Lib.hid (Blk.grownFar (t := 28) (cs := #[.int .u32 0, .slice none 0 0, .int .u8 0, .int .u8 0, .int .u8 0, .int .u8 0, .int .u8 0, .int .u8 0, .int .u8 0, .int .u8 0]) hg2 (by first | exact RR.out | exact RR.out.alloc _ | exact (RR.out.alloc _).alloc _) (by first | exact OW.out | exact OW.out.alloc _ | exact (OW.out.alloc _).alloc _) (by decide)) | have RR := Lib.hid (Blk.grownFar (g := w1.heap.size) (t := 28) (cs := #[.int .u32 0, .slice none 0 0, .int .u8 0, .int .u8 0, .int .u8 0, .int .u8 0, .int .u8 0, .int .u8 0, .int .u8 0, .int .u8 0]) hg2 (by first | exact Blk.new _ _ _ | exact (Blk.new _ _ _).alloc _ | exact Blk.new1 _ _ _ _ | exact (Blk.new1 _ _ _ _).alloc _ | fail) (by first | exact OW.out | exact OW.out.alloc _ | exact (OW.out.alloc _).alloc _) (by decide)) | have RR := Lib.hid (Blk.grownFar (g := w1.heap.size + 1) (t := 28) (cs := #[.int .u32 0, .slice none 0 0, .int .u8 0, .int .u8 0, .int .u8 0, .int .u8 0, .int .u8 0, .int .u8 0, .int .u8 0, .int .u8 0]) hg2 (by first | exact Blk.new _ _ _ | exact (Blk.new _ _ _).alloc _ | exact Blk.new1 _ _ _ _ | exact (Blk.new1 _ _ _ _).alloc _ | fail) (by first | exact OW.out | exact OW.out.alloc _ | exact (OW.out.alloc _).alloc _) (by decide)) | skip); obtain ⟨x0, x1, x2, x3, x4, x5, x6, x7, x8, x9⟩ := (X.out.behind BL2.out).ten; obtain ⟨y0, y1, y2, y3, y4⟩ := (Y.out.behind BL2.out).five; rw [show ((k + 1 : Nat) : Int) = (k : Int) + 1 from by omega] at y1; clear hown2 hg2 hat2)
                | (refine step_append_lies _ (by rfl) (.tmp 58) (.tmp 64) _ (by rfl) wq.heap.size 38 i0 _ 3 3 Try.underlying25 hi0 hz0 hz1 hz2 rfl (by omega) v1 ms.length (ms.flatMap Mem.cells) (by rfl) (by first | exact OW.out | exact OW.out.alloc _ | exact (OW.out.alloc _).alloc _) ⟨w1.heap.size, 0, none⟩ 1 1 [.int .u8 ((k : Int) + 1), .int .u8 life, .bool false] (by rfl) (by rfl) (World.news_of_block (cs := #[.int .u8 ((k : Int) + 1), .int .u8 life, .bool false]) (t := 38) (fr := (0, 0)) (by first | exact Blk.new _ _ _ | exact (Blk.new _ _ _).alloc _ | exact Blk.new1 _ _ _ _ | exact (Blk.new1 _ _ _ _).alloc _ | fail)) (by simp [Value.oneCell']) (by omega) (by unfold maxLen; omega) (by omega) (by have := BL1.out.size; simp; omega) _ rfl ?_; intro g2 c2 w2 hown2 hg2 hat2 hlt2; have BL2 := Lib.hid (below_grown (w0 := wq) (B := wq.heap.size) (v := v1) (by first | exact BL1.out | exact bl_alloc BL1.out _ | exact bl_alloc (bl_alloc BL1.out _) _) (by have := BL1.out.size; simp; omega) hg2 (fun q hq => (OW.out.lt q hq).1) (by have := BL1.out.size; simp; omega)); have OW2 := Lib.hid hown2; (first | have RR := Lib.hid (Blk.grownFar (t := 28) (cs := #[.int .u32 0, .slice none 0 0, .int .u8 0, .int .u8 0, .int .u8 0, .int .u8 0, .int .u8 0, .int .u8 0, .int .u8 0, .int .u8 0]) hg2 (by first | exact RR.out | exact RR.out.alloc _ | exact (RR.out.alloc _).alloc _) (by first | exact OW.out | exact OW.out.alloc _ | exact (OW.out.alloc _).alloc _) (by decide)) | have RR := Lib.hid (Blk.grownFar (g := w1.heap.size) (t := 28) (cs := #[.int .u32 0, .slice none 0 0, .int .u8 0, .int .u8 0, .int .u8 0, .int .u8 0, .int .u8 0, .int .u8 0, .int .u8 0, .int .u8 0]) hg2 (by first | exact Blk.new _ _ _ | exact (Blk.new _ _ _).alloc _ | exact Blk.new1 _ _ _ _ | exact (Blk.new1 _ _ _ _).alloc _ | fail) (by first | exact OW.out | exact OW.out.alloc _ | exact (OW.out.alloc _).alloc _) (by decide)) | have RR := Lib.hid (Blk.grownFar (g := w1.heap.size + 1) (t := 28) (cs := #[.int .u32 0, .slice none 0 0, .int .u8 0, .int .u8 0, .int .u8 0, .int .u8 0, .int .u8 0, .int .u8 0, .int .u8 0, .int .u8 0]) hg2 (by first | exact Blk.new _ _ _ | exact (Blk.new _ _ _).alloc _ | exact Blk.new1 _ _ _ _ | exact (Blk.new1 _ _ _ _).alloc _ | fail) (by first | exact OW.out | exact OW.out.alloc _ | exact (OW.out.alloc _).alloc _) (by decide)) | skip); obtain ⟨x0, x1, x2, x3, x4, x5, x6, x7, x8, x9⟩ := (X.out.behind BL2.out).ten; obtain ⟨y0, y1, y2, y3, y4⟩ := (Y.out.behind BL2.out).five; rw [show ((k + 1 : Nat) : Int) = (k : Int) + 1 from by omega] at y1; clear hown2 hg2 hat2)
                | (refine step_append_lies _ (by rfl) (.tmp 58) (.tmp 64) _ (by rfl) wq.heap.size 38 i0 _ 3 3 Try.underlying25 hi0 hz0 hz1 hz2 rfl (by omega) v1 ms.length (ms.flatMap Mem.cells) (by rfl) (by first | exact OW.out | exact OW.out.alloc _ | exact (OW.out.alloc _).alloc _) ⟨w1.heap.size + 1, 0, none⟩ 1 1 [.int .u8 ((k : Int) + 1), .int .u8 life, .bool false] (by rfl) (by rfl) (World.news_of_block (cs := #[.int .u8 ((k : Int) + 1), .int .u8 life, .bool false]) (t := 38) (fr := (0, 0)) (by first | exact Blk.new _ _ _ | exact (Blk.new _ _ _).alloc _ | exact Blk.new1 _ _ _ _ | exact (Blk.new1 _ _ _ _).alloc _ | fail)) (by simp [Value.oneCell']) (by omega) (by unfold maxLen; omega) (by omega) (by have := BL1.out.size; simp; omega) _ rfl ?_; intro g2 c2 w2 hown2 hg2 hat2 hlt2; have BL2 := Lib.hid (below_grown (w0 := wq) (B := wq.heap.size) (v := v1) (by first | exact BL1.out | exact bl_alloc BL1.out _ | exact bl_alloc (bl_alloc BL1.out _) _) (by have := BL1.out.size; simp; omega) hg2 (fun q hq => (OW.out.lt q hq).1) (by have := BL1.out.size; simp; omega)); have OW2 := Lib.hid hown2; (first | have RR := Lib.hid (Blk.grownFar (t := 28) (cs := #[.int .u32 0, .slice none 0 0, .int .u8 0, .int .u8 0, .int .u8 0, .int .u8 0, .int .u8 0, .int .u8 0, .int .u8 0, .int .u8 0]) hg2 (by first | exact RR.out | exact RR.out.alloc _ | exact (RR.out.alloc _).alloc _) (by first | exact OW.out | exact OW.out.alloc _ | exact (OW.out.alloc _).alloc _) (by decide)) | have RR := Lib.hid (Blk.grownFar (g := w1.heap.size) (t := 28) (cs := #[.int .u32 0, .slice none 0 0, .int .u8 0, .int .u8 0, .int .u8 0, .int .u8 0, .int .u8 0, .int .u8 0, .int .u8 0, .int .u8 0]) hg2 (by first | exact Blk.new _ _ _ | exact (Blk.new _ _ _).alloc _ | exact Blk.new1 _ _ _ _ | exact (Blk.new1 _ _ _ _).alloc _ | fail) (by first | exact OW.out | exact OW.out.alloc _ | exact (OW.out.alloc _).alloc _) (by decide)) | have RR := Lib.hid (Blk.grownFar (g := w1.heap.size + 1) (t := 28) (cs := #[.int .u32 0, .slice none 0 0, .int .u8 0, .int .u8 0, .int .u8 0, .int .u8 0, .int .u8 0, .int .u8 0, .int .u8 0, .int .u8 0]) hg2 (by first | exact Blk.new _ _ _ | exact (Blk.new _ _ _).alloc _ | exact Blk.new1 _ _ _ _ | exact (Blk.new1 _ _ _ _).alloc _ | fail) (by first | exact OW.out | exact OW.out.alloc _ | exact (OW.out.alloc _).alloc _) (by decide)) | skip); obtain ⟨x0, x1, x2, x3, x4, x5, x6, x7, x8, x9⟩ := (X.out.behind BL2.out).ten; obtain ⟨y0, y1, y2, y3, y4⟩ := (Y.out.behind BL2.out).five; rw [show ((k + 1 : Nat) : Int) = (k : Int) + 1 from by omega] at y1; clear hown2 hg2 hat2)
                | (go_at_call 102; refine (NXT.out (some ⟨g2, 0, none⟩) (ms.length + 1) c2 _).mono ?_; rintro e1 w3 ⟨rfl, hb3⟩; have BL3 := Lib.hid (bl_next (w := wq) (by first | exact BL2.out | exact bl_alloc BL2.out _ | exact bl_alloc (bl_alloc BL2.out _) _) hb3); have hz1 := BL1.out.size; have hz2 := BL2.out.size; have : ¬ gv = wq.heap.size := (by omega); have : ¬ wq.heap.size = gv := (by omega); have : ¬ gv = wq.heap.size + 1 := (by omega); have : ¬ wq.heap.size + 1 = gv := (by omega); have : ¬ gv = w1.heap.size := (by omega); have : ¬ w1.heap.size = gv := (by omega); have : ¬ gv = w1.heap.size + 1 := (by omega); have : ¬ w1.heap.size + 1 = gv := (by omega); have : ¬ gv = w2.heap.size := (by omega); have : ¬ w2.heap.size = gv := (by omega); have : ¬ gv = w2.heap.size + 1 := (by omega); have : ¬ w2.heap.size + 1 = gv := (by omega); have : ¬ gc = wq.heap.size := (by omega); have : ¬ wq.heap.size = gc := (by omega); have : ¬ gc = wq.heap.size + 1 := (by omega); have : ¬ wq.heap.size + 1 = gc := (by omega); have : ¬ gc = w1.heap.size := (by omega); have : ¬ w1.heap.size = gc := (by omega); have : ¬ gc = w1.heap.size + 1 := (by omega); have : ¬ w1.heap.size + 1 = gc := (by omega); have : ¬ gc = w2.heap.size := (by omega); have : ¬ w2.heap.size = gc := (by omega); have : ¬ gc = w2.heap.size + 1 := (by omega); have : ¬ w2.heap.size + 1 = gc := (by omega); have OW3 := Lib.hid (ownsRow_below (by first | exact OW2.out | exact OW2.out.alloc _ | exact (OW2.out.alloc _).alloc _) hb3 (Nat.le_refl _)); (first | have RR := Lib.hid (Blk.behind (t := 28) (cs := #[.int .u32 0, .slice none 0 0, .int .u8 0, .int .u8 0, .int .u8 0, .int .u8 0, .int .u8 0, .int .u8 0, .int .u8 0, .int .u8 0]) (by first | exact RR.out | exact RR.out.alloc _ | exact (RR.out.alloc _).alloc _) hb3) | have RR := Lib.hid (Blk.behind (t := 28) (cs := #[.int .u32 0, .slice none 0 0, .int .u8 0, .int .u8 0, .int .u8 0, .int .u8 0, .int .u8 0, .int .u8 0, .int .u8 0, .int .u8 0]) (show Blk _ w2.heap.size 28 #[.int .u32 0, .slice none 0 0, .int .u8 0, .int .u8 0, .int .u8 0, .int .u8 0, .int .u8 0, .int .u8 0, .int .u8 0, .int .u8 0] from (by first | exact Blk.new _ _ _ | exact (Blk.new _ _ _).alloc _ | exact Blk.new1 _ _ _ _ | exact (Blk.new1 _ _ _ _).alloc _ | fail)) hb3) | have RR := Lib.hid (Blk.behind (t := 28) (cs := #[.int .u32 0, .slice none 0 0, .int .u8 0, .int .u8 0, .int .u8 0, .int .u8 0, .int .u8 0, .int .u8 0, .int .u8 0, .int .u8 0]) (show Blk _ (w2.heap.size + 1) 28 #[.int .u32 0, .slice none 0 0, .int .u8 0, .int .u8 0, .int .u8 0, .int .u8 0, .int .u8 0, .int .u8 0, .int .u8 0, .int .u8 0] from (by first | exact Blk.new _ _ _ | exact (Blk.new _ _ _).alloc _ | exact Blk.new1 _ _ _ _ | exact (Blk.new1 _ _ _ _).alloc _ | fail)) hb3) | skip); (first | (obtain ⟨r0, r1, r2, r3, r4, r5, r6, r7, r8, r9⟩ := RR.out.ten; have rf := RR.out.frozen) | skip); obtain ⟨x0, x1, x2, x3, x4, x5, x6, x7, x8, x9⟩ := (X.out.behind BL3.out).ten; obtain ⟨y0, y1, y2, y3, y4⟩ := (Y.out.behind BL3.out).five; rw [show ((k + 1 : Nat) : Int) = (k : Int) + 1 from by omega] at y1; clear hb3))
            all_goals
              have OW4 := Lib.hid (own_add (m := ⟨k + 1, life, false⟩) OW3.out)
              have hz3 := BL3.out.size
              go_wp2_with fail
              go_meet
              rw [decide_eq_false (not_not_intro HX.out)]
              first
                | ((with_reducible refine addR_new BL3.out OW4.out ?_); exact (if_pos HX.out).symm)
                | ((with_reducible refine addR_set BL3.out OW4.out RR.out ?_ _ _ _ _ _ _ _ _ _ _ ?_)
                   · omega
                   · exact (if_pos HX.out).symm)
          · have t : (e' == 4294967295) = false := by simp [hmx]
            have NXT := Lib.hid (fun A' n' c' wx => next_go e' A c ms.length L A' n' c' wx h0 (by omega))
            have HX := Lib.hid hmx
            have lgv : gv < wq.heap.size := X.out.lt
            have lgc : gc < wq.heap.size := Y.out.lt
            have HAD : Hid (RowsAt wq.drew wq.drew.heap.size 3 A (ms.map Mem.cells)) := Lib.hid HAC.out.drew
            clear hmx
            go_region_held3 (fun w' => w'.cell? ⟨gv, 0, none⟩ = some (.int .u32 e') ∧ w'.cell? ⟨gv, 1, none⟩ = some (.slice A ms.length c) ∧ w'.cell? ⟨gv, 2, none⟩ = some (.int .u8 (L 0)) ∧ w'.cell? ⟨gv, 3, none⟩ = some (.int .u8 (L 1)) ∧ w'.cell? ⟨gv, 4, none⟩ = some (.int .u8 (L 2)) ∧ w'.cell? ⟨gv, 5, none⟩ = some (.int .u8 (L 3)) ∧ w'.cell? ⟨gv, 6, none⟩ = some (.int .u8 (L 4)) ∧ w'.cell? ⟨gv, 7, none⟩ = some (.int .u8 (L 5)) ∧ w'.cell? ⟨gv, 8, none⟩ = some (.int .u8 (L 6)) ∧ w'.cell? ⟨gv, 9, none⟩ = some (.int .u8 (L 7)) ∧ w'.cell? ⟨gc, 1, none⟩ = some (.int .u8 ((k : Int) + 1)) ∧ w'.cell? ⟨gc, 2, none⟩ = some (.int .u8 life))
              (go_keep)
              (first
                | (go_at_call 69; refine (CL.out _ (by first | exact HAD.out | exact HAD.out.up _ | exact (HAD.out.up _).up _)).mono ?_; rintro e1 w1 ⟨⟨v1, rfl, hown1⟩, hb1⟩; have BL1 := Lib.hid (bl_next (w := wq) (by first | exact (Below.refl _ _).drew | exact bl_alloc (Below.refl _ _).drew _ | exact bl_alloc (bl_alloc (Below.refl _ _).drew _) _) hb1); have OW := Lib.hid (own_mono (base' := wq.heap.size) hown1 (by first | exact Nat.le_refl _ | (simp; done) | (simp; omega) | fail)); (first | have BB := Lib.hid (Blk.behind (t := 38) (cs := #[.int .u8 ((k : Int) + 1), .int .u8 life, .bool false]) (g := wq.heap.size) (by first | exact Blk.new _ _ _ | exact (Blk.new _ _ _).alloc _ | exact Blk.new1 _ _ _ _ | exact (Blk.new1 _ _ _ _).alloc _ | fail) hb1) | have BB := Lib.hid (Blk.behind (t := 38) (cs := #[.int .u8 ((k : Int) + 1), .int .u8 life, .bool false]) (g := wq.heap.size + 1) (by first | exact Blk.new _ _ _ | exact (Blk.new _ _ _).alloc _ | exact Blk.new1 _ _ _ _ | exact (Blk.new1 _ _ _ _).alloc _ | fail) hb1) | skip); (first | have RR := Lib.hid (Blk.behind (t := 28) (cs := #[.int .u32 0, .slice none 0 0, .int .u8 0, .int .u8 0, .int .u8 0, .int .u8 0, .int .u8 0, .int .u8 0, .int .u8 0, .int .u8 0]) (g := wq.heap.size) (by first | exact Blk.new _ _ _ | exact (Blk.new _ _ _).alloc _ | exact Blk.new1 _ _ _ _ | exact (Blk.new1 _ _ _ _).alloc _ | fail) hb1) | have RR := Lib.hid (Blk.behind (t := 28) (cs := #[.int .u32 0, .slice none 0 0, .int .u8 0, .int .u8 0, .int .u8 0, .int .u8 0, .int .u8 0, .int .u8 0, .int .u8 0, .int .u8 0]) (g := wq.heap.size + 1) (by first | exact Blk.new _ _ _ | exact (Blk.new _ _ _).alloc _ | exact Blk.new1 _ _ _ _ | exact (Blk.new1 _ _ _ _).alloc _ | fail) hb1) | skip); obtain ⟨x0, x1, x2, x3, x4, x5, x6, x7, x8, x9⟩ := (X.out.behind BL1.out).ten; obtain ⟨y0, y1, y2, y3, y4⟩ := (Y.out.behind BL1.out).five; rw [show ((k + 1 : Nat) : Int) = (k : Int) + 1 from by omega] at y1; clear hb1 hown1)
                | (refine step_append_lies _ (by rfl) (.tmp 58) (.tmp 64) _ (by rfl) wq.heap.size 38 i0 _ 3 3 Try.underlying25 hi0 hz0 hz1 hz2 rfl (by omega) v1 ms.length (ms.flatMap Mem.cells) (by rfl) (by first | exact OW.out | exact OW.out.alloc _ | exact (OW.out.alloc _).alloc _) ⟨wq.heap.size, 0, none⟩ 1 1 [.int .u8 ((k : Int) + 1), .int .u8 life, .bool false] (by rfl) (by rfl) (World.news_of_block (cs := #[.int .u8 ((k : Int) + 1), .int .u8 life, .bool false]) (t := 38) (fr := (0, 0)) (by first | exact BB.out | exact BB.out.alloc _ | exact (BB.out.alloc _).alloc _)) (by simp [Value.oneCell']) (by omega) (by unfold maxLen; omega) (by omega) (by have := BL1.out.size; simp; omega) _ rfl ?_; intro g2 c2 w2 hown2 hg2 hat2 hlt2; have BL2 := Lib.hid (below_grown (w0 := wq) (B := wq.heap.size) (v := v1) (by first | exact BL1.out | exact bl_alloc BL1.out _ | exact bl_alloc (bl_alloc BL1.out _) _) (by have := BL1.out.size; simp; omega) hg2 (fun q hq => (OW.out.lt q hq).1) (by have := BL1.out.size; simp; omega)); have OW2 := Lib.hid hown2; (first | have RR := Lib.hid (Blk.grownFar (t := 28) (cs := #[.int .u32 0, .slice none 0 0, .int .u8 0, .int .u8 0, .int .u8 0, .int .u8 0, .int .u8 0, .int .u8 0, .int .u8 0, .int .u8 0]) hg2 (by first | exact RR.out | exact RR.out.alloc _ | exact (RR.out.alloc _).alloc _) (by first | exact OW.out | exact OW.out.alloc _ | exact (OW.out.alloc _).alloc _) (by decide)) | have RR := Lib.hid (Blk.grownFar (g := w1.heap.size) (t := 28) (cs := #[.int .u32 0, .slice none 0 0, .int .u8 0, .int .u8 0, .int .u8 0, .int .u8 0, .int .u8 0, .int .u8 0, .int .u8 0, .int .u8 0]) hg2 (by first | exact Blk.new _ _ _ | exact (Blk.new _ _ _).alloc _ | exact Blk.new1 _ _ _ _ | exact (Blk.new1 _ _ _ _).alloc _ | fail) (by first | exact OW.out | exact OW.out.alloc _ | exact (OW.out.alloc _).alloc _) (by decide)) | have RR := Lib.hid (Blk.grownFar (g := w1.heap.size + 1) (t := 28) (cs := #[.int .u32 0, .slice none 0 0, .int .u8 0, .int .u8 0, .int .u8 0, .int .u8 0, .int .u8 0, .int .u8 0, .int .u8 0, .int .u8 0]) hg2 (by first | exact Blk.new _ _ _ | exact (Blk.new _ _ _).alloc _ | exact Blk.new1 _ _ _ _ | exact (Blk.new1 _ _ _ _).alloc _ | fail) (by first | exact OW.out | exact OW.out.alloc _ | exact (OW.out.alloc _).alloc _) (by decide)) | skip); obtain ⟨x0, x1, x2, x3, x4, x5, x6, x7, x8, x9⟩ := (X.out.behind BL2.out).ten; obtain ⟨y0, y1, y2, y3, y4⟩ := (Y.out.behind BL2.out).five; rw [show ((k + 1 : Nat) : Int) = (k : Int) + 1 from by omega] at y1; clear hown2 hg2 hat2)
                | (refine step_append_lies _ (by rfl) (.tmp 58) (.tmp 64) _ (by rfl) wq.heap.size 38 i0 _ 3 3 Try.underlying25 hi0 hz0 hz1 hz2 rfl (by omega) v1 ms.length (ms.flatMap Mem.cells) (by rfl) (by first | exact OW.out | exact OW.out.alloc _ | exact (OW.out.alloc _).alloc _) ⟨wq.heap.size + 1, 0, none⟩ 1 1 [.int .u8 ((k : Int) + 1), .int .u8 life, .bool false] (by rfl) (by rfl) (World.news_of_block (cs := #[.int .u8 ((k : Int) + 1), .int .u8 life, .bool false]) (t := 38) (fr := (0, 0)) (by first | exact BB.out | exact BB.out.alloc _ | exact (BB.out.alloc _).alloc _)) (by simp [Value.oneCell']) (by omega) (by unfold maxLen; omega) (by omega) (by have := BL1.out.size; simp; omega) _ rfl ?_; intro g2 c2 w2 hown2 hg2 hat2 hlt2; have BL2 := Lib.hid (below_grown (w0 := wq) (B := wq.heap.size) (v := v1) (by first | exact BL1.out | exact bl_alloc BL1.out _ | exact bl_alloc (bl_alloc BL1.out _) _) (by have := BL1.out.size; simp; omega) hg2 (fun q hq => (OW.out.lt q hq).1) (by have := BL1.out.size; simp; omega)); have OW2 := Lib.hid hown2; (first | have RR := Lib.hid (Blk.grownFar (t := 28) (cs := #[.int .u32 0, .slice none 0 0, .int .u8 0, .int .u8 0, .int .u8 0, .int .u8 0, .int .u8 0, .int .u8 0, .int .u8 0, .int .u8 0]) hg2 (by first | exact RR.out | exact RR.out.alloc _ | exact (RR.out.alloc _).alloc _) (by first | exact OW.out | exact OW.out.alloc _ | exact (OW.out.alloc _).alloc _) (by decide)) | have RR := Lib.hid (Blk.grownFar (g := w1.heap.size) (t := 28) (cs := #[.int .u32 0, .slice none 0 0, .int .u8 0, .int .u8 0, .int .u8 0, .int .u8 0, .int .u8 0, .int .u8 0, .int .u8 0, .int .u8 0]) hg2 (by first | exact Blk.new _ _ _ | exact (Blk.new _ _ _).alloc _ | exact Blk.new1 _ _ _ _ | exact (Blk.new1 _ _ _ _).alloc _ | fail) (by first | exact OW.out | exact OW.out.alloc _ | exact (OW.out.alloc _).alloc _) (by decide)) | have RR := Lib.hid (Blk.grownFar (g := w1.heap.size + 1) (t := 28) (cs := #[.int .u32 0, .slice none 0 0, .int .u8 0, .int .u8 0, .int .u8 0, .int .u8 0, .int .u8 0, .int .u8 0, .int .u8 0, .int .u8 0]) hg2 (by first | exact Blk.new _ _ _ | exact (Blk.new _ _ _).alloc _ | exact Blk.new1 _ _ _ _ | exact (Blk.new1 _ _ _ _).alloc _ | fail) (by first | exact OW.out | exact OW.out.alloc _ | exact (OW.out.alloc _).alloc _) (by decide)) | skip); obtain ⟨x0, x1, x2, x3, x4, x5, x6, x7, x8, x9⟩ := (X.out.behind BL2.out).ten; obtain ⟨y0, y1, y2, y3, y4⟩ := (Y.out.behind BL2.out).five; rw [show ((k + 1 : Nat) : Int) = (k : Int) + 1 from by omega] at y1; clear hown2 hg2 hat2)
                | (refine step_append_lies _ (by rfl) (.tmp 58) (.tmp 64) _ (by rfl) wq.heap.size 38 i0 _ 3 3 Try.underlying25 hi0 hz0 hz1 hz2 rfl (by omega) v1 ms.length (ms.flatMap Mem.cells) (by rfl) (by first | exact OW.out | exact OW.out.alloc _ | exact (OW.out.alloc _).alloc _) ⟨w1.heap.size, 0, none⟩ 1 1 [.int .u8 ((k : Int) + 1), .int .u8 life, .bool false] (by rfl) (by rfl) (World.news_of_block (cs := #[.int .u8 ((k : Int) + 1), .int .u8 life, .bool false]) (t := 38) (fr := (0, 0)) (by first | exact Blk.new _ _ _ | exact (Blk.new _ _ _).alloc _ | exact Blk.new1 _ _ _ _ | exact (Blk.new1 _ _ _ _).alloc _ | fail)) (by simp [Value.oneCell']) (by omega) (by unfold maxLen; omega) (by omega) (by have := BL1.out.size; simp; omega) _ rfl ?_; intro g2 c2 w2 hown2 hg2 hat2 hlt2; have BL2 := Lib.hid (below_grown (w0 := wq) (B := wq.heap.size) (v := v1) (by first | exact BL1.out | exact bl_alloc BL1.out _ | exact bl_alloc (bl_alloc BL1.out _) _) (by have := BL1.out.size; simp; omega) hg2 (fun q hq => (OW.out.lt q hq).1) (by have := BL1.out.size; simp; omega)); have OW2 := Lib.hid hown2; (first | have RR := Lib.hid (Blk.grownFar (t := 28) (cs := #[.int .u32 0, .slice none 0 0, .int .u8 0, .int .u8 0, .int .u8 0, .int .u8 0, .int .u8 0, .int .u8 0, .int .u8 0, .int .u8 0]) hg2 (by first | exact RR.out | exact RR.out.alloc _ | exact (RR.out.alloc _).alloc _) (by first | exact OW.out | exact OW.out.alloc _ | exact (OW.out.alloc _).alloc _) (by decide)) | have RR := Lib.hid (Blk.grownFar (g := w1.heap.size) (t := 28) (cs := #[.int .u32 0, .slice none 0 0, .int .u8 0, .int .u8 0, .int .u8 0, .int .u8 0, .int .u8 0, .int .u8 0, .int .u8 0, .int .u8 0]) hg2 (by first | exact Blk.new _ _ _ | exact (Blk.new _ _ _).alloc _ | exact Blk.new1 _ _ _ _ | exact (Blk.new1 _ _ _ _).alloc _ | fail) (by first | exact OW.out | exact OW.out.alloc _ | exact (OW.out.alloc _).alloc _) (by decide)) | have RR := Lib.hid (Blk.grownFar (g := w1.heap.size + 1) (t := 28) (cs := #[.int .u32 0, .slice none 0 0, .int .u8 0, .int .u8 0, .int .u8 0, .int .u8 0, .int .u8 0, .int .u8 0, .int .u8 0, .int .u8 0]) hg2 (by first | exact Blk.new _ _ _ | exact (Blk.new _ _ _).alloc _ | exact Blk.new1 _ _ _ _ | exact (Blk.new1 _ _ _ _).alloc _ | fail) (by first | exact OW.out | exact OW.out.alloc _ | exact (OW.out.alloc _).alloc _) (by decide)) | skip); obtain ⟨x0, x1, x2, x3, x4, x5, x6, x7, x8, x9⟩ := (X.out.behind BL2.out).ten; obtain ⟨y0, y1, y2, y3, y4⟩ := (Y.out.behind BL2.out).five; rw [show ((k + 1 : Nat) : Int) = (k : Int) + 1 from by omega] at y1; clear hown2 hg2 hat2)
                | (refine step_append_lies _ (by rfl) (.tmp 58) (.tmp 64) _ (by rfl) wq.heap.size 38 i0 _ 3 3 Try.underlying25 hi0 hz0 hz1 hz2 rfl (by omega) v1 ms.length (ms.flatMap Mem.cells) (by rfl) (by first | exact OW.out | exact OW.out.alloc _ | exact (OW.out.alloc _).alloc _) ⟨w1.heap.size + 1, 0, none⟩ 1 1 [.int .u8 ((k : Int) + 1), .int .u8 life, .bool false] (by rfl) (by rfl) (World.news_of_block (cs := #[.int .u8 ((k : Int) + 1), .int .u8 life, .bool false]) (t := 38) (fr := (0, 0)) (by first | exact Blk.new _ _ _ | exact (Blk.new _ _ _).alloc _ | exact Blk.new1 _ _ _ _ | exact (Blk.new1 _ _ _ _).alloc _ | fail)) (by simp [Value.oneCell']) (by omega) (by unfold maxLen; omega) (by omega) (by have := BL1.out.size; simp; omega) _ rfl ?_; intro g2 c2 w2 hown2 hg2 hat2 hlt2; have BL2 := Lib.hid (below_grown (w0 := wq) (B := wq.heap.size) (v := v1) (by first | exact BL1.out | exact bl_alloc BL1.out _ | exact bl_alloc (bl_alloc BL1.out _) _) (by have := BL1.out.size; simp; omega) hg2 (fun q hq => (OW.out.lt q hq).1) (by have := BL1.out.size; simp; omega)); have OW2 := Lib.hid hown2; (first | have RR := Lib.hid (Blk.grownFar (t := 28) (cs := #[.int .u32 0, .slice none 0 0, .int .u8 0, .int .u8 0, .int .u8 0, .int .u8 0, .int .u8 0, .int .u8 0, .int .u8 0, .int .u8 0]) hg2 (by first | exact RR.out | exact RR.out.alloc _ | exact (RR.out.alloc _).alloc _) (by first | exact OW.out | exact OW.out.alloc _ | exact (OW.out.alloc _).alloc _) (by decide)) | have RR := Lib.hid (Blk.grownFar (g := w1.heap.size) (t := 28) (cs := #[.int .u32 0, .slice none 0 0, .int .u8 0, .int .u8 0, .int .u8 0, .int .u8 0, .int .u8 0, .int .u8 0, .int .u8 0, .int .u8 0]) hg2 (by first | exact Blk.new _ _ _ | exact (Blk.new _ _ _).alloc _ | exact Blk.new1 _ _ _ _ | exact (Blk.new1 _ _ _ _).alloc _ | fail) (by first | exact OW.out | exact OW.out.alloc _ | exact (OW.out.alloc _).alloc _) (by decide)) | have RR := Lib.hid (Blk.grownFar (g := w1.heap.size + 1) (t := 28) (cs := #[.int .u32 0, .slice none 0 0, .int .u8 0, .int .u8 0, .int .u8 0, .int .u8 0, .int .u8 0, .int .u8 0, .int .u8 0, .int .u8 0]) hg2 (by first | exact Blk.new _ _ _ | exact (Blk.new _ _ _).alloc _ | exact Blk.new1 _ _ _ _ | exact (Blk.new1 _ _ _ _).alloc _ | fail) (by first | exact OW.out | exact OW.out.alloc _ | exact (OW.out.alloc _).alloc _) (by decide)) | skip); obtain ⟨x0, x1, x2, x3, x4, x5, x6, x7, x8, x9⟩ := (X.out.behind BL2.out).ten; obtain ⟨y0, y1, y2, y3, y4⟩ := (Y.out.behind BL2.out).five; rw [show ((k + 1 : Nat) : Int) = (k : Int) + 1 from by omega] at y1; clear hown2 hg2 hat2)
                | (go_at_call 102; refine (NXT.out (some ⟨g2, 0, none⟩) (ms.length + 1) c2 _).mono ?_; rintro e1 w3 ⟨rfl, hb3⟩; have BL3 := Lib.hid (bl_next (w := wq) (by first | exact BL2.out | exact bl_alloc BL2.out _ | exact bl_alloc (bl_alloc BL2.out _) _) hb3); have hz1 := BL1.out.size; have hz2 := BL2.out.size; have : ¬ gv = wq.heap.size := (by omega); have : ¬ wq.heap.size = gv := (by omega); have : ¬ gv = wq.heap.size + 1 := (by omega); have : ¬ wq.heap.size + 1 = gv := (by omega); have : ¬ gv = w1.heap.size := (by omega); have : ¬ w1.heap.size = gv := (by omega); have : ¬ gv = w1.heap.size + 1 := (by omega); have : ¬ w1.heap.size + 1 = gv := (by omega); have : ¬ gv = w2.heap.size := (by omega); have : ¬ w2.heap.size = gv := (by omega); have : ¬ gv = w2.heap.size + 1 := (by omega); have : ¬ w2.heap.size + 1 = gv := (by omega); have : ¬ gc = wq.heap.size := (by omega); have : ¬ wq.heap.size = gc := (by omega); have : ¬ gc = wq.heap.size + 1 := (by omega); have : ¬ wq.heap.size + 1 = gc := (by omega); have : ¬ gc = w1.heap.size := (by omega); have : ¬ w1.heap.size = gc := (by omega); have : ¬ gc = w1.heap.size + 1 := (by omega); have : ¬ w1.heap.size + 1 = gc := (by omega); have : ¬ gc = w2.heap.size := (by omega); have : ¬ w2.heap.size = gc := (by omega); have : ¬ gc = w2.heap.size + 1 := (by omega); have : ¬ w2.heap.size + 1 = gc := (by omega); have OW3 := Lib.hid (ownsRow_below (by first | exact OW2.out | exact OW2.out.alloc _ | exact (OW2.out.alloc _).alloc _) hb3 (Nat.le_refl _)); (first | have RR := Lib.hid (Blk.behind (t := 28) (cs := #[.int .u32 0, .slice none 0 0, .int .u8 0, .int .u8 0, .int .u8 0, .int .u8 0, .int .u8 0, .int .u8 0, .int .u8 0, .int .u8 0]) (by first | exact RR.out | exact RR.out.alloc _ | exact (RR.out.alloc _).alloc _) hb3) | have RR := Lib.hid (Blk.behind (t := 28) (cs := #[.int .u32 0, .slice none 0 0, .int .u8 0, .int .u8 0, .int .u8 0, .int .u8 0, .int .u8 0, .int .u8 0, .int .u8 0, .int .u8 0]) (show Blk _ w2.heap.size 28 #[.int .u32 0, .slice none 0 0, .int .u8 0, .int .u8 0, .int .u8 0, .int .u8 0, .int .u8 0, .int .u8 0, .int .u8 0, .int .u8 0] from (by first | exact Blk.new _ _ _ | exact (Blk.new _ _ _).alloc _ | exact Blk.new1 _ _ _ _ | exact (Blk.new1 _ _ _ _).alloc _ | fail)) hb3) | have RR := Lib.hid (Blk.behind (t := 28) (cs := #[.int .u32 0, .slice none 0 0, .int .u8 0, .int .u8 0, .int .u8 0, .int .u8 0, .int .u8 0, .int .u8 0, .int .u8 0, .int .u8 0]) (show Blk _ (w2.heap.size + 1) 28 #[.int .u32 0, .slice none 0 0, .int .u8 0, .int .u8 0, .int .u8 0, .int .u8 0, .int .u8 0, .int .u8 0, .int .u8 0, .int .u8 0] from (by first | exact Blk.new _ _ _ | exact (Blk.new _ _ _).alloc _ | exact Blk.new1 _ _ _ _ | exact (Blk.new1 _ _ _ _).alloc _ | fail)) hb3) | skip); (first | (obtain ⟨r0, r1, r2, r3, r4, r5, r6, r7, r8, r9⟩ := RR.out.ten; have rf := RR.out.frozen) | skip); obtain ⟨x0, x1, x2, x3, x4, x5, x6, x7, x8, x9⟩ := (X.out.behind BL3.out).ten; obtain ⟨y0, y1, y2, y3, y4⟩ := (Y.out.behind BL3.out).five; rw [show ((k + 1 : Nat) : Int) = (k : Int) + 1 from by omega] at y1; clear hb3))
            all_goals
              have OW4 := Lib.hid (own_add (m := ⟨k + 1, life, false⟩) OW3.out)
              have hz3 := BL3.out.size
              go_wp2_with fail
              go_meet
              rw [decide_eq_true HX.out]
              first
                | ((with_reducible refine addR_new BL3.out OW4.out ?_); exact (if_neg HX.out).symm)
                | ((with_reducible refine addR_set BL3.out OW4.out RR.out ?_ _ _ _ _ _ _ _ _ _ _ ?_)
                   · omega
                   · exact (if_neg HX.out).symm)
        case rest =>
          obtain ⟨g7, g2, c2, rfl, rfl, hle, hb, hblk, hc2, hm2, hrows, hg27, hg2w, hg2l⟩ := hcut
          have hgz : gr < wq.heap.size := Z.out.lt
          have n7 : ¬ gr = g7 := by omega
          have n7' : ¬ g7 = gr := by omega
          have HBX := Lib.hid (HBC.out.trans (hb.mono HBC.out.size))
          have ZX := Lib.hid (Z.out.behind hb)
          clear x0 x1 x2 x3 x4 x5 x6 x7 x8 x9 y0 y1 y2 y3 y4
          obtain ⟨y0, y1, y2, y3, y4⟩ := (Y.out.behind hb).five
          rw [show ((k + 1 : Nat) : Int) = (k : Int) + 1 from by omega] at y1
          have HROWS := Lib.hid hrows
          have hwc : w.heap.size ≤ wq.heap.size := HBC.out.size
          clear hb hrows
          by_cases hmx : e' = 4294967295
          · simp only [if_pos hmx] at hblk
            have HF : Hid (addV ⟨e', ms, L⟩ (k + 1) life = (⟨e', ms, L⟩, false)) := Lib.hid (by unfold addV; rw [hmay, if_pos rfl, if_pos hmx])
            rw [decide_eq_false (not_not_intro hmx)]
            obtain ⟨p0, p1, p2, p3, p4, p5, p6, p7, p8, p9⟩ := hblk.ten
            obtain ⟨z0, z1, z2, z3, z4, z5, z6, z7, z8, z9⟩ := ZX.out.ten
            have zf := ZX.out.frozen
            clear hblk hmx hmay
            go_wp2_with fail
            refine bodyPost_ret (v := .tuple #[VV e' A ms.length c L, .bool false]) ?_ rfl ?_
            · simp [results, Try.results67, go_sem, z0, z1, z2, z3, z4, z5, z6, z7, z8, z9]
            · refine ⟨⟨_, by rw [HF.out], ?_⟩, below_set10 HBX.out lgr _ _ _ _ _ _ _ _ _ _⟩
              rw [HF.out]
              exact ⟨A, c, rfl, hc, hc', HA.out.lift (below_set10 HBX.out lgr _ _ _ _ _ _ _ _ _ _)⟩
          · simp only [if_neg hmx] at hblk
            have HF : Hid (addV ⟨e', ms, L⟩ (k + 1) life = (⟨e' + 1, ms ++ [⟨k + 1, life, false⟩], upd L k life⟩, true)) := Lib.hid (by unfold addV; rw [hmay, if_pos rfl, if_neg hmx]; rfl)
            rw [decide_eq_true hmx]
            have pk := (hblk.cell (2 + k)).trans (vc_get (e' + 1) (some ⟨g2, 0, none⟩) (ms.length + 1) c2 L hk8)
            have pf := hblk.frozen
            have hb2 := hblk.set_ (2 + k) (.int .u8 life)
            rw [vc_set _ _ _ _ _ hk8] at hb2
            have HB2 := Lib.hid hb2
            have hkk : (0 : Int) ≤ (k : Int) := by omega
            have hk8i : (k : Int) < 8 := by omega
            clear hblk hmx hmay hb2
            have HB3' := Lib.hid (below_set HBX.out (g := g7) (2 + k) (by omega) (.int .u8 life))
            have HROWS2 := Lib.hid (rows_keep (w' := wc.setCell ⟨g7, 2 + k, none⟩ (.int .u8 life)) (B' := wc.heap.size) HROWS.out (fun q => cell_set hg27 (2 + k) (.int .u8 life) q) hg2l)
            have ZX2 := Lib.hid (ZX.out.far (p := ⟨g7, 2 + k, none⟩) n7 (.int .u8 life))
            have hsz : (wc.setCell ⟨g7, 2 + k, none⟩ (.int .u8 life)).heap.size = wc.heap.size := size_set _ _ _
            go_upto_region 7 with (fail)
            clear pk pf y0 y1 y2 y3 y4
            generalize wc.setCell ⟨g7, 2 + k, none⟩ (.int .u8 life) = w8 at *
            obtain ⟨p0, p1, p2, p3, p4, p5, p6, p7, p8, p9⟩ := HB2.out.ten
            obtain ⟨z0, z1, z2, z3, z4, z5, z6, z7, z8, z9⟩ := ZX2.out.ten
            have zf := ZX2.out.frozen
            have HSZ := Lib.hid hsz
            clear hsz
            go_wp2_with fail
            refine bodyPost_ret (v := .tuple #[VV (e' + 1) (some ⟨g2, 0, none⟩) (ms.length + 1) c2 (upd L k life), .bool true]) ?_ rfl ?_
            · simp [results, Try.results67, go_sem, z0, z1, z2, z3, z4, z5, z6, z7, z8, z9]
            · refine ⟨⟨_, by rw [HF.out], ?_⟩, below_set10 HB3'.out lgr _ _ _ _ _ _ _ _ _ _⟩
              rw [HF.out]
              exact ⟨_, c2, by simp, hc2, hm2, rows_set10 HROWS2.out (by rw [HSZ.out]; exact hg2l) (by omega) _ _ _ _ _ _ _ _ _ _⟩
end View
end Go.Proofs.Ytidhblpcaccchaa
