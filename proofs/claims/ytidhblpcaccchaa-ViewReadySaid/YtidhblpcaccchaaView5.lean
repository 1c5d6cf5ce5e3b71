/- The contracts of layer 5 (view), on: Apply. -/
import Derived.Test.YtidhblpcaccchaaView3
import Derived.BigRegion
namespace Go.Proofs.Ytidhblpcaccchaa
open Go.RowKit
namespace View

theorem rows_apart {w : World} {g : Nat} {t : TypeId} {cs : Array Value} {B b off : Nat} {ms : List Mem} (hb : Blk w g t cs) (hno : ∀ (i : Nat) (x : Bool), cs[i]? ≠ some (Value.bool x)) (h : RowsAt w B 3 (some ⟨b, off, none⟩) (ms.map Mem.cells)) (hne : ms ≠ []) : b ≠ g := by
  rintro rfl
  rcases ms with _ | ⟨m, ms⟩
  · exact hne rfl
  · obtain ⟨b', off', e, _, hc⟩ := h (by simp)
    injection e with e
    injection e with e1 e2
    subst e1 e2
    have := hc 0 m.cells (by simp) 2 (.bool m.ready) rfl
    rw [hb.cell] at this
    exact hno _ _ this
theorem zero_no : ∀ (i : Nat) (x : Bool), (#[.int .u32 0, .slice none 0 0, .int .u8 0, .int .u8 0, .int .u8 0, .int .u8 0, .int .u8 0, .int .u8 0, .int .u8 0, .int .u8 0] : Array Value)[i]? ≠ some (Value.bool x) := fun i x h => by
  have := Array.mem_of_getElem? h
  simp at this
/-- a view copied into the result's block -/
theorem rows_copy {w : World} {g : Nat} {A : Option Addr} {ms : List Mem} (h : RowsAt w w.heap.size 3 A (ms.map Mem.cells)) (hz : Blk w g 28 #[.int .u32 0, .slice none 0 0, .int .u8 0, .int .u8 0, .int .u8 0, .int .u8 0, .int .u8 0, .int .u8 0, .int .u8 0, .int .u8 0]) (a0 a1 a2 a3 a4 a5 a6 a7 a8 a9 : Value) :
    RowsAt ((((((((((w.setCell ⟨g, 0, none⟩ a0).setCell ⟨g, 1, none⟩ a1).setCell ⟨g, 2, none⟩ a2).setCell ⟨g, 3, none⟩ a3).setCell ⟨g, 4, none⟩ a4).setCell ⟨g, 5, none⟩ a5).setCell ⟨g, 6, none⟩ a6).setCell ⟨g, 7, none⟩ a7).setCell ⟨g, 8, none⟩ a8).setCell ⟨g, 9, none⟩ a9) ((((((((((w.setCell ⟨g, 0, none⟩ a0).setCell ⟨g, 1, none⟩ a1).setCell ⟨g, 2, none⟩ a2).setCell ⟨g, 3, none⟩ a3).setCell ⟨g, 4, none⟩ a4).setCell ⟨g, 5, none⟩ a5).setCell ⟨g, 6, none⟩ a6).setCell ⟨g, 7, none⟩ a7).setCell ⟨g, 8, none⟩ a8).setCell ⟨g, 9, none⟩ a9).heap.size 3 A (ms.map Mem.cells) := fun hne => by
  obtain ⟨b, off, rfl, hb, hc⟩ := h hne
  exact rows_set10 h hb (rows_apart hz zero_no h (fun e => hne (by rw [e]; rfl))) _ _ _ _ _ _ _ _ _ _ hne

theorem rows_ready {w : World} {B g j : Nat} {ms : List Mem} (h : RowsAt w B 3 (some ⟨g, 0, none⟩) (ms.map Mem.cells)) (hj : j < ms.length) : RowsAt (w.setCell ⟨g, j * 3 + 2, none⟩ (.bool true)) B 3 (some ⟨g, 0, none⟩) ((ms.set j { ms[j] with ready := true }).map Mem.cells) := fun _ => by
  obtain ⟨b, off, e, hb, hc⟩ := h (by intro h0; rw [List.map_eq_nil_iff] at h0; subst h0; simp at hj)
  injection e with e
  injection e with e1 e2
  subst e1 e2
  refine ⟨g, 0, rfl, hb, fun k row hk i u hu => ?_⟩
  rw [List.getElem?_map] at hk
  obtain ⟨m, hm, rfl⟩ := Option.map_eq_some_iff.1 hk
  have hi : i < 3 := (List.getElem?_eq_some_iff.1 hu).1
  have old := fun (k : Nat) (hk : k < ms.length) (i : Nat) (u : Value) (hu : ms[k].cells[i]? = some u) => hc k ms[k].cells (by simp [hk]) i u hu
  rw [List.getElem?_set] at hm
  split at hm
  · rename_i hjk
    subst hjk
    injection hm with hm
    subst hm
    match i, hi with
    | 0, _ =>
      rw [World.cell?_setCell_other _ _ _ _ (by simp)]
      exact old j hj 0 u hu
    | 1, _ =>
      rw [World.cell?_setCell_other _ _ _ _ (by simp)]
      exact old j hj 1 u hu
    | 2, _ =>
      have h2 := old j hj 2 _ rfl
      rw [Nat.zero_add] at h2 ⊢
      rw [World.cell?_setCell_same _ _ _ h2]
      exact hu
  · rename_i hjk
    obtain ⟨hk', rfl⟩ := List.getElem?_eq_some_iff.1 hm
    rw [World.cell?_setCell_other _ _ _ _ (by simp <;> omega)]
    exact old k hk' i u hu

set_option maxRecDepth 100000 in
set_option maxHeartbeats 4000000 in
theorem apply_any (e' : Int) (A : Option Addr) (c : Nat) (ms : List Mem) (L : Nat → Nat) (kd node life : Nat) (ep rq : Int) (w : World) (hA : RowsAt w w.heap.size 3 A (ms.map Mem.cells)) (hl : ms.length ≤ 1000000) (hc : ms.length ≤ c) (hc' : c ≤ 9223372036854775807) (h0 : 0 ≤ e') (h1 : e' ≤ 4294967295) (hL : ∀ k, L k < 256) (hn : node < 256) (hlf : life < 256) :
    Calls Try.prog 16 #[VV e' A ms.length c L, .agg #[.int .u8 kd, .int .u8 node, .int .u8 life, .int .u32 ep, .int .u32 rq]] w fun e w' => (∃ x, e = .returned (.tuple #[x, .bool (applyV ⟨e', ms, L⟩ kd node life ep).2]) ∧ ViewV w' (applyV ⟨e', ms, L⟩ kd node life ep).1 x) ∧ Below w.heap.size w w' := by
  have HA := Lib.hid hA
  have HL := Lib.hid hL
  clear hA hL
  go_enter Try.func16, Try.ntmps16
  go_upto_region 1 with (fail)
  have hb3 := bl_alloc (bl_alloc (bl_alloc (Below.refl w.heap.size w) (.cells #[.int .u32 e', .slice A ms.length c, .int .u8 (L 0), .int .u8 (L 1), .int .u8 (L 2), .int .u8 (L 3), .int .u8 (L 4), .int .u8 (L 5), .int .u8 (L 6), .int .u8 (L 7)] 28)) (.cells #[.int .u8 kd, .int .u8 node, .int .u8 life, .int .u32 ep, .int .u32 rq] 35)) (.cells #[.int .u32 0, .slice none 0 0, .int .u8 0, .int .u8 0, .int .u8 0, .int .u8 0, .int .u8 0, .int .u8 0, .int .u8 0, .int .u8 0] 28)
  have HA3 := Lib.hid (HA.out.lift hb3)
  have HB3 := Lib.hid hb3
  have X := Lib.hid (((Blk.new w 28 #[.int .u32 e', .slice A ms.length c, .int .u8 (L 0), .int .u8 (L 1), .int .u8 (L 2), .int .u8 (L 3), .int .u8 (L 4), .int .u8 (L 5), .int .u8 (L 6), .int .u8 (L 7)]).alloc (.cells #[.int .u8 kd, .int .u8 node, .int .u8 life, .int .u32 ep, .int .u32 rq] 35)).alloc (.cells #[.int .u32 0, .slice none 0 0, .int .u8 0, .int .u8 0, .int .u8 0, .int .u8 0, .int .u8 0, .int .u8 0, .int .u8 0, .int .u8 0] 28))
  have Y := Lib.hid ((Blk.new_ (w := w.alloc (.cells #[.int .u32 e', .slice A ms.length c, .int .u8 (L 0), .int .u8 (L 1), .int .u8 (L 2), .int .u8 (L 3), .int .u8 (L 4), .int .u8 (L 5), .int .u8 (L 6), .int .u8 (L 7)] 28)) (g := w.heap.size + 1) (t := 35) (cs := #[.int .u8 kd, .int .u8 node, .int .u8 life, .int .u32 ep, .int .u32 rq]) (by simp)).alloc (.cells #[.int .u32 0, .slice none 0 0, .int .u8 0, .int .u8 0, .int .u8 0, .int .u8 0, .int .u8 0, .int .u8 0, .int .u8 0, .int .u8 0] 28))
  have Z := Lib.hid (Blk.new_ (w := (w.alloc (.cells #[.int .u32 e', .slice A ms.length c, .int .u8 (L 0), .int .u8 (L 1), .int .u8 (L 2), .int .u8 (L 3), .int .u8 (L 4), .int .u8 (L 5), .int .u8 (L 6), .int .u8 (L 7)] 28)).alloc (.cells #[.int .u8 kd, .int .u8 node, .int .u8 life, .int .u32 ep, .int .u32 rq] 35)) (g := w.heap.size + 1 + 1) (t := 28) (cs := #[.int .u32 0, .slice none 0 0, .int .u8 0, .int .u8 0, .int .u8 0, .int .u8 0, .int .u8 0, .int .u8 0, .int .u8 0, .int .u8 0]) (by simp))
  clear hb3
  generalize ((w.alloc (.cells #[.int .u32 e', .slice A ms.length c, .int .u8 (L 0), .int .u8 (L 1), .int .u8 (L 2), .int .u8 (L 3), .int .u8 (L 4), .int .u8 (L 5), .int .u8 (L 6), .int .u8 (L 7)] 28)).alloc (.cells #[.int .u8 kd, .int .u8 node, .int .u8 life, .int .u32 ep, .int .u32 rq] 35)).alloc (.cells #[.int .u32 0, .slice none 0 0, .int .u8 0, .int .u8 0, .int .u8 0, .int .u8 0, .int .u8 0, .int .u8 0, .int .u8 0, .int .u8 0] 28) = W at *
  have ly := Y.out.lt
  have lz := Z.out.lt
  have lx := X.out.lt
  obtain ⟨gv, hgv⟩ : ∃ gv, gv = w.heap.size := ⟨_, rfl⟩
  obtain ⟨gc, hgc⟩ : ∃ gc, gc = w.heap.size + 1 := ⟨_, rfl⟩
  obtain ⟨gr, hgr⟩ : ∃ gr, gr = w.heap.size + 1 + 1 := ⟨_, rfl⟩
  have n1 : gv ≠ gc := by omega
  have n2 : gv ≠ gr := by omega
  have n3 : gc ≠ gr := by omega
  have lgr : w.heap.size ≤ gr := by omega
  have lgv : w.heap.size ≤ gv := by omega
  rw [← hgr] at Z lz ⊢
  rw [← hgc] at Y ly ⊢
  rw [← hgv] at X lx ⊢
  clear hgv hgc hgr
  obtain ⟨x0, x1, x2, x3, x4, x5, x6, x7, x8, x9⟩ := X.out.ten
  obtain ⟨y0, y1, y2, y3, y4⟩ := Y.out.five
  go_wp2_with fail
  (with_reducible refine (at_any e' A c node ms L W HA3.out (by omega)).mono ?_); rintro e1 w1 ⟨rfl, hb1⟩
  have HA1 := Lib.hid (HA3.out.lift hb1)
  have HB1 := Lib.hid (HB3.out.trans (hb1.mono HB3.out.size))
  have X := Lib.hid (X.out.behind hb1)
  have Y := Lib.hid (Y.out.behind hb1)
  have Z := Lib.hid (Z.out.behind hb1)
  clear x0 x1 x2 x3 x4 x5 x6 x7 x8 x9 y0 y1 y2 y3 y4 hb1 lx ly lz
  obtain ⟨x0, x1, x2, x3, x4, x5, x6, x7, x8, x9⟩ := X.out.ten
  obtain ⟨y0, y1, y2, y3, y4⟩ := Y.out.five
  obtain ⟨z0, z1, z2, z3, z4, z5, z6, z7, z8, z9⟩ := Z.out.ten
  have zf := Z.out.frozen
  have hat := atI_lt ms node
  have lz := Z.out.lt
  have lv := X.out.lt
  have lc := Y.out.lt
  have hcopy : ∀ ok, applyV ⟨e', ms, L⟩ kd node life ep = (⟨e', ms, L⟩, ok) → ∀ w8, Below w.heap.size w w8 → (∃ x, Ending.returned (.tuple #[VV e' A ms.length c L, .bool ok]) = .returned (.tuple #[x, .bool (applyV ⟨e', ms, L⟩ kd node life ep).2]) ∧ ViewV w8 (applyV ⟨e', ms, L⟩ kd node life ep).1 x) ∧ Below w.heap.size w w8 := fun ok hf w8 hb => by
    rw [hf]
    exact ⟨⟨_, rfl, A, c, rfl, hc, hc', HA.out.lift hb⟩, hb⟩
  have HCOPY := Lib.hid hcopy
  clear hcopy
  by_cases hk0 : kd = 0
  · have HF : Hid (applyV ⟨e', ms, L⟩ kd node life ep = (⟨e', ms, L⟩, true)) := Lib.hid (if_pos hk0)
    have t0 : ((kd : Int) == 0) = true := by simp [hk0]
    clear hk0
    go_wp2_with fail
    refine bodyPost_ret (v := .tuple #[VV e' A ms.length c L, .bool true]) ?_ rfl ?_
    · simp [results, Try.results16, go_sem, z0, z1, z2, z3, z4, z5, z6, z7, z8, z9]
    · exact HCOPY.out true HF.out _ (below_set10 HB1.out lgr _ _ _ _ _ _ _ _ _ _)
  · have t0 : ((kd : Int) == 0) = false := by simp [hk0]
    have HK0 := Lib.hid hk0
    clear hk0
    by_cases hk1 : kd = 1
    · have HF : Hid (applyV ⟨e', ms, L⟩ kd node life ep = addV ⟨e', ms, L⟩ node life) := Lib.hid ((if_neg HK0.out).trans (if_pos hk1))
      have t1 : ((kd : Int) == 1) = true := by simp [hk1]
      clear hk1
      go_wp2_with fail
      (with_reducible refine (add_any e' A c ms L kd node life ep rq w1 HA1.out hl hc hc' h0 h1 HL.out hn hlf).mono ?_); rintro e1 w2 ⟨⟨x, rfl, hx⟩, hb2⟩
      obtain ⟨A2, c2, rfl, hc2, hm2, hr2⟩ := hx
      have HF2 := Lib.hid (show ∀ w8, RowsAt w8 w8.heap.size 3 A2 ((addV ⟨e', ms, L⟩ node life).1.ms.map Mem.cells) → ViewV w8 (addV ⟨e', ms, L⟩ node life).1 (VV (addV ⟨e', ms, L⟩ node life).1.e A2 (addV ⟨e', ms, L⟩ node life).1.ms.length c2 (addV ⟨e', ms, L⟩ node life).1.L) from fun w8 hr => ⟨A2, c2, rfl, hc2, hm2, hr⟩)
      have HR2 := Lib.hid hr2
      have HB2 := Lib.hid (bl_next HB1.out hb2)
      have Z2 := Lib.hid (Z.out.behind hb2)
      clear hc2 hm2 hr2 x0 x1 x2 x3 x4 x5 x6 x7 x8 x9 y0 y1 y2 y3 y4 z0 z1 z2 z3 z4 z5 z6 z7 z8 z9 zf hb2
      obtain ⟨z0, z1, z2, z3, z4, z5, z6, z7, z8, z9⟩ := Z2.out.ten
      have zf := Z2.out.frozen
      generalize addV ⟨e', ms, L⟩ node life = r at *
      obtain ⟨v2, ok⟩ := r
      go_wp2_with fail
      refine bodyPost_ret (v := .tuple #[VV v2.e A2 v2.ms.length c2 v2.L, .bool ok]) ?_ rfl ?_
      · simp [results, Try.results16, go_sem, z0, z1, z2, z3, z4, z5, z6, z7, z8, z9]
      · rw [HF.out]
        exact ⟨⟨_, rfl, HF2.out _ (rows_copy HR2.out Z2.out _ _ _ _ _ _ _ _ _ _)⟩, below_set10 HB2.out lgr _ _ _ _ _ _ _ _ _ _⟩
    · have t1 : ((kd : Int) == 1) = false := by simp; omega
      have HK1 := Lib.hid hk1
      clear hk1
      cases ha : atN ms node with
      | none =>
        have hi : atI ms node = -1 := by simp [atI, ha]
        have HF : Hid (applyV ⟨e', ms, L⟩ kd node life ep = (⟨e', ms, L⟩, false)) := Lib.hid (by unfold applyV; rw [if_neg HK0.out, if_neg HK1.out]; simp only [ha])
        rw [hi]
        clear hi ha hat
        go_wp2_with fail
        go_quiet (fail)
        go_wp2_with fail
        refine bodyPost_ret (v := .tuple #[VV e' A ms.length c L, .bool false]) ?_ rfl ?_
        · simp [results, Try.results16, go_sem, z0, z1, z2, z3, z4, z5, z6, z7, z8, z9]
        · exact HCOPY.out false HF.out _ (below_set10 (below_drewN HB1.out _) lgr _ _ _ _ _ _ _ _ _ _)
      | some j =>
        have hi : atI ms node = j := by simp [atI, ha]
        obtain ⟨hj, hnode, -⟩ := atN_some ha
        obtain ⟨b, off, rfl, hbb, c0, c1, c2⟩ := mem_cells HA1.out hj
        have hmj : ms[j]? = some ms[j] := by simp [hj]
        have HFF : Hid (applyV ⟨e', ms, L⟩ kd node life ep = if ms[j].life ≠ life then (⟨e', ms, L⟩, false) else if kd = 2 then removeV ⟨e', ms, L⟩ j else if kd = 3 then (⟨e', ms.set j { ms[j] with ready := true }, L⟩, true) else (⟨e', ms, L⟩, decide (kd = 4 ∧ ep = e'))) := Lib.hid (by
          unfold applyV; rw [if_neg HK0.out, if_neg HK1.out]; simp only [ha, hmj])
        rw [hi]
        have hj0 : (0 : Int) ≤ (j : Int) := by omega
        have hj1 : (j : Int) < (ms.length : Int) := by omega
        have tj : decide ((j : Int) < 0) = false := by simp
        clear hi ha hat hnode hmj
        generalize hm : ms[j] = m at *
        have HM := Lib.hid hm
        clear hm
        by_cases hlife : m.life = life
        · have tl : ((m.life : Int) != (life : Int)) = false := by simp [hlife]
          have HFF := Lib.hid (HFF.out.trans (if_neg (not_not_intro hlife)))
          clear hlife
          by_cases hk2 : kd = 2
          · have HF := Lib.hid (HFF.out.trans (if_pos hk2))
            have t2 : ((kd : Int) == 2) = true := by simp [hk2]
            clear hk2
            go_wp2_with fail
            go_quiet (fail)
            go_wp2_with fail
            (with_reducible refine (remove_any e' (some ⟨b, off, none⟩) c j ms L (w1.drewN nq) ((HA1.out.drewN nq).more (by simp)) hl hc hc' hj h0 h1).mono ?_); rintro e1 w2 ⟨⟨x, rfl, hx⟩, hb2⟩
            have hb2 : Below w1.heap.size w1 w2 := ⟨hb2.os, hb2.tape, hb2.output, hb2.size, hb2.block⟩
            obtain ⟨A2, c3, rfl, hc2, hm2, hr2⟩ := hx
            have HF2 := Lib.hid (show ∀ w8, RowsAt w8 w8.heap.size 3 A2 ((removeV ⟨e', ms, L⟩ j).1.ms.map Mem.cells) → ViewV w8 (removeV ⟨e', ms, L⟩ j).1 (VV (removeV ⟨e', ms, L⟩ j).1.e A2 (removeV ⟨e', ms, L⟩ j).1.ms.length c3 (removeV ⟨e', ms, L⟩ j).1.L) from fun w8 hr => ⟨A2, c3, rfl, hc2, hm2, hr⟩)
            have HR2 := Lib.hid hr2
            have HB2 := Lib.hid (bl_next HB1.out hb2)
            have Z2 := Lib.hid (Z.out.behind hb2)
            clear hc2 hm2 hr2 x0 x1 x2 x3 x4 x5 x6 x7 x8 x9 y0 y1 y2 y3 y4 z0 z1 z2 z3 z4 z5 z6 z7 z8 z9 zf hb2 c0 c1 c2
            obtain ⟨z0, z1, z2, z3, z4, z5, z6, z7, z8, z9⟩ := Z2.out.ten
            have zf := Z2.out.frozen
            generalize removeV ⟨e', ms, L⟩ j = r at *
            obtain ⟨v2, ok⟩ := r
            go_wp2_with fail
            refine bodyPost_ret (v := .tuple #[VV v2.e A2 v2.ms.length c3 v2.L, .bool ok]) ?_ rfl ?_
            · simp [results, Try.results16, go_sem, z0, z1, z2, z3, z4, z5, z6, z7, z8, z9]
            · rw [HF.out]
              exact ⟨⟨_, rfl, HF2.out _ (rows_copy HR2.out Z2.out _ _ _ _ _ _ _ _ _ _)⟩, below_set10 HB2.out lgr _ _ _ _ _ _ _ _ _ _⟩
          · have t2 : ((kd : Int) == 2) = false := by simp; omega
            have HFF := Lib.hid (HFF.out.trans (if_neg hk2))
            clear hk2
            by_cases hk3 : kd = 3
            · have HF := Lib.hid (HFF.out.trans (if_pos hk3))
              have t3 : ((kd : Int) == 3) = true := by simp [hk3]
              clear hk3
              go_wp2_with fail
              go_quiet (fail)
              go_wp2_with fail
              (with_reducible refine (Clone_any (some ⟨b, off, none⟩) c ms (w1.drewN nq) ((HA1.out.drewN nq).more (by simp)) hl).mono ?_); rintro e1 w2 ⟨⟨v, rfl, hown⟩, hb2⟩
              have hb2 : Below w1.heap.size w1 w2 := ⟨hb2.os, hb2.tape, hb2.output, hb2.size, hb2.block⟩
              obtain ⟨g, cap, rfl, hg, hgl, hcap, hcm, hrow, hfz⟩ := own_open hown (by omega)
              have hg : w1.heap.size ≤ g := hg
              obtain ⟨bb, oo, he, hbl, d0, d1, d2⟩ := mem_cells hrow hj
              injection he with he
              injection he with he1 he2
              subst he1 he2
              have hrow3 := rows_ready hrow hj
              rw [HM.out] at hrow3
              have n4 : g ≠ gv := by omega
              have n5 : ¬ gv = g := by omega
              have n6 : g ≠ gr := by omega
              have n7 : ¬ gr = g := by omega
              have n8 : ¬ g = gv := by omega
              have X2 := Lib.hid (X.out.behind hb2)
              have Z2 := Lib.hid (Z.out.behind hb2)
              have HB2 := Lib.hid (bl_next HB1.out hb2)
              have HR3 := Lib.hid hrow3
              have gf := hfz (0 + j * 3 + 2)
              clear hrow hrow3 hown hb2 hfz x0 x1 x2 x3 x4 x5 x6 x7 x8 x9 y0 y1 y2 y3 y4 z0 z1 z2 z3 z4 z5 z6 z7 z8 z9 zf c0 c1 c2
              rw [Nat.zero_add] at gf
              rw [Nat.zero_add] at d2
              obtain ⟨x0, x1, x2, x3, x4, x5, x6, x7, x8, x9⟩ := X2.out.ten
              have xf := X2.out.frozen
              go_upto_region 13 with (fail)
              have X3 := Lib.hid (X2.out.far (p := ⟨g, j * 3 + 2, none⟩) n5 (.bool true))
              have Z3 := Lib.hid (Z2.out.far (p := ⟨g, j * 3 + 2, none⟩) n7 (.bool true))
              have HB3' := Lib.hid (below_set HB2.out (g := g) (j * 3 + 2) (by have := HB1.out.size; omega) (.bool true))
              have hgl3 : g < (w2.setCell ⟨g, j * 3 + 2, none⟩ (.bool true)).heap.size := by rw [size_set]; exact hgl
              clear x0 x1 x2 x3 x4 x5 x6 x7 x8 x9 xf d0 d1 d2 gf hgl
              generalize w2.setCell ⟨g, j * 3 + 2, none⟩ (.bool true) = w3 at *
              obtain ⟨x0, x1, x2, x3, x4, x5, x6, x7, x8, x9⟩ := X3.out.ten
              have xf := X3.out.frozen
              go_upto_region 14 with (fail)
              have X4 := X3.out.set_ 1 (.slice (some ⟨g, 0, none⟩) ms.length cap)
              simp at X4
              have Z4 := Lib.hid (Z3.out.far (p := ⟨gv, 1, none⟩) (show gr ≠ gv by omega) (.slice (some ⟨g, 0, none⟩) ms.length cap))
              have HB4 := Lib.hid (below_set HB3'.out (g := gv) 1 lgv (.slice (some ⟨g, 0, none⟩) ms.length cap))
              have HR4 := Lib.hid (rows_keep (w' := w3.setCell ⟨gv, 1, none⟩ (.slice (some ⟨g, 0, none⟩) ms.length cap)) (B' := (w3.setCell ⟨gv, 1, none⟩ (.slice (some ⟨g, 0, none⟩) ms.length cap)).heap.size) HR3.out (fun q => cell_set n4 1 _ q) (by rw [size_set]; exact hgl3))
              clear x0 x1 x2 x3 x4 x5 x6 x7 x8 x9 xf
              have X4 := Lib.hid X4
              generalize w3.setCell ⟨gv, 1, none⟩ (.slice (some ⟨g, 0, none⟩) ms.length cap) = w4 at *
              obtain ⟨x0, x1, x2, x3, x4, x5, x6, x7, x8, x9⟩ := Blk.ten X4.out
              obtain ⟨z0, z1, z2, z3, z4, z5, z6, z7, z8, z9⟩ := Z4.out.ten
              have zf := Z4.out.frozen
              go_wp2_with fail
              refine bodyPost_ret (v := .tuple #[VV e' (some ⟨g, 0, none⟩) ms.length cap L, .bool true]) ?_ rfl ?_
              · simp [results, Try.results16, go_sem, z0, z1, z2, z3, z4, z5, z6, z7, z8, z9]
              · rw [HF.out]
                exact ⟨⟨_, rfl, _, cap, by simp, by simpa using hcap, hcm, rows_copy HR4.out Z4.out _ _ _ _ _ _ _ _ _ _⟩, below_set10 HB4.out lgr _ _ _ _ _ _ _ _ _ _⟩
            · have t3 : ((kd : Int) == 3) = false := by simp; omega
              have HFE : Hid (applyV ⟨e', ms, L⟩ kd node life ep = (⟨e', ms, L⟩, decide (kd = 4 ∧ ep = e'))) := Lib.hid (HFF.out.trans (if_neg hk3))
              clear hk3
              go_wp2_with fail
              go_quiet (fail)
              go_upto_region 15 with (fail)
              have hb1' : Below w.heap.size w (w1.drewN nq) := below_drewN HB1.out nq
              by_cases hk4 : kd = 4
              · have t4 : ((kd : Int) == 4) = true := by simp [hk4]
                by_cases hep : ep = e'
                · have HF : Hid (applyV ⟨e', ms, L⟩ kd node life ep = (⟨e', ms, L⟩, true)) := Lib.hid (HFE.out.trans (by rw [decide_eq_true ⟨hk4, hep⟩]))
                  have t5 : (ep == e') = true := by simp [hep]
                  clear hk4 hep
                  go_region
                  all_goals
                    go_wp2_with fail
                    refine bodyPost_ret (v := .tuple #[VV e' (some ⟨b, off, none⟩) ms.length c L, .bool true]) ?_ rfl ?_
                    · simp [results, Try.results16, go_sem, z0, z1, z2, z3, z4, z5, z6, z7, z8, z9]
                    · exact HCOPY.out true HF.out _ (below_set10 (below_drewN hb1' 1) lgr _ _ _ _ _ _ _ _ _ _)
                · have HF : Hid (applyV ⟨e', ms, L⟩ kd node life ep = (⟨e', ms, L⟩, false)) := Lib.hid (HFE.out.trans (by rw [decide_eq_false (fun h => hep h.2)]))
                  have t5 : (ep == e') = false := by simp [hep]
                  clear hk4 hep
                  go_region
                  all_goals
                    go_wp2_with fail
                    refine bodyPost_ret (v := .tuple #[VV e' (some ⟨b, off, none⟩) ms.length c L, .bool false]) ?_ rfl ?_
                    · simp [results, Try.results16, go_sem, z0, z1, z2, z3, z4, z5, z6, z7, z8, z9]
                    · exact HCOPY.out false HF.out _ (below_set10 (below_drewN hb1' 1) lgr _ _ _ _ _ _ _ _ _ _)
              · have HF : Hid (applyV ⟨e', ms, L⟩ kd node life ep = (⟨e', ms, L⟩, false)) := Lib.hid (HFE.out.trans (by rw [decide_eq_false (fun h => hk4 h.1)]))
                have t4 : ((kd : Int) == 4) = false := by simp; omega
                clear hk4
                go_region
                all_goals
                  go_wp2_with fail
                  refine bodyPost_ret (v := .tuple #[VV e' (some ⟨b, off, none⟩) ms.length c L, .bool false]) ?_ rfl ?_
                  · simp [results, Try.results16, go_sem, z0, z1, z2, z3, z4, z5, z6, z7, z8, z9]
                  · exact HCOPY.out false HF.out _ (below_set10 (below_drewN hb1' 1) lgr _ _ _ _ _ _ _ _ _ _)
        · have HF : Hid (applyV ⟨e', ms, L⟩ kd node life ep = (⟨e', ms, L⟩, false)) := Lib.hid (HFF.out.trans (if_pos hlife))
          have tl : ((m.life : Int) != (life : Int)) = true := by simp; omega
          clear hlife
          go_wp2_with fail
          go_quiet (fail)
          go_wp2_with fail
          refine bodyPost_ret (v := .tuple #[VV e' (some ⟨b, off, none⟩) ms.length c L, .bool false]) ?_ rfl ?_
          · simp [results, Try.results16, go_sem, z0, z1, z2, z3, z4, z5, z6, z7, z8, z9]
          · exact HCOPY.out false HF.out _ (below_set10 (below_drewN HB1.out _) lgr _ _ _ _ _ _ _ _ _ _)
end View
end Go.Proofs.Ytidhblpcaccchaa
