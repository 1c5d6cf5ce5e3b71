/- Layer 5's law ViewReady, walked. -/
import Derived.Test.YtidhblpcaccchaaViewVar
import Derived.Test.YtidhblpcaccchaaViewLaw
namespace Go.Proofs.Ytidhblpcaccchaa
open Go.RowKit
namespace View
abbrev GC (G : Nat → Nat) : Array Value := #[.int .u8 (G 0), .int .u8 (G 1), .int .u8 (G 2), .int .u8 (G 3), .int .u8 (G 4), .int .u8 (G 5), .int .u8 (G 6), .int .u8 (G 7), .int .u8 (G 8)]
theorem gc_get (G : Nat → Nat) {k : Nat} (hk : k < 9) : (GC G)[k]? = some (.int .u8 (G k)) := by
  match k, hk with
  | 0, _ => rfl
  | 1, _ => rfl
  | 2, _ => rfl
  | 3, _ => rfl
  | 4, _ => rfl
  | 5, _ => rfl
  | 6, _ => rfl
  | 7, _ => rfl
  | 8, _ => rfl
theorem gc_set (G : Nat → Nat) {k : Nat} (hk : k < 9) (x : Nat) : (GC G).setIfInBounds k (.int .u8 x) = GC (upd G k x) := by
  match k, hk with
  | 0, _ => rfl
  | 1, _ => rfl
  | 2, _ => rfl
  | 3, _ => rfl
  | 4, _ => rfl
  | 5, _ => rfl
  | 6, _ => rfl
  | 7, _ => rfl
  | 8, _ => rfl
theorem gc_no (G : Nat → Nat) : ∀ (i : Nat) (x : Bool), (GC G)[i]? ≠ some (Value.bool x) := fun i x h => by
  have := Array.mem_of_getElem? h
  simp at this
theorem sameB_self (e : Int) (ms : List Mem) (L : Nat → Nat) : sameB e e ms ms L L = true := by simp [sameB, eight]

set_option maxRecDepth 100000 in
set_option maxHeartbeats 8000000 in
theorem ViewReady_walk (nodes : Nat) (A : Option Addr) (cap : Nat) (cs : List Cm) (w : World) (hA : RowsAt w w.heap.size 5 A (cs.map Cm.cells)) (hn : nodes < 256) (hl : cs.length ≤ 9223372036854775807) (hcs : ∀ c ∈ cs, c.ok) :
    Calls Try.prog 4 #[.int .u8 nodes, .slice A cs.length cap] w fun e w' => e = .returned (.bool true) ∧ Below w.heap.size w w' := by
  have HA := Lib.hid hA
  have HCS := Lib.hid hcs
  clear hA hcs
  have HWF := Lib.hid (wf_first (n := 1 + nodes % 8) (by omega) (by omega))
  go_enter Try.func4, Try.ntmps4
  go_wp2_with fail
  (with_reducible refine (speaks _).mono ?_); rintro e w1 ⟨rfl, hb1⟩
  have HB1 := Lib.hid hb1
  clear hb1
  go_wp2_with fail
  have hf := First_ok (1 + nodes % 8) w1 (by omega) (by omega)
  rw [show ((1 + nodes % 8 : Nat) : Int) = 1 + (nodes : Int) % 8 from by omega] at hf
  (with_reducible refine hf.mono ?_); rintro e w2 ⟨⟨x, rfl, hx⟩, hb2⟩
  clear hf
  generalize firstV (1 + nodes % 8) = v at *
  obtain ⟨A1, c1, rfl, hc1, hm1, hr1⟩ := hx
  have HB2 := Lib.hid (bl_next HB1.out hb2)
  have HR1 := Lib.hid hr1
  clear hb2 hr1
  go_upto_region 7 with (fail)
  have VVa := Lib.hid (VarV.new (w := w2) hc1 hm1 HR1.out)
  have HBa := Lib.hid (bl_alloc HB2.out (.cells #[.int .u32 v.e, .slice A1 v.ms.length c1, .int .u8 (v.L 0), .int .u8 (v.L 1), .int .u8 (v.L 2), .int .u8 (v.L 3), .int .u8 (v.L 4), .int .u8 (v.L 5), .int .u8 (v.L 6), .int .u8 (v.L 7)] 28))
  have hz : (w2.alloc (.cells #[.int .u32 v.e, .slice A1 v.ms.length c1, .int .u8 (v.L 0), .int .u8 (v.L 1), .int .u8 (v.L 2), .int .u8 (v.L 3), .int .u8 (v.L 4), .int .u8 (v.L 5), .int .u8 (v.L 6), .int .u8 (v.L 7)] 28)).heap.size = w2.heap.size + 1 := by simp
  have hgw := HB2.out.size
  obtain ⟨g, hg⟩ : ∃ g, g = w2.heap.size := ⟨_, rfl⟩
  rw [← hg] at VVa hgw hz ⊢
  generalize w2.alloc (.cells #[.int .u32 v.e, .slice A1 v.ms.length c1, .int .u8 (v.L 0), .int .u8 (v.L 1), .int .u8 (v.L 2), .int .u8 (v.L 3), .int .u8 (v.L 4), .int .u8 (v.L 5), .int .u8 (v.L 6), .int .u8 (v.L 7)] 28) = wv at *
  obtain ⟨gn, hgn⟩ : ∃ gn, gn = g + 1 := ⟨_, rfl⟩
  rw [← hgn] at hz ⊢
  have HG0 : Hid (Blk (wv.alloc (.cells #[.int .u8 0, .int .u8 0, .int .u8 0, .int .u8 0, .int .u8 0, .int .u8 0, .int .u8 0, .int .u8 0, .int .u8 0] 45)) gn 45 (GC fun _ => 0)) := Lib.hid (Blk.new_ hz.symm)
  have VV0 := Lib.hid (VVa.out.below (bl_alloc (Below.refl _ _) (.cells #[.int .u8 0, .int .u8 0, .int .u8 0, .int .u8 0, .int .u8 0, .int .u8 0, .int .u8 0, .int .u8 0, .int .u8 0] 45)))
  have HB3 := Lib.hid (bl_alloc HBa.out (.cells #[.int .u8 0, .int .u8 0, .int .u8 0, .int .u8 0, .int .u8 0, .int .u8 0, .int .u8 0, .int .u8 0, .int .u8 0] 45))
  generalize wv.alloc (.cells #[.int .u8 0, .int .u8 0, .int .u8 0, .int .u8 0, .int .u8 0, .int .u8 0, .int .u8 0, .int .u8 0, .int .u8 0] 45) = w3 at *
  have hgg : g ≠ gn := by omega
  have hgn' : w.heap.size ≤ gn := by omega
  clear VVa HBa HB2 HB1 HR1 hz hgn hg hc1 hm1
  go_upto_block 0 with (fail)
  go_wp2_with fail
  go_loopg [8] 40 (fun gk s8 wr => ∃ (k : Nat) (v : VS) (G : Nat → Nat), k ≤ 40 ∧ k ≤ cs.length ∧ gk = 40 - k ∧ s8 = .int .i64 k ∧ WF v ∧ VarV wr g v ∧ Blk wr gn 45 (GC G) ∧ (∀ x, 1 ≤ x → x ≤ 8 → G x ≤ v.L (x - 1)) ∧ Below w.heap.size w wr)
  case atStart => exact ⟨0, v, fun _ => 0, by omega, by omega, rfl, rfl, HWF.out, VV0.out, HG0.out, fun _ _ _ => Nat.zero_le _, HB3.out⟩
  case round =>
    obtain ⟨k, v', G, hk, hkl, rfl, rfl, hwf, hv, hgG, hle, hb⟩ := hrel
    clear VV0 HB3 HWF HG0
    obtain ⟨v, rfl⟩ : ∃ v, v = v' := ⟨_, rfl⟩
    have HWF := Lib.hid hwf
    have HB := Lib.hid hb
    have HV := Lib.hid hv
    have HG := Lib.hid hgG
    have HLE := Lib.hid hle
    by_cases hlt : k < cs.length ∧ k < 40
    · obtain ⟨hlt1, hlt2⟩ := hlt
      obtain ⟨A2, c2, hv1, hv2, hv3, hv4⟩ := hv
      have HV1 := Lib.hid hv1
      have HV4 := Lib.hid hv4
      obtain ⟨b, off, rfl, hbb, d0, d1, d2, d3, d4⟩ := cm_cells HA.out hlt1
      have hok := HCS.out cs[k] (by simp)
      have hsz := hb.size
      have q0 := later_cell ((hb.cell (p := ⟨b, off + k * 5, none⟩) hbb).trans d0)
      have q1 := later_cell ((hb.cell (p := ⟨b, off + k * 5 + 1, none⟩) hbb).trans d1)
      have q2 := later_cell ((hb.cell (p := ⟨b, off + k * 5 + 2, none⟩) hbb).trans d2)
      have q3 := later_cell ((hb.cell (p := ⟨b, off + k * 5 + 3, none⟩) hbb).trans d3)
      have q4 := later_cell ((hb.cell (p := ⟨b, off + k * 5 + 4, none⟩) hbb).trans d4)
      obtain ⟨x0, x1, x2, x3, x4, x5, x6, x7, x8, x9⟩ := Blk.ten hv1
      have z0 := later_cell x0
      have z1 := later_cell x1
      have z2 := later_cell x2
      have z3 := later_cell x3
      have z4 := later_cell x4
      have z5 := later_cell x5
      have z6 := later_cell x6
      have z7 := later_cell x7
      have z8 := later_cell x8
      have z9 := later_cell x9
      have hap := fun (w : World) (h : RowsAt w w.heap.size 3 A2 (v.ms.map Mem.cells)) => apply_any v.e A2 c2 v.ms v.L cs[k].kind cs[k].node cs[k].life cs[k].epoch cs[k].req w h (by have := hwf.len; omega) hv2 hv3 hwf.e0 hwf.e1 hwf.L hok.2.1 hok.2.2
      have HAP := Lib.hid hap
      have HST : Hid (Step v (applyV ⟨v.e, v.ms, v.L⟩ cs[k].kind cs[k].node cs[k].life cs[k].epoch).1 (applyV ⟨v.e, v.ms, v.L⟩ cs[k].kind cs[k].node cs[k].life cs[k].epoch).2) := Lib.hid (step_apply v cs[k].kind cs[k].node cs[k].life cs[k].epoch)
      generalize cs[k] = c at *
      generalize (applyV ⟨v.e, v.ms, v.L⟩ c.kind c.node c.life c.epoch).1 = v1 at *
      generalize (applyV ⟨v.e, v.ms, v.L⟩ c.kind c.node c.life c.epoch).2 = ok at *
      clear x0 x1 x2 x3 x4 x5 x6 x7 x8 x9
      clear hwf hb hv1 hv4 hap hok d0 d1 d2 d3 d4 hgG hle
      go_upto_region 10 with (fail)
      go_cut [9, 10] (fun s9 s10 wx => ∃ gx, s9 = .pointer (some ⟨gx, 0, none⟩) ∧ s10 = .bool ok ∧ VarV wx gx v1 ∧ Below wr.heap.size wr wx ∧ wr.heap.size ≤ gx)
      case first =>
        refine Reg.region (fun w' => ∃ m : Reg.Later wr, w' = m.w) [5, 10] (.take true [0,1,2,3,4] (.two 5 9 (.take false [6,7,8] (.one 9 (.one 10 (.take false [11] .done)))) (.one 5 (.take false [6,7,8] (.one 10 (.take false [11] .done)))))) (by kernel_rfl) (by kernel_rfl) (by kernel_rfl) (by kernel_rfl) (⟨Reg.Later.here _, rfl⟩) ?_
        simp only [Reg.wpPlan, Reg.cls, Reg.pick, List.getElem?_cons_zero, List.getElem?_cons_succ, Option.toList_some, List.cons_append, List.nil_append]
        repeat go_big_quiet_step (fail)
        refine wpQuiet_nil ?_
        constructor
        · go_wp2_with fail
          (with_reducible refine (HAP.out _ HV4.out.drew).mono ?_); rintro e w1 ⟨⟨x, rfl, hx⟩, hb1⟩
          have hb1 : Below wr.heap.size wr w1 := ⟨hb1.os, hb1.tape, hb1.output, hb1.size, hb1.block⟩
          obtain ⟨A3, c3, rfl, g1, g2, g3⟩ := hx
          have HG3 := Lib.hid g3
          have HB1 := Lib.hid hb1
          clear g3 hb1
          go_wp2_with fail
          refine ⟨fun h => absurd h (by decide), ?_⟩
          repeat go_big_quiet_step (fail)
          refine wpQuiet_nil ?_
          go_wp2_with fail
          refine ⟨fun h => absurd h (by decide), ?_⟩
          go_wp2_with fail
          refine ⟨fun h => absurd h (by decide), ?_⟩
          repeat go_big_quiet_step (fail)
          refine wpQuiet_nil ?_
          refine NoPanic.normal ?_
          go_wp2_with fail
          go_meet
          exact ⟨_, rfl, rfl, VarV.new g1 g2 HG3.out, bl_alloc HB1.out _, HB1.out.size⟩
        · go_wp2_with fail
          have hba : Below wr.heap.size wr (wr.alloc (.cells #[.int .u32 0, .slice none 0 0, .int .u8 0, .int .u8 0, .int .u8 0, .int .u8 0, .int .u8 0, .int .u8 0, .int .u8 0, .int .u8 0] 28)).drew := (bl_alloc (Below.refl _ _) _).drew
          have HBa := Lib.hid hba
          have HGa : Hid (Blk (wr.alloc (.cells #[.int .u32 0, .slice none 0 0, .int .u8 0, .int .u8 0, .int .u8 0, .int .u8 0, .int .u8 0, .int .u8 0, .int .u8 0, .int .u8 0] 28)).drew wr.heap.size 28 (VC 0 none 0 0 fun _ => 0)) := Lib.hid (Blk.new _ _ _).drew
          refine ⟨fun _ => ⟨⟨_, HBa.out⟩, rfl⟩, ?_⟩
          generalize (wr.alloc (.cells #[.int .u32 0, .slice none 0 0, .int .u8 0, .int .u8 0, .int .u8 0, .int .u8 0, .int .u8 0, .int .u8 0, .int .u8 0, .int .u8 0] 28)).drew = wa at *
          clear hba
          go_wp2_with fail
          (with_reducible refine (HAP.out _ (HV4.out.lift HBa.out)).mono ?_); rintro e w1 ⟨⟨x, rfl, hx⟩, hb1⟩
          obtain ⟨A3, c3, rfl, g1, g2, g3⟩ := hx
          have HG3 := Lib.hid g3
          have HB1 := Lib.hid (bl_next HBa.out hb1)
          have HG1 := Lib.hid (HGa.out.behind hb1)
          obtain ⟨y0, y1, y2, y3, y4, y5, y6, y7, y8, y9⟩ := Blk.ten HG1.out
          have yf := HG1.out.frozen
          clear g3 hb1
          go_wp2_with fail
          refine ⟨fun h => absurd h (by decide), ?_⟩
          repeat go_big_quiet_step (fail)
          refine wpQuiet_nil ?_
          go_wp2_with fail
          refine ⟨fun h => absurd h (by decide), ?_⟩
          repeat go_big_quiet_step (fail)
          refine wpQuiet_nil ?_
          refine NoPanic.normal ?_
          go_wp2_with fail
          go_meet
          exact ⟨_, rfl, rfl, varV_set HG1.out g1 g2 HG3.out, below_set10 HB1.out (Nat.le_refl _) _ _ _ _ _ _ _ _ _ _, Nat.le_refl _⟩
      case rest =>
        obtain ⟨gx, rfl, rfl, hvx, hbx, hgx⟩ := hcut
        have lg := HV.out.lt
        have lgn := HG.out.lt
        have n1 : g ≠ gx := by omega
        have n2 : gx ≠ gn := by omega
        have hvc := HV.out.below hbx
        have hgc := HG.out.behind hbx
        have hbc := bl_next HB.out hbx
        clear hbx z0 z1 z2 z3 z4 z5 z6 z7 z8 z9 q0 q1 q2 q3 q4 HV HG HV1 HV4 HB HAP hv2 hv3
        have HVC := Lib.hid hvc
        have HVX := Lib.hid hvx
        have HGC := Lib.hid hgc
        have HBC := Lib.hid hbc
        clear hvc hvx hgc hbc
        have hlen := HWF.out.len
        go_upto_block 2 with (fail)
        go_cut [11] (fun s11 wx => ∃ G' : Nat → Nat, VarV wx g v ∧ VarV wx gx v1 ∧ Blk wx gn 45 (GC G') ∧ (∀ x, 1 ≤ x → x ≤ 8 → G' x ≤ v.L (x - 1)) ∧ Below w.heap.size w wx)
        case first =>
          go_wp2_with fail
          go_loopg [11] v.ms.length (fun gk s11 wr => ∃ (a : Nat) (G' : Nat → Nat), a ≤ v.ms.length ∧ gk = v.ms.length - a ∧ s11 = .int .i64 a ∧ VarV wr g v ∧ VarV wr gx v1 ∧ Blk wr gn 45 (GC G') ∧ (∀ x, 1 ≤ x → x ≤ 8 → G' x ≤ v.L (x - 1)) ∧ Below w.heap.size w wr)
          case atStart => exact ⟨0, G, by omega, rfl, rfl, HVC.out, HVX.out, HGC.out, HLE.out, HBC.out⟩
          case round =>
            obtain ⟨a, G', ha, rfl, rfl, hv, hvx, hg, hle, hb⟩ := hrel
            clear HVC HVX HGC HBC HLE
            have HVr := Lib.hid hv
            obtain ⟨A4, c4, hv1, hv2, hv3, hv4⟩ := hv
            obtain ⟨x0, x1, x2, x3, x4, x5, x6, x7, x8, x9⟩ := Blk.ten hv1
            have HB := Lib.hid hb
            have HLE := Lib.hid hle
            have HVX := Lib.hid hvx
            have HG := Lib.hid hg
            by_cases hlt : a < v.ms.length
            · obtain ⟨m, hm⟩ : ∃ m, m = v.ms[a] := ⟨_, rfl⟩
              obtain ⟨b, off, rfl, hbb, c0, c1', c2'⟩ := mem_cells hv4 hlt
              rw [← hm] at c0 c1' c2'
              obtain ⟨hn1, hn8, hlf, hLm⟩ := HWF.out.mem m (by rw [hm]; simp)
              have gc := (hg.cell m.node).trans (gc_get G' (by omega))
              have gf := hg.frozen m.node
              have hn8' : (m.node : Int) < 9 := by omega
              have HLM := Lib.hid hLm
              clear hm hLm hle hvx hg hv1 hv4 hb
              go_upto_region 14 with (fail)
              refine Reg.region (fun w' => w' = wr.drew) [22] (.take true [0,1,2,3,4,5,6,7,8,9,10,11,12,13,14,15,16,17,18,19,20,21] (.one 22 .done)) (by kernel_rfl) (by kernel_rfl) (by kernel_rfl) (by kernel_rfl) (rfl) ?_
              simp only [Reg.wpPlan, Reg.cls, Reg.pick, List.getElem?_cons_zero, List.getElem?_cons_succ, Option.toList_some, List.cons_append, List.nil_append]
              repeat go_big_quiet_step (fail)
              refine wpQuiet_nil ?_
              by_cases hx : G' m.node < m.life
              · go_wp2_with fail
                refine ⟨fun h => absurd h (by decide), ?_⟩
                refine NoPanic.normal ?_
                have HX1 := Lib.hid (varV_far HVr.out HG.out (gc_no _) hgg m.node (.int .u8 m.life)).drew
                have HX2 := Lib.hid (varV_far HVX.out HG.out (gc_no _) n2 m.node (.int .u8 m.life)).drew
                have hg3 := HG.out.set_ m.node (.int .u8 m.life)
                rw [gc_set _ (by omega)] at hg3
                have HX3 := Lib.hid hg3.drew
                have HX4 := Lib.hid (below_set HB.out m.node hgn' (.int .u8 m.life)).drew
                have HX5 : Hid (∀ x, 1 ≤ x → x ≤ 8 → upd G' m.node m.life x ≤ v.L (x - 1)) := Lib.hid (fun x h1 h2 => by
                  unfold upd
                  split
                  · subst_vars; rw [HLM.out]; exact Nat.le_refl _
                  · exact HLE.out x h1 h2)
                clear hg3 gc gf x0 x1 x2 x3 x4 x5 x6 x7 x8 x9 c0 c1' c2'
                go_wp2_with fail
                go_roundg (v.ms.length - (a + 1))
                case measure => omega
                case rel => exact ⟨a + 1, upd G' m.node m.life, by omega, rfl, by go_num, HX1.out, HX2.out, HX3.out, HX5.out, HX4.out⟩
              · go_wp2_with fail
                refine ⟨fun h => absurd h (by decide), ?_⟩
                refine NoPanic.normal ?_
                have HX1 := Lib.hid (varV_far HVr.out HG.out (gc_no _) hgg m.node (.int .u8 (G' m.node))).drew
                have HX2 := Lib.hid (varV_far HVX.out HG.out (gc_no _) n2 m.node (.int .u8 (G' m.node))).drew
                have hg3 := HG.out.set_ m.node (.int .u8 (G' m.node))
                rw [gc_set _ (by omega)] at hg3
                have HX3 := Lib.hid hg3.drew
                have HX4 := Lib.hid (below_set HB.out m.node hgn' (.int .u8 (G' m.node))).drew
                have HX5 : Hid (∀ x, 1 ≤ x → x ≤ 8 → upd G' m.node (G' m.node) x ≤ v.L (x - 1)) := Lib.hid (fun x h1 h2 => by
                  unfold upd
                  split
                  · subst_vars; exact HLE.out _ h1 h2
                  · exact HLE.out x h1 h2)
                clear hg3 gc gf x0 x1 x2 x3 x4 x5 x6 x7 x8 x9 c0 c1' c2'
                go_wp2_with fail
                go_roundg (v.ms.length - (a + 1))
                case measure => omega
                case rel => exact ⟨a + 1, upd G' m.node (G' m.node), by omega, rfl, by go_num, HX1.out, HX2.out, HX3.out, HX5.out, HX4.out⟩
            · clear hle hvx hg hv1 hv4 hb
              go_wp2_with fail
              go_meet
              exact ⟨G', HVr.out, HVX.out, HG.out, HLE.out, HB.out⟩
        case rest =>
          obtain ⟨G', hv, hvx, hg, hle, hb⟩ := hcut
          have HWF1 := Lib.hid (HWF.out.step HST.out)
          have hlen1 := HWF1.out.len
          have HSF := Lib.hid (step_facts HWF.out HST.out)
          have HV := Lib.hid hv
          have HVX2 := Lib.hid hvx
          have HG := Lib.hid hg
          have HLE2 := Lib.hid hle
          have HB := Lib.hid hb
          clear hg hle hb HVC HVX HGC HBC HLE
          obtain ⟨A2, c2, hv1, hv2, hv3, hv4⟩ := hv
          obtain ⟨A3, c3, hx1, hx2, hx3, hx4⟩ := hvx
          have HV1 := Lib.hid hv1
          have HV4 := Lib.hid hv4
          have HX1 := Lib.hid hx1
          have HX4 := Lib.hid hx4
          clear hv1 hv4 hx1 hx4
          obtain ⟨wq, hwq⟩ : ∃ wq, wq = wc := ⟨_, rfl⟩
          rw [← hwq] at HV HVX2 HG HB HV1 HV4 HX1 HX4 ⊢
          clear hwq
          obtain ⟨x0, x1, x2, x3, x4, x5, x6, x7, x8, x9⟩ := Blk.ten HV1.out
          obtain ⟨y0, y1, y2, y3, y4, y5, y6, y7, y8, y9⟩ := Blk.ten HX1.out
          go_upto_region 16 with (fail)
          go_cut [103] (fun s103 wx => s103 = .bool false ∧ ∃ n, wq.drewN n = wx)
          case first =>
            by_cases hmore : v.ms.length < v1.ms.length
            · obtain ⟨hlt', m, hm, hn1, hn8, hLm, hml⟩ := HSF.out.2.2.2 hmore
              have gle := HLE2.out m.node hn1 hn8
              have gc := (HG.out.cell m.node).trans (gc_get G' (by omega))
              obtain ⟨b, off, rfl, hbb, c0, c1', c2'⟩ := mem_cells HX4.out hlt'
              rw [hm] at c0 c1' c2'
              have e1 : v1.ms.length - 1 = v.ms.length := by omega
              rw [e1] at c0 c1' c2'
              have hn8' : (m.node : Int) < 9 := by omega
              have tle : decide (m.life ≤ G' m.node) = false := by simp; omega
              have tmore : decide (v.ms.length < v1.ms.length) = true := by simp; omega
              have ei : (v1.ms.length : Int) - 1 = (v.ms.length : Int) := by omega
              clear hm hml e1 gle hLm hmore
              go_quiet (fail)
              go_wp2_with fail
              go_meet
              exact ⟨rfl, _, rfl⟩
            · have tmore : decide (v.ms.length < v1.ms.length) = false := by simp; omega
              clear hmore
              go_quiet (fail)
              go_wp2_with fail
              go_meet
              exact ⟨rfl, _, rfl⟩
          case rest =>
            obtain ⟨rfl, nq1, rfl⟩ := hcut
            go_upto_region 19 with (fail)
            go_cut [13, 144] (fun s13 s144 wx => s144 = .bool false ∧ Below (wq.drewN nq1).heap.size (wq.drewN nq1) wx)
            case first =>
              have hready : ((ready v1.ms : Int) == 0) = false := by have := HWF1.out.rdy; simp; omega
              have HRD := Lib.hid (fun w (h : RowsAt w w.heap.size 3 A3 (v1.ms.map Mem.cells)) => Ready_any v1.e A3 c3 v1.ms v1.L w h (by omega))
              have HSM := Lib.hid (fun w (h : RowsAt w w.heap.size 3 A3 (v1.ms.map Mem.cells)) (h' : RowsAt w w.heap.size 3 A2 (v.ms.map Mem.cells)) => Same_any v1.e v.e A3 A2 c3 c2 v1.ms v.ms v1.L v.L w h h' (by omega) (by omega))
              have HSS : Hid (ok = false → sameB v1.e v.e v1.ms v.ms v1.L v.L = true) := Lib.hid (fun h => by rw [HSF.out.2.2.1 h]; exact sameB_self _ _ _)
              rcases HSF.out.2.1 with ⟨hce, hee⟩ | ⟨hce, hee, hem⟩
              · have t1 : ((v1.ms.length : Int) != (v.ms.length : Int)) = false := by simp [hce]
                have h0 := HWF.out.e0
                have h1 := HWF.out.e1
                have t2 : (v1.e == (v.e + 1) % 4294967296) = false := by
                  rw [hee]
                  simp
                  omega
                have t3 : (v1.e != v.e) = false := by simp [hee]
                clear hee hce
                go_wp2_with fail
                (with_reducible refine (HRD.out _ ((HX4.out.drewN nq1))).mono ?_); rintro e wa ⟨rfl, hba⟩
                have HBa := Lib.hid hba
                have X1 := Lib.hid ((HV1.out.drewN nq1).behind hba)
                have Y1 := Lib.hid ((HX1.out.drewN nq1).behind hba)
                clear x0 x1 x2 x3 x4 x5 x6 x7 x8 x9
                clear y0 y1 y2 y3 y4 y5 y6 y7 y8 y9
                obtain ⟨x0, x1, x2, x3, x4, x5, x6, x7, x8, x9⟩ := Blk.ten X1.out
                obtain ⟨y0, y1, y2, y3, y4, y5, y6, y7, y8, y9⟩ := Blk.ten Y1.out
                clear hba
                cases ok with
                | true =>
                  go_wp2_with fail
                  go_meet
                  exact ⟨rfl, HBa.out⟩
                | false =>
                  have hss := HSS.out rfl
                  go_wp2_with fail
                  (with_reducible refine (HSM.out _ ((HX4.out.drewN nq1).lift HBa.out) ((HV4.out.drewN nq1).lift HBa.out)).mono ?_); rintro e wb ⟨rfl, hbb⟩
                  have HBb := Lib.hid (bl_next HBa.out hbb)
                  clear hbb
                  go_wp2_with fail
                  go_meet
                  exact ⟨rfl, HBb.out⟩
              · have t1 : ((v1.ms.length : Int) != (v.ms.length : Int)) = true := by simp; omega
                have h0 := HWF.out.e0
                have t2 : (v1.e == (v.e + 1) % 4294967296) = true := by
                  rw [hee]
                  simp
                  omega
                have t2' : (v1.e == v.e + 1) = true := by simp [hee]
                have hem' : v.e + 1 < 4294967296 := by omega
                have hok : ok = true := by
                  cases ok with
                  | true => rfl
                  | false => exact absurd (congrArg (fun x => x.ms.length) (HSF.out.2.2.1 rfl)) hce
                subst hok
                clear hee hce
                go_wp2_with fail
                (with_reducible refine (HRD.out _ ((HX4.out.drewN nq1))).mono ?_); rintro e wa ⟨rfl, hba⟩
                have HBa := Lib.hid hba
                have X1 := Lib.hid ((HV1.out.drewN nq1).behind hba)
                have Y1 := Lib.hid ((HX1.out.drewN nq1).behind hba)
                clear x0 x1 x2 x3 x4 x5 x6 x7 x8 x9
                clear y0 y1 y2 y3 y4 y5 y6 y7 y8 y9
                obtain ⟨x0, x1, x2, x3, x4, x5, x6, x7, x8, x9⟩ := Blk.ten X1.out
                obtain ⟨y0, y1, y2, y3, y4, y5, y6, y7, y8, y9⟩ := Blk.ten Y1.out
                clear hba
                go_wp2_with fail
                go_meet
                exact ⟨rfl, HBa.out⟩
            case rest =>
              obtain ⟨rfl, hbq⟩ := hcut
              have hbq : Below wq.heap.size wq wc := ⟨hbq.os, hbq.tape, hbq.output, hbq.size, hbq.block⟩
              have HV9 := Lib.hid (HV.out.below hbq)
              have HX9 := Lib.hid (HVX2.out.below hbq)
              have HG9 := Lib.hid (HG.out.behind hbq)
              have HB9 := Lib.hid (bl_next HB.out hbq)
              clear x0 x1 x2 x3 x4 x5 x6 x7 x8 x9
              clear y0 y1 y2 y3 y4 y5 y6 y7 y8 y9
              clear hbq HV1 HV4 HX1 HX4 HV HVX2 HG HB hv2 hv3 hx2 hx3
              go_upto_block 4 with (fail)
              go_cut [14] (fun s14 wx => VarV wx g v ∧ VarV wx gx v1 ∧ Blk wx gn 45 (GC G') ∧ Below w.heap.size w wx)
              case first =>
                go_wp2_with fail
                go_loopg [14] v1.ms.length (fun gk s14 wr => ∃ (a : Nat), a ≤ v1.ms.length ∧ gk = v1.ms.length - a ∧ s14 = .int .i64 a ∧ VarV wr g v ∧ VarV wr gx v1 ∧ Blk wr gn 45 (GC G') ∧ Below w.heap.size w wr)
                case atStart => exact ⟨0, by omega, rfl, rfl, HV9.out, HX9.out, HG9.out, HB9.out⟩
                case round =>
                  obtain ⟨a, ha, rfl, rfl, hv, hvx, hg, hb⟩ := hrel
                  clear HV9 HX9 HG9 HB9
                  have HV := Lib.hid hv
                  have HVX := Lib.hid hvx
                  have HG := Lib.hid hg
                  have HB := Lib.hid hb
                  obtain ⟨A3, c3, hx1, hx2, hx3, hx4⟩ := hvx
                  have HX1 := Lib.hid hx1
                  have HX4 := Lib.hid hx4
                  clear hx1 hx4 hv hg hb
                  obtain ⟨y0, y1, y2, y3, y4, y5, y6, y7, y8, y9⟩ := Blk.ten HX1.out
                  by_cases hlt : a < v1.ms.length
                  · obtain ⟨m, hm⟩ : ∃ m, m = v1.ms[a] := ⟨_, rfl⟩
                    obtain ⟨b, off, rfl, hbb, c0, c1', c2'⟩ := mem_cells HX4.out hlt
                    have hfind := find_self HWF1.out.nd hlt
                    rw [← hm] at c0 c1' c2' hfind
                    have HFD : Hid (∀ w, RowsAt w w.heap.size 3 (some ⟨b, off, none⟩) (v1.ms.map Mem.cells) → Calls Try.prog 22 #[VV v1.e (some ⟨b, off, none⟩) v1.ms.length c3 v1.L, .int .u8 m.node] w fun e w' => e = .returned (.tuple #[.agg #[.int .u8 m.node, .int .u8 m.life, .bool m.ready], .bool true]) ∧ Below w.heap.size w w') := Lib.hid (fun w h => by
                      have := Find_any v1.e (some ⟨b, off, none⟩) c3 m.node v1.ms v1.L w h (by omega)
                      rw [hfind] at this
                      exact this)
                    have z0 := later_cell y0
                    have z1 := later_cell y1
                    have z2 := later_cell y2
                    have z3 := later_cell y3
                    have z4 := later_cell y4
                    have z5 := later_cell y5
                    have z6 := later_cell y6
                    have z7 := later_cell y7
                    have z8 := later_cell y8
                    have z9 := later_cell y9
                    have k0 := later_cell c0
                    have k1 := later_cell c1'
                    have k2 := later_cell c2'
                    clear hfind hm c0 c1' c2'
                    go_upto_region 24 with (fail)
                    clear y0 y1 y2 y3 y4 y5 y6 y7 y8 y9
                    go_cut [15, 16] (fun s15 s16 wx => ∃ gm, s15 = .pointer (some ⟨gm, 0, none⟩) ∧ s16 = .bool true ∧ Blk wx gm 38 #[.int .u8 m.node, .int .u8 m.life, .bool m.ready] ∧ Below wr.heap.size wr wx)
                    case first =>
                      refine Reg.region (fun w' => ∃ m : Reg.Later wr, w' = m.w) [7, 12] (.take true [0,1,2,3,4,5,6] (.two 7 11 (.take false [8,9,10] (.one 11 (.one 12 (.take false [13] .done)))) (.one 7 (.take false [8,9,10] (.one 12 (.take false [13] .done)))))) (by kernel_rfl) (by kernel_rfl) (by kernel_rfl) (by kernel_rfl) (⟨Reg.Later.here _, rfl⟩) ?_
                      simp only [Reg.wpPlan, Reg.cls, Reg.pick, List.getElem?_cons_zero, List.getElem?_cons_succ, Option.toList_some, List.cons_append, List.nil_append]
                      repeat go_big_quiet_step (fail)
                      refine wpQuiet_nil ?_
                      constructor
                      · go_wp2_with fail
                        (with_reducible refine (HFD.out _ HX4.out.drew).mono ?_); rintro e w1 ⟨rfl, hb1⟩
                        have hb1 : Below wr.heap.size wr w1 := ⟨hb1.os, hb1.tape, hb1.output, hb1.size, hb1.block⟩
                        have HB1 := Lib.hid hb1
                        clear hb1
                        go_wp2_with fail
                        refine ⟨fun h => absurd h (by decide), ?_⟩
                        repeat go_big_quiet_step (fail)
                        refine wpQuiet_nil ?_
                        go_wp2_with fail
                        refine ⟨fun h => absurd h (by decide), ?_⟩
                        go_wp2_with fail
                        refine ⟨fun h => absurd h (by decide), ?_⟩
                        repeat go_big_quiet_step (fail)
                        refine wpQuiet_nil ?_
                        refine NoPanic.normal ?_
                        go_wp2_with fail
                        go_meet
                        exact ⟨_, rfl, rfl, Blk.new _ _ _, bl_alloc HB1.out _⟩
                      · go_wp2_with fail
                        have HBa : Hid (Below wr.heap.size wr (wr.alloc (.cells #[.int .u8 0, .int .u8 0, .bool false] 38)).drew) := Lib.hid (bl_alloc (Below.refl _ _) _).drew
                        have HGa : Hid (Blk (wr.alloc (.cells #[.int .u8 0, .int .u8 0, .bool false] 38)).drew wr.heap.size 38 #[.int .u8 0, .int .u8 0, .bool false]) := Lib.hid (Blk.new _ _ _).drew
                        refine ⟨fun _ => ⟨⟨_, HBa.out⟩, rfl⟩, ?_⟩
                        generalize (wr.alloc (.cells #[.int .u8 0, .int .u8 0, .bool false] 38)).drew = wa at *
                        go_wp2_with fail
                        (with_reducible refine (HFD.out _ (HX4.out.lift HBa.out)).mono ?_); rintro e w1 ⟨rfl, hb1⟩
                        have HB1 := Lib.hid (bl_next HBa.out hb1)
                        have HG1 := Lib.hid (HGa.out.behind hb1)
                        obtain ⟨p0, p1, p2⟩ := HG1.out.three
                        have pf := HG1.out.frozen
                        clear hb1
                        go_wp2_with fail
                        refine ⟨fun h => absurd h (by decide), ?_⟩
                        repeat go_big_quiet_step (fail)
                        refine wpQuiet_nil ?_
                        go_wp2_with fail
                        refine ⟨fun h => absurd h (by decide), ?_⟩
                        repeat go_big_quiet_step (fail)
                        refine wpQuiet_nil ?_
                        refine NoPanic.normal ?_
                        go_wp2_with fail
                        go_meet
                        exact ⟨_, rfl, rfl, by have := ((HG1.out.set_ 0 (.int .u8 m.node)).set_ 1 (.int .u8 m.life)).set_ 2 (.bool m.ready); simpa using this, below_set3 HB1.out (Nat.le_refl _) _ _ _⟩
                    case rest =>
                      obtain ⟨gm, rfl, rfl, hgm, hbm⟩ := hcut
                      obtain ⟨p0, p1, p2⟩ := hgm.three
                      have HV9 := Lib.hid (HV.out.below hbm)
                      have HX9 := Lib.hid (HVX.out.below hbm)
                      have HG9 := Lib.hid (HG.out.behind hbm)
                      have HB9 := Lib.hid (bl_next HB.out hbm)
                      have Y1 := Lib.hid (HX1.out.behind hbm)
                      obtain ⟨y0, y1, y2, y3, y4, y5, y6, y7, y8, y9⟩ := Blk.ten Y1.out
                      have m0 := k0 ⟨wc, hbm⟩
                      have m1 := k1 ⟨wc, hbm⟩
                      have m2 := k2 ⟨wc, hbm⟩
                      dsimp only at m0 m1 m2
                      clear k0 k1 k2 z0 z1 z2 z3 z4 z5 z6 z7 z8 z9 hgm hbm
                      go_upto_region 25 with (fail)
                      go_quiet (fail)
                      go_wp2_with fail
                      go_roundg (v1.ms.length - (a + 1))
                      case measure => omega
                      case rel => exact ⟨a + 1, by omega, rfl, by go_num, HV9.out.drewN nq, HX9.out.drewN nq, HG9.out.drewN nq, below_drewN HB9.out nq⟩
                  · go_wp2_with fail
                    go_meet
                    exact ⟨HV.out, HVX.out, HG.out, HB.out⟩
              case rest =>
                obtain ⟨hv, hvx, hg, hb⟩ := hcut
                obtain ⟨A2, c2, hv1, hv2, hv3, hv4⟩ := hv
                obtain ⟨A3, c3, hx1, hx2, hx3, hx4⟩ := hvx
                obtain ⟨x0, x1, x2, x3, x4, x5, x6, x7, x8, x9⟩ := Blk.ten hv1
                obtain ⟨y0, y1, y2, y3, y4, y5, y6, y7, y8, y9⟩ := Blk.ten hx1
                have xf := hv1.frozen
                have HX1 := Lib.hid hv1
                have HX4 := Lib.hid hx4
                have HG := Lib.hid hg
                have HB := Lib.hid hb
                clear hv1 hv4 hx1 hx4 hg hb
                go_upto_region 9 with (fail)
                have HV2 := Lib.hid (varV_set HX1.out (v := v1) hx2 hx3 HX4.out)
                have HB2 := Lib.hid (below_set10 HB.out hgw (.int .u32 v1.e) (.slice A3 v1.ms.length c3) (.int .u8 (v1.L 0)) (.int .u8 (v1.L 1)) (.int .u8 (v1.L 2)) (.int .u8 (v1.L 3)) (.int .u8 (v1.L 4)) (.int .u8 (v1.L 5)) (.int .u8 (v1.L 6)) (.int .u8 (v1.L 7)))
                have HG2 := Lib.hid (blk_far10 HG.out (Ne.symm hgg) (.int .u32 v1.e) (.slice A3 v1.ms.length c3) (.int .u8 (v1.L 0)) (.int .u8 (v1.L 1)) (.int .u8 (v1.L 2)) (.int .u8 (v1.L 3)) (.int .u8 (v1.L 4)) (.int .u8 (v1.L 5)) (.int .u8 (v1.L 6)) (.int .u8 (v1.L 7)))
                have HL2 : Hid (∀ x, 1 ≤ x → x ≤ 8 → G' x ≤ v1.L (x - 1)) := Lib.hid (fun x h1 h2 => Nat.le_trans (HLE2.out x h1 h2) (HSF.out.1 _))
                clear x0 x1 x2 x3 x4 x5 x6 x7 x8 x9
                clear y0 y1 y2 y3 y4 y5 y6 y7 y8 y9
                clear xf
                go_wp2_with fail
                go_roundg (40 - (k + 1))
                case measure => omega
                case rel => exact ⟨k + 1, v1, G', by omega, by omega, rfl, by go_num, HWF1.out, HV2.out, HG2.out, HL2.out, HB2.out⟩
    · have hd1 : ¬ (k < cs.length) ∨ k < cs.length ∧ ¬ k < 40 := by omega
      clear hwf hb hv hgG hle
      rcases hd1 with hd1 | ⟨hd1, hd2⟩
      all_goals
        go_wp2_with fail
        go_ret
        exact ⟨rfl, HB.out⟩
end View
end Go.Proofs.Ytidhblpcaccchaa
