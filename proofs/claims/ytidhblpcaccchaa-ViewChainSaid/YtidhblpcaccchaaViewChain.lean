/- Layer 5's law ViewChain, walked. -/
import Derived.Test.YtidhblpcaccchaaViewVar
import Derived.Test.YtidhblpcaccchaaViewLaw
import Derived.Test.YtidhblpcaccchaaRegion
namespace Go.Proofs.Ytidhblpcaccchaa
open Go.RowKit
namespace View

def nextN (ms : List Mem) (k : Nat) : Nat := (ms.getD (k + 1) ⟨0, 0, false⟩).node
def lastN (ms : List Mem) (k : Nat) : Nat := if k = 0 then 0 else (ms.getD (k - 1) ⟨0, 0, false⟩).node
set_option maxRecDepth 100000 in
set_option maxHeartbeats 4000000 in
theorem ViewChain_walk (nodes : Nat) (A : Option Addr) (cap : Nat) (cs : List Cm) (w : World) (hA : RowsAt w w.heap.size 5 A (cs.map Cm.cells)) (hn : nodes < 256) (hl : cs.length ≤ 9223372036854775807) (hcs : ∀ c ∈ cs, c.ok) :
    Calls Try.prog 3 #[.int .u8 nodes, .slice A cs.length cap] w fun e w' => e = .returned (.bool true) ∧ Below w.heap.size w w' := by
  have HA := Lib.hid hA
  have HCS := Lib.hid hcs
  clear hA hcs
  have HWF := Lib.hid (wf_first (n := 1 + nodes % 8) (by omega) (by omega))
  go_enter Try.func3, Try.ntmps3
  go_wp2_with fail
  (with_reducible refine (speaks _).mono ?_); rintro e w1 ⟨rfl, hb1⟩
  have HB1 := Lib.hid hb1
  clear hb1
  go_wp2_with fail
  have hf := First_ok (1 + nodes % 8) w1 (by omega) (by omega)
  rw [show ((1 + nodes % 8 : Nat) : Int) = 1 + (nodes : Int) % 8 from by omega] at hf
  (with_reducible refine hf.mono ?_); rintro e w2 ⟨⟨x, rfl, hx⟩, hb2⟩
  clear hf
  generalize firstV (1 + nodes % 8) = v at *
  obtain ⟨A1, c1, rfl, hc1, hm1, hr1⟩ := hx
  have HB2 := Lib.hid (bl_next HB1.out hb2)
  have HR1 := Lib.hid hr1
  clear hb2 hr1
  go_upto_region 4 with (fail)
  have VV0 := Lib.hid (VarV.new (w := w2) hc1 hm1 HR1.out)
  have HB3 := Lib.hid (bl_alloc HB2.out (.cells (VC v.e A1 v.ms.length c1 v.L) 28))
  have hgw := HB2.out.size
  obtain ⟨g, hg⟩ : ∃ g, g = w2.heap.size := ⟨_, rfl⟩
  rw [← hg] at VV0 hgw ⊢
  generalize w2.alloc (.cells #[.int .u32 v.e, .slice A1 v.ms.length c1, .int .u8 (v.L 0), .int .u8 (v.L 1), .int .u8 (v.L 2), .int .u8 (v.L 3), .int .u8 (v.L 4), .int .u8 (v.L 5), .int .u8 (v.L 6), .int .u8 (v.L 7)] 28) = w3 at *
  clear HR1 HB2 HB1 hc1 hm1 hg
  go_upto_block 0 with (fail)
  go_cut [7] (fun s7 wx => ∃ v : VS, WF v ∧ VarV wx g v ∧ Below w.heap.size w wx)
  case first =>
    go_wp2_with fail
    go_loopg [7] 30 (fun gk s7 wr => ∃ (k : Nat) (v : VS), k ≤ 30 ∧ k ≤ cs.length ∧ gk = 30 - k ∧ s7 = .int .i64 k ∧ WF v ∧ VarV wr g v ∧ Below w.heap.size w wr)
    case atStart => exact ⟨0, v, by omega, by omega, rfl, rfl, HWF.out, VV0.out, HB3.out⟩
    case round =>
      obtain ⟨k, v', hk, hkl, rfl, rfl, hwf, hv, hb⟩ := hrel
      clear VV0 HB3 HWF
      obtain ⟨v, rfl⟩ : ∃ v, v = v' := ⟨_, rfl⟩
      have HWF := Lib.hid hwf
      have HB := Lib.hid hb
      by_cases hlt : k < cs.length ∧ k < 30
      · obtain ⟨hlt1, hlt2⟩ := hlt
        obtain ⟨A2, c2, hv1, hv2, hv3, hv4⟩ := hv
        have HV1 := Lib.hid hv1
        have HV4 := Lib.hid hv4
        obtain ⟨b, off, rfl, hbb, d0, d1, d2, d3, d4⟩ := cm_cells HA.out hlt1
        have hok := HCS.out cs[k] (by simp)
        have hle := hb.size
        have d0 := (hb.cell (p := ⟨b, off + k * 5, none⟩) hbb).trans d0
        have d1 := (hb.cell (p := ⟨b, off + k * 5 + 1, none⟩) hbb).trans d1
        have d2 := (hb.cell (p := ⟨b, off + k * 5 + 2, none⟩) hbb).trans d2
        have d3 := (hb.cell (p := ⟨b, off + k * 5 + 3, none⟩) hbb).trans d3
        have d4 := (hb.cell (p := ⟨b, off + k * 5 + 4, none⟩) hbb).trans d4
        obtain ⟨x0, x1, x2, x3, x4, x5, x6, x7, x8, x9⟩ := hv1.ten
        have ha := apply_any v.e A2 c2 v.ms v.L cs[k].kind cs[k].node cs[k].life cs[k].epoch cs[k].req wr.drew (hv4.drew) (by have := hwf.len; omega) hv2 hv3 hwf.e0 hwf.e1 hwf.L hok.2.1 hok.2.2
        have HAP := Lib.hid ha
        have HST : Hid (WF (applyV ⟨v.e, v.ms, v.L⟩ cs[k].kind cs[k].node cs[k].life cs[k].epoch).1) := Lib.hid (hwf.step (step_apply v cs[k].kind cs[k].node cs[k].life cs[k].epoch))
        generalize cs[k] = c at *
        clear hwf hb hv1 hv4 ha hok
        go_upto_region 9 with (fail)
        refine Reg.region (fun w' => w' = wr.drew) [5, 9] (.take true [0,1,2,3,4] (.one 5 (.take false [6,7,8] (.one 9 .done)))) (by kernel_rfl) (by kernel_rfl) (by kernel_rfl) (by kernel_rfl) (rfl) ?_
        simp only [Reg.wpPlan, Reg.cls, Reg.pick, List.getElem?_cons_zero, List.getElem?_cons_succ, Option.toList_some, List.cons_append, List.nil_append]
        repeat go_big_quiet_step (fail)
        refine wpQuiet_nil ?_
        go_wp2_with fail
        (with_reducible refine HAP.out.mono ?_); rintro e w1 ⟨⟨x, rfl, hx⟩, hb1⟩
        have hb1 : Below wr.heap.size wr w1 := ⟨hb1.os, hb1.tape, hb1.output, hb1.size, hb1.block⟩
        generalize (applyV ⟨v.e, v.ms, v.L⟩ c.kind c.node c.life c.epoch).1 = v1 at *
        generalize (applyV ⟨v.e, v.ms, v.L⟩ c.kind c.node c.life c.epoch).2 = ok at *
        obtain ⟨A3, c3, rfl, g1, g2, g3⟩ := hx
        have X1 := Lib.hid (HV1.out.behind hb1)
        obtain ⟨y0, y1, y2, y3, y4, y5, y6, y7, y8, y9⟩ := X1.out.ten
        have yf := X1.out.frozen
        have HG3 := Lib.hid g3
        have HB1 := Lib.hid (bl_next HB.out hb1)
        clear hb1 g3 x0 x1 x2 x3 x4 x5 x6 x7 x8 x9 d0 d1 d2 d3 d4 HAP
        go_wp2_with fail
        refine ⟨fun h => absurd h (by decide), ?_⟩
        repeat go_big_quiet_step (fail)
        refine wpQuiet_nil ?_
        go_wp2_with fail
        refine ⟨fun h => absurd h (by decide), ?_⟩
        refine NoPanic.normal ?_
        have HV2 := Lib.hid (varV_set X1.out (v := v1) g1 g2 HG3.out)
        have HB2 := Lib.hid (below_set10 HB1.out hgw (.int .u32 v1.e) (.slice A3 v1.ms.length c3) (.int .u8 (v1.L 0)) (.int .u8 (v1.L 1)) (.int .u8 (v1.L 2)) (.int .u8 (v1.L 3)) (.int .u8 (v1.L 4)) (.int .u8 (v1.L 5)) (.int .u8 (v1.L 6)) (.int .u8 (v1.L 7)))
        clear y0 y1 y2 y3 y4 y5 y6 y7 y8 y9 yf
        go_wp2_with fail
        go_roundg (30 - (k + 1))
        case measure => omega
        case rel => exact ⟨k + 1, v1, by omega, by omega, rfl, by go_num, HST.out, HV2.out, HB2.out⟩
      · have hd1 : ¬ (k < cs.length) ∨ k < cs.length ∧ ¬ k < 30 := by omega
        have HV := Lib.hid hv
        clear hwf hb hv
        rcases hd1 with hd1 | ⟨hd1, hd2⟩
        all_goals
          go_wp2_with fail
          go_meet
          exact ⟨v, HWF.out, HV.out, HB.out⟩
  case rest =>
    obtain ⟨v, hwf, hv, hb⟩ := hcut
    have HWF := Lib.hid hwf
    have HB := Lib.hid hb
    have HV := Lib.hid hv
    clear hwf hb hv
    clear VV0 HB3
    go_wp2_with fail
    go_loopg [8, 9, 10, 11, 12, 13] v.ms.length (fun gk s8 s9 s10 s11 s12 s13 wr => ∃ (k : Nat), k ≤ v.ms.length ∧ gk = v.ms.length - k ∧ s9 = .int .i64 k ∧ s8 = .int .u8 (lastN v.ms k) ∧ Hid (VarV wr g v) ∧ Hid (Below w.heap.size w wr))
    case atStart => exact ⟨0, by omega, rfl, rfl, rfl, HV, HB⟩
    case round =>
      obtain ⟨k, hk, rfl, rfl, rfl, HVr, HBr⟩ := hrel
      clear HV HB
      have hlen := HWF.out.len
      by_cases hlt : k < v.ms.length
      · obtain ⟨A2, c2, hv1, hv2, hv3, hv4⟩ := HVr.out
        obtain ⟨m, hm⟩ : ∃ m, m = v.ms[k] := ⟨_, rfl⟩
        obtain ⟨b, off, rfl, hbb, c0, c1', c2'⟩ := mem_cells hv4 hlt
        rw [← hm] at c0 c1' c2'
        obtain ⟨hn1, hn8, hlf, hLm⟩ := HWF.out.mem m (by rw [hm]; simp)
        obtain ⟨nd, hnd⟩ : ∃ nd, m.node = nd + 1 := ⟨m.node - 1, by omega⟩
        have hnk : v.ms[k].node = nd + 1 := by rw [← hm]; exact hnd
        have e1 : Hid (Ends.ahead v.ms (nd + 1) = lastN v.ms k) := Lib.hid (by rw [← hnk, ahead_self HWF.out.nd hlt]; rfl)
        have e2 : Hid (Ends.behind v.ms (nd + 1) = nextN v.ms k) := Lib.hid (by rw [← hnk, behind_self HWF.out.nd hlt]; rfl)
        have e3 : Hid ((others v.ms (nd + 1)).length = v.ms.length - 1) := Lib.hid (by rw [← hnk]; exact others_self HWF.out.nd hlt)
        have e4 : Hid (hasB v.ms (nd + 1) m.life = true) := Lib.hid (by rw [← hnk, hm]; exact has_self HWF.out.nd hlt)
        have e5 : Hid (v.L nd = m.life) := Lib.hid (by rw [hnd] at hLm; exact hLm)
        have e6 : Hid (lastN v.ms (k + 1) = nd + 1) := Lib.hid (by unfold lastN; simp [hlt, hnk])
        rw [hnd] at c0
        have hc0 : wr.cell? ⟨b, off + k * 3, none⟩ = some (.int .u8 ((nd : Int) + 1)) := c0
        have hnd8 : nd < 8 := by omega
        clear c0 hLm hnk hm hn1
        have hE := Ends_any v.e (some ⟨b, off, none⟩) c2 (nd + 1) v.ms v.L wr hv4 (by omega)
        rw [e1.out, e2.out, show ((nd + 1 : Nat) : Int) = (nd : Int) + 1 from rfl] at hE
        have HE := Lib.hid hE
        have HV1 := Lib.hid hv1
        have HV4 := Lib.hid hv4
        obtain ⟨x0, x1, x2, x3, x4, x5, x6, x7, x8, x9⟩ := hv1.ten
        clear hE hv1 hv4 hnd
        go_upto_region 16 with (go_at_call 17; (with_reducible refine HE.out.mono ?_); rintro e w1 ⟨rfl, hb1⟩)
        have X1 := Lib.hid (HV1.out.behind hb1)
        have d0 := (hb1.cell (p := ⟨b, off + k * 3, none⟩) hbb).trans hc0
        have d1 := (hb1.cell (p := ⟨b, off + k * 3 + 1, none⟩) hbb).trans c1'
        have HB1 := Lib.hid (bl_next HBr.out hb1)
        have HR1 := Lib.hid (HV4.out.lift hb1)
        clear hc0 c1' c2' x0 x1 x2 x3 x4 x5 x6 x7 x8 x9 HE
        obtain ⟨y0, y1, y2, y3, y4, y5, y6, y7, y8, y9⟩ := X1.out.ten
        go_upto_if 69 with (fail)
        go_cut [13] (fun s13 wx => s13 = .int .u8 (nextN v.ms k) ∧ w1 = wx)
        case first =>
          by_cases hk1 : k + 1 < v.ms.length
          · obtain ⟨b', off', he, hbb', p0, p1, p2⟩ := mem_cells HR1.out hk1
            injection he with he
            injection he with he1 he2
            subst he1 he2
            have hN : nextN v.ms k = v.ms[k + 1].node := by unfold nextN; simp [hk1]
            have hki : (k : Int) + 1 < (v.ms.length : Int) := by omega
            rw [← hN] at p0
            clear hN p1 p2
            go_wp2_with fail
            go_meet
            exact ⟨rfl, rfl⟩
          · have hN : nextN v.ms k = 0 := by unfold nextN; simp [show ¬ k + 1 < v.ms.length from hk1]
            have hki : ¬ ((k : Int) + 1 < (v.ms.length : Int)) := by omega
            have HN := Lib.hid hN
            clear hN
            go_wp2_with fail
            go_meet
            exact ⟨by rw [HN.out]; rfl, rfl⟩
        case rest =>
          obtain ⟨rfl, rfl⟩ := hcut
          have q0 := later_cell y0
          have q1 := later_cell y1
          have q2 := later_cell y2
          have q3 := later_cell y3
          have q4 := later_cell y4
          have q5 := later_cell y5
          have q6 := later_cell y6
          have q7 := later_cell y7
          have q8 := later_cell y8
          have q9 := later_cell y9
          have qn : ∀ m : Reg.Later w1, m.w.cell? ⟨g, 2 + nd, none⟩ = some (.int .u8 (v.L nd)) := fun m => ((X1.out.behind m.h).cell (2 + nd)).trans (vc_get _ _ _ _ _ (by omega))
          rw [e5.out] at qn
          have qd := later_cell d1
          have tO : (((others v.ms (nd + 1)).length : Int) != (v.ms.length : Int) - 1) = false := by rw [e3.out]; simp; omega
          have hO := Others_any v.e (some ⟨b, off, none⟩) c2 (nd + 1) v.ms v.L w1.drew HR1.out.drew (by omega)
          rw [show ((nd + 1 : Nat) : Int) = (nd : Int) + 1 from rfl] at hO
          have hH := fun (w : World) (h : RowsAt w w.heap.size 3 (some ⟨b, off, none⟩) (v.ms.map Mem.cells)) => Has_any v.e (some ⟨b, off, none⟩) c2 (nd + 1) m.life v.ms v.L w h (by omega)
          rw [e4.out, show ((nd + 1 : Nat) : Int) = (nd : Int) + 1 from rfl] at hH
          have HO := Lib.hid hO
          have HH := Lib.hid hH
          have hol := others_le v.ms (nd + 1)
          clear hO hH y0 y1 y2 y3 y4 y5 y6 y7 y8 y9 d0 d1
          go_upto_region 19 with (fail)
          refine Reg.region (fun w' => ∃ m : Reg.Later w1, w' = m.w) [] (.take true [0,1,2,3,4,5,6,7,8,9,10,13,14,15,16] (.one 11 (.take true [12,17,18,19,20,21,22,23,24,25,26,27] (.one 28 (.take true [29,30,31,32,33,34,35,36,37,38,39,40,41,42,43,44] .done))))) (by kernel_rfl) (by kernel_rfl) (by kernel_rfl) (by kernel_rfl) (⟨Reg.Later.here _, rfl⟩) ?_
          simp only [Reg.wpPlan, Reg.cls, Reg.pick, List.getElem?_cons_zero, List.getElem?_cons_succ, Option.toList_some, List.cons_append, List.nil_append]
          repeat go_big_quiet_step (fail)
          refine wpQuiet_nil ?_
          go_wp2_with fail
          (with_reducible refine HO.out.mono ?_); rintro e w2 ⟨⟨Ao, co, rfl, ho1, ho2⟩, hb2⟩
          have hb2 : Below w1.heap.size w1 w2 := ⟨hb2.os, hb2.tape, hb2.output, hb2.size, hb2.block⟩
          have HB2 := Lib.hid hb2
          clear hb2 ho2 HO
          go_wp2_with fail
          refine ⟨fun _ => ⟨⟨_, HB2.out⟩, rfl⟩, ?_⟩
          repeat go_big_quiet_step (fail)
          refine wpQuiet_nil ?_
          go_wp2_with fail
          (with_reducible refine (HH.out _ (HR1.out.lift HB2.out)).mono ?_); rintro e w3 ⟨rfl, hb3⟩
          have HB3 := Lib.hid (bl_next HB2.out hb3)
          clear hb3 HH
          go_wp2_with fail
          refine ⟨fun _ => ⟨⟨_, HB3.out⟩, rfl⟩, ?_⟩
          repeat go_big_quiet_step (fail)
          refine wpQuiet_nil ?_
          refine NoPanic.normal ?_
          have HV3 := Lib.hid (VarV.below ⟨_, c2, X1.out, hv2, hv3, HR1.out⟩ HB3.out)
          have HB4 := Lib.hid (bl_next HB1.out HB3.out)
          clear q0 q1 q2 q3 q4 q5 q6 q7 q8 q9 qn qd tO
          go_wp2_with fail
          go_roundg (v.ms.length - (k + 1))
          case measure => omega
          case rel => exact ⟨k + 1, by omega, rfl, by go_num, by rw [e6.out]; rfl, HV3, HB4⟩
      · obtain rfl : k = v.ms.length := by omega
        obtain ⟨m, hm, hrdy⟩ : ∃ m, m ∈ v.ms ∧ True := by
          have := HWF.out.rdy
          unfold ready at this
          obtain ⟨m, hm⟩ := List.exists_mem_of_length_pos this
          exact ⟨m, (List.mem_filter.1 hm).1, trivial⟩
        have hpos : 0 < v.ms.length := List.length_pos_of_mem hm
        have hlast : 1 ≤ lastN v.ms v.ms.length := by
          unfold lastN
          rw [if_neg (by omega), List.getD_eq_getElem?_getD, List.getElem?_eq_getElem (by omega)]
          exact (HWF.out.mem _ (List.getElem_mem _)).1
        have tl : ((lastN v.ms v.ms.length : Int) != 0) = true := by simp; omega
        clear hlast hrdy hm
        obtain ⟨A2, c2, hv1, hv2, hv3, hv4⟩ := HVr.out
        obtain ⟨x0, x1, x2, x3, x4, x5, x6, x7, x8, x9⟩ := hv1.ten
        clear hv1 hv4
        go_wp2_with fail
        go_ret
        exact ⟨rfl, HBr.out⟩
end View
end Go.Proofs.Ytidhblpcaccchaa
