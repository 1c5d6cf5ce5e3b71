/- The contracts of layer 18 (drive). -/
import Derived.Test.YteafhmcpppeelaaMap
import Derived.Test.YteafhmcpppeelaaSets
import Derived.Test.YteafhmcpppeelaaProg
import Derived.Deep.QuietTactic
import Derived.BigQuiet
import Derived.StillTailTactics
import Derived.BigRegion
import Derived.Deep.RegionWith
import Derived.Deep.DeepCutAuto
namespace Go.Proofs.Yteafhmcpppeelaa
open Go.RowKit
namespace Drive

/-- what the map of acks holds -/
def acksOf (acked : Nat → Bool) : Int → Option Value := fun z => if 0 ≤ z ∧ acked z.toNat then some (.bool true) else none
/-- A drive: its word's six cells, own, who has acked, was one covered, its ticks; r: its map's block. -/
def Drv (w : World) (g r : Nat) (c0 c1 c2 c3 c4 c5 : Value) (own : Bool) (acked : Nat → Bool) (covered : Bool) (ticks : Int) : Prop :=
  g ≠ r ∧ Blk w g 96 #[c0, c1, c2, c3, c4, c5, .bool own, .map (some r), .bool covered, .int .i64 ticks] ∧ MapI w r .u8 (acksOf acked)

section
variable {w w' : World} {g r : Nat} {c0 c1 c2 c3 c4 c5 : Value} {own covered : Bool} {acked : Nat → Bool} {ticks : Int}
theorem Drv.keep (h : Drv w g r c0 c1 c2 c3 c4 c5 own acked covered ticks) (hg : w'.heap[g]? = w.heap[g]?) (hr : w'.heap[r]? = w.heap[r]?) : Drv w' g r c0 c1 c2 c3 c4 c5 own acked covered ticks :=
  ⟨h.1, hg.trans h.2.1, h.2.2.keep hr⟩
end

theorem zeroBool (w : World) : (zeroValue 4).run Try.prog w = .ok (.bool false) w := by kernel_rfl

set_option maxHeartbeats 400000 in
theorem New_any (n b l : Int) (h : Bool) (t : ByteArray) (rmw own : Bool) (w : World) :
    Calls Try.prog 10 #[.agg #[.int .u32 n, .int .u8 b, .int .u8 l, .bool h, .string t, .bool rmw], .bool own] w fun e w' =>
      e = .returned (.pointer (some ⟨w.heap.size + 2, 0, none⟩)) ∧ Drv w' (w.heap.size + 2) (w.heap.size + 1) (.int .u32 n) (.int .u8 b) (.int .u8 l) (.bool h) (.string t) (.bool rmw) own (fun _ => false) false 0 ∧ Below w.heap.size w w' ∧ w'.heap.size = w.heap.size + 3 := by
  have hmm := @run_makeMap Try.prog
  go_enter Try.func10, Try.ntmps10
  go_wp2
  go_ret
  have hm : MapI ((w.alloc (.cells #[.int .u32 n, .int .u8 b, .int .u8 l, .bool h, .string t, .bool rmw] 34)).alloc (.map #[] 0)) (w.heap.size + 1) .u8 (fun _ => none) := by
    have := MapI.new (w.alloc (.cells #[.int .u32 n, .int .u8 b, .int .u8 l, .bool h, .string t, .bool rmw] 34)) .u8
    rwa [show (w.alloc (.cells #[.int .u32 n, .int .u8 b, .int .u8 l, .bool h, .string t, .bool rmw] 34)).heap.size = w.heap.size + 1 from by simp] at this
  refine ⟨rfl, ⟨by omega, Blk.new_ (by simp), (hm.keep (Below.heap_alloc _ _ _ (by simp))).congr (fun z => by simp [acksOf])⟩, (((Below.refl _ _).alloc (Nat.le_refl _) _).alloc (by simp) _).alloc (by simp; omega) _, by simp⟩

theorem none_Word (w : World) : Calls Try.prog 17 #[.pointer none] w fun e w' => e = .returned (.agg #[.int .u32 0, .int .u8 0, .int .u8 0, .bool false, .string ⟨#[]⟩, .bool false]) ∧ Below w.heap.size w w' := by
  go_enter Try.func17, Try.ntmps17
  go_wp2
  exact bodyPost_ret (v := .agg #[.int .u32 0, .int .u8 0, .int .u8 0, .bool false, .string ⟨#[]⟩, .bool false]) (by simp [results, Try.results17, go_sem]) rfl ⟨rfl, (Below.refl _ _).alloc (Nat.le_refl _) _⟩
theorem none_Own (w : World) : Calls Try.prog 16 #[.pointer none] w fun e w' => e = .returned (.bool false) ∧ w = w' := by
  go_enter Try.func16, Try.ntmps16
  go_wp2
  go_ret
  exact ⟨rfl, rfl⟩
theorem none_Ack (n : Int) (c : Bool) (w : World) : Calls Try.prog 15 #[.pointer none, .int .u8 n, .bool c] w fun e w' => e = .returned (.tuple #[]) ∧ w = w' := by
  go_enter Try.func15, Try.ntmps15
  go_wp2
  go_end0
  exact ⟨rfl, rfl⟩
theorem none_Again (w : World) : Calls Try.prog 12 #[.pointer none] w fun e w' => e = .returned (.tuple #[]) ∧ w = w' := by
  go_enter Try.func12, Try.ntmps12
  go_wp2
  go_end0
  exact ⟨rfl, rfl⟩
theorem none_Tick (n : Int) (w : World) : Calls Try.prog 13 #[.pointer none, .int .i64 n] w fun e w' => e = .returned (.bool false) ∧ w = w' := by
  go_enter Try.func13, Try.ntmps13
  go_wp2
  go_ret
  exact ⟨rfl, rfl⟩
theorem none_Done (A : Option Addr) (n c : Nat) (w : World) : Calls Try.prog 14 #[.pointer none, .slice A n c] w fun e w' => e = .returned (.tuple #[.bool false, .bool false]) ∧ w = w' := by
  go_enter Try.func14, Try.ntmps14
  go_wp2
  go_ret2
  exact ⟨rfl, rfl⟩

section
variable {w : World} {g r : Nat} {c0 c1 c2 c3 c4 c5 : Value} {own covered : Bool} {acked : Nat → Bool} {ticks : Int}
set_option maxHeartbeats 400000 in
theorem Own_any (h : Drv w g r c0 c1 c2 c3 c4 c5 own acked covered ticks) :
    Calls Try.prog 16 #[.pointer (some ⟨g, 0, none⟩)] w fun e w' => e = .returned (.bool own) ∧ w = w' := by
  have e6 := h.2.1.cell 6
  simp at e6
  clear h
  go_enter Try.func16, Try.ntmps16
  go_wp2
  go_ret
  exact ⟨rfl, rfl⟩
set_option maxHeartbeats 400000 in
theorem Word_any {n b l : Int} {hs : Bool} {t : ByteArray} {rmw : Bool} (h : Drv w g r (.int .u32 n) (.int .u8 b) (.int .u8 l) (.bool hs) (.string t) (.bool rmw) own acked covered ticks) :
    Calls Try.prog 17 #[.pointer (some ⟨g, 0, none⟩)] w fun e w' => e = .returned (.agg #[.int .u32 n, .int .u8 b, .int .u8 l, .bool hs, .string t, .bool rmw]) ∧ Below w.heap.size w w' := by
  have e0 := h.2.1.cell 0
  have e1 := h.2.1.cell 1
  have e2 := h.2.1.cell 2
  have e3 := h.2.1.cell 3
  have e4 := h.2.1.cell 4
  have e5 := h.2.1.cell 5
  simp at e0 e1 e2 e3 e4 e5
  have hg : g < w.heap.size := h.2.1.lt
  have hne : g ≠ w.heap.size := by omega
  clear h
  go_enter Try.func17, Try.ntmps17
  go_wp2
  exact bodyPost_ret (v := .agg #[.int .u32 n, .int .u8 b, .int .u8 l, .bool hs, .string t, .bool rmw]) (by simp [results, Try.results17, go_sem]) rfl ⟨rfl, (Below.refl _ _).alloc (Nat.le_refl _) _⟩
set_option maxHeartbeats 400000 in
theorem Tick_any (every : Int) (h : Drv w g r c0 c1 c2 c3 c4 c5 own acked covered ticks) (h0 : 0 ≤ ticks) (h1 : ticks < 9223372036854775807) :
    Calls Try.prog 13 #[.pointer (some ⟨g, 0, none⟩), .int .i64 every] w fun e w' =>
      e = .returned (.bool (decide (every ≤ ticks + 1))) ∧ Drv w' g r c0 c1 c2 c3 c4 c5 own acked covered (if every ≤ ticks + 1 then 0 else ticks + 1) ∧ Fr (· = g) w w' := by
  have e9 := h.2.1.cell 9
  have f9 := h.2.1.frozen 9
  simp at e9
  have H := Lib.hid h
  clear h
  by_cases hl : ticks + 1 < every
  · go_enter Try.func13, Try.ntmps13
    go_wp2
    go_ret
    exact ⟨rfl, ⟨H.out.1, H.out.2.1.set_ 9 _, H.out.2.2.keep (Below.heap_setCell _ _ _ _ (fun e => H.out.1 e.symm))⟩, (Fr.refl _ _).own _ _⟩
  · go_enter Try.func13, Try.ntmps13
    go_wp2
    go_ret
    exact ⟨rfl, ⟨H.out.1, (H.out.2.1.set_ 9 _).set_ 9 _, H.out.2.2.keep ((Below.heap_setCell _ _ _ _ (fun e => H.out.1 e.symm)).trans (Below.heap_setCell _ _ _ _ (fun e => H.out.1 e.symm)))⟩, ((Fr.refl _ _).own _ _).own _ _⟩
set_option maxRecDepth 100000 in
set_option maxHeartbeats 1000000 in
theorem Done_any (A : Option Addr) (c : Nat) (xs : List Nat) (h : Drv w g r c0 c1 c2 c3 c4 c5 own acked covered ticks) (hA : RowsAt w w.heap.size 1 A (xs.map fun x : Nat => [.int .u8 (x : Int)])) (hl : xs.length ≤ 9223372036854775807) :
    Calls Try.prog 14 #[.pointer (some ⟨g, 0, none⟩), .slice A xs.length c] w fun e w' => e = .returned (.tuple #[.bool (xs.all acked), .bool covered]) ∧ ∃ n, w' = w.drewN n := by
  have e7 := h.2.1.cell 7
  have e8 := h.2.1.cell 8
  simp at e7 e8
  have HA := Lib.hid hA
  have H := Lib.hid h
  clear h hA
  go_enter Try.func14, Try.ntmps14
  go_wp2_with fail
  go_loopg [12] xs.length (fun gk s12 wr => w = wr ∧ ∃ k : Nat, k ≤ xs.length ∧ gk = xs.length - k ∧ s12 = .int .i64 k ∧ (xs.take k).all acked = true)
  case atStart => exact ⟨rfl, 0, by omega, rfl, rfl, rfl⟩
  case round =>
    obtain ⟨rfl, k, hk, rfl, rfl, hall⟩ := hrel
    have HALL := Lib.hid hall
    clear hall
    by_cases hlt : k < xs.length
    · obtain ⟨bA, oA, rfl, hbA, hcA⟩ := HA.out.one hlt
      have hlk := H.out.2.2.lookup (P := Try.prog) (mty := 94) Try.underlying94 Try.underlying5 (zeroBool w) (xs[k] : Int)
      cases hac : acked xs[k] with
      | true =>
        have e : (acksOf acked (xs[k] : Int)).getD (.bool false) = .bool true := by simp [acksOf, hac]
        rw [e] at hlk
        have HAC := Lib.hid hac
        clear e hac
        go_wp2_with fail
        go_roundg (xs.length - (k + 1))
        case measure => omega
        case rel => exact ⟨rfl, k + 1, by omega, rfl, by go_num, by rw [List.take_succ_eq_append_getElem hlt, List.all_append, HALL.out]; simp [HAC.out]⟩
      | false =>
        have e : (acksOf acked (xs[k] : Int)).getD (.bool false) = .bool false := by simp [acksOf, hac]
        rw [e] at hlk
        have HF := Lib.hid (show xs.all acked = false by rw [List.all_eq_false]; exact ⟨xs[k], by simp, by simp [hac]⟩)
        clear e hac
        go_wp2_with fail
        go_quiet (fail)
        go_wp2_with fail
        go_ret2
        exact ⟨by rw [HF.out]; rfl, nq, rfl⟩
    · obtain rfl : k = xs.length := by omega
      go_wp2_with fail
      go_quiet (fail)
      go_wp2_with fail
      go_ret2
      have := HALL.out
      rw [List.take_length] at this
      exact ⟨by rw [this]; rfl, by assumption, rfl⟩

set_option maxRecDepth 100000 in
set_option maxHeartbeats 4000000 in
theorem Ack_any (node : Nat) (c : Bool) (h : Drv w g r c0 c1 c2 c3 c4 c5 own acked covered ticks) :
    Calls Try.prog 15 #[.pointer (some ⟨g, 0, none⟩), .int .u8 node, .bool c] w fun e w' =>
      e = .returned (.tuple #[]) ∧ Drv w' g r c0 c1 c2 c3 c4 c5 own (fun k => k == node || acked k) (covered || c) ticks ∧ Fr (fun k => k = g ∨ k = r) w w' := by
  obtain ⟨hgr, hb, hm⟩ := h
  have e7 := hb.cell 7
  have e8 := hb.cell 8
  simp at e7 e8
  have hmd : MapI w.drew r .u8 (acksOf acked) := hm
  obtain ⟨s, w1, hme, hm1, hborn, hf1, hz1⟩ := hmd.entry (P := Try.prog) (mty := 94) Try.underlying94 Try.underlying5 (zeroBool _) (node : Int)
  obtain ⟨w2, hes, hm2, hf2, hz2⟩ := hm1.store (P := Try.prog) (mty := 94) hborn (.bool true)
  have hb2 : Blk w2 g 96 #[c0, c1, c2, c3, c4, c5, .bool own, .map (some r), .bool covered, .int .i64 ticks] := hf2.blk (hf1.blk hb.drew hgr) hgr
  have e8' := hb2.cell 8
  have f8' := hb2.frozen 8
  simp at e8'
  have H2 := Lib.hid hb2
  have HM := Lib.hid hm2
  have HF := Lib.hid ((Fr.refl (· = r) w).drew.trans (hf1.trans hf2))
  clear hb hm hmd hm1 hborn hf1 hf2 hb2 hm2 hz1 hz2
  have hfin : ∀ b : Bool, b = (covered || c) → Drv (w2.setCell ⟨g, 8, none⟩ (.bool b)) g r c0 c1 c2 c3 c4 c5 own (fun k => k == node || acked k) (covered || c) ticks ∧ Fr (fun k => k = g ∨ k = r) w (w2.setCell ⟨g, 8, none⟩ (.bool b)) := by
    rintro b rfl
    refine ⟨⟨hgr, H2.out.set_ 8 _, ?_⟩, (HF.out.mono (fun k _ h => .inr h)).setCell (.inr (.inl rfl)) _⟩
    have h1 : MapI (w2.setCell ⟨g, 8, none⟩ (.bool (covered || c))) r .u8 (upd (upd (acksOf acked) (node : Int) ((acksOf acked (node : Int)).getD (.bool false))) (node : Int) (.bool true)) := HM.out.keep (Below.heap_setCell _ _ _ _ (fun e => hgr e.symm))
    refine h1.congr (fun z => ?_)
    unfold upd acksOf
    by_cases hz : z = (node : Int)
    · subst hz; simp
    · rw [if_neg hz, if_neg hz]
      by_cases h0 : 0 ≤ z
      · have : (z.toNat == node) = false := by simp; omega
        simp [h0, this]
      · simp [h0]
  have HFIN := Lib.hid hfin
  clear hfin H2 HM HF
  go_enter Try.func15, Try.ntmps15
  go_wp2_with fail
  cases covered
  all_goals
    go_region
    all_goals (go_end0; exact ⟨rfl, HFIN.out _ rfl⟩)
set_option maxRecDepth 100000 in
set_option maxHeartbeats 4000000 in
theorem Again_any {n b l : Int} {hs : Bool} {t : ByteArray} {rmw : Bool} (h : Drv w g r (.int .u32 n) (.int .u8 b) (.int .u8 l) (.bool hs) (.string t) (.bool rmw) own acked covered ticks) :
    Calls Try.prog 12 #[.pointer (some ⟨g, 0, none⟩)] w fun e w' => e = .returned (.tuple #[]) ∧ ∃ r', w.heap.size ≤ r' ∧ r' < w'.heap.size ∧
      Drv w' g r' (.int .u32 n) (.int .u8 b) (.int .u8 l) (.bool hs) (.string t) (.bool rmw) own (fun _ => false) false 0 ∧ Fr (· = g) w w' := by
  have e0 := h.2.1.cell 0
  have e1 := h.2.1.cell 1
  have e2 := h.2.1.cell 2
  have e3 := h.2.1.cell 3
  have e4 := h.2.1.cell 4
  have e5 := h.2.1.cell 5
  have e6 := h.2.1.cell 6
  simp at e0 e1 e2 e3 e4 e5 e6
  have H := Lib.hid h
  clear h
  go_enter Try.func12, Try.ntmps12
  go_wp2_with fail
  have hk : ∀ wq, Below w.drew.heap.size w.drew wq → Blk wq g 96 #[.int .u32 n, .int .u8 b, .int .u8 l, .bool hs, .string t, .bool rmw, .bool own, .map (some r), .bool covered, .int .i64 ticks] := fun wq hq => (H.out.2.1.drew).below hq H.out.2.1.lt
  have HK := Lib.hid hk
  clear hk
  go_region_with (go_at_call 10; refine (New_any _ _ _ _ _ _ _ _).mono ?_; rintro e w1 ⟨rfl, hd1, hb1, hz1⟩; have a0 := hd1.2.1.cell 0; have a1 := hd1.2.1.cell 1; have a2 := hd1.2.1.cell 2; have a3 := hd1.2.1.cell 3; have a4 := hd1.2.1.cell 4; have a5 := hd1.2.1.cell 5; have a6 := hd1.2.1.cell 6; have a7 := hd1.2.1.cell 7; have a8 := hd1.2.1.cell 8; have a9 := hd1.2.1.cell 9; have b0 := (HK.out w1 hb1).cell 0; have b1 := (HK.out w1 hb1).cell 1; have b2 := (HK.out w1 hb1).cell 2; have b3 := (HK.out w1 hb1).cell 3; have b4 := (HK.out w1 hb1).cell 4; have b5 := (HK.out w1 hb1).cell 5; have b6 := (HK.out w1 hb1).cell 6; have b7 := (HK.out w1 hb1).cell 7; have b8 := (HK.out w1 hb1).cell 8; have b9 := (HK.out w1 hb1).cell 9; have f0 := (HK.out w1 hb1).frozen 0; have f1 := (HK.out w1 hb1).frozen 1; have f2 := (HK.out w1 hb1).frozen 2; have f3 := (HK.out w1 hb1).frozen 3; have f4 := (HK.out w1 hb1).frozen 4; have f5 := (HK.out w1 hb1).frozen 5; have f6 := (HK.out w1 hb1).frozen 6; have f7 := (HK.out w1 hb1).frozen 7; have f8 := (HK.out w1 hb1).frozen 8; have f9 := (HK.out w1 hb1).frozen 9; simp at a0 a1 a2 a3 a4 a5 a6 a7 a8 a9 b0 b1 b2 b3 b4 b5 b6 b7 b8 b9; have HD1 := Lib.hid hd1; clear hd1)
  all_goals
    go_end0
    have hgl : g < w.heap.size := H.out.2.1.lt
    refine ⟨rfl, w.heap.size + 1, by omega, ?_, ⟨by omega, (HK.out w1 hb1).set10 _ _ _ _ _ _ _ _ _ _, HD1.out.2.2.keep (far_set10 w1 (show w.heap.size + 1 ≠ g by omega) _ _ _ _ _ _ _ _ _ _)⟩, ((Fr.refl (· = g) w).drew.trans (Fr.of_below hb1)).set10 _ _ _ _ _ _ _ _ _ _⟩
    rw [size_set10]; simp at hz1; omega
end
end Drive
end Go.Proofs.Yteafhmcpppeelaa
