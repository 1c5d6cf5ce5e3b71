/- DiskPlays: the walk of the law's function. -/
import Derived.Test.YteafhmcpppeelaaDiskLasts
import Derived.Test.YteafhmcpppeelaaDiskRef
import Derived.Test.YteafhmcpppeelaaSets
import Derived.Test.YteafhmcpppeelaaOctPure
import Derived.Deep.CutBlock
namespace Go.Proofs.Yteafhmcpppeelaa
open Go.RowKit
namespace DiskPlays
open Disk

structure Act where
  what : Int
  n : Int
  text : List UInt8
def Act.cells (x : Act) : List Value := [.int .i64 x.what, .int .i64 x.n, .string ⟨x.text.toArray⟩]

/-- both disks, in step -/
def Both (w : World) (g gm : Nat) (wr : World) : Prop := ∃ (L R : List UInt8) (off : Bool), L.length + R.length ≤ 1048576 ∧ Dk wr g (L ++ R) L.length off ∧ Blk wr gm 50 #[.string ⟨L.toArray⟩, .string ⟨R.toArray⟩, .bool off] ∧ Below w.heap.size w wr
def Inv (w : World) (g gm len : Nat) (gk : Nat) (s5 s6 : Value) (wr : World) : Prop := ∃ (k big : Nat), k ≤ 60 ∧ k ≤ len ∧ gk = 60 - k ∧ s6 = .int .i64 k ∧ s5 = .int .i64 big ∧ big ≤ 4 ∧ Both w g gm wr
def Cut (w : World) (g gm : Nat) (s5 s9 s10 : Value) (wr : World) : Prop := ∃ (e : Int) (big : Nat), s9 = .int .i64 e ∧ s10 = .int .i64 e ∧ s5 = .int .i64 big ∧ big ≤ 4 ∧ Both w g gm wr

theorem andFFFF (x : Int) : ∃ k : Nat, k ≤ 65535 ∧ bits BinOp.and IntKind.i64 x 65535 = (k : Int) := by
  refine ⟨(BitVec.ofInt 64 x &&& 65535#64).toNat, ?_, ?_⟩
  · rw [BitVec.toNat_and]; exact Nat.and_le_right
  · show IntKind.i64.wrap ((BitVec.ofInt 64 x &&& BitVec.ofInt 64 65535).toNat : Int) = _
    have h : (BitVec.ofInt 64 x &&& 65535#64).toNat ≤ 65535 := by rw [BitVec.toNat_and]; exact Nat.and_le_right
    rw [show BitVec.ofInt 64 65535 = 65535#64 from rfl, IntKind.wrap_i64]
    omega
theorem info_u8 : (Try.prog.info? 5).map (fun i => (i.zero, i.size, i.bytes)) = some (some (.int .u8 0), 1, 1) := by kernel_rfl
theorem Both.fin {w wq : World} {g gm : Nat} {L R : List UInt8} {off : Bool} {y0 y1 y2 : Value} (h : L.length + R.length ≤ 1048576) (hne : g ≠ gm) (hd : Dk wq g (L ++ R) L.length off) (hm : Blk wq gm 50 #[y0, y1, y2]) (hB : Below w.heap.size w wq) (hgm : w.heap.size ≤ gm) :
    Both w g gm (((wq.setCell ⟨gm, 0, none⟩ (.string ⟨L.toArray⟩)).setCell ⟨gm, 1, none⟩ (.string ⟨R.toArray⟩)).setCell ⟨gm, 2, none⟩ (.bool off)) :=
  ⟨L, R, off, h, (far_set3 wq hne _ _ _).trans hd, hm.set3 _ _ _, ((hB.setCell hgm _).setCell hgm _).setCell hgm _⟩

set_option maxRecDepth 100000 in
set_option maxHeartbeats 40000000 in
theorem DiskPlays_walk (A : Option Addr) (c : Nat) (l : List Act) (w : World) (hA : RowsAt w w.heap.size 3 A (l.map Act.cells))
    (hb : ∀ x ∈ l, (-9223372036854775808 ≤ x.what ∧ x.what ≤ 9223372036854775807) ∧ x.text.length ≤ 9223372036854775807) (hl : l.length ≤ 9223372036854775807) :
    Calls Try.prog 4 #[.slice A l.length c] w fun e w' => e = .returned (.bool true) ∧ Below w.heap.size w w' := by
  have HA := Lib.hid hA
  have HBD := Lib.hid hb
  clear hA hb
  go_enter Try.func4, Try.ntmps4
  go_wp2_with fail
  refine (speaks _).mono ?_; rintro e w1 ⟨rfl, b1⟩
  go_wp2_with fail
  refine (New_any _).mono ?_; rintro e w2 ⟨rfl, d2, b2, z2⟩
  go_wp2_with fail
  have hgB : w.heap.size ≤ w1.heap.size := b1.size
  have d3 := d2.alloc (.cells #[.string ⟨#[]⟩, .string ⟨#[]⟩, .bool false] 50)
  have m3 := Blk.new w2 50 #[.string ⟨#[]⟩, .string ⟨#[]⟩, .bool false]
  rw [z2] at m3
  have B3 := bl_alloc (bl_next b1 b2) (.cells #[.string ⟨#[]⟩, .string ⟨#[]⟩, .bool false] 50)
  go_loopg [5, 6] 60 (fun gk s5 s6 wr => Inv w w1.heap.size (w1.heap.size + 1) l.length gk s5 s6 wr)
  case atStart => exact ⟨0, 0, by omega, by omega, rfl, rfl, rfl, by omega, [], [], false, by simp, d3, m3, B3⟩
  case round =>
    obtain ⟨k, big, hk, hkl, rfl, rfl, rfl, hbig, L, R, off, hLR, hd, hm, hB⟩ := hrel
    clear d2 d3 m3 B3 b2 z2
    by_cases hlt : k < l.length ∧ k < 60
    · obtain ⟨hlt1, hlt2⟩ := hlt
      obtain ⟨bA, oA, rfl, hbA, hcA⟩ := HA.out (by intro h; rw [List.map_eq_nil_iff] at h; subst h; simp at hlt1)
      have hcA := hcA k l[k].cells (by simp [hlt1])
      have cell : ∀ j u, (l[k].cells)[j]? = some u → wr.cell? ⟨bA, oA + k * 3 + j, none⟩ = some u := fun j u hu => (hB.cell hbA).trans (hcA j u hu)
      obtain ⟨xb1, xb2⟩ := HBD.out l[k] (by simp)
      generalize l[k] = x at *
      obtain ⟨what, n, text⟩ := x
      simp only [Act.cells] at cell
      have x0 : wr.cell? ⟨bA, oA + k * 3, none⟩ = some (.int .i64 what) := cell 0 _ rfl
      have x1 := cell 1 _ rfl
      have x2 := cell 2 _ rfl
      have xb1' : -9223372036854775808 ≤ what ∧ what ≤ 9223372036854775807 := xb1
      have xb2' : text.length ≤ 9223372036854775807 := xb2
      have xt := bs_cut text 0
      have HD := Lib.hid hd
      have HM := Lib.hid hm
      have HBB := Lib.hid hB
      clear cell hcA hd hm hB xb1 xb2
      go_upto_region 10 with (fail)
      go_cut [8] (fun s8 wc => ∃ t : List UInt8, s8 = .string ⟨t.toArray⟩ ∧ t.length ≤ 20 ∧ wr.alloc (.cells #[.int .i64 what, .int .i64 n, .string ⟨text.toArray⟩] 52) = wc)
      case first =>
        go_wp2_with fail
        all_goals go_meet
        all_goals refine ⟨_, rfl, ?_, rfl⟩
        all_goals first | (rw [List.length_take]; omega) | omega
      case rest =>
        obtain ⟨t, rfl, ht, rfl⟩ := hcut
        have D1 := Lib.hid (HD.out.alloc (.cells #[.int .i64 what, .int .i64 n, .string ⟨text.toArray⟩] 52))
        have M1 := Lib.hid (HM.out.alloc (.cells #[.int .i64 what, .int .i64 n, .string ⟨text.toArray⟩] 52))
        have BB1 := Lib.hid (bl_alloc HBB.out (.cells #[.int .i64 what, .int .i64 n, .string ⟨text.toArray⟩] 52))
        have X1 := Lib.hid (Blk.new wr 52 #[.int .i64 what, .int .i64 n, .string ⟨text.toArray⟩])
        have hx1 : wr.heap.size ≠ w1.heap.size := by have := HD.out.lt; omega
        have hx2 : wr.heap.size ≠ w1.heap.size + 1 := by have := HM.out.lt; omega
        have hB1 := HBB.out.size
        go_upto_block 2 with (fail)
        generalize (wrap64 (what.tmod 8 + 8)).tmod 8 = v at *
        generalize wr.alloc (.cells #[.int .i64 what, .int .i64 n, .string ⟨text.toArray⟩] 52) = W1 at *
        go_cut [5, 9, 10] (fun s5 s9 s10 wc => Cut w w1.heap.size (w1.heap.size + 1) s5 s9 s10 wc)
        case first =>
          have q1 := X1.out.cell 1
          simp at q1
          have m0 := M1.out.cell 0
          have m1 := M1.out.cell 1
          have m2 := M1.out.cell 2
          have g0 := M1.out.frozen 0
          have g1 := M1.out.frozen 1
          have g2 := M1.out.frozen 2
          simp at m0 m1 m2
          clear x0 x1 x2 HD HM HBB xt
          have hLR2 : (L ++ R).length ≤ 1048576 := by rw [List.length_append]; exact hLR
          generalize wr.heap.size = gx at *
          generalize hg : w1.heap.size = g at *
          clear hg b1
          have hv8 : v = 2 ∨ v = 3 ∨ v = 4 ∨ v = 5 ∨ v = 6 ∨ v = 7 ∨ (v ≠ 2 ∧ v ≠ 3 ∧ v ≠ 4 ∧ v ≠ 5 ∧ v ≠ 6 ∧ v ≠ 7) := by omega
          rcases hv8 with hv | hv | hv | hv | hv | hv | hv
          · as_aux_lemma =>
              have t2 : (v == 2) = true := by simp [hv]
              clear hv
              cases off
              · go_wp2_with fail
                refine (Sync_ok _ _ _ _ D1.out).mono ?_; rintro e w5 ⟨rfl, d5, f5⟩
                have M5 := Lib.hid (f5.blk M1.out (by omega))
                have BB5 := Lib.hid (bl_fr BB1.out f5 (by omega))
                have X5 := Lib.hid (f5.blk X1.out hx1)
                have p0 := M5.out.cell 0
                have p1 := M5.out.cell 1
                have p2 := M5.out.cell 2
                have r0 := M5.out.frozen 0
                have r1 := M5.out.frozen 1
                have r2 := M5.out.frozen 2
                have s1 := X5.out.cell 1
                simp at p0 p1 p2 s1
                have D5 := Lib.hid d5
                clear d5
                go_wp2_with fail
                refine (DiskRef.Sync_ok L R _ hLR).mono ?_; rintro e w6 ⟨rfl, b6⟩
                have D9 := Lib.hid (D5.out.below b6 D5.out.lt)
                have M9 := Lib.hid (M5.out.below b6 M5.out.lt)
                have BB9 := Lib.hid (bl_next BB5.out b6)
                have u0 := M9.out.cell 0
                have u1 := M9.out.cell 1
                have u2 := M9.out.cell 2
                have z0 := M9.out.frozen 0
                have z1 := M9.out.frozen 1
                have z2 := M9.out.frozen 2
                simp at u0 u1 u2
                have D9 := Lib.hid (show Dk w6 g ((L ++ R) ++ []) (L ++ R).length false by rw [List.append_nil]; exact D9.out)
                go_wp2_with fail
                go_meet
                exact ⟨0, big, rfl, rfl, rfl, hbig, Both.fin (by simpa using hLR2) (by omega) D9.out M9.out BB9.out (by omega)⟩
              · go_wp2_with fail
                refine (Sync_off _ _ _ _ D1.out).mono ?_; rintro e w5 ⟨rfl, rfl⟩
                go_wp2_with fail
                refine (DiskRef.Sync_off L R _).mono ?_; rintro e w6 ⟨rfl, b6⟩
                have D9 := Lib.hid (D1.out.below b6 D1.out.lt)
                have M9 := Lib.hid (M1.out.below b6 M1.out.lt)
                have BB9 := Lib.hid (bl_next BB1.out b6)
                have u0 := M9.out.cell 0
                have u1 := M9.out.cell 1
                have u2 := M9.out.cell 2
                have z0 := M9.out.frozen 0
                have z1 := M9.out.frozen 1
                have z2 := M9.out.frozen 2
                simp at u0 u1 u2
                go_wp2_with fail
                go_meet
                exact ⟨10, big, rfl, rfl, rfl, hbig, Both.fin hLR (by omega) D9.out M9.out BB9.out (by omega)⟩
          · as_aux_lemma =>
              have t2 : (v == 2) = false := by simp; omega
              have t3 : (v == 3) = true := by simp [hv]
              clear hv
              cases off
              · by_cases k0 : n < 0
                · go_wp2_with fail
                  refine (Cut_range _ _ _ _ _ D1.out (.inl k0)).mono ?_; rintro e w5 ⟨rfl, rfl⟩
                  go_wp2_with fail
                  refine (DiskRef.Cut_low L R _ hLR n k0).mono ?_; rintro e w6 ⟨rfl, b6⟩
                  have D9 := Lib.hid (D1.out.below b6 D1.out.lt)
                  have M9 := Lib.hid (M1.out.below b6 M1.out.lt)
                  have BB9 := Lib.hid (bl_next BB1.out b6)
                  have u0 := M9.out.cell 0
                  have u1 := M9.out.cell 1
                  have u2 := M9.out.cell 2
                  have z0 := M9.out.frozen 0
                  have z1 := M9.out.frozen 1
                  have z2 := M9.out.frozen 2
                  simp at u0 u1 u2
                  go_wp2_with fail
                  go_meet
                  exact ⟨9, big, rfl, rfl, rfl, hbig, Both.fin hLR (by omega) D9.out M9.out BB9.out (by omega)⟩
                · by_cases k1 : ((L ++ R).length : Int) < n
                  · go_wp2_with fail
                    refine (Cut_range _ _ _ _ _ D1.out (.inr k1)).mono ?_; rintro e w5 ⟨rfl, rfl⟩
                    go_wp2_with fail
                    refine (DiskRef.Cut_high L R _ hLR n (by omega) k1).mono ?_; rintro e w6 ⟨rfl, b6⟩
                    have D9 := Lib.hid (D1.out.below b6 D1.out.lt)
                    have M9 := Lib.hid (M1.out.below b6 M1.out.lt)
                    have BB9 := Lib.hid (bl_next BB1.out b6)
                    have u0 := M9.out.cell 0
                    have u1 := M9.out.cell 1
                    have u2 := M9.out.cell 2
                    have z0 := M9.out.frozen 0
                    have z1 := M9.out.frozen 1
                    have z2 := M9.out.frozen 2
                    simp at u0 u1 u2
                    go_wp2_with fail
                    go_meet
                    exact ⟨9, big, rfl, rfl, rfl, hbig, Both.fin hLR (by omega) D9.out M9.out BB9.out (by omega)⟩
                  · obtain ⟨m, rfl⟩ := Int.eq_ofNat_of_zero_le (show 0 ≤ n by omega)
                    have hmL : m ≤ (L ++ R).length := by omega
                    have hlt9 : ((L ++ R).take m).length = m := by rw [List.length_take]; omega
                    have HLT := Lib.hid hlt9
                    clear hlt9
                    go_wp2_with fail
                    refine (Cut_ok _ _ _ _ _ D1.out hmL).mono ?_; rintro e w5 ⟨rfl, d5, f5⟩
                    have M5 := Lib.hid (f5.blk M1.out (by omega))
                    have BB5 := Lib.hid (bl_fr BB1.out f5 (by omega))
                    have X5 := Lib.hid (f5.blk X1.out hx1)
                    have p0 := M5.out.cell 0
                    have p1 := M5.out.cell 1
                    have p2 := M5.out.cell 2
                    have r0 := M5.out.frozen 0
                    have r1 := M5.out.frozen 1
                    have r2 := M5.out.frozen 2
                    have s1 := X5.out.cell 1
                    simp at p0 p1 p2 s1
                    have D5 := Lib.hid d5
                    clear d5
                    go_wp2_with fail
                    refine (DiskRef.Cut_ok L R _ hLR m hmL).mono ?_; rintro e w6 ⟨rfl, b6⟩
                    have D9 := Lib.hid (D5.out.below b6 D5.out.lt)
                    have M9 := Lib.hid (M5.out.below b6 M5.out.lt)
                    have BB9 := Lib.hid (bl_next BB5.out b6)
                    have u0 := M9.out.cell 0
                    have u1 := M9.out.cell 1
                    have u2 := M9.out.cell 2
                    have z0 := M9.out.frozen 0
                    have z1 := M9.out.frozen 1
                    have z2 := M9.out.frozen 2
                    simp at u0 u1 u2
                    have D9 := Lib.hid (show Dk w6 g ((L ++ R).take m ++ []) ((L ++ R).take m).length false by rw [List.append_nil, HLT.out]; exact D9.out)
                    go_wp2_with fail
                    go_meet
                    exact ⟨0, big, rfl, rfl, rfl, hbig, Both.fin (by rw [HLT.out]; simp; omega) (by omega) D9.out M9.out BB9.out (by omega)⟩
              · go_wp2_with fail
                refine (Cut_off _ _ _ _ _ D1.out).mono ?_; rintro e w5 ⟨rfl, rfl⟩
                go_wp2_with fail
                refine (DiskRef.Cut_off L R _ hLR n).mono ?_; rintro e w6 ⟨rfl, b6⟩
                have D9 := Lib.hid (D1.out.below b6 D1.out.lt)
                have M9 := Lib.hid (M1.out.below b6 M1.out.lt)
                have BB9 := Lib.hid (bl_next BB1.out b6)
                have u0 := M9.out.cell 0
                have u1 := M9.out.cell 1
                have u2 := M9.out.cell 2
                have z0 := M9.out.frozen 0
                have z1 := M9.out.frozen 1
                have z2 := M9.out.frozen 2
                simp at u0 u1 u2
                go_wp2_with fail
                go_meet
                exact ⟨10, big, rfl, rfl, rfl, hbig, Both.fin hLR (by omega) D9.out M9.out BB9.out (by omega)⟩
          · as_aux_lemma =>
              have t2 : (v == 2) = false := by simp; omega
              have t3 : (v == 3) = false := by simp; omega
              have t4 : (v == 4) = true := by simp [hv]
              clear hv
              cases off
              · have hcr := Crash_on g (L ++ R) L.length n W1 D1.out hLR2 (by rw [List.length_append]; omega)
                have hle : left (L ++ R).length L.length n = L.length + min n.toNat R.length := by unfold left; rw [List.length_append, show L.length + R.length - L.length = R.length from by omega]
                have htk : (L ++ R).take (L.length + min n.toNat R.length) = L ++ R.take (min n.toNat R.length) := by rw [List.take_append, List.take_of_length_le (by omega), show L.length + min n.toNat R.length - L.length = min n.toNat R.length from by omega]
                have hln : (L ++ R.take (min n.toNat R.length)).length = L.length + min n.toNat R.length := by rw [List.length_append, List.length_take]; omega
                rw [hle, htk, ← hln] at hcr
                have HCR := Lib.hid hcr
                have HLN := Lib.hid hln
                clear hcr hle htk hln
                go_wp2_with fail
                refine (HCR.out).mono ?_; rintro e w5 ⟨rfl, d5, f5⟩
                have M5 := Lib.hid (f5.blk M1.out (by omega))
                have BB5 := Lib.hid (bl_fr BB1.out f5 (by omega))
                have X5 := Lib.hid (f5.blk X1.out hx1)
                have p0 := M5.out.cell 0
                have p1 := M5.out.cell 1
                have p2 := M5.out.cell 2
                have r0 := M5.out.frozen 0
                have r1 := M5.out.frozen 1
                have r2 := M5.out.frozen 2
                have s1 := X5.out.cell 1
                simp at p0 p1 p2 s1
                have D5 := Lib.hid d5
                clear d5
                go_wp2_with fail
                refine (DiskRef.Crash_on L R _ hLR n).mono ?_; rintro e w6 ⟨rfl, b6⟩
                have D9 := Lib.hid (D5.out.below b6 D5.out.lt)
                have M9 := Lib.hid (M5.out.below b6 M5.out.lt)
                have BB9 := Lib.hid (bl_next BB5.out b6)
                have u0 := M9.out.cell 0
                have u1 := M9.out.cell 1
                have u2 := M9.out.cell 2
                have z0 := M9.out.frozen 0
                have z1 := M9.out.frozen 1
                have z2 := M9.out.frozen 2
                simp at u0 u1 u2
                have D9 := Lib.hid (show Dk w6 g ((L ++ R.take (min n.toNat R.length)) ++ []) (L ++ R.take (min n.toNat R.length)).length true by rw [List.append_nil]; exact D9.out)
                go_wp2_with fail
                go_meet
                exact ⟨0, big, rfl, rfl, rfl, hbig, Both.fin (by rw [HLN.out]; simp; omega) (by omega) D9.out M9.out BB9.out (by omega)⟩
              · go_wp2_with fail
                refine (Crash_off _ _ _ _ _ D1.out).mono ?_; rintro e w5 ⟨rfl, rfl⟩
                go_wp2_with fail
                refine (DiskRef.Crash_off L R _ n).mono ?_; rintro e w6 ⟨rfl, b6⟩
                have D9 := Lib.hid (D1.out.below b6 D1.out.lt)
                have M9 := Lib.hid (M1.out.below b6 M1.out.lt)
                have BB9 := Lib.hid (bl_next BB1.out b6)
                have u0 := M9.out.cell 0
                have u1 := M9.out.cell 1
                have u2 := M9.out.cell 2
                have z0 := M9.out.frozen 0
                have z1 := M9.out.frozen 1
                have z2 := M9.out.frozen 2
                simp at u0 u1 u2
                go_wp2_with fail
                go_meet
                exact ⟨0, big, rfl, rfl, rfl, hbig, Both.fin hLR (by omega) D9.out M9.out BB9.out (by omega)⟩
          · as_aux_lemma =>
              have t2 : (v == 2) = false := by simp; omega
              have t3 : (v == 3) = false := by simp; omega
              have t4 : (v == 4) = false := by simp; omega
              have t5 : (v == 5) = true := by simp [hv]
              clear hv
              go_wp2_with fail
              refine (Start_any _ _ _ _ _ D1.out).mono ?_; rintro e w5 ⟨rfl, d5, f5⟩
              have M5 := Lib.hid (f5.blk M1.out (by omega))
              have BB5 := Lib.hid (bl_fr BB1.out f5 (by omega))
              have X5 := Lib.hid (f5.blk X1.out hx1)
              have p0 := M5.out.cell 0
              have p1 := M5.out.cell 1
              have p2 := M5.out.cell 2
              have r0 := M5.out.frozen 0
              have r1 := M5.out.frozen 1
              have r2 := M5.out.frozen 2
              have s1 := X5.out.cell 1
              simp at p0 p1 p2 s1
              have D5 := Lib.hid d5
              clear d5
              go_wp2_with fail
              go_meet
              exact ⟨0, big, rfl, rfl, rfl, hbig, L, R, false, hLR, D5.out.far (show g ≠ g + 1 by omega) _, M5.out.set_ 2 _, BB5.out.setCell (show w.heap.size ≤ g + 1 by omega) _⟩
          · as_aux_lemma =>
              have t2 : (v == 2) = false := by simp; omega
              have t3 : (v == 3) = false := by simp; omega
              have t4 : (v == 4) = false := by simp; omega
              have t5 : (v == 5) = false := by simp; omega
              have t6 : (v == 6) = true := by simp [hv]
              clear hv
              go_wp2_with fail
              refine (Wipe_any _ _ _ _ _ D1.out).mono ?_; rintro e w5 ⟨rfl, d5, f5⟩
              have M5 := Lib.hid (f5.blk M1.out (by omega))
              have BB5 := Lib.hid (bl_fr BB1.out f5 (by omega))
              have X5 := Lib.hid (f5.blk X1.out hx1)
              have p0 := M5.out.cell 0
              have p1 := M5.out.cell 1
              have p2 := M5.out.cell 2
              have r0 := M5.out.frozen 0
              have r1 := M5.out.frozen 1
              have r2 := M5.out.frozen 2
              have s1 := X5.out.cell 1
              simp at p0 p1 p2 s1
              have D5 := Lib.hid d5
              clear d5
              go_wp2_with fail
              go_meet
              exact ⟨0, big, rfl, rfl, rfl, hbig, [], [], off, by simp, (D5.out.far (show g ≠ g + 1 by omega) _).far (show g ≠ g + 1 by omega) _, (M5.out.set_ 0 _).set_ 1 _, (BB5.out.setCell (show w.heap.size ≤ g + 1 by omega) _).setCell (show w.heap.size ≤ g + 1 by omega) _⟩
          · as_aux_lemma =>
              have t2 : (v == 2) = false := by simp; omega
              have t3 : (v == 3) = false := by simp; omega
              have t4 : (v == 4) = false := by simp; omega
              have t5 : (v == 5) = false := by simp; omega
              have t6 : (v == 6) = false := by simp; omega
              have t7 : (v == 7) = true := by simp [hv]
              clear hv
              by_cases hb4 : big < 4
              · obtain ⟨q, hq, hand⟩ := andFFFF n
                have hm1 : (400000 : Int) + (q : Int) = ((400000 + q : Nat) : Int) := by omega
                obtain ⟨i0, hi, hz0, hz1, hz2⟩ := info_parts info_u8
                obtain ⟨m, hm⟩ : ∃ m, m = 400000 + q := ⟨_, rfl⟩
                have hmB : m ≤ 465535 := by omega
                have hmk : (Instr.makeSlice 37 (.int .i64 (400000 + (q : Int))) (.int .i64 (400000 + (q : Int)))).run Try.prog W1 =
                    .ok (.slice (some ⟨W1.heap.size, 0, none⟩) m m) (W1.alloc (.cells (u8s (List.replicate m 0)) 5)) := by
                  have h := run_make (P := Try.prog) W1 37 5 i0 (.int .u8 0) Try.underlying37 hi hz0 .i64 .i64 (m : Int) (m : Int) (by omega) (Int.le_refl _) (by rw [hz2]; omega) (by omega)
                  rw [← Oct.madeCells_u8, hm1, ← hm]
                  simpa [hz1, Value.cells] using h
                have hcv : (convert 37 9 (.slice (some ⟨W1.heap.size, 0, none⟩) m m)).run Try.prog (W1.alloc (.cells (u8s (List.replicate m 0)) 5)) = .ok (.string ⟨(List.replicate m (0 : UInt8)).toArray⟩) (W1.alloc (.cells (u8s (List.replicate m 0)) 5)) := by
                  have h := run_string_u8s (P := Try.prog) 37 5 9 Try.underlying37 Try.underlying5 Try.underlying9 W1.heap.size m m (List.replicate m (0 : UInt8)) (by simp) 5 (Blk.new W1 _ _)
                  rw [List.take_of_length_le (by simp)] at h
                  exact h
                clear hm1 hi hz0 hz1 hz2 hm
                have hml := Lib.hid (show (List.replicate m (0 : UInt8)).length = m by simp)
                generalize List.replicate m (0 : UInt8) = zs at *
                have D2 := Lib.hid (D1.out.alloc (.cells (u8s zs) 5))
                have M2 := Lib.hid (M1.out.alloc (.cells (u8s zs) 5))
                have X2 := Lib.hid (X1.out.alloc (.cells (u8s zs) 5))
                have BB2 := Lib.hid (bl_alloc BB1.out (.cells (u8s zs) 5))
                go_wp2_with fail
                clear hmk hcv
                generalize W1.alloc (.cells (u8s zs) 5) = W2 at *
                have hzl : zs.length ≤ 1048576 := by rw [hml.out]; omega
                clear D1 M1 X1 BB1 m0 m1 m2 g0 g1 g2 q1
                have D1 := D2
                have M1 := M2
                have X1 := X2
                have BB1 := BB2
                clear D2 M2 X2 BB2
                have m0 := M1.out.cell 0
                have m1 := M1.out.cell 1
                have m2 := M1.out.cell 2
                have g0 := M1.out.frozen 0
                have g1 := M1.out.frozen 1
                have g2 := M1.out.frozen 2
                simp at m0 m1 m2
                cases off
                · by_cases hf : 1048576 < L.length + R.length + zs.length
                  · go_wp2_with fail
                    refine (Append_full _ (L ++ R) _ ⟨zs.toArray⟩ _ D1.out hLR2 (by rw [bs_len, List.length_append]; omega)).mono ?_; rintro e w5 ⟨rfl, rfl⟩
                    go_wp2_with fail
                    refine (DiskRef.Append_full L R _ zs hLR (by omega) hf).mono ?_; rintro e w6 ⟨rfl, b6⟩
                    have D9 := Lib.hid (D1.out.below b6 D1.out.lt)
                    have M9 := Lib.hid (M1.out.below b6 M1.out.lt)
                    have BB9 := Lib.hid (bl_next BB1.out b6)
                    have u0 := M9.out.cell 0
                    have u1 := M9.out.cell 1
                    have u2 := M9.out.cell 2
                    have z0 := M9.out.frozen 0
                    have z1 := M9.out.frozen 1
                    have z2 := M9.out.frozen 2
                    simp at u0 u1 u2
                    go_wp2_with fail
                    go_meet
                    exact ⟨6, big + 1, rfl, rfl, by go_num, (by omega), Both.fin hLR (by omega) D9.out M9.out BB9.out (by omega)⟩
                  · go_wp2_with fail
                    refine (Append_ok _ (L ++ R) zs _ _ D1.out hLR2 (by rw [List.length_append]; omega)).mono ?_; rintro e w5 ⟨rfl, d5, f5⟩
                    have M5 := Lib.hid (f5.blk M1.out (by omega))
                    have BB5 := Lib.hid (bl_fr BB1.out f5 (by omega))
                    have X5 := Lib.hid (f5.blk X1.out hx1)
                    have p0 := M5.out.cell 0
                    have p1 := M5.out.cell 1
                    have p2 := M5.out.cell 2
                    have r0 := M5.out.frozen 0
                    have r1 := M5.out.frozen 1
                    have r2 := M5.out.frozen 2
                    have s1 := X5.out.cell 1
                    simp at p0 p1 p2 s1
                    have D5 := Lib.hid d5
                    clear d5
                    go_wp2_with fail
                    refine (DiskRef.Append_ok L R _ zs hLR (by omega) (by omega)).mono ?_; rintro e w6 ⟨rfl, b6⟩
                    have D9 := Lib.hid (D5.out.below b6 D5.out.lt)
                    have M9 := Lib.hid (M5.out.below b6 M5.out.lt)
                    have BB9 := Lib.hid (bl_next BB5.out b6)
                    have u0 := M9.out.cell 0
                    have u1 := M9.out.cell 1
                    have u2 := M9.out.cell 2
                    have z0 := M9.out.frozen 0
                    have z1 := M9.out.frozen 1
                    have z2 := M9.out.frozen 2
                    simp at u0 u1 u2
                    have D9 := Lib.hid (show Dk w6 g (L ++ (R ++ zs)) L.length false by rw [← List.append_assoc]; exact D9.out)
                    go_wp2_with fail
                    go_meet
                    exact ⟨0, big + 1, rfl, rfl, by go_num, (by omega), Both.fin (by rw [List.length_append]; omega) (by omega) D9.out M9.out BB9.out (by omega)⟩
                · go_wp2_with fail
                  refine (Append_off _ _ _ _ _ D1.out).mono ?_; rintro e w5 ⟨rfl, rfl⟩
                  go_wp2_with fail
                  refine (DiskRef.Append_off L R _ ⟨zs.toArray⟩).mono ?_; rintro e w6 ⟨rfl, b6⟩
                  have D9 := Lib.hid (D1.out.below b6 D1.out.lt)
                  have M9 := Lib.hid (M1.out.below b6 M1.out.lt)
                  have BB9 := Lib.hid (bl_next BB1.out b6)
                  have u0 := M9.out.cell 0
                  have u1 := M9.out.cell 1
                  have u2 := M9.out.cell 2
                  have z0 := M9.out.frozen 0
                  have z1 := M9.out.frozen 1
                  have z2 := M9.out.frozen 2
                  simp at u0 u1 u2
                  go_wp2_with fail
                  go_meet
                  exact ⟨10, big + 1, rfl, rfl, by go_num, (by omega), Both.fin hLR (by omega) D9.out M9.out BB9.out (by omega)⟩
              · go_wp2_with fail
                go_meet
                exact ⟨0, big, rfl, rfl, rfl, hbig, L, R, off, hLR, D1.out, M1.out, BB1.out⟩
          · as_aux_lemma =>
              have t2 : (v == 2) = false := by simp; omega
              have t3 : (v == 3) = false := by simp; omega
              have t4 : (v == 4) = false := by simp; omega
              have t5 : (v == 5) = false := by simp; omega
              have t6 : (v == 6) = false := by simp; omega
              have t7 : (v == 7) = false := by simp; omega
              clear hv
              cases off
              · by_cases hf : 1048576 < L.length + R.length + t.length
                · go_wp2_with fail
                  refine (Append_full _ (L ++ R) _ ⟨t.toArray⟩ _ D1.out hLR2 (by rw [bs_len, List.length_append]; omega)).mono ?_; rintro e w5 ⟨rfl, rfl⟩
                  go_wp2_with fail
                  refine (DiskRef.Append_full L R _ t hLR (by omega) hf).mono ?_; rintro e w6 ⟨rfl, b6⟩
                  have D9 := Lib.hid (D1.out.below b6 D1.out.lt)
                  have M9 := Lib.hid (M1.out.below b6 M1.out.lt)
                  have BB9 := Lib.hid (bl_next BB1.out b6)
                  have u0 := M9.out.cell 0
                  have u1 := M9.out.cell 1
                  have u2 := M9.out.cell 2
                  have z0 := M9.out.frozen 0
                  have z1 := M9.out.frozen 1
                  have z2 := M9.out.frozen 2
                  simp at u0 u1 u2
                  go_wp2_with fail
                  go_meet
                  exact ⟨6, big, rfl, rfl, rfl, hbig, Both.fin hLR (by omega) D9.out M9.out BB9.out (by omega)⟩
                · go_wp2_with fail
                  refine (Append_ok _ (L ++ R) t _ _ D1.out hLR2 (by rw [List.length_append]; omega)).mono ?_; rintro e w5 ⟨rfl, d5, f5⟩
                  have M5 := Lib.hid (f5.blk M1.out (by omega))
                  have BB5 := Lib.hid (bl_fr BB1.out f5 (by omega))
                  have X5 := Lib.hid (f5.blk X1.out hx1)
                  have p0 := M5.out.cell 0
                  have p1 := M5.out.cell 1
                  have p2 := M5.out.cell 2
                  have r0 := M5.out.frozen 0
                  have r1 := M5.out.frozen 1
                  have r2 := M5.out.frozen 2
                  have s1 := X5.out.cell 1
                  simp at p0 p1 p2 s1
                  have D5 := Lib.hid d5
                  clear d5
                  go_wp2_with fail
                  refine (DiskRef.Append_ok L R _ t hLR (by omega) (by omega)).mono ?_; rintro e w6 ⟨rfl, b6⟩
                  have D9 := Lib.hid (D5.out.below b6 D5.out.lt)
                  have M9 := Lib.hid (M5.out.below b6 M5.out.lt)
                  have BB9 := Lib.hid (bl_next BB5.out b6)
                  have u0 := M9.out.cell 0
                  have u1 := M9.out.cell 1
                  have u2 := M9.out.cell 2
                  have z0 := M9.out.frozen 0
                  have z1 := M9.out.frozen 1
                  have z2 := M9.out.frozen 2
                  simp at u0 u1 u2
                  have D9 := Lib.hid (show Dk w6 g (L ++ (R ++ t)) L.length false by rw [← List.append_assoc]; exact D9.out)
                  go_wp2_with fail
                  go_meet
                  exact ⟨0, big, rfl, rfl, rfl, hbig, Both.fin (by rw [List.length_append]; omega) (by omega) D9.out M9.out BB9.out (by omega)⟩
              · go_wp2_with fail
                refine (Append_off _ _ _ _ _ D1.out).mono ?_; rintro e w5 ⟨rfl, rfl⟩
                go_wp2_with fail
                refine (DiskRef.Append_off L R _ ⟨t.toArray⟩).mono ?_; rintro e w6 ⟨rfl, b6⟩
                have D9 := Lib.hid (D1.out.below b6 D1.out.lt)
                have M9 := Lib.hid (M1.out.below b6 M1.out.lt)
                have BB9 := Lib.hid (bl_next BB1.out b6)
                have u0 := M9.out.cell 0
                have u1 := M9.out.cell 1
                have u2 := M9.out.cell 2
                have z0 := M9.out.frozen 0
                have z1 := M9.out.frozen 1
                have z2 := M9.out.frozen 2
                simp at u0 u1 u2
                go_wp2_with fail
                go_meet
                exact ⟨10, big, rfl, rfl, rfl, hbig, Both.fin hLR (by omega) D9.out M9.out BB9.out (by omega)⟩
        case rest =>
          clear D1 M1 BB1 X1 HD HM HBB x0 x1 x2 xt
          obtain ⟨e0, big2, rfl, rfl, rfl, hbig2, L2, R2, off2, hLR2, hd2, hm2, hB2⟩ := hcut
          have xc := bs_cat L2 R2
          have n0 := hm2.cell 0
          have n1 := hm2.cell 1
          have n2 := hm2.cell 2
          simp at n0 n1 n2
          have hll : (L2.length : Int) + (R2.length : Int) ≤ 1048576 := by omega
          have D2 := Lib.hid hd2
          have M2 := Lib.hid hm2
          have BB2 := Lib.hid hB2
          clear hd2 hm2 hB2
          cases off2
          · as_aux_lemma =>
              go_wp2_with fail
              refine (Read_ok _ _ _ _ D2.out).mono ?_; rintro e w5 ⟨rfl, rfl⟩
              go_wp2_with fail
              go_quiet ((go_at_call 31; exact Calls.quiet_of_same ((On_any _ _ _ _ _ (Blk.drewN D2.out _)).mono fun _ _ h => ⟨h.1, h.2.symm⟩)))
              go_wp2_with fail
              go_roundg (60 - (k + 1))
              case measure => omega
              case rel => exact ⟨k + 1, big2, by omega, by omega, rfl, by go_num, rfl, hbig2, L2, R2, false, hLR2, Blk.drewN D2.out _, M2.out.drewN _, below_drewN BB2.out _⟩
          · as_aux_lemma =>
              go_wp2_with fail
              refine (Read_off _ _ _ _ D2.out).mono ?_; rintro e w5 ⟨rfl, rfl⟩
              go_wp2_with fail
              go_quiet ((go_at_call 31; exact Calls.quiet_of_same ((On_any _ _ _ _ _ (Blk.drewN D2.out _)).mono fun _ _ h => ⟨h.1, h.2.symm⟩)))
              go_wp2_with fail
              go_roundg (60 - (k + 1))
              case measure => omega
              case rel => exact ⟨k + 1, big2, by omega, by omega, rfl, by go_num, rfl, hbig2, L2, R2, true, hLR2, Blk.drewN D2.out _, M2.out.drewN _, below_drewN BB2.out _⟩
    · have HB := Lib.hid hB
      clear hd hm hB
      have hx : ¬ k < l.length ∨ k < l.length ∧ ¬ k < 60 := by omega
      rcases hx with hx | ⟨hx1, hx2⟩
      · have e1 : decide ((k : Int) < (l.length : Int)) = false := by simp; omega
        go_wp2_with fail
        go_ret
        exact ⟨rfl, HB.out⟩
      · have e1 : decide ((k : Int) < (l.length : Int)) = true := by simp; omega
        have e2 : decide ((k : Int) < 60) = false := by simp; omega
        go_wp2_with fail
        go_ret
        exact ⟨rfl, HB.out⟩
end DiskPlays
end Go.Proofs.Yteafhmcpppeelaa
