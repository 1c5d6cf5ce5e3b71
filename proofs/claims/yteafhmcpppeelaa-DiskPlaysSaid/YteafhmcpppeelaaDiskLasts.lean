/- DiskLasts: the walk of the law's function. -/
import Derived.Test.YteafhmcpppeelaaDisk
import Derived.Test.YteafhmcpppeelaaBaseB
import Derived.Deep.DeepCutAuto
namespace Go.Proofs.Yteafhmcpppeelaa
open Go.RowKit
namespace Disk

set_option maxRecDepth 100000 in
set_option maxHeartbeats 1000000 in
theorem speaks (w : World) :
    Calls Try.prog 18 #[] w fun e w' => e = .returned (.bool true) ∧ Below w.heap.size w w' := by
  go_enter Try.func18, Try.ntmps18
  go_wp2_with fail
  refine (New_any _).mono ?_; rintro e w1 ⟨rfl, h1, b1, z1⟩
  go_wp2_with fail
  refine (Append_ok _ _ [97, 98] _ _ h1 (by simp) (by simp)).mono ?_; rintro e w2 ⟨rfl, h2, f2⟩
  go_wp2_with fail
  refine (Sync_ok _ _ _ _ h2).mono ?_; rintro e w3 ⟨rfl, h3, f3⟩
  go_wp2_with fail
  refine (Append_ok _ _ [99, 100, 101] _ _ h3 (by simp) (by simp)).mono ?_; rintro e w4 ⟨rfl, h4, f4⟩
  go_wp2_with fail
  refine (Crash_on _ _ 2 _ _ h4 (by simp) (by simp)).mono ?_; rintro e w5 ⟨rfl, h5, f5⟩
  go_wp2_with fail
  refine (On_any _ _ _ _ _ h5).mono ?_; rintro e w6 ⟨rfl, rfl⟩
  go_wp2_with fail
  refine (Start_any _ _ _ _ _ h5).mono ?_; rintro e w6 ⟨rfl, h6, f6⟩
  go_wp2_with fail
  refine (Read_ok _ _ _ _ h6).mono ?_; rintro e w7 ⟨rfl, rfl⟩
  have e7 : ([] ++ [97, 98] ++ [99, 100, 101] : List UInt8).take (left ([] ++ [97, 98] ++ [99, 100, 101] : List UInt8).length 2 1) = [97, 98, 99] := by decide
  rw [e7] at h6 ⊢
  go_wp2_with fail
  refine (On_any _ _ _ _ _ h6).mono ?_; rintro e w8 ⟨rfl, rfl⟩
  go_wp2_with fail
  go_ret
  refine ⟨rfl, ?_⟩
  have hg : w.heap.size ≤ w.heap.size := Nat.le_refl _
  exact below_fr b1 ((((f2.trans f3).trans f4).trans f5).trans f6) hg b1.size

/-- what is cut of each text, one behind the other -/
def cat (ss : List (List UInt8)) : List UInt8 := (ss.map fun s => s.take 50).flatten
theorem cat_len (ss : List (List UInt8)) : (cat ss).length ≤ 50 * ss.length := by
  induction ss with
  | nil => simp [cat]
  | cons s ss ih => simp only [cat, List.map_cons, List.flatten_cons, List.length_append, List.length_take, List.length_cons] at ih ⊢; omega
theorem cat_snoc (ss : List (List UInt8)) (k : Nat) (h : k < ss.length) : cat (ss.take (k + 1)) = cat (ss.take k) ++ ss[k].take 50 := by
  rw [List.take_succ_eq_append_getElem h]; unfold cat; rw [List.map_append, List.flatten_append]; simp
theorem take_min (t : List UInt8) : t.take (if (50 : Int) < (t.length : Int) then 50 else (t.length : Int)).toNat = t.take 50 := by
  split
  · rfl
  · rw [Int.toNat_natCast, List.take_length, List.take_of_length_le (by omega)]

set_option maxRecDepth 100000 in
set_option maxHeartbeats 4000000 in
theorem DiskLasts_walk (A1 A2 : Option Addr) (c1 c2 : Nat) (s1 s2 : List (List UInt8)) (keep : Int) (w : World) (h1 : RowsAt w w.heap.size 1 A1 (s1.map fun s => [.string ⟨s.toArray⟩])) (h2 : RowsAt w w.heap.size 1 A2 (s2.map fun s => [.string ⟨s.toArray⟩]))
    (l1 : s1.length ≤ 9223372036854775807) (l2 : s2.length ≤ 9223372036854775807) (m1 : ∀ s ∈ s1, s.length ≤ 9223372036854775807) (m2 : ∀ s ∈ s2, s.length ≤ 9223372036854775807) :
    Calls Try.prog 5 #[.slice A1 s1.length c1, .slice A2 s2.length c2, .int .i64 keep] w fun e w' => e = .returned (.bool true) ∧ Below w.heap.size w w' := by
  have H1 := Lib.hid h1
  have H2 := Lib.hid h2
  have M1 := Lib.hid m1
  have M2 := Lib.hid m2
  clear h1 h2 m1 m2
  go_enter Try.func5, Try.ntmps5
  go_wp2_with fail
  refine (speaks _).mono ?_; rintro e w1 ⟨rfl, b1⟩
  go_wp2_with fail
  refine (New_any _).mono ?_; rintro e w2 ⟨rfl, d2, b2, z2⟩
  have hg : w.heap.size ≤ w1.heap.size := b1.size
  go_wp2_with fail
  go_loopg [8, 10] 20 (fun gk s8 s10 wr => ∃ k : Nat, k ≤ 20 ∧ k ≤ s1.length ∧ gk = 20 - k ∧ s10 = .int .i64 k ∧ s8 = .string ⟨(cat (s1.take k)).toArray⟩ ∧ Dk wr w1.heap.size (cat (s1.take k)) 0 false ∧ Below w.heap.size w wr)
  case atStart => exact ⟨0, by omega, by omega, rfl, rfl, rfl, d2, b1.trans (b2.mono hg)⟩
  case round =>
    obtain ⟨k, hk, hkl, rfl, rfl, rfl, hd, hb⟩ := hrel
    by_cases hlt : k < s1.length ∧ k < 20
    · obtain ⟨hlt1, hlt2⟩ := hlt
      obtain ⟨bA, oA, rfl, hbA, hcA⟩ := H1.out.one hlt1
      have hc := (hb.cell (p := ⟨bA, oA + k, none⟩) hbA).trans hcA
      have hm := M1.out s1[k] (by simp)
      have hsn := Lib.hid (cat_snoc s1 k hlt1)
      have hln := cat_len (s1.take k)
      rw [List.length_take] at hln
      have hlen : (cat (s1.take k)).length ≤ 1000 := by omega
      generalize s1[k] = t at *
      have HD := Lib.hid hd
      have HB := Lib.hid hb
      clear hd hb hcA
      go_upto_region 8 with fail
      go_cut [11] (fun s11 wx => s11 = .string ⟨(t.take 50).toArray⟩ ∧ ∃ n, wr.drewN n = wx)
      case first =>
        have x1 := fun n => bs_cut t 0 n
        simp only [List.drop_zero] at x1
        go_quiet (fail)
        go_wp2_with fail
        all_goals go_meet
        all_goals exact ⟨by first | rfl | (rw [List.take_of_length_le (by omega)]), _, rfl⟩
      case rest =>
        obtain ⟨rfl, n, rfl⟩ := hcut
        have xc := bs_cat (cat (s1.take k)) (t.take 50)
        have hap := Append_ok w1.heap.size (cat (s1.take k)) (t.take 50) 0 (wr.drewN n) HD.out (by omega) (by rw [List.length_take]; omega)
        have HA := Lib.hid hap
        have HB' := Lib.hid (below_drewN HB.out n)
        clear hap
        go_wp2_with fail
        refine HA.out.mono ?_; rintro e w3 ⟨rfl, h3, f3⟩
        go_wp2_with fail
        go_roundg (20 - (k + 1))
        case measure => omega
        case rel => exact ⟨k + 1, by omega, by omega, rfl, by go_num, by rw [hsn.out], by rw [hsn.out]; exact h3, below_fr HB'.out f3 hg (by have := HB.out.size; simp; omega)⟩
    · have hd1 : ¬ (k < s1.length) ∨ k < s1.length ∧ ¬ k < 20 := by omega
      have ha : (cat (s1.take k)).length ≤ 1000 := by have := cat_len (s1.take k); rw [List.length_take] at this; omega
      generalize cat (s1.take k) = a at *
      have HD := Lib.hid hd
      have HB := Lib.hid hb
      clear hd hb
      rcases hd1 with hd1 | ⟨hd1, hd2⟩
      all_goals
        go_wp2_with fail
        refine (Sync_ok _ _ _ _ HD.out).mono ?_; rintro e w3 ⟨rfl, d3, f3⟩
        have B3 := Lib.hid (below_fr HB.out f3 hg (by have := HB.out.size; omega))
        have D3 := Lib.hid d3
        clear d3
        go_wp2_with fail
        go_loopg [9, 12] 20 (fun gk s9 s12 wr => ∃ k : Nat, k ≤ 20 ∧ k ≤ s2.length ∧ gk = 20 - k ∧ s12 = .int .i64 k ∧ s9 = .string ⟨(cat (s2.take k)).toArray⟩ ∧ Dk wr w1.heap.size (a ++ cat (s2.take k)) a.length false ∧ Below w.heap.size w wr)
        case atStart => exact ⟨0, by omega, by omega, rfl, rfl, rfl, by simpa [cat] using D3.out, B3.out⟩
        case round =>
          obtain ⟨k2, hk2, hkl2, rfl, rfl, rfl, hd, hb⟩ := hrel
          have hcl : (cat (s2.take k2)).length ≤ 1000 := by have := cat_len (s2.take k2); rw [List.length_take] at this; omega
          by_cases hlt : k2 < s2.length ∧ k2 < 20
          · obtain ⟨hlt1, hlt2⟩ := hlt
            obtain ⟨bA, oA, rfl, hbA, hcA⟩ := H2.out.one hlt1
            have hc := (hb.cell (p := ⟨bA, oA + k2, none⟩) hbA).trans hcA
            have hm := M2.out s2[k2] (by simp)
            have hsn := Lib.hid (cat_snoc s2 k2 hlt1)
            generalize s2[k2] = t at *
            have HD2 := Lib.hid hd
            have HB2 := Lib.hid hb
            clear hd hb hcA
            go_upto_region 17 with fail
            go_cut [13] (fun s13 wx => s13 = .string ⟨(t.take 50).toArray⟩ ∧ ∃ n, wr.drewN n = wx)
            case first =>
              have x1 := fun n => bs_cut t 0 n
              simp only [List.drop_zero] at x1
              go_quiet (fail)
              go_wp2_with fail
              all_goals go_meet
              all_goals exact ⟨by first | rfl | (rw [List.take_of_length_le (by omega)]), _, rfl⟩
            case rest =>
              obtain ⟨rfl, n, rfl⟩ := hcut
              have xc := bs_cat (cat (s2.take k2)) (t.take 50)
              have hap := Append_ok w1.heap.size (a ++ cat (s2.take k2)) (t.take 50) a.length (wr.drewN n) HD2.out (by rw [List.length_append]; omega) (by rw [List.length_append, List.length_take]; omega)
              have HA := Lib.hid hap
              have HB' := Lib.hid (below_drewN HB2.out n)
              clear hap
              go_wp2_with fail
              refine HA.out.mono ?_; rintro e w3 ⟨rfl, h3, f3⟩
              go_wp2_with fail
              go_roundg (20 - (k2 + 1))
              case measure => omega
              case rel => exact ⟨k2 + 1, by omega, by omega, rfl, by go_num, by rw [hsn.out], by rw [hsn.out, ← List.append_assoc]; exact h3, below_fr HB'.out f3 hg (by have := HB2.out.size; simp; omega)⟩
          · have hd1 : ¬ (k2 < s2.length) ∨ k2 < s2.length ∧ ¬ k2 < 20 := by omega
            generalize cat (s2.take k2) = b at *
            have D4 := Lib.hid hd
            have B4 := Lib.hid hb
            clear hd hb
            rcases hd1 with hd1 | ⟨hd1, hd2⟩
            all_goals
              go_wp2_with fail
              obtain ⟨R, hR⟩ : ∃ R, R = (a ++ b).take (left (a ++ b).length a.length keep) := ⟨_, rfl⟩
              obtain ⟨L, hL⟩ : ∃ L, L = left (a ++ b).length a.length keep := ⟨_, rfl⟩
              have hRL : R.length = L := by rw [hR, List.length_take, ← hL]; unfold left at hL; rw [List.length_append] at hL ⊢; omega
              have hval : R = a ++ b.take (min keep.toNat b.length) := by
                rw [hR]; unfold left
                rw [List.length_append, show a.length + b.length - a.length = b.length from by omega, List.take_append, List.take_of_length_le (by omega), show a.length + min keep.toNat b.length - a.length = min keep.toNat b.length from by omega]
              have hL2 : R.length ≤ 1048576 := by rw [hRL, hL]; unfold left; rw [List.length_append]; omega
              have cr := Crash_on w1.heap.size (a ++ b) a.length keep wr D4.out (by rw [List.length_append]; omega) (by rw [List.length_append]; omega)
              rw [← hR, ← hL] at cr
              have HV := Lib.hid hval
              have HL := Lib.hid hRL
              have HL2 := Lib.hid hL2
              clear hR hL hRL hval hL2
              refine cr.mono ?_; rintro e w5 ⟨rfl, d5, f5⟩
              clear cr
              go_wp2_with fail
              refine (Append_off _ _ _ _ _ d5).mono ?_; rintro e w6 ⟨rfl, rfl⟩
              go_wp2_with fail
              refine (Sync_off _ _ _ _ d5).mono ?_; rintro e w6 ⟨rfl, rfl⟩
              go_wp2_with fail
              refine (Cut_off _ _ _ _ _ d5).mono ?_; rintro e w6 ⟨rfl, rfl⟩
              go_wp2_with fail
              refine (Start_any _ _ _ _ _ d5).mono ?_; rintro e w6 ⟨rfl, d6, f6⟩
              go_wp2_with fail
              refine (Read_ok _ _ _ _ d6).mono ?_; rintro e w7 ⟨rfl, rfl⟩
              go_wp2_with fail
              have cr := Crash_on w1.heap.size R L 0 w6 d6 HL2.out (by rw [HL.out]; exact Nat.le_refl _)
              rw [show left R.length L 0 = L from by unfold left; simp, List.take_of_length_le (by rw [HL.out]; exact Nat.le_refl _)] at cr
              refine cr.mono ?_; rintro e w7 ⟨rfl, d7, f7⟩
              clear cr
              go_wp2_with fail
              refine (Start_any _ _ _ _ _ d7).mono ?_; rintro e w8 ⟨rfl, d8, f8⟩
              go_wp2_with fail
              refine (Read_ok _ _ _ _ d8).mono ?_; rintro e w9 ⟨rfl, rfl⟩
              go_wp2_with fail
              refine (Crash_nil _ _).mono ?_; rintro e w9 ⟨rfl, rfl⟩
              go_wp2_with fail
              refine (Start_nil _).mono ?_; rintro e w9 ⟨rfl, rfl⟩
              go_wp2_with fail
              refine (Wipe_nil _).mono ?_; rintro e w9 ⟨rfl, rfl⟩
              go_wp2_with fail
              refine (Read_nil _).mono ?_; rintro e w9 ⟨rfl, rfl⟩
              have hbel := Lib.hid (below_fr B4.out ((((f5.trans f6).trans f7).trans f8)) hg (by have := B4.out.size; omega))
              have x1 := fun n => bs_cut b 0 n
              have x2 := fun l : List UInt8 => bs_cat a l
              simp only [List.drop_zero] at x1
              have hk3 : keep < 0 ∨ (¬ keep < 0 ∧ (b.length : Int) < keep) ∨ (¬ keep < 0 ∧ ¬ (b.length : Int) < keep) := by omega
              have hR3 : (keep < 0 ∧ R = a) ∨ ((¬ keep < 0 ∧ (b.length : Int) < keep) ∧ R = a ++ b) ∨ ((¬ keep < 0 ∧ ¬ (b.length : Int) < keep) ∧ R = a ++ b.take keep.toNat) := by
                rcases hk3 with h | h | h
                · exact .inl ⟨h, by rw [HV.out, show min keep.toNat b.length = 0 from by omega]; simp⟩
                · exact .inr (.inl ⟨h, by rw [HV.out, show min keep.toNat b.length = b.length from by omega, List.take_length]⟩)
                · exact .inr (.inr ⟨h, by rw [HV.out, show min keep.toNat b.length = keep.toNat from by omega]⟩)
              clear HV HL HL2 hk3 d5 d6 d7 d8
              rcases hR3 with ⟨hk3, rfl⟩ | ⟨⟨hk3, hk4⟩, rfl⟩ | ⟨⟨hk3, hk4⟩, rfl⟩
              all_goals
                go_wp2_with fail
                refine (Append_nil _ _).mono ?_; rintro e w9 ⟨rfl, rfl⟩
                go_wp2_with fail
                refine (Sync_nil _).mono ?_; rintro e w9 ⟨rfl, rfl⟩
                go_wp2_with fail
                refine (Cut_nil _ _).mono ?_; rintro e w9 ⟨rfl, rfl⟩
                go_wp2_with fail
                refine (On_nil _).mono ?_; rintro e w9 ⟨rfl, rfl⟩
                go_wp2_with fail
                go_ret
                exact ⟨rfl, hbel.out⟩
end Disk
end Go.Proofs.Yteafhmcpppeelaa
