/- The document's answer for layer 1: the contracts of its functions Fits, Num, Join. -/
import Derived.Test.YteafhmcpppeelaaOctLaw
import Derived.Test.YteafhmcpppeelaaBaseB
import Derived.Deep.RegionWith
namespace Go.Proofs.Yteafhmcpppeelaa
open Go.RowKit
namespace Joins
open Oct

/-- a string of one byte that the call has just laid -/
theorem string_one {P : Program} (src e dst : TypeId) (hs : P.underlying src = some (.slice e)) (he : P.underlying e = some (.int .u8)) (hd : P.underlying dst = some .string) (w : World) (m : Nat) :
    (convert src dst (.slice (some ⟨w.heap.size, 0, none⟩) 1 1)).run P (w.alloc (.cells #[.int .u8 ((m : Int) % 256)] e)) = .ok (.string ⟨#[UInt8.ofNat m]⟩) (w.alloc (.cells #[.int .u8 ((m : Int) % 256)] e)) := by
  have h := run_string_u8s (P := P) src e dst hs he hd w.heap.size 1 1 [UInt8.ofNat m] (by simp) e (Blk.new w e (u8s [UInt8.ofNat m]))
  have e1 : u8s [UInt8.ofNat m] = #[Value.int .u8 ((m : Int) % 256)] := by
    have : (UInt8.ofNat m).toNat = m % 256 := by rw [UInt8.toNat_ofNat']
    simp [u8s, this]
  rw [e1] at h
  simpa using h

theorem div_step (n j : Nat) : n / 256 ^ j / 256 = n / 256 ^ (j + 1) := by rw [Nat.div_div_eq_div_mul, Nat.pow_succ]

set_option maxRecDepth 100000 in
set_option maxHeartbeats 1000000 in
theorem RNum (n k : Nat) (w : World) (hk : k ≤ 8) (hn : n < 18446744073709551616) :
    Calls Try.prog 52 #[.int .u64 n, .int .i64 k] w fun e w' => e = .returned (.string ⟨(be k n).toArray⟩) ∧ Below w.heap.size w w' := by
  go_enter Try.func52, Try.ntmps52
  go_wp2
  go_loopg [0, 5, 6] k (fun gk s0 s5 s6 wr => ∃ j m : Nat, j ≤ k ∧ gk = k - j ∧ Hid (m = n / 256 ^ j) ∧ m < 18446744073709551616 ∧ s0 = .int .u64 m ∧ s5 = .string ⟨(be j n).toArray⟩ ∧ s6 = .int .i64 j ∧ Below w.heap.size w wr)
  case atStart => exact ⟨0, n, by omega, by omega, Lib.hid (by simp), hn, rfl, rfl, rfl, Below.refl _ _⟩
  case round =>
    obtain ⟨j, m, hj, rfl, hm, hm8, rfl, rfl, rfl, hB⟩ := hrel
    by_cases hlt : j < k
    · have hcv := string_one (P := Try.prog) 37 5 9 Try.underlying37 Try.underlying5 Try.underlying9 wr m
      have HB := Lib.hid (bl_alloc hB (.cells #[.int .u8 ((m : Int) % 256)] 5))
      have hq := Lib.hid (show (m : Int) / 256 = ((m / 256 : Nat) : Int) by omega)
      have hbe := Lib.hid (show (⟨#[UInt8.ofNat m]⟩ : ByteArray) ++ ⟨(be j n).toArray⟩ = ⟨(be (j + 1) n).toArray⟩ by
        rw [be_succ, show (⟨#[UInt8.ofNat m]⟩ : ByteArray) = ⟨[UInt8.ofNat m].toArray⟩ from rfl, bs_cat, hm.out]; rfl)
      have z1 : (⟨#[UInt8.ofNat m]⟩ : ByteArray).size = 1 := rfl
      have z2 : (⟨(be j n).toArray⟩ : ByteArray).size = j := by rw [bs_len, length_be]
      clear hB
      go_wp2_with fail
      go_roundg (k - (j + 1))
      case measure => omega
      case rel => exact ⟨j + 1, m / 256, by omega, rfl, Lib.hid (by rw [hm.out, div_step]), by omega, by rw [hq.out], by rw [hbe.out], by go_num, HB.out⟩
    · obtain rfl : j = k := by omega
      have HB := Lib.hid hB
      clear hB
      go_wp2_with fail
      go_ret
      exact ⟨rfl, HB.out⟩

theorem RNum1 (n : Nat) (w : World) (hn : n < 18446744073709551616) :
    Calls Try.prog 52 #[.int .u64 (IntKind.u64.wrap (n : Int)), .int .i64 1] w fun e w' => e = .returned (.string ⟨(be 1 n).toArray⟩) ∧ Below w.heap.size w w' := by
  rw [IntKind.wrap_u64, show (n : Int) % 18446744073709551616 = n from by omega]
  exact RNum n 1 w (by decide) hn

/-- does a number fit into so many bytes -/
def fits (n : Nat) (size : Int) : Bool := decide (1 ≤ size ∧ size ≤ 8 ∧ n < 256 ^ size.toNat)

set_option maxRecDepth 100000 in
set_option maxHeartbeats 1000000 in
theorem RFits (n : Nat) (size : Int) (w : World) (hn : n < 18446744073709551616) :
    Calls Try.prog 51 #[.int .u64 n, .int .i64 size] w fun e w' => e = .returned (.bool (fits n size)) ∧ w = w' := by
  go_enter Try.func51, Try.ntmps51
  go_wp2
  go_loopg [0, 5] 8 (fun gk s0 s5 wr => ∃ j m : Nat, j ≤ 8 ∧ gk = 8 - j ∧ (j = 0 ∨ (j : Int) ≤ size) ∧ Hid (m = n / 256 ^ j) ∧ m < 18446744073709551616 ∧ s0 = .int .u64 m ∧ s5 = .int .i64 j ∧ w = wr)
  case atStart => exact ⟨0, n, by omega, by omega, .inl rfl, Lib.hid (by simp), hn, rfl, rfl, rfl⟩
  case round =>
    obtain ⟨j, m, hj, rfl, hjs, hm, hm8, rfl, rfl, rfl⟩ := hrel
    by_cases hlt : (j : Int) < size ∧ j < 8
    · obtain ⟨hl1, hl2⟩ := hlt
      have hq := Lib.hid (show (m : Int) / 256 = ((m / 256 : Nat) : Int) by omega)
      go_wp2_with fail
      go_roundg (8 - (j + 1))
      case measure => omega
      case rel => exact ⟨j + 1, m / 256, by omega, rfl, by omega, Lib.hid (by rw [hm.out, div_step]), by omega, by rw [hq.out], by go_num, rfl⟩
    · have hx : size < 1 ∨ (8 < size ∧ j = 8) ∨ (1 ≤ size ∧ size ≤ 8 ∧ size = j) := by omega
      rcases hx with hx | ⟨hx, rfl⟩ | ⟨hx1, hx2, rfl⟩
      · have e1 : decide ((j : Int) < size) = false := by simp; omega
        have e2 : decide (1 ≤ size) = false := by simp; omega
        have hf : fits n size = false := by unfold fits; simp; omega
        go_wp2_with fail
        go_ret
        exact ⟨ret_bool hf.symm, rfl⟩
      · have e1 : decide ((8 : Int) < size) = true := by simp; omega
        have e2 : decide (1 ≤ size) = true := by simp; omega
        have e3 : decide (size ≤ 8) = false := by simp; omega
        have hf : fits n size = false := by unfold fits; simp; omega
        go_wp2_with fail
        go_ret
        exact ⟨ret_bool hf.symm, rfl⟩
      · have hf : (m == 0) = fits n (j : Int) := by
          unfold fits
          rw [hm.out, Int.toNat_natCast]
          have : n / 256 ^ j = 0 ↔ n < 256 ^ j := Nat.div_eq_zero_iff_lt (Nat.pow_pos (by omega))
          by_cases h : n < 256 ^ j
          · rw [this.mpr h, decide_eq_true ⟨hx1, hx2, h⟩]; rfl
          · rw [decide_eq_false (fun h' => h h'.2.2)]; simp [this, h]
        have HF := Lib.hid hf
        clear hf
        go_wp2_with fail
        go_ret
        refine ⟨ret_bool ?_, rfl⟩
        rw [← HF.out, Bool.eq_iff_iff, beq_iff_eq, beq_iff_eq]
        omega

/-- a part of the document: its cells -/
abbrev QCells (p : Part) : List Value := [.int .i64 p.kind, .int .i64 p.size, .int .u64 p.n, .string p.s]

set_option maxRecDepth 100000 in
set_option maxHeartbeats 2000000 in
theorem RJoin (A : Option Addr) (c : Nat) (ps : List Part) (w : World) (hp : Parts w A ps) (hroom : room ps ≤ 140737488355328) (hn : ∀ p ∈ ps, p.n < 18446744073709551616) (hl : ps.length ≤ 9223372036854775807) :
    Calls Try.prog 43 #[.slice A ps.length c] w fun e w' => e = .returned (.tuple #[.string ⟨(joinRes ps []).1.toArray⟩, .int .i64 (joinRes ps []).2]) ∧ Below w.heap.size w w' := by
  have hP := Lib.hid hp
  have hN := Lib.hid hn
  have hR := Lib.hid hroom
  clear hp hn hroom
  go_enter Try.func43, Try.ntmps43
  go_wp2
  go_loopg [4, 5] ps.length (fun gk s4 s5 wr => ∃ (k : Nat) (acc : List UInt8), k ≤ ps.length ∧ gk = ps.length - k ∧ s5 = .int .i64 k ∧ s4 = .string ⟨acc.toArray⟩ ∧ Hid (joinRes ps [] = joinRes (ps.drop k) acc) ∧ acc.length ≤ room (ps.take k) ∧ Below w.heap.size w wr)
  case atStart => exact ⟨0, [], by omega, by omega, rfl, rfl, Lib.hid rfl, by simp, Below.refl _ _⟩
  case round =>
    obtain ⟨k, acc, hk, rfl, rfl, rfl, HJ, hacc, hB⟩ := hrel
    have HB := Lib.hid hB
    clear hB
    by_cases hlt : k < ps.length
    · obtain ⟨b, off, rfl, hb, hc⟩ := hP.out (by intro h; rw [List.map_eq_nil_iff] at h; subst h; simp at hlt)
      have hc := hc k ps[k].cells (by simp [hlt])
      have cell : ∀ j u, (ps[k].cells)[j]? = some u → wr.cell? ⟨b, off + k * 4 + j, none⟩ = some u := fun j u hu => (HB.out.cell hb).trans (hc j u hu)
      have c0 : wr.cell? ⟨b, off + k * 4, none⟩ = some (.int .i64 ps[k].kind) := cell 0 _ rfl
      have c1 := cell 1 _ rfl
      have c2 := cell 2 _ rfl
      have c3 := cell 3 _ rfl
      have hpn := hN.out ps[k] (by simp)
      have hrk := room_take ps k hlt
      have hrk1 := room_succ ps k hlt
      have hble := bytes_le ps[k]
      have hRR := hR.out
      have hdrop : joinRes (ps.drop k) acc = if ps[k].bytes.2 ≠ 0 then ([], ps[k].bytes.2) else joinRes (ps.drop (k + 1)) (acc ++ ps[k].bytes.1) := by
        rw [List.drop_eq_getElem_cons hlt]; rfl
      have HD := Lib.hid hdrop
      have HR := Lib.hid (show acc.length + ps[k].s.size + 9 ≤ room (ps.take (k + 1)) ∧ room (ps.take (k + 1)) ≤ 140737488355328 by omega)
      clear cell hc hdrop hacc hrk hrk1 hRR hble
      generalize ps[k] = p at *
      obtain ⟨d, sz, n, s⟩ := p
      obtain ⟨s⟩ := s
      obtain ⟨s⟩ := s
      have x0 : wr.cell? ⟨b, off + k * 4, none⟩ = some (.int .i64 d) := c0
      have x1 : wr.cell? ⟨b, off + k * 4 + 1, none⟩ = some (.int .i64 sz) := c1
      have x2 : wr.cell? ⟨b, off + k * 4 + 2, none⟩ = some (.int .u64 (n : Int)) := c2
      have x3 : wr.cell? ⟨b, off + k * 4 + 3, none⟩ = some (.string ⟨s.toArray⟩) := c3
      have hn8 : n < 18446744073709551616 := hpn
      have HR2 : Hid (acc.length + s.length + 9 ≤ room (ps.take (k + 1)) ∧ room (ps.take (k + 1)) ≤ 140737488355328) := Lib.hid (by have := HR.out; rw [show ({ kind := d, size := sz, n := n, s := ⟨s.toArray⟩ } : Part).s.size = s.length from bs_len s] at this; exact this)
      have hlen : acc.length + s.length + 9 ≤ 140737488355328 := by have := HR2.out; omega
      have hB1 := Lib.hid (bl_alloc HB.out (.cells #[.int .i64 d, .int .i64 sz, .int .u64 (n : Int), .string ⟨s.toArray⟩] 88))
      clear c0 c1 c2 c3 hpn
      clear HB
      have hd : d = 1 ∨ d = 2 ∨ d = 3 ∨ (d ≠ 1 ∧ d ≠ 2 ∧ d ≠ 3) := by omega
      rcases hd with rfl | rfl | rfl | ⟨h1, h2, h3⟩
      · have HD : Hid (joinRes (ps.drop k) acc = if (numRes n sz).2 ≠ 0 then ([], (numRes n sz).2) else joinRes (ps.drop (k + 1)) (acc ++ (numRes n sz).1)) := Lib.hid HD.out
        by_cases hf : 1 ≤ sz ∧ sz ≤ 8 ∧ n < 256 ^ sz.toNat
        · as_aux_lemma =>
            have hff : fits n sz = true := decide_eq_true hf
            have hnr : numRes n sz = (be sz.toNat n, 0) := if_pos hf
            obtain ⟨m, rfl⟩ := Int.eq_ofNat_of_zero_le (show 0 ≤ sz by omega)
            rw [Int.toNat_natCast] at hnr
            have hm8 : m ≤ 8 := by omega
            have HD : Hid (joinRes (ps.drop k) acc = joinRes (ps.drop (k + 1)) (acc ++ be m n)) := Lib.hid (by rw [HD.out, hnr, if_neg (by simp)])
            have HF := Lib.hid hff
            clear hf hff hnr
            have xc := bs_cat acc (be m n)
            have z1 : (⟨acc.toArray⟩ : ByteArray).size = acc.length := bs_len acc
            have z2 : (⟨(be m n).toArray⟩ : ByteArray).size = m := by rw [bs_len, length_be]
            go_wp2_with fail
            refine (RFits n m _ hn8).mono ?_; rintro e w1 ⟨rfl, rfl⟩
            rw [HF.out]
            go_wp2_with fail
            refine (RNum n m _ hm8 hn8).mono ?_; rintro e w1 ⟨rfl, hb1⟩
            have HB1 := Lib.hid (bl_next hB1.out hb1)
            clear hb1
            go_wp2_with fail
            go_roundg (ps.length - (k + 1))
            case measure => omega
            case rel => exact ⟨k + 1, acc ++ be m n, by omega, rfl, by go_num, rfl, Lib.hid (by rw [HJ.out, HD.out]), by have := HR2.out; rw [List.length_append, length_be]; omega, HB1.out⟩
        · as_aux_lemma =>
            have hff : fits n sz = false := decide_eq_false hf
            have hnr : numRes n sz = ([], 9) := if_neg hf
            have HD : Hid (joinRes (ps.drop k) acc = ([], 9)) := Lib.hid (by rw [HD.out, hnr]; rfl)
            have HF := Lib.hid hff
            clear hf hff hnr
            go_wp2_with fail
            refine (RFits n sz _ hn8).mono ?_; rintro e w1 ⟨rfl, rfl⟩
            rw [HF.out]
            go_wp2_with fail
            go_ret2
            rw [HJ.out, HD.out]
            exact ⟨rfl, hB1.out⟩
      · have HD : Hid (joinRes (ps.drop k) acc = if (if 255 < (⟨s.toArray⟩ : ByteArray).size then ([], 3) else (UInt8.ofNat (⟨s.toArray⟩ : ByteArray).size :: s, (0 : Int))).2 ≠ 0 then ([], (if 255 < (⟨s.toArray⟩ : ByteArray).size then ([], 3) else (UInt8.ofNat (⟨s.toArray⟩ : ByteArray).size :: s, (0 : Int))).2) else joinRes (ps.drop (k + 1)) (acc ++ (if 255 < (⟨s.toArray⟩ : ByteArray).size then ([], 3) else (UInt8.ofNat (⟨s.toArray⟩ : ByteArray).size :: s, (0 : Int))).1)) := Lib.hid HD.out
        have zs : (⟨s.toArray⟩ : ByteArray).size = s.length := bs_len s
        by_cases hf : 255 < s.length
        · as_aux_lemma =>
            have HD : Hid (joinRes (ps.drop k) acc = ([], 3)) := Lib.hid (by rw [HD.out, zs, if_pos hf]; rfl)
            go_wp2_with fail
            go_ret2
            rw [HJ.out, HD.out]
            exact ⟨rfl, hB1.out⟩
        · as_aux_lemma =>
            have HD : Hid (joinRes (ps.drop k) acc = joinRes (ps.drop (k + 1)) (acc ++ (UInt8.ofNat s.length :: s))) := Lib.hid (by rw [HD.out, zs, if_neg hf, if_neg (by simp)])
            have hbe1 : be 1 s.length = [UInt8.ofNat s.length] := by rw [be_succ]; simp [be]
            have xd := bs_cat (be 1 s.length) s
            have xc := bs_cat acc (be 1 s.length ++ s)
            have z1 : (⟨acc.toArray⟩ : ByteArray).size = acc.length := bs_len acc
            have z2 : (⟨(be 1 s.length).toArray⟩ : ByteArray).size = 1 := by rw [bs_len, length_be]
            have z3 : (⟨(be 1 s.length ++ s).toArray⟩ : ByteArray).size = 1 + s.length := by rw [bs_len, List.length_append, length_be]
            go_wp2_with fail
            have X := Lib.hid (Blk.new wr 88 #[.int .i64 2, .int .i64 sz, .int .u64 (n : Int), .string ⟨s.toArray⟩])
            have hl1 : s.length < 18446744073709551616 := by omega
            generalize wr.alloc (.cells #[.int .i64 2, .int .i64 sz, .int .u64 (n : Int), .string ⟨s.toArray⟩] 88) = W1 at *
            have hov1 : ¬ 9223372036854775807 < 1 + s.length := by omega
            have hov2 : ¬ 9223372036854775807 < acc.length + (1 + s.length) := by omega
            have y3 := X.out.cell 3
            simp at y3
            go_region_with (go_at_call 52; refine (RNum1 s.length _ hl1).mono ?_; rintro e w5 ⟨rfl, hb5⟩; have y5 := (X.out.drew.below hb5 X.out.drew.lt).cell 3; simp at y5; have hb5 := Lib.hid hb5)
            all_goals
              go_wp2_with fail
              have HB5 := Lib.hid (bl_next (show Below w.heap.size w W1.drew from below_drewN hB1.out 1) hb5.out)
              go_roundg (ps.length - (k + 1))
              case measure => omega
              case rel => exact ⟨k + 1, acc ++ (be 1 s.length ++ s), by omega, rfl, by go_num, rfl, Lib.hid (by rw [HJ.out, HD.out, hbe1]; rfl), by have := HR2.out; rw [List.length_append, List.length_append, length_be]; omega, HB5.out⟩
      · as_aux_lemma =>
          have HD : Hid (joinRes (ps.drop k) acc = joinRes (ps.drop (k + 1)) (acc ++ s)) := Lib.hid HD.out
          have xc := bs_cat acc s
          have z1 : (⟨acc.toArray⟩ : ByteArray).size = acc.length := bs_len acc
          have zs : (⟨s.toArray⟩ : ByteArray).size = s.length := bs_len s
          go_wp2_with fail
          go_roundg (ps.length - (k + 1))
          case measure => omega
          case rel => exact ⟨k + 1, acc ++ s, by omega, rfl, by go_num, rfl, Lib.hid (by rw [HJ.out, HD.out]), by have := HR2.out; rw [List.length_append]; omega, hB1.out⟩
      · as_aux_lemma =>
          have HD : Hid (joinRes (ps.drop k) acc = ([], 1)) := Lib.hid (by
            have hby : Part.bytes ⟨d, sz, n, ⟨s.toArray⟩⟩ = ([], 1) := by unfold Part.bytes; simp [h1, h2, h3]
            have := HD.out; rw [show (⟨⟨s⟩⟩ : ByteArray) = ⟨s.toArray⟩ from rfl, hby] at this; exact this)
          have t1 : (d == 1) = false := by simp [h1]
          have t2 : (d == 2) = false := by simp [h2]
          have t3 : (d == 3) = false := by simp [h3]
          go_wp2_with fail
          go_ret2
          rw [HJ.out, HD.out]
          exact ⟨rfl, hB1.out⟩
    · obtain rfl : k = ps.length := by omega
      go_wp2_with fail
      go_ret2
      rw [HJ.out, List.drop_length]
      exact ⟨rfl, HB.out⟩
end Joins
end Go.Proofs.Yteafhmcpppeelaa
