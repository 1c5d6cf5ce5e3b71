/- The contracts of layer 1 (octet): the reader. -/
import Derived.Test.YteafhmcpppeelaaOctB
namespace Go.Proofs.Yteafhmcpppeelaa
open Go.RowKit
namespace Oct

/-- A reader: what is left, what was wrong. -/
def Rd (w : World) (g : Nat) (l : List UInt8) (bad : Int) : Prop := Blk w g 101 #[.string ⟨l.toArray⟩, .int .i64 bad]

theorem extract_mk (l : List UInt8) (a b : Nat) : (⟨l.toArray⟩ : ByteArray).extract a b = ⟨((l.take b).drop a).toArray⟩ := bs_ext (by
  rw [ByteArray.data_extract]; simp [List.extract_eq_take_drop, List.drop_take])

set_option maxHeartbeats 400000 in
theorem Read_any (l : List UInt8) (w : World) :
    Calls Try.prog 35 #[.string ⟨l.toArray⟩] w fun e w' => e = .returned (.pointer (some ⟨w.heap.size, 0, none⟩)) ∧ Rd w' w.heap.size l 0 ∧ Below w.heap.size w w' ∧ w'.heap.size = w.heap.size + 1 := by
  go_enter Try.func35, Try.ntmps35
  go_wp2
  go_ret
  exact ⟨rfl, Blk.new _ _ _, (Below.refl _ _).alloc (Nat.le_refl _) _, by simp⟩

set_option maxHeartbeats 400000 in
theorem fail_first (g : Nat) (l : List UInt8) (e0 : Int) (w : World) (h : Rd w g l 0) :
    Calls Try.prog 48 #[.pointer (some ⟨g, 0, none⟩), .int .i64 e0] w fun e w' => e = .returned (.tuple #[]) ∧ Rd w' g l e0 ∧ Fr (· = g) w w' := by
  have c1 := h.cell 1
  have f1 := h.frozen 1
  have H := Lib.hid h
  clear h
  simp at c1
  go_enter Try.func48, Try.ntmps48
  go_wp2
  go_end0
  exact ⟨rfl, H.out.set_ 1 _, (Fr.refl _ _).own _ _⟩
set_option maxHeartbeats 400000 in
theorem fail_later (g : Nat) (l : List UInt8) (bad e0 : Int) (w : World) (h : Rd w g l bad) (hb : (bad == 0) = false) :
    Calls Try.prog 48 #[.pointer (some ⟨g, 0, none⟩), .int .i64 e0] w fun e w' => e = .returned (.tuple #[]) ∧ w = w' := by
  have c1 := h.cell 1
  have H := Lib.hid h
  clear h
  simp at c1
  go_enter Try.func48, Try.ntmps48
  go_wp2
  go_end0
  exact ⟨rfl, rfl⟩

/-- the number of some bytes, the largest first -/
def getN (l : List UInt8) : Nat := l.foldl (fun n c => 256 * n + c.toNat) 0

/-- what 'take' does: what it answers, what is left, what is wrong -/
def takeL (l : List UInt8) (bad : Int) (frm n : Int) : List UInt8 × List UInt8 × Int :=
  if bad ≠ 0 then ([], l, bad) else if n < 0 then ([], l, 4) else if n > l.length - frm then ([], l, 2)
  else ((l.take (frm + n).toNat).drop frm.toNat, l.drop (frm + n).toNat, 0)

theorem takeL_len (l : List UInt8) (bad : Int) (n : Int) (h0 : 0 ≤ n) (h8 : n ≤ 8) : (takeL l bad 0 n).1.length ≤ 8 := by
  unfold takeL
  split
  · simp
  · split
    · simp
    · split
      · simp
      · simp; omega
theorem getN_lt (l : List UInt8) : getN l < 256 ^ l.length := by
  unfold getN
  suffices h : ∀ (l : List UInt8) (n k : Nat), n < 256 ^ k → l.foldl (fun n c => 256 * n + c.toNat) n < 256 ^ (k + l.length) by
    have := h l 0 0 (by simp)
    simpa using this
  intro l
  induction l with
  | nil => intro n k h; simpa using h
  | cons c l ih =>
    intro n k h
    have := ih (256 * n + c.toNat) (k + 1) (by
      have hc : c.toNat < 256 := c.toNat_lt
      rw [Nat.pow_succ]; omega)
    simpa [Nat.add_assoc, Nat.add_comm 1] using this
theorem getN_snoc (l : List UInt8) (c : UInt8) : getN (l ++ [c]) = 256 * getN l + c.toNat := by simp [getN]
theorem pow_le8 (k : Nat) (h : k ≤ 8) : 256 ^ k ≤ 18446744073709551616 := Nat.le_trans (Nat.pow_le_pow_right (by omega) h) (Nat.le_of_eq rfl)
theorem orStep (N k : Nat) (c : UInt8) (hN : N < 256 ^ k) (hk : k < 8) : bits BinOp.or IntKind.u64 (IntKind.u64.wrap ((N : Int) * 256)) (IntKind.u64.wrap (c.toNat : Int)) = ((256 * N + c.toNat : Nat) : Int) := by
  have h8 : 256 ^ (k + 1) ≤ 18446744073709551616 := pow_le8 (k + 1) (by omega)
  have hc : c.toNat < 256 := c.toNat_lt
  rw [Nat.pow_succ] at h8
  rw [IntKind.wrap_u64, IntKind.wrap_u64, show ((N : Int) * 256) % 18446744073709551616 = ((N * 256 : Nat) : Int) from by omega,
    show ((c.toNat : Int)) % 18446744073709551616 = ((c.toNat : Nat) : Int) from by omega, u64_or_nat _ _ (by omega) (by omega)]
  congr 1
  rw [Nat.mul_comm N 256]
  exact (Nat.two_pow_add_eq_or_of_lt (i := 8) (b := c.toNat) (by omega) N).symm
set_option maxHeartbeats 400000 in
theorem take_bad (g : Nat) (l : List UInt8) (bad frm n : Int) (w : World) (h : Rd w g l bad) (hb : (bad != 0) = true) :
    Calls Try.prog 49 #[.pointer (some ⟨g, 0, none⟩), .int .i64 frm, .int .i64 n] w fun e w' => e = .returned (.string ⟨#[]⟩) ∧ w = w' := by
  have c1 := h.cell 1
  simp at c1
  go_enter Try.func49, Try.ntmps49
  go_wp2
  go_ret
  exact ⟨rfl, rfl⟩
set_option maxHeartbeats 400000 in
theorem take_neg (g : Nat) (l : List UInt8) (frm n : Int) (w : World) (h : Rd w g l 0) (hn : n < 0) :
    Calls Try.prog 49 #[.pointer (some ⟨g, 0, none⟩), .int .i64 frm, .int .i64 n] w fun e w' => e = .returned (.string ⟨#[]⟩) ∧ Rd w' g l 4 ∧ Fr (· = g) w w' := by
  have c1 := h.cell 1
  have H := Lib.hid h
  clear h
  simp at c1
  go_enter Try.func49, Try.ntmps49
  go_wp2_with (go_at_call 48; refine (fail_first _ _ _ _ H.out).mono ?_; rintro e w1 ⟨rfl, hr, hf⟩)
  go_ret
  exact ⟨rfl, hr, hf⟩
set_option maxRecDepth 100000 in
set_option maxHeartbeats 400000 in
theorem take_short (g : Nat) (l : List UInt8) (frm n : Int) (w : World) (h : Rd w g l 0) (hn : ¬ n < 0) (hf0 : 0 ≤ frm) (hf1 : frm ≤ 1) (hs : (l.length : Int) - frm < n) (hl : l.length ≤ 9223372036854775807) :
    Calls Try.prog 49 #[.pointer (some ⟨g, 0, none⟩), .int .i64 frm, .int .i64 n] w fun e w' => e = .returned (.string ⟨#[]⟩) ∧ Rd w' g l 2 ∧ Fr (· = g) w w' := by
  have c0 := h.cell 0
  have c1 := h.cell 1
  have H := Lib.hid h
  clear h
  simp at c0 c1
  go_enter Try.func49, Try.ntmps49
  go_wp2_with (go_at_call 48; refine (fail_first _ _ _ _ H.out).mono ?_; rintro e w1 ⟨rfl, hr, hf⟩)
  go_ret
  exact ⟨rfl, hr, hf⟩
set_option maxRecDepth 100000 in
set_option maxHeartbeats 400000 in
theorem take_core (g : Nat) (s : ByteArray) (f n : Nat) (w : World) (h : Blk w g 101 #[.string s, .int .i64 0]) (hf1 : f ≤ 1) (hs : f + n ≤ s.size) (hl : s.size ≤ 9223372036854775807) :
    Calls Try.prog 49 #[.pointer (some ⟨g, 0, none⟩), .int .i64 f, .int .i64 n] w fun e w' => e = .returned (.string (s.extract f (f + n))) ∧ Blk w' g 101 #[.string (s.extract (f + n) s.size), .int .i64 0] ∧ Fr (· = g) w w' := by
  have c0 := h.cell 0
  have f0 := h.frozen 0
  have c1 := h.cell 1
  have H := Lib.hid h
  clear h
  simp at c0 c1
  go_enter Try.func49, Try.ntmps49
  go_wp2
  go_ret
  exact ⟨rfl, H.out.set_ 0 _, (Fr.refl _ _).own _ _⟩
theorem take_ok (g : Nat) (l : List UInt8) (f n : Nat) (w : World) (h : Rd w g l 0) (hf1 : f ≤ 1) (hs : f + n ≤ l.length) (hl : l.length ≤ 9223372036854775807) :
    Calls Try.prog 49 #[.pointer (some ⟨g, 0, none⟩), .int .i64 f, .int .i64 n] w fun e w' => e = .returned (.string ⟨((l.take (f + n)).drop f).toArray⟩) ∧ Rd w' g (l.drop (f + n)) 0 ∧ Fr (· = g) w w' := by
  have hsz : (⟨l.toArray⟩ : ByteArray).size = l.length := by show l.toArray.size = _; simp
  refine (take_core g ⟨l.toArray⟩ f n w h hf1 (by omega) (by omega)).mono ?_
  rintro e w1 ⟨rfl, hr, hf⟩
  rw [extract_mk] at hr ⊢
  rw [hsz, List.take_length] at hr
  exact ⟨rfl, hr, hf⟩
theorem take_any (g : Nat) (l : List UInt8) (bad frm n : Int) (w : World) (h : Rd w g l bad) (hf0 : 0 ≤ frm) (hf1 : frm ≤ 1) (hl : l.length ≤ 9223372036854775807) :
    Calls Try.prog 49 #[.pointer (some ⟨g, 0, none⟩), .int .i64 frm, .int .i64 n] w fun e w' => e = .returned (.string ⟨(takeL l bad frm n).1.toArray⟩) ∧ Rd w' g (takeL l bad frm n).2.1 (takeL l bad frm n).2.2 ∧ Fr (· = g) w w' := by
  unfold takeL
  by_cases hb : bad ≠ 0
  · rw [if_pos hb]
    refine (take_bad g l bad frm n w h (by simp [hb])).mono ?_
    rintro e w1 ⟨rfl, rfl⟩
    exact ⟨rfl, h, Fr.refl _ _⟩
  obtain rfl : bad = 0 := by omega
  rw [if_neg hb]
  by_cases hn : n < 0
  · rw [if_pos hn]; exact take_neg g l frm n w h hn
  rw [if_neg hn]
  by_cases hs : n > l.length - frm
  · rw [if_pos hs]; exact take_short g l frm n w h hn hf0 hf1 hs hl
  rw [if_neg hs]
  obtain ⟨f, rfl⟩ := Int.eq_ofNat_of_zero_le hf0
  obtain ⟨m, rfl⟩ := Int.eq_ofNat_of_zero_le (show 0 ≤ n by omega)
  rw [show ((f : Int) + (m : Int)).toNat = f + m from by omega, Int.toNat_natCast]
  exact take_ok g l f m w h (by omega) (by omega) hl

set_option maxHeartbeats 400000 in
theorem RNum_nil (size : Int) (w : World) :
    Calls Try.prog 36 #[.pointer none, .int .i64 size] w fun e w' => e = .returned (.int .u64 0) ∧ w = w' := by
  go_enter Try.func36, Try.ntmps36
  go_wp2
  go_ret
  exact ⟨rfl, rfl⟩
set_option maxHeartbeats 400000 in
theorem RNum_size0 (g : Nat) (l : List UInt8) (size : Int) (w : World) (h : Rd w g l 0) (hs : size < 1 ∨ 8 < size) :
    Calls Try.prog 36 #[.pointer (some ⟨g, 0, none⟩), .int .i64 size] w fun e w' => e = .returned (.int .u64 0) ∧ Rd w' g l 4 ∧ Fr (· = g) w w' := by
  have H := Lib.hid h
  clear h
  rcases hs with hs | hs
  · go_enter Try.func36, Try.ntmps36
    go_wp2_with (go_at_call 48; refine (fail_first _ _ _ _ H.out).mono ?_; rintro e w1 ⟨rfl, hr, hf⟩)
    go_ret
    exact ⟨rfl, hr, hf⟩
  · have hs1 : ¬ size < 1 := by omega
    go_enter Try.func36, Try.ntmps36
    go_wp2_with (go_at_call 48; refine (fail_first _ _ _ _ H.out).mono ?_; rintro e w1 ⟨rfl, hr, hf⟩)
    go_ret
    exact ⟨rfl, hr, hf⟩
set_option maxHeartbeats 400000 in
theorem RNum_size1 (g : Nat) (l : List UInt8) (bad : Int) (size : Int) (w : World) (h : Rd w g l bad) (hb : (bad == 0) = false) (hs : size < 1 ∨ 8 < size) :
    Calls Try.prog 36 #[.pointer (some ⟨g, 0, none⟩), .int .i64 size] w fun e w' => e = .returned (.int .u64 0) ∧ w = w' := by
  have H := Lib.hid h
  clear h
  rcases hs with hs | hs
  · go_enter Try.func36, Try.ntmps36
    go_wp2_with (go_at_call 48; refine (fail_later _ _ _ _ _ H.out hb).mono ?_; rintro e w1 ⟨rfl, rfl⟩)
    go_ret
    exact ⟨rfl, rfl⟩
  · have hs1 : ¬ size < 1 := by omega
    go_enter Try.func36, Try.ntmps36
    go_wp2_with (go_at_call 48; refine (fail_later _ _ _ _ _ H.out hb).mono ?_; rintro e w1 ⟨rfl, rfl⟩)
    go_ret
    exact ⟨rfl, rfl⟩
set_option maxRecDepth 100000 in
set_option maxHeartbeats 400000 in
theorem RNum_go (g : Nat) (l : List UInt8) (bad : Int) (size : Int) (w : World) (h : Rd w g l bad) (hs : ¬ size < 1) (hs8 : ¬ 8 < size) (hl : l.length ≤ 9223372036854775807) :
    Calls Try.prog 36 #[.pointer (some ⟨g, 0, none⟩), .int .i64 size] w fun e w' => e = .returned (.int .u64 (getN (takeL l bad 0 size).1)) ∧ Rd w' g (takeL l bad 0 size).2.1 (takeL l bad 0 size).2.2 ∧ Fr (· = g) w w' := by
  have H := Lib.hid h
  have HL := Lib.hid hl
  clear h hl
  go_enter Try.func36, Try.ntmps36
  go_wp2_with (go_at_call 49; refine (take_any _ _ _ _ _ _ H.out (by omega) (by omega) HL.out).mono ?_; rintro e w1 ⟨rfl, hr, hf⟩)
  obtain ⟨cap, w2, hcv, hcell, hb2, hlt2⟩ := run_bytes_new (P := Try.prog) w1 9 37 5 (takeL l bad 0 size).1 Try.underlying9 Try.underlying37 Try.underlying5
  have hlen := takeL_len l bad size (by omega) (by omega)
  obtain ⟨t, ht⟩ : ∃ t, t = (takeL l bad 0 size).1 := ⟨_, rfl⟩
  rw [← ht] at hcv hcell hlen ⊢
  have HT := Lib.hid ht
  clear ht
  have hC := Lib.hid hcell
  clear hcell
  rw [hcv]
  clear hcv
  go_simp
  go_wp2
  go_loop [5, 25] (fun n i => ∃ k : Nat, k ≤ t.length ∧ i = .int .i64 k ∧ n = .int .u64 (getN (t.take k))) (fun _ i => t.length - (intOf i).toNat)
  case atStart => exact ⟨0, by omega, rfl, rfl⟩
  case round =>
    obtain ⟨k, hk, rfl, rfl⟩ := hrel
    by_cases hlt : k < t.length
    · have hc := hC.out k t[k] (by simp [hlt])
      have hN := getN_lt (t.take k)
      have hk8 : k < 8 := by omega
      go_wp2
      go_round
      case rel => exact ⟨k + 1, by omega, by go_num, by rw [orStep _ k _ (by have := hN; rw [List.length_take] at this; rwa [Nat.min_eq_left hk] at this) hk8, List.take_succ_eq_append_getElem hlt, getN_snoc]⟩
      case measure => simp [intOf]; omega
    · obtain rfl : k = t.length := by omega
      go_wp2
      go_ret
      have hF : Fr (· = g) w w2 := hf.back (Fr.of_below (S := fun _ => False) hb2) (fun _ _ h => h.elim)
      refine ⟨ret_int (by rw [HT.out]), ?_, hF⟩
      exact hr.below hb2 hr.lt
set_option maxRecDepth 100000 in
set_option maxHeartbeats 400000 in
theorem RText_nil (w : World) :
    Calls Try.prog 37 #[.pointer none] w fun e w' => e = .returned (.string ⟨#[]⟩) ∧ w = w' := by
  go_enter Try.func37, Try.ntmps37
  go_wp2
  go_ret
  exact ⟨rfl, rfl⟩
set_option maxRecDepth 100000 in
set_option maxHeartbeats 400000 in
theorem RText_empty (g : Nat) (bad : Int) (w : World) (h : Rd w g [] bad) :
    Calls Try.prog 37 #[.pointer (some ⟨g, 0, none⟩)] w fun e w' => e = .returned (.string ⟨(takeL [] bad 0 1).1.toArray⟩) ∧ Rd w' g (takeL [] bad 0 1).2.1 (takeL [] bad 0 1).2.2 ∧ Fr (· = g) w w' := by
  have c0 := h.cell 0
  simp at c0
  have H := Lib.hid h
  clear h
  go_enter Try.func37, Try.ntmps37
  go_wp2_with (go_at_call 49; refine (take_any _ _ _ _ _ _ H.out (by omega) (by omega) (by simp)).mono ?_; rintro e w1 ⟨rfl, hr, hf⟩)
  go_ret
  exact ⟨rfl, hr, hf⟩
set_option maxRecDepth 100000 in
set_option maxHeartbeats 400000 in
theorem RText_go (g : Nat) (c : UInt8) (l : List UInt8) (bad : Int) (w : World) (h : Rd w g (c :: l) bad) (hl : (c :: l).length ≤ 9223372036854775807) :
    Calls Try.prog 37 #[.pointer (some ⟨g, 0, none⟩)] w fun e w' => e = .returned (.string ⟨(takeL (c :: l) bad 1 c.toNat).1.toArray⟩) ∧ Rd w' g (takeL (c :: l) bad 1 c.toNat).2.1 (takeL (c :: l) bad 1 c.toNat).2.2 ∧ Fr (· = g) w w' := by
  have c0 := h.cell 0
  simp at c0
  have H := Lib.hid h
  have HL := Lib.hid hl
  clear h hl
  go_enter Try.func37, Try.ntmps37
  go_wp2_with (go_at_call 49; refine (take_any _ _ _ _ _ _ H.out (by omega) (by omega) HL.out).mono ?_; rintro e w1 ⟨rfl, hr, hf⟩)
  have e : ∀ h, wrap64 (((⟨(c :: l).toArray⟩ : ByteArray)[0]'h).toNat : Int) = (c.toNat : Int) := fun _ => wrap64_byte c
  rw [e] at hr
  rw [e]
  go_ret
  exact ⟨rfl, hr, hf⟩
set_option maxHeartbeats 400000 in
theorem RRaw_nil (n : Int) (w : World) :
    Calls Try.prog 38 #[.pointer none, .int .i64 n] w fun e w' => e = .returned (.string ⟨#[]⟩) ∧ w = w' := by
  go_enter Try.func38, Try.ntmps38
  go_wp2
  go_ret
  exact ⟨rfl, rfl⟩
set_option maxHeartbeats 400000 in
theorem RRaw_any (g : Nat) (l : List UInt8) (bad n : Int) (w : World) (h : Rd w g l bad) (hl : l.length ≤ 9223372036854775807) :
    Calls Try.prog 38 #[.pointer (some ⟨g, 0, none⟩), .int .i64 n] w fun e w' => e = .returned (.string ⟨(takeL l bad 0 n).1.toArray⟩) ∧ Rd w' g (takeL l bad 0 n).2.1 (takeL l bad 0 n).2.2 ∧ Fr (· = g) w w' := by
  have H := Lib.hid h
  have HL := Lib.hid hl
  clear h hl
  go_enter Try.func38, Try.ntmps38
  go_wp2_with (go_at_call 49; refine (take_any _ _ _ _ _ _ H.out (by omega) (by omega) HL.out).mono ?_; rintro e w1 ⟨rfl, hr, hf⟩)
  go_ret
  exact ⟨rfl, hr, hf⟩
set_option maxHeartbeats 400000 in
theorem RLeft_nil (w : World) :
    Calls Try.prog 40 #[.pointer none] w fun e w' => e = .returned (.int .i64 0) ∧ w = w' := by
  go_enter Try.func40, Try.ntmps40
  go_wp2
  go_ret
  exact ⟨rfl, rfl⟩
set_option maxHeartbeats 400000 in
theorem RLeft_any (g : Nat) (l : List UInt8) (bad : Int) (w : World) (h : Rd w g l bad) :
    Calls Try.prog 40 #[.pointer (some ⟨g, 0, none⟩)] w fun e w' => e = .returned (.int .i64 l.length) ∧ w = w' := by
  have c0 := h.cell 0
  simp at c0
  clear h
  go_enter Try.func40, Try.ntmps40
  go_wp2
  go_ret
  exact ⟨rfl, rfl⟩
set_option maxHeartbeats 400000 in
theorem REnd_nil (w : World) :
    Calls Try.prog 41 #[.pointer none] w fun e w' => e = .returned (.int .i64 1) ∧ w = w' := by
  go_enter Try.func41, Try.ntmps41
  go_wp2
  go_ret
  exact ⟨rfl, rfl⟩
def endL (l : List UInt8) (bad : Int) : Int := if bad ≠ 0 then bad else if l ≠ [] then 3 else 0
set_option maxHeartbeats 400000 in
theorem REnd_any (g : Nat) (l : List UInt8) (bad : Int) (w : World) (h : Rd w g l bad) :
    Calls Try.prog 41 #[.pointer (some ⟨g, 0, none⟩)] w fun e w' => e = .returned (.int .i64 (endL l bad)) ∧ w = w' := by
  have c0 := h.cell 0
  have c1 := h.cell 1
  simp at c0 c1
  clear h
  unfold endL
  by_cases hb : bad = 0
  · subst hb
    rw [if_neg (by simp)]
    cases l with
    | nil =>
      rw [if_neg (by simp)]
      go_enter Try.func41, Try.ntmps41
      go_wp2
      go_ret
      exact ⟨rfl, rfl⟩
    | cons c l =>
      rw [if_pos (by simp)]
      go_enter Try.func41, Try.ntmps41
      go_wp2
      go_ret
      exact ⟨rfl, rfl⟩
  · rw [if_pos hb]
    have h1 : (bad != 0) = true := by simp [hb]
    clear hb
    go_enter Try.func41, Try.ntmps41
    go_wp2
    go_ret
    exact ⟨rfl, rfl⟩
end Oct
end Go.Proofs.Yteafhmcpppeelaa
