/- The law's own functions of layer 1: 'speaks'; OctetOrder's walk. -/
import Derived.Test.YteafhmcpppeelaaOctR
import Derived.Deep.QuietTactic
import Derived.BigQuiet
namespace Go.Proofs.Yteafhmcpppeelaa
open Go.RowKit
namespace Oct

set_option maxHeartbeats 400000 in
theorem Text_any (s : ByteArray) (w : World) :
    Calls Try.prog 46 #[.string s] w fun e w' => e = .returned (.agg #[.int .i64 2, .int .i64 0, .int .u64 0, .string s]) ∧ Below w.heap.size w w' := by
  go_enter Try.func46, Try.ntmps46
  go_wp2
  exact bodyPost_ret (v := .agg #[.int .i64 2, .int .i64 0, .int .u64 0, .string s]) (by simp [results, Try.results46, go_sem]) rfl ⟨rfl, (Below.refl _ _).alloc (Nat.le_refl _) _⟩
set_option maxHeartbeats 400000 in
theorem Raw_any (s : ByteArray) (w : World) :
    Calls Try.prog 50 #[.string s] w fun e w' => e = .returned (.agg #[.int .i64 3, .int .i64 0, .int .u64 0, .string s]) ∧ Below w.heap.size w w' := by
  go_enter Try.func50, Try.ntmps50
  go_wp2
  exact bodyPost_ret (v := .agg #[.int .i64 3, .int .i64 0, .int .u64 0, .string s]) (by simp [results, Try.results50, go_sem]) rfl ⟨rfl, (Below.refl _ _).alloc (Nat.le_refl _) _⟩

theorem parts_one (w : World) (p : Part) : Parts (w.alloc (.cells #[.int .i64 p.kind, .int .i64 p.size, .int .u64 p.n, .string p.s] 71)) (some ⟨w.heap.size, 0, none⟩) [p] := by
  have := RowsAt.new w 4 71 #[.int .i64 p.kind, .int .i64 p.size, .int .u64 p.n, .string p.s] [p.cells] (by
    intro k row hk j u hu
    match k, hk with
    | 0, hk =>
      simp at hk; subst hk
      match j, hu with
      | 0, hu => simpa [Part.cells] using hu
      | 1, hu => simpa [Part.cells] using hu
      | 2, hu => simpa [Part.cells] using hu
      | 3, hu => simpa [Part.cells] using hu
      | j + 4, hu => simp [Part.cells] at hu)
  simpa [Parts] using this
theorem parts_two (w : World) (p q : Part) : Parts (w.alloc (.cells #[.int .i64 p.kind, .int .i64 p.size, .int .u64 p.n, .string p.s, .int .i64 q.kind, .int .i64 q.size, .int .u64 q.n, .string q.s] 71)) (some ⟨w.heap.size, 0, none⟩) [p, q] := by
  have := RowsAt.new w 4 71 #[.int .i64 p.kind, .int .i64 p.size, .int .u64 p.n, .string p.s, .int .i64 q.kind, .int .i64 q.size, .int .u64 q.n, .string q.s] [p.cells, q.cells] (by
    intro k row hk j u hu
    match k, hk with
    | 0, hk =>
      simp at hk; subst hk
      match j, hu with
      | 0, hu => simpa [Part.cells] using hu
      | 1, hu => simpa [Part.cells] using hu
      | 2, hu => simpa [Part.cells] using hu
      | 3, hu => simpa [Part.cells] using hu
      | j + 4, hu => simp [Part.cells] at hu
    | 1, hk =>
      simp at hk; subst hk
      match j, hu with
      | 0, hu => simpa [Part.cells] using hu
      | 1, hu => simpa [Part.cells] using hu
      | 2, hu => simpa [Part.cells] using hu
      | 3, hu => simpa [Part.cells] using hu
      | j + 4, hu => simp [Part.cells] at hu)
  simpa [Parts] using this

set_option maxHeartbeats 1000000 in
theorem speaks (w : World) :
    Calls Try.prog 32 #[] w fun e w' => e = .returned (.bool true) ∧ Below w.heap.size w w' := by
  go_enter Try.func32, Try.ntmps32
  go_wp2_with fail
  refine (Num_any _ _ _).mono ?_; rintro e w1 ⟨rfl, hb1⟩
  go_wp2_with fail
  refine (Text_any _ _).mono ?_; rintro e w2 ⟨rfl, hb2⟩
  go_wp2_with fail
  have ej : joinRes [⟨1, 2, 258, ⟨#[]⟩⟩, ⟨2, 0, 0, ⟨#[97]⟩⟩] [] = ([1, 2, 1, 97], 0) := by decide +kernel
  have hj := Join_any (some ⟨w2.heap.size, 0, none⟩) 2 [⟨1, 2, 258, ⟨#[]⟩⟩, ⟨2, 0, 0, ⟨#[97]⟩⟩] _ (parts_two w2 ⟨1, 2, 258, ⟨#[]⟩⟩ ⟨2, 0, 0, ⟨#[97]⟩⟩) (by decide) (by decide) (by decide)
  rw [ej] at hj
  refine hj.mono ?_; rintro e w3 ⟨rfl, hb3⟩
  clear hj ej
  go_wp2_with fail
  refine (Read_any [1, 2, 1, 97] _).mono ?_; rintro e w4 ⟨rfl, hr4, hb4, hz4⟩
  go_wp2_with fail
  refine (RNum_go _ _ _ _ _ hr4 (by decide) (by decide) (by decide)).mono ?_; rintro e w5 ⟨rfl, hr5, hf5⟩
  have e5 : takeL [1, 2, 1, 97] 0 0 2 = ([1, 2], [1, 97], 0) := by decide +kernel
  rw [e5] at hr5 ⊢
  go_wp2_with fail
  refine (RText_go _ _ _ _ _ hr5 (by decide)).mono ?_; rintro e w6 ⟨rfl, hr6, hf6⟩
  have e6 : takeL [1, 97] 0 1 ((1 : UInt8).toNat) = ([97], [], 0) := by decide +kernel
  rw [e6] at hr6 ⊢
  go_wp2_with fail
  refine (REnd_any _ _ _ _ hr6).mono ?_; rintro e w7 ⟨rfl, rfl⟩
  rw [show endL [] 0 = 0 from rfl]
  go_wp2_with fail
  go_ret
  refine ⟨rfl, ?_⟩
  have hb : Below w.heap.size w w4 := ((hb1.trans (hb2.mono hb1.size)).alloc (by have := hb1.size; have := hb2.size; omega) _).trans ((hb3.trans (hb4.mono hb3.size)).mono (by have := hb1.size; have := hb2.size; simp; omega))
  have h3 : w.heap.size ≤ w3.heap.size := by have := hb1.size; have := hb2.size; have := hb3.size; simp at this; omega
  exact hb.trans ⟨(hf5.trans hf6).os, (hf5.trans hf6).tape, (hf5.trans hf6).output, (hf5.trans hf6).size, fun k hk => (hf5.trans hf6).block k (by omega) (by omega)⟩

theorem and7 (x : Int) : ∃ k : Nat, k ≤ 7 ∧ bits BinOp.and IntKind.i64 x 7 = (k : Int) := by
  refine ⟨(BitVec.ofInt 64 x &&& 7#64).toNat, ?_, ?_⟩
  · rw [BitVec.toNat_and]; exact Nat.and_le_right
  · show IntKind.i64.wrap ((BitVec.ofInt 64 x &&& BitVec.ofInt 64 7).toNat : Int) = _
    have h : (BitVec.ofInt 64 x &&& 7#64).toNat ≤ 7 := by rw [BitVec.toNat_and]; exact Nat.and_le_right
    rw [show BitVec.ofInt 64 7 = 7#64 from rfl, IntKind.wrap_i64]
    omega

theorem join_one (A k : Nat) (hk : k ≤ 7) (h : A < 256 ^ (1 + k)) : joinRes [⟨1, ((1 + k : Nat) : Int), A, ⟨#[]⟩⟩] [] = (be (1 + k) A, 0) := by
  have e : Part.bytes ⟨1, ((1 + k : Nat) : Int), A, ⟨#[]⟩⟩ = (be (1 + k) A, 0) := by
    show (if (1 : Int) = 1 then numRes A ((1 + k : Nat) : Int) else _) = _
    rw [if_pos rfl]
    unfold numRes
    rw [if_pos ⟨by omega, by omega, by rw [Int.toNat_natCast]; exact h⟩, Int.toNat_natCast]
  show (if (Part.bytes ⟨1, ((1 + k : Nat) : Int), A, ⟨#[]⟩⟩).2 ≠ 0 then _ else joinRes [] ([] ++ (Part.bytes ⟨1, ((1 + k : Nat) : Int), A, ⟨#[]⟩⟩).1)) = _
  rw [e]; rfl

theorem top_lt (n k : Nat) (hk : k ≤ 7) (hn : n < 18446744073709551616) : n / 2 ^ (64 - 8 * (1 + k)) < 256 ^ (1 + k) := by
  rw [Nat.div_lt_iff_lt_mul (Nat.pow_pos (by omega)), show (256 : Nat) = 2 ^ 8 from rfl, ← Nat.pow_mul, ← Nat.pow_add, show 8 * (1 + k) + (64 - 8 * (1 + k)) = 64 from by omega]
  exact hn
theorem top_cast (n m : Nat) : (n : Int) / 2 ^ m = ((n / 2 ^ m : Nat) : Int) := by
  rw [Int.natCast_ediv, Int.natCast_pow]; rfl

set_option maxHeartbeats 2000000 in
theorem OctetOrder_walk (a b : Nat) (size : Int) (w : World) (ha : Hid (a < 18446744073709551616)) (hb : Hid (b < 18446744073709551616)) (k : Nat) (hk7 : k ≤ 7) (hs : bits BinOp.and IntKind.i64 size 7 = (k : Int)) :
    Calls Try.prog 6 #[.int .u64 a, .int .u64 b, .int .i64 size] w fun e w' => e = .returned (.bool true) ∧ Below w.heap.size w w' := by
  go_enter Try.func6, Try.ntmps6
  go_wp2_with fail
  refine (speaks _).mono ?_; rintro e w1 ⟨rfl, hb1⟩
  go_wp2_with fail
  go_quiet (fail)
  obtain ⟨A, hA⟩ : ∃ A, A = a / 2 ^ (64 - 8 * (1 + k)) := ⟨_, rfl⟩
  obtain ⟨B, hB⟩ : ∃ B, B = b / 2 ^ (64 - 8 * (1 + k)) := ⟨_, rfl⟩
  have lA := Lib.hid (show A < 256 ^ (1 + k) by rw [hA]; exact top_lt a k hk7 ha.out)
  have lB := Lib.hid (show B < 256 ^ (1 + k) by rw [hB]; exact top_lt b k hk7 hb.out)
  rw [top_cast a, top_cast b, ← hA, ← hB]
  clear hA hB
  go_wp2_with fail
  refine (Num_any _ _ _).mono ?_; rintro e w2 ⟨rfl, hb2⟩
  go_wp2_with fail
  have hj := Join_any (some ⟨w2.heap.size, 0, none⟩) 1 [⟨1, ((1 + k : Nat) : Int), A, ⟨#[]⟩⟩] _ (parts_one w2 ⟨1, ((1 + k : Nat) : Int), A, ⟨#[]⟩⟩) (by show 0 + 9 + 0 ≤ _; decide) (by intro p hp; simp at hp; subst hp; exact Nat.lt_of_lt_of_le lA.out (Nat.pow_le_pow_right (by omega) (by omega))) (by show 1 ≤ _; decide)
  rw [join_one A k hk7 lA.out] at hj
  have ek : ((1 + k : Nat) : Int) = 1 + (k : Int) := by omega
  rw [ek] at hj
  refine hj.mono ?_; rintro e w3 ⟨rfl, hb3⟩
  clear hj
  go_wp2_with fail
  refine (Num_any _ _ _).mono ?_; rintro e w4 ⟨rfl, hb4⟩
  go_wp2_with fail
  have hj := Join_any (some ⟨w4.heap.size, 0, none⟩) 1 [⟨1, ((1 + k : Nat) : Int), B, ⟨#[]⟩⟩] _ (parts_one w4 ⟨1, ((1 + k : Nat) : Int), B, ⟨#[]⟩⟩) (by show 0 + 9 + 0 ≤ _; decide) (by intro p hp; simp at hp; subst hp; exact Nat.lt_of_lt_of_le lB.out (Nat.pow_le_pow_right (by omega) (by omega))) (by show 1 ≤ _; decide)
  rw [join_one B k hk7 lB.out] at hj
  rw [ek] at hj
  refine hj.mono ?_; rintro e w5 ⟨rfl, hb5⟩
  clear hj ek
  have l1 : ((be (1 + k) A).length : Int) = 1 + (k : Int) := by rw [length_be]; omega
  have l2 : ((be (1 + k) B).length : Int) = 1 + (k : Int) := by rw [length_be]; omega
  have l3 := be_less (1 + k) A B lA.out lB.out
  go_wp2_with fail
  go_ret
  refine ⟨ret_bool ?_, ?_⟩
  · rw [beq_iff_eq, Bool.eq_iff_iff, beq_iff_eq, beq_iff_eq, be_inj _ _ _ lA.out lB.out]
    omega
  · have s1 := hb1.size
    have s2 := hb2.size
    have s3 := hb3.size
    have s4 := hb4.size
    have s5 := hb5.size
    simp at s2 s3 s5
    have h2 : Below w.heap.size w w2 := (below_drewN hb1 nq).trans (hb2.mono (by simp; omega))
    have h3 : Below w.heap.size w w3 := (h2.alloc (by omega) _).trans (hb3.mono (by simp; omega))
    have h4 := h3.trans (hb4.mono (by omega))
    exact (h4.alloc (by omega) _).trans (hb5.mono (by simp; omega))
end Oct
end Go.Proofs.Yteafhmcpppeelaa
