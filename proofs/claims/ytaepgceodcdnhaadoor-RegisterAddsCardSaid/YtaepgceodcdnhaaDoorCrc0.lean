/- Sums that find what was turned (crc): plain mathematics. No program is named here. -/
import Derived.Test.YtaepgceodcdnhaaDoorBase
import Derived.IntWalk
namespace Go.Proofs.YtaepgceodcdnhaaDoor.Crc
open Go
def poly : Nat := 3988292384
def st (r : Nat) : Nat := if r % 2 = 1 then (r / 2) ^^^ poly else r / 2
def stN : Nat → Nat → Nat
  | 0, r => r
  | k + 1, r => st (stN k r)
def step (r c : Nat) : Nat := stN 8 (r ^^^ c)
def sumN (l : List UInt8) (r : Nat) : Nat := l.foldl (fun r c => step r c.toNat) r
def crc (l : List UInt8) : Nat := 4294967295 - sumN l 4294967295
def le4 (n : Nat) : List UInt8 := [UInt8.ofNat (n / 1), UInt8.ofNat (n / 256), UInt8.ofNat (n / 65536), UInt8.ofNat (n / 16777216)]
def sealL (l : List UInt8) : List UInt8 := l ++ le4 (crc l)
theorem sealL_len (l : List UInt8) : (sealL l).length = l.length + 4 := by simp [sealL, le4]
theorem st_lt {r : Nat} (h : r < 4294967296) : st r < 4294967296 := by
  unfold st
  split
  · exact Nat.xor_lt_two_pow (n := 32) (by omega) (by decide)
  · omega
theorem stN_lt {r : Nat} (h : r < 4294967296) : ∀ k, stN k r < 4294967296
  | 0 => h
  | k + 1 => st_lt (stN_lt h k)
theorem step_lt {r c : Nat} (h : r < 4294967296) (hc : c < 256) : step r c < 4294967296 :=
  stN_lt (Nat.xor_lt_two_pow (n := 32) (by omega) (by omega)) 8
theorem sumN_lt : ∀ (l : List UInt8) {r : Nat}, r < 4294967296 → sumN l r < 4294967296
  | [], _, h => h
  | c :: l, r, h => by
    show sumN l (step r c.toNat) < _
    exact sumN_lt l (step_lt h (by have := c.toNat_lt; omega))
theorem sumN_snoc (l : List UInt8) (c : UInt8) (r : Nat) : sumN (l ++ [c]) r = step (sumN l r) c.toNat := by simp [sumN]
theorem crc_lt (l : List UInt8) : crc l < 4294967296 := by unfold crc; omega
/-! bit by bit -/
def rbit (c i : Nat) : Nat := c / 2 ^ i % 2
def rst (r b : Nat) : Nat := if r % 2 ≠ b then (r / 2) ^^^ poly else r / 2
def rs (r c : Nat) : Nat → Nat
  | 0 => r
  | k + 1 => rst (rs r c k) (rbit c k)
theorem xor_half (a b : Nat) : (a ^^^ b) / 2 = a / 2 ^^^ b / 2 := by
  have := Nat.shiftRight_xor_distrib (a := a) (b := b) (i := 1)
  simpa [Nat.shiftRight_eq_div_pow] using this
theorem xor_low (a b : Nat) : (a ^^^ b) % 2 = 1 ↔ a % 2 ≠ b % 2 := by
  rw [Nat.xor_mod_two_eq_one]
  omega
theorem st_xor (a b : Nat) : st (a ^^^ b) = rst a (b % 2) ^^^ (b / 2) := by
  unfold st rst
  by_cases h : a % 2 ≠ b % 2
  · rw [if_pos ((xor_low a b).2 h), if_pos h, xor_half, Nat.xor_assoc, Nat.xor_comm (b / 2) poly, ← Nat.xor_assoc]
  · rw [if_neg (fun e => h ((xor_low a b).1 e)), if_neg h, xor_half]
theorem stN_xor (r c : Nat) : ∀ k, stN k (r ^^^ c) = rs r c k ^^^ (c / 2 ^ k)
  | 0 => by simp [stN, rs]
  | k + 1 => by
    show st (stN k (r ^^^ c)) = rst (rs r c k) (rbit c k) ^^^ (c / 2 ^ (k + 1))
    rw [stN_xor r c k, st_xor, Nat.div_div_eq_div_mul, ← Nat.pow_succ]; rfl
theorem step_eq (r c : Nat) (hc : c < 256) : step r c = rs r c 8 := by
  unfold step
  rw [stN_xor, show c / 2 ^ 8 = 0 by omega, Nat.xor_zero]
theorem rst_lt {r b : Nat} (h : r < 4294967296) : rst r b < 4294967296 := by
  unfold rst
  split
  · exact Nat.xor_lt_two_pow (n := 32) (by omega) (by decide)
  · omega
def bitL (l : List UInt8) (i : Nat) : Nat := rbit (l.getD (i / 8) 0).toNat (i % 8)
def sumB (l : List UInt8) : Nat → Nat
  | 0 => 4294967295
  | i + 1 => rst (sumB l i) (bitL l i)
theorem sumB_lt (l : List UInt8) : ∀ i, sumB l i < 4294967296
  | 0 => by show 4294967295 < 4294967296; decide
  | i + 1 => rst_lt (sumB_lt l i)
theorem sumB_byte (l : List UInt8) (n : Nat) : ∀ j, j ≤ 8 → sumB l (8 * n + j) = rs (sumB l (8 * n)) (l.getD n 0).toNat j
  | 0, _ => rfl
  | j + 1, h => by
    show rst (sumB l (8 * n + j)) (rbit (l.getD ((8 * n + j) / 8) 0).toNat ((8 * n + j) % 8)) = rst (rs (sumB l (8 * n)) (l.getD n 0).toNat j) (rbit (l.getD n 0).toNat j)
    rw [sumB_byte l n j (by omega), show (8 * n + j) / 8 = n by omega, show (8 * n + j) % 8 = j by omega]
theorem sumB_eq (l : List UInt8) : ∀ n, n ≤ l.length → sumB l (8 * n) = sumN (l.take n) 4294967295
  | 0, _ => rfl
  | n + 1, h => by
    have hn : n < l.length := by omega
    rw [show 8 * (n + 1) = 8 * n + 8 by omega, sumB_byte l n 8 (by omega), sumB_eq l n (by omega), List.take_succ_eq_append_getElem hn, sumN_snoc, step_eq _ _ (by have := (l[n]).toNat_lt; omega)]
    rw [List.getD_eq_getElem?_getD, List.getElem?_eq_getElem hn]; rfl
theorem sumB_all (l : List UInt8) : 4294967295 - sumB l (8 * l.length) = crc l := by rw [sumB_eq l _ (Nat.le_refl _), List.take_length]; rfl
/-! numbers as the machine has them -/
theorem wrap32 {x : Nat} (h : x < 4294967296) : IntKind.wrap .u32 (x : Int) = x := IntWalk.u32_in _ (by omega)
theorem xor32 {x y : Nat} (hx : x < 4294967296) (hy : y < 4294967296) : IntKind.wrap .u32 ((BitVec.ofInt 32 (x : Int) ^^^ BitVec.ofInt 32 (y : Int)).toNat : Int) = ((x ^^^ y : Nat) : Int) := by
  have e : (BitVec.ofInt 32 (x : Int) ^^^ BitVec.ofInt 32 (y : Int)).toNat = x ^^^ y := by
    rw [BitVec.toNat_xor, BitVec.ofInt_natCast, BitVec.ofInt_natCast, BitVec.toNat_ofNat, BitVec.toNat_ofNat, Nat.mod_eq_of_lt hx, Nat.mod_eq_of_lt hy]
  rw [e]
  exact wrap32 (Nat.xor_lt_two_pow (n := 32) hx hy)
theorem and32 {x : Nat} (hx : x < 4294967296) : IntKind.wrap .u32 ((BitVec.ofInt 32 (x : Int) &&& BitVec.ofInt 32 1).toNat : Int) = ((x % 2 : Nat) : Int) := by
  have e : (BitVec.ofInt 32 (x : Int) &&& BitVec.ofInt 32 1).toNat = x % 2 := by
    rw [show (1 : Int) = ((1 : Nat) : Int) from rfl]
    rw [BitVec.toNat_and, BitVec.ofInt_natCast, BitVec.ofInt_natCast, BitVec.toNat_ofNat, BitVec.toNat_ofNat, Nat.mod_eq_of_lt hx, Nat.mod_eq_of_lt (by decide), Nat.and_one_is_mod]
  rw [e]
  exact wrap32 (by omega)
theorem not32 {x : Nat} (hx : x < 4294967296) : IntKind.wrap .u32 ((BitVec.ofInt 32 4294967295 ^^^ BitVec.ofInt 32 (x : Int)).toNat : Int) = ((4294967295 - x : Nat) : Int) := by
  rw [show (4294967295 : Int) = ((4294967295 : Nat) : Int) from rfl, xor32 (by decide) hx]
  congr 1
  have h : (BitVec.allOnes 32 ^^^ BitVec.ofNat 32 x).toNat = 4294967295 - x := by
    rw [BitVec.xor_comm, BitVec.xor_allOnes, BitVec.toNat_not, BitVec.toNat_ofNat, Nat.mod_eq_of_lt hx]
  rw [BitVec.toNat_xor, BitVec.toNat_ofNat, Nat.mod_eq_of_lt hx] at h
  exact h
theorem shr1 (x : Nat) : (x : Int).fdiv (2 ^ min (Int.toNat 1) 32) = ((x / 2 : Nat) : Int) := by
  show (x : Int).fdiv 2 = _
  rw [Int.fdiv_eq_ediv_of_nonneg _ (by decide)]; omega
theorem xorP {x : Nat} (h : x < 4294967296) : IntKind.wrap .u32 ((BitVec.ofInt 32 (x : Int) ^^^ BitVec.ofInt 32 3988292384).toNat : Int) = ((x ^^^ poly : Nat) : Int) := xor32 (y := poly) h (by decide)
theorem st_one {r : Nat} (h : r % 2 = 1) : st r = r / 2 ^^^ poly := by unfold st; rw [if_pos h]
theorem st_zero {r : Nat} (h : ¬ r % 2 = 1) : st r = r / 2 := by unfold st; rw [if_neg h]
end Go.Proofs.YtaepgceodcdnhaaDoor.Crc
