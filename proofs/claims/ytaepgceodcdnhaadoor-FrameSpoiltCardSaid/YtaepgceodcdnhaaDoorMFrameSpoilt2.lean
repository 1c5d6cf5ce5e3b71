/- Texts of this claim, one behind the other: Frm6, GA, Frm5, Frm7, GB. -/
import Derived.Test.YtaepgceodcdnhaaDoorMFrameSpoilt1
/- Frames: plain, what was spoilt within 32 bits side by side is found. No program is named here. -/
namespace Go.Proofs.YtaepgceodcdnhaaDoor.Crc
open Go
/-! the register goes on one to one -/
theorem st_hi {r : Nat} (h : r < 4294967296) : (2147483648 ≤ st r) ↔ r % 2 = 1 := by
  unfold st
  by_cases g : r % 2 = 1
  · rw [if_pos g]
    refine ⟨fun _ => g, fun _ => ?_⟩
    have h1 : (r / 2 ^^^ poly).testBit 31 = true := by
      rw [Nat.testBit_xor, Nat.testBit_lt_two_pow (x := r / 2) (i := 31) (by omega)]; decide
    exact Nat.ge_two_pow_of_testBit h1
  · rw [if_neg g]; omega
theorem st_inj {r s : Nat} (hr : r < 4294967296) (hs : s < 4294967296) (h : st r = st s) : r = s := by
  have h1 := st_hi hr
  have h2 := st_hi hs
  rw [h] at h1
  have hp : r % 2 = 1 ↔ s % 2 = 1 := h1.symm.trans h2
  unfold st at h
  by_cases g : r % 2 = 1
  · rw [if_pos g, if_pos (hp.1 g)] at h
    have : r / 2 = s / 2 := by
      have := congrArg (· ^^^ poly) h
      simpa [Nat.xor_assoc] using this
    have := hp.1 g
    omega
  · rw [if_neg g, if_neg (fun k => g (hp.2 k))] at h
    have : ¬ s % 2 = 1 := fun k => g (hp.2 k)
    omega
theorem stN_inj {r s : Nat} (hr : r < 4294967296) (hs : s < 4294967296) : ∀ k, stN k r = stN k s → r = s
  | 0, h => h
  | k + 1, h => stN_inj hr hs k (st_inj (stN_lt hr k) (stN_lt hs k) h)
theorem rst_inj {r s b : Nat} (hr : r < 4294967296) (hs : s < 4294967296) (hb : b < 2) (h : rst r b = rst s b) : r = s := by
  have e : ∀ x, rst x b = st (x ^^^ b) := fun x => by
    rw [st_xor, show b / 2 = 0 by omega, Nat.xor_zero, Nat.mod_eq_of_lt hb]
  rw [e, e] at h
  have := st_inj (Nat.xor_lt_two_pow (n := 32) hr (by omega)) (Nat.xor_lt_two_pow (n := 32) hs (by omega)) h
  have := congrArg (· ^^^ b) this
  simpa [Nat.xor_assoc] using this
theorem bitL_lt (l : List UInt8) (i : Nat) : bitL l i < 2 := by unfold bitL rbit; omega
/-- so many bits of a text, as a number -/
def wrd (l : List UInt8) (a : Nat) : Nat → Nat
  | 0 => 0
  | j + 1 => wrd l a j + bitL l (a + j) * 2 ^ j
theorem wrd_lt (l : List UInt8) (a : Nat) : ∀ j, wrd l a j < 2 ^ j
  | 0 => by show 0 < 1; decide
  | j + 1 => by
    have := wrd_lt l a j
    have hb := bitL_lt l (a + j)
    show wrd l a j + bitL l (a + j) * 2 ^ j < 2 ^ (j + 1)
    rw [Nat.pow_succ]
    rcases (by omega : bitL l (a + j) = 0 ∨ bitL l (a + j) = 1) with e | e <;> rw [e] <;> omega
theorem wrd_bit (l : List UInt8) (a : Nat) : ∀ j i, i < j → rbit (wrd l a j) i = bitL l (a + i)
  | 0, _, h => by omega
  | j + 1, i, h => by
    have hw := wrd_lt l a j
    have hb := bitL_lt l (a + j)
    show (wrd l a j + bitL l (a + j) * 2 ^ j) / 2 ^ i % 2 = _
    by_cases e : i = j
    · subst e
      rw [Nat.add_mul_div_right _ _ (Nat.pow_pos (by decide)), Nat.div_eq_of_lt hw, Nat.zero_add, Nat.mod_eq_of_lt hb]
    · have hi : i < j := by omega
      have ih := wrd_bit l a j i hi
      unfold rbit at ih
      rw [← ih]
      have e2 : bitL l (a + j) * 2 ^ j = (bitL l (a + j) * 2 ^ (j - i - 1) * 2) * 2 ^ i := by
        rw [Nat.mul_assoc, Nat.mul_assoc, ← Nat.pow_succ', ← Nat.pow_add]
        congr 2; omega
      rw [e2, Nat.add_mul_div_right _ _ (Nat.pow_pos (by decide)), Nat.add_mul_mod_self_right]
theorem sum_rs (l : List UInt8) (a j : Nat) : ∀ i, i ≤ j → sumB l (a + i) = rs (sumB l a) (wrd l a j) i
  | 0, _ => rfl
  | i + 1, h => by
    show rst (sumB l (a + i)) (bitL l (a + i)) = rst (rs (sumB l a) (wrd l a j) i) (rbit (wrd l a j) i)
    rw [sum_rs l a j i (by omega), wrd_bit l a j i (by omega)]
theorem sum_word (l : List UInt8) (a j : Nat) : sumB l (a + j) = stN j (sumB l a ^^^ wrd l a j) := by
  rw [stN_xor, Nat.div_eq_of_lt (wrd_lt l a j), Nat.xor_zero, sum_rs l a j j (Nat.le_refl _)]
theorem sum_same {s t : List UInt8} : ∀ (a : Nat), (∀ i, i < a → bitL s i = bitL t i) → sumB s a = sumB t a
  | 0, _ => rfl
  | a + 1, h => by
    show rst (sumB s a) (bitL s a) = rst (sumB t a) (bitL t a)
    rw [sum_same a (fun i hi => h i (by omega)), h a (by omega)]
theorem sum_back {s t : List UInt8} (a : Nat) : ∀ (k : Nat), (∀ i, a ≤ i → bitL s i = bitL t i) → sumB s (a + k) = sumB t (a + k) → sumB s a = sumB t a
  | 0, _, h => h
  | k + 1, he, h => by
    have h : rst (sumB s (a + k)) (bitL s (a + k)) = rst (sumB t (a + k)) (bitL t (a + k)) := h
    rw [he (a + k) (by omega)] at h
    exact sum_back a k he (rst_inj (sumB_lt s _) (sumB_lt t _) (bitL_lt t _) h)
/-- a burst: two texts that differ within 32 bits side by side alone have the same register at the end only if they are the same -/
theorem burst {s t : List UInt8} (a j n : Nat) (hj : j ≤ 32) (hn : a + j ≤ n) (he : ∀ i, (i < a ∨ a + j ≤ i) → bitL s i = bitL t i) (h : sumB s n = sumB t n) : ∀ i, bitL s i = bitL t i := by
  have h1 : sumB s a = sumB t a := sum_same a (fun i hi => he i (.inl hi))
  have h2 : sumB s (a + j) = sumB t (a + j) := sum_back (a + j) (n - (a + j)) (fun i hi => he i (.inr hi)) (by rw [show a + j + (n - (a + j)) = n by omega]; exact h)
  rw [sum_word, sum_word, h1] at h2
  have hp : (2 : Nat) ^ j ≤ 2 ^ 32 := Nat.pow_le_pow_right (by decide) hj
  have hs := wrd_lt s a j
  have ht := wrd_lt t a j
  have h3 := stN_inj (Nat.xor_lt_two_pow (n := 32) (sumB_lt t a) (by omega)) (Nat.xor_lt_two_pow (n := 32) (sumB_lt t a) (by omega)) j h2
  have h4 : wrd s a j = wrd t a j := by
    have := congrArg (sumB t a ^^^ ·) h3
    simpa [← Nat.xor_assoc] using this
  intro i
  by_cases g : i < a ∨ a + j ≤ i
  · exact he i g
  · have e : i = a + (i - a) := by omega
    rw [e, ← wrd_bit s a j (i - a) (by omega), ← wrd_bit t a j (i - a) (by omega), h4]
/-! a sealed text's register -/
theorem getD_app (l r : List UInt8) (i : Nat) (h : l.length ≤ i) : (l ++ r).getD i 0 = r.getD (i - l.length) 0 := by
  rw [List.getD_eq_getElem?_getD, List.getElem?_append_right h, ← List.getD_eq_getElem?_getD]
theorem bit_le4 (c i : Nat) (h : i < 32) : bitL (le4 c) i = rbit c i := by
  have key : ∀ k q, k < 4 → q < 8 → rbit ((le4 c).getD k 0).toNat q = c / 2 ^ (8 * k + q) % 2 := fun k q hk hq => by
    have e : ((le4 c).getD k 0).toNat = c / 2 ^ (8 * k) % 256 := by
      rcases (by omega : k = 0 ∨ k = 1 ∨ k = 2 ∨ k = 3) with rfl | rfl | rfl | rfl
      · show (UInt8.ofNat (c / 1)).toNat = _; rw [UInt8.toNat_ofNat']
      · show (UInt8.ofNat (c / 256)).toNat = _; rw [UInt8.toNat_ofNat']
      · show (UInt8.ofNat (c / 65536)).toNat = _; rw [UInt8.toNat_ofNat']
      · show (UInt8.ofNat (c / 16777216)).toNat = _; rw [UInt8.toNat_ofNat']
    unfold rbit
    rw [e, Nat.pow_add, ← Nat.div_div_eq_div_mul]
    generalize c / 2 ^ (8 * k) = y
    rcases (by omega : q = 0 ∨ q = 1 ∨ q = 2 ∨ q = 3 ∨ q = 4 ∨ q = 5 ∨ q = 6 ∨ q = 7) with rfl | rfl | rfl | rfl | rfl | rfl | rfl | rfl <;> omega
  unfold bitL
  rw [key (i / 8) (i % 8) (by omega) (by omega)]
  unfold rbit
  rw [show 8 * (i / 8) + i % 8 = i by omega]
theorem bit_app_l (l r : List UInt8) (i : Nat) (h : i < 8 * l.length) : bitL (l ++ r) i = bitL l i := by
  unfold bitL
  rw [List.getD_eq_getElem?_getD, List.getElem?_append_left (by omega), ← List.getD_eq_getElem?_getD]
theorem bit_app_r (l r : List UInt8) (i : Nat) : bitL (l ++ r) (8 * l.length + i) = bitL r i := by
  unfold bitL
  have e1 : (8 * l.length + i) / 8 = l.length + i / 8 := by omega
  have e2 : (8 * l.length + i) % 8 = i % 8 := by omega
  rw [e1, e2, getD_app l r (l.length + i / 8) (Nat.le_add_right _ _), Nat.add_sub_cancel_left]
/-- every sealed text leaves the same register -/
theorem sum_seal (l : List UInt8) : sumB (sealL l) (8 * (sealL l).length) = stN 32 4294967295 := by
  have hc := crc_lt l
  have h0 : sumB (sealL l) (8 * l.length) = sumB l (8 * l.length) := sum_same _ (fun i hi => bit_app_l l _ i hi)
  have hr := sumB_lt l (8 * l.length)
  have hcr : crc l = 4294967295 - sumB l (8 * l.length) := (sumB_all l).symm
  have h1 : ∀ i, i ≤ 32 → sumB (sealL l) (8 * l.length + i) = rs (sumB l (8 * l.length)) (crc l) i := by
    intro i
    induction i with
    | zero => intro _; exact h0
    | succ i ih =>
      intro hi
      show rst (sumB (sealL l) (8 * l.length + i)) (bitL (sealL l) (8 * l.length + i)) = rst (rs (sumB l (8 * l.length)) (crc l) i) (rbit (crc l) i)
      have hb : bitL (sealL l) (8 * l.length + i) = rbit (crc l) i := by unfold sealL; rw [bit_app_r, bit_le4 _ _ (by omega)]
      rw [ih (by omega), hb]
  rw [sealL_len, show 8 * (l.length + 4) = 8 * l.length + 32 by omega, h1 32 (Nat.le_refl _)]
  have h2 := stN_xor (sumB l (8 * l.length)) (crc l) 32
  rw [Nat.div_eq_of_lt (show crc l < 2 ^ 32 from hc), Nat.xor_zero] at h2
  rw [← h2]
  refine congrArg (stN 32) ?_
  rw [hcr]
  clear h1 h2 hcr h0
  generalize sumB l (8 * l.length) = r at *
  have e : 4294967295 - r = 4294967295 ^^^ r := by
    have h : (BitVec.allOnes 32 ^^^ BitVec.ofNat 32 r).toNat = 4294967295 - r := by
      rw [BitVec.xor_comm, BitVec.xor_allOnes, BitVec.toNat_not, BitVec.toNat_ofNat, Nat.mod_eq_of_lt hr]
    rw [BitVec.toNat_xor, BitVec.toNat_ofNat, Nat.mod_eq_of_lt hr] at h
    exact h.symm
  rw [e, Nat.xor_comm 4294967295 r, ← Nat.xor_assoc, Nat.xor_self, Nat.zero_xor]
/-! turning bits -/
theorem bits_eq {s t : List UInt8} (hl : s.length = t.length) (h : ∀ i, bitL s i = bitL t i) : s = t := by
  refine List.ext_getElem hl fun k h1 h2 => ?_
  have hb : ∀ q, q < 8 → rbit (s[k]).toNat q = rbit (t[k]).toNat q := fun q hq => by
    have := h (8 * k + q)
    unfold bitL at this
    rw [show (8 * k + q) / 8 = k by omega, show (8 * k + q) % 8 = q by omega] at this
    rw [List.getD_eq_getElem?_getD, List.getElem?_eq_getElem h1, List.getD_eq_getElem?_getD, List.getElem?_eq_getElem h2] at this
    exact this
  have hs := (s[k]).toNat_lt
  have ht := (t[k]).toNat_lt
  have h0 := hb 0 (by decide)
  have h1' := hb 1 (by decide)
  have h2' := hb 2 (by decide)
  have h3 := hb 3 (by decide)
  have h4 := hb 4 (by decide)
  have h5 := hb 5 (by decide)
  have h6 := hb 6 (by decide)
  have h7 := hb 7 (by decide)
  unfold rbit at h0 h1' h2' h3 h4 h5 h6 h7
  refine UInt8.toNat_inj.1 ?_
  omega
/-- a bit of a text, turned -/
def flip (s : List UInt8) (p : Nat) : List UInt8 := s.set (p / 8) ((s.getD (p / 8) 0) ^^^ UInt8.ofNat (2 ^ (p % 8)))
theorem flip_len (s : List UInt8) (p : Nat) : (flip s p).length = s.length := List.length_set
theorem flip_bit (s : List UInt8) (p i : Nat) (h : i ≠ p) : bitL (flip s p) i = bitL s i := by
  unfold bitL flip
  by_cases e : i / 8 = p / 8
  · rw [e]
    by_cases hl : p / 8 < s.length
    · rw [List.getD_eq_getElem?_getD, List.getElem?_set_self hl]
      show rbit (s.getD (p / 8) 0 ^^^ UInt8.ofNat (2 ^ (p % 8))).toNat (i % 8) = _
      have hq : i % 8 ≠ p % 8 := by omega
      rw [UInt8.toNat_xor]
      have e2 : (UInt8.ofNat (2 ^ (p % 8))).toNat = 2 ^ (p % 8) := by
        rw [UInt8.toNat_ofNat']
        have : (2 : Nat) ^ (p % 8) ≤ 2 ^ 7 := Nat.pow_le_pow_right (by decide) (by omega)
        exact Nat.mod_eq_of_lt (by omega)
      rw [e2]
      have ht : ∀ x k, rbit x k = (x.testBit k).toNat := fun x k => by
        unfold rbit; rw [Nat.testBit_eq_decide_div_mod_eq]
        rcases Nat.mod_two_eq_zero_or_one (x / 2 ^ k) with g | g <;> rw [g] <;> rfl
      rw [ht, ht, Nat.testBit_xor, Nat.testBit_two_pow, decide_eq_false (fun k => hq k.symm), Bool.xor_false]
    · rw [List.set_eq_of_length_le (by omega)]
  · rw [List.getD_eq_getElem?_getD, List.getElem?_set_ne (fun k => e k.symm), ← List.getD_eq_getElem?_getD]
/-- turned bits: so many of the 32 are done -/
def turnK (s : List UInt8) (a : Int) (bits : Nat) : Nat → List UInt8
  | 0 => s
  | k + 1 => if bits / 2 ^ k % 2 = 0 ∨ a < -(k : Int) ∨ 8 * (s.length : Int) - k ≤ a then turnK s a bits k else flip (turnK s a bits k) (a + k).toNat
theorem turnK_len (s : List UInt8) (a : Int) (bits : Nat) : ∀ k, (turnK s a bits k).length = s.length
  | 0 => rfl
  | k + 1 => by
    unfold turnK
    split
    · exact turnK_len s a bits k
    · rw [flip_len]; exact turnK_len s a bits k
theorem turnK_bit (s : List UInt8) (a : Int) (bits : Nat) : ∀ k, k ≤ 32 → ∀ i : Nat, ((i : Int) < a ∨ a + 32 ≤ i ∨ 8 * s.length ≤ i) → bitL (turnK s a bits k) i = bitL s i
  | 0, _, _, _ => rfl
  | k + 1, hk, i, hi => by
    unfold turnK
    split
    · exact turnK_bit s a bits k (by omega) i hi
    · rename_i g
      rw [flip_bit _ _ _ (by omega)]
      exact turnK_bit s a bits k (by omega) i hi
/-- a sealed text with bits turned is sealed only if it is as it was -/
theorem turn_sealed (m m' : List UInt8) (a : Int) (bits : Nat) (h : turnK (sealL m) a bits 32 = sealL m') : turnK (sealL m) a bits 32 = sealL m := by
  have hl := turnK_len (sealL m) a bits 32
  have hb := turnK_bit (sealL m) a bits 32 (Nat.le_refl _)
  have h1 := sum_seal m
  have h2 := sum_seal m'
  rw [← h, hl, ← h1] at h2
  generalize turnK (sealL m) a bits 32 = t at *
  generalize sealL m = s at *
  clear h h1
  refine bits_eq hl ?_
  have key := burst (s := t) (t := s) (min a.toNat (8 * s.length)) (min 32 (8 * s.length - min a.toNat (8 * s.length))) (8 * s.length) (by omega) (by omega) (fun i hi => ?_) h2
  · exact key
  · apply hb
    omega
end Go.Proofs.YtaepgceodcdnhaaDoor.Crc
/- Frames by the engine: crc.Turn. -/
namespace Go.Proofs.YtaepgceodcdnhaaDoor.Vm
open Go Go.RowKit
set_option maxRecDepth 100000
namespace X6
open Crc (turnK flip)
theorem xor8 (x y : UInt8) : T.v (.int .u8 (IntKind.wrap .u8 ((BitVec.ofInt 8 (x.toNat : Int) ^^^ BitVec.ofInt 8 (y.toNat : Int)).toNat : Int))) = u8 (x ^^^ y).toNat := by
  have e : (BitVec.ofInt 8 (x.toNat : Int) ^^^ BitVec.ofInt 8 (y.toNat : Int)).toNat = (x ^^^ y).toNat := by
    rw [BitVec.toNat_xor, BitVec.ofInt_natCast, BitVec.ofInt_natCast, BitVec.toNat_ofNat, BitVec.toNat_ofNat, Nat.mod_eq_of_lt x.toNat_lt, Nat.mod_eq_of_lt y.toNat_lt, UInt8.toNat_xor]
  have := (x ^^^ y).toNat_lt
  rw [e, IntKind.wrap_u8]
  exact congrArg u8 (by omega)
/-- the place of the byte that is turned -/
theorem turn_get (W : List UInt8) (m k : Nat) (h : k < W.length) : ((bL W ++ List.replicate m T.und).drop (0 + (k : Int).toNat * 1))[0]? = some (u8 (W[k]).toNat) := by
  rw [List.getElem?_drop, Int.toNat_natCast, show 0 + k * 1 + 0 = k by omega, List.getElem?_append_left (by rw [bL_len]; exact h), bL, List.getElem?_map, List.getElem?_eq_getElem h]; rfl
theorem turn_cells (W : List UInt8) (m k : Nat) (v : UInt8) (h : k < W.length) : (bL W ++ List.replicate m T.und).take (0 + (k : Int).toNat * 1) ++ List.map T.v #[Value.int .u8 (v.toNat : Int)].toList ++ (bL W ++ List.replicate m T.und).drop (0 + (k : Int).toNat * 1 + 1) = bL (W.set k v) ++ List.replicate m T.und := by
  rw [Int.toNat_natCast, show 0 + k * 1 = k by omega]
  have e1 : (bL W ++ List.replicate m T.und).set k (u8 v.toNat) = bL (W.set k v) ++ List.replicate m T.und := by
    rw [List.set_append_left _ _ (by rw [bL_len]; exact h)]
    congr 1
    unfold bL
    rw [List.map_set]; rfl
  rw [← e1, List.set_eq_take_append_cons_drop, if_pos (by rw [List.length_append, bL_len]; omega), List.append_assoc]
  rfl
theorem turn_fit (W : List UInt8) (m k : Nat) (h : k < W.length) : 0 + (k : Int).toNat * 1 + 1 ≤ (bL W ++ List.replicate m T.und).length := by
  rw [List.length_append, bL_len, Int.toNat_natCast]; omega
theorem shrK (bits k : Nat) (hk : k ≤ 32) : T.v (.int .u32 ((bits : Int).fdiv (2 ^ min ((k : Int).toNat) 32))) = u32 (bits / 2 ^ k : Nat) := by
  rw [Int.toNat_natCast, Nat.min_eq_left hk, Int.fdiv_eq_ediv_of_nonneg _ (Int.le_of_lt (Int.pow_pos (by decide)))]
  have e : (bits : Int) / 2 ^ k = ((bits / 2 ^ k : Nat) : Int) := by rw [Int.natCast_ediv]; norm_cast
  rw [e]; rfl
theorem andK {x : Nat} (hx : x < 4294967296) : T.v (.int .u32 (IntKind.wrap .u32 ((BitVec.ofInt 32 (x : Int) &&& BitVec.ofInt 32 1).toNat : Int))) = u32 (x % 2 : Nat) := congrArg u32 (Crc.and32 hx)
theorem shlQ (q : Nat) (hq : q < 8) : T.v (.int .u8 (IntKind.wrap .u8 (1 * 2 ^ min ((q : Int).toNat) 8))) = u8 (UInt8.ofNat (2 ^ q)).toNat := by
  rcases (by omega : q = 0 ∨ q = 1 ∨ q = 2 ∨ q = 3 ∨ q = 4 ∨ q = 5 ∨ q = 6 ∨ q = 7) with rfl | rfl | rfl | rfl | rfl | rfl | rfl | rfl <;> rfl
section
variable (Γ : Ctx) (g cap m : Nat) (s : List UInt8) (a : Int) (bits : Nat) (Q : T → Obs → Glb → Prop)
theorem turn_loop (hs : s.length ≤ 100000) (ha : -9223372036854775808 ≤ a ∧ a ≤ 9223372036854775807) (hb : bits < 4294967296) (hQ : ∀ x, x = str (turnK s a bits 32) → Q x [] none_) : ∀ (f k : Nat), k + f = 32 →
    TWk Tryd.prog Γ (fin Tryd.prog Tryd.f19 [] Q) [.code (sub (bd Tryd.f19) [1, 1, 0, 1, 0]), .blk 0, .code (sub (bd Tryd.f19) [1, 1, 1])] ⟨frame 51 [(1, int a), (2, u32 bits), (7, .sa 0 g 0 s.length cap), (11, int (k : Nat))], [(g, .cells (bL (turnK s a bits k) ++ List.replicate m T.und))], none_⟩ := by
  intro f
  induction f with
  | zero =>
    intro k hk
    obtain rfl : k = 32 := by omega
    have hl := Crc.turnK_len s a bits 32
    generalize turnK s a bits 32 = t at *
    have ht : ((bL t ++ List.replicate m T.und).drop 0).take s.length = bL t := by
      rw [List.drop_zero, List.take_append_of_le_length (by rw [bL_len]; omega), List.take_of_length_le (by rw [bL_len]; omega)]
    refine run_sound (⟨fun | 8, 1 => .res (str t) | _, _ => .no, [((0, 4), ([1, 2, 7, 11], 1))], fun | 6 => some ⟨[], [14], .take true [0,1,2,3,4,5,6,7,8,9,10,11,12,13] (.one 14 .done)⟩ | _ => none⟩) 400 (B := g = g ∧ 0 + List.length s ≤ List.length (List.map (fun c => u8 (UInt8.toNat c)) t ++ List.replicate m T.und) ∧ List.take (List.length s) (List.drop 0 (List.map (fun c => u8 (UInt8.toNat c)) t ++ List.replicate m T.und)) = List.map (fun c => u8 (UInt8.toNat c)) (Array.toList (ByteArray.data (ByteArray.mk (List.toArray t)))) ∧ Q (str t) [] fun x => none) (by kernel_rfl) ?_
    repeat' (first | exact rfl | exact Nat.le_of_ble_eq_true rfl | refine And.intro ?_ ?_ | intro _ | refine bsplit_mk (fun _ => ?_) (fun _ => ?_))
    all_goals first
      | exact hQ _ rfl
      | exact ht
      | (show 0 + s.length ≤ (bL t ++ List.replicate m T.und).length; rw [List.length_append, bL_len]; omega)
      | (exfalso; rename_i h; simp at h; done)
      | trace_state
  | succ f ih =>
    intro k hk
    have nx := ih (k + 1) (by omega)
    have hl := Crc.turnK_len s a bits k
    have hsh := shrK bits k (by omega)
    have hbk := Nat.div_le_self bits (2 ^ k)
    have han := andK (x := bits / 2 ^ k) (by omega)
    have hng : T.v (.int .i64 (IntKind.wrap .i64 (0 - (k : Int)))) = int (-(k : Int)) := congrArg int (by rw [wrap_i64 (by omega) (by omega)]; omega)
    have hmu : T.v (.int .i64 (IntKind.wrap .i64 (8 * (s.length : Int)))) = int (8 * (s.length : Int)) := congrArg int (wrap_i64 (by omega) (by omega))
    have hsu : T.v (.int .i64 (IntKind.wrap .i64 (8 * (s.length : Int) - (k : Int)))) = int (8 * (s.length : Int) - (k : Int)) := congrArg int (wrap_i64 (by omega) (by omega))
    have hk1 : T.v (.int .i64 (IntKind.wrap .i64 ((k : Int) + 1))) = int (k + 1 : Nat) := congrArg int (by rw [wrap_i64 (by omega) (by omega)]; omega)
    by_cases hc : bits / 2 ^ k % 2 = 0 ∨ a < -(k : Int) ∨ 8 * (s.length : Int) - k ≤ a
    · unfold Crc.turnK at nx
      rw [if_pos hc] at nx
      clear ih hQ
      generalize turnK s a bits k = t at *
      generalize bits / 2 ^ k = y at *
      refine run_sound (⟨fun | 5, 2 => .res (u32 (y : Nat)) | 5, 3 => .res (u32 (y % 2 : Nat)) | 5, 8 => .res (int (-(k : Int))) | 5, 15 => .res (int (8 * (s.length : Int))) | 5, 17 => .res (int (8 * (s.length : Int) - (k : Int))) | 7, 0 => .res (int (k + 1 : Nat)) | _, _ => .no, [((2, 3), ([1, 2, 7, 11], 1)), ((0, 6), ([1, 2, 7, 8, 11], 1)), ((0, 8), ([7], 1))], fun | 6 => some ⟨[0], [14], .take true [0,1,2,3,4,5,6,7,8,9,10,11,12,13] (.one 14 .done)⟩ | _ => none⟩) 400 (B := bsplit (decide ((↑k : Int) < (32 : Int))) (¬(↑k : Int) < (0 : Int) ∧ u32 (Int.fdiv (↑bits : Int) ((2 : Int) ^ min (Int.toNat (↑k : Int)) 32)) = u32 y ∧ u32 (IntKind.wrap IntKind.u32 (↑(BitVec.toNat (BitVec.ofInt 32 (↑y : Int) &&& BitVec.ofInt 32 (1 : Int))) : Int)) = u32 (y % 2) ∧ bsplit ((↑(y % 2) : Int) == (0 : Int)) (int (IntKind.wrap IntKind.i64 ((↑k : Int) + (1 : Int))) = int (k + 1) ∧ TWk Tryd.prog Γ (fin Tryd.prog Tryd.f19 [] Q) [It.code (sub (bd Tryd.f19) [1, 1, 0, 1, 0]), It.blk 0, It.code (sub (bd Tryd.f19) [1, 1, 1])] { fr := frame 51 [(1, int a), (2, u32 bits), (7, T.sa 0 g 0 (List.length s) cap), (11, int (k + 1))], ob := [(g, Ob.cells (List.map (fun c => u8 (UInt8.toNat c)) t ++ List.replicate m T.und))], gl := fun x => none }) (int (IntKind.wrap IntKind.i64 ((0 : Int) - (↑k : Int))) = int (-(↑k : Int)) ∧ bsplit (decide (a < -(↑k : Int))) (int (IntKind.wrap IntKind.i64 ((↑k : Int) + (1 : Int))) = int (k + 1) ∧ TWk Tryd.prog Γ (fin Tryd.prog Tryd.f19 [] Q) [It.code (sub (bd Tryd.f19) [1, 1, 0, 1, 0]), It.blk 0, It.code (sub (bd Tryd.f19) [1, 1, 1])] { fr := frame 51 [(1, int a), (2, u32 bits), (7, T.sa 0 g 0 (List.length s) cap), (11, int (k + 1))], ob := [(g, Ob.cells (List.map (fun c => u8 (UInt8.toNat c)) t ++ List.replicate m T.und))], gl := fun x => none }) (int (IntKind.wrap IntKind.i64 ((8 : Int) * (↑(List.length s) : Int))) = int ((8 : Int) * (↑(List.length s) : Int)) ∧ int (IntKind.wrap IntKind.i64 ((8 : Int) * (↑(List.length s) : Int) - (↑k : Int))) = int ((8 : Int) * (↑(List.length s) : Int) - (↑k : Int)) ∧ bsplit (decide (a ≥ (8 : Int) * (↑(List.length s) : Int) - (↑k : Int))) (int (IntKind.wrap IntKind.i64 ((↑k : Int) + (1 : Int))) = int (k + 1) ∧ TWk Tryd.prog Γ (fin Tryd.prog Tryd.f19 [] Q) [It.code (sub (bd Tryd.f19) [1, 1, 0, 1, 0]), It.blk 0, It.code (sub (bd Tryd.f19) [1, 1, 1])] { fr := frame 51 [(1, int a), (2, u32 bits), (7, T.sa 0 g 0 (List.length s) cap), (11, int (k + 1))], ob := [(g, Ob.cells (List.map (fun c => u8 (UInt8.toNat c)) t ++ List.replicate m T.und))], gl := fun x => none }) (TWk Tryd.prog Γ (fin Tryd.prog Tryd.f19 [] Q) [It.code (sub (bd Tryd.f19) [1, 1, 0, 1, 0, 0, 1, 1, 0, 0, 1, 1]), It.blk 1, It.code (sub (bd Tryd.f19) [1, 1, 0, 1, 0, 0, 1, 1, 1]), It.code (sub (bd Tryd.f19) [1, 1, 0, 1, 0]), It.blk 0, It.code (sub (bd Tryd.f19) [1, 1, 1])] { fr := frame 51 [(1, int a), (2, u32 bits), (7, T.sa 0 g 0 (List.length s) cap), (8, int k), (11, int k)], ob := [(g, Ob.cells (List.map (fun c => u8 (UInt8.toNat c)) t ++ List.replicate m T.und))], gl := fun x => none })))) (TWk Tryd.prog Γ (fin Tryd.prog Tryd.f19 [] Q) [It.code (sub (bd Tryd.f19) [1, 1, 1])] { fr := frame 51 [(7, T.sa 0 g 0 (List.length s) cap)], ob := [(g, Ob.cells (List.map (fun c => u8 (UInt8.toNat c)) t ++ List.replicate m T.und))], gl := fun x => none })) (by kernel_rfl) ?_
      repeat' (first | exact rfl | exact Nat.le_of_ble_eq_true rfl | refine And.intro ?_ ?_ | intro _ | refine bsplit_mk (fun _ => ?_) (fun _ => ?_))
      all_goals first
        | exact hsh
        | exact han
        | exact hng
        | exact hmu
        | exact hsu
        | exact hk1
        | exact nx
        | (exfalso; simp only [decide_eq_true_eq, decide_eq_false_iff_not, beq_iff_eq, beq_eq_false_iff_ne] at *; omega)
        | omega
        | (clear nx; trace_state)
    · obtain ⟨p, hp⟩ : ∃ p : Nat, a + k = p := ⟨(a + k).toNat, by omega⟩
      have hq : p / 8 < (turnK s a bits k).length := by omega
      unfold Crc.turnK at nx
      rw [if_neg hc, hp, Int.toNat_natCast] at nx
      have had : T.v (.int .i64 (IntKind.wrap .i64 (a + (k : Int)))) = int (p : Nat) := congrArg int (by rw [hp, wrap_i64 (by omega) (by omega)])
      have hqu : T.v (.int .i64 (IntKind.wrap .i64 ((p : Int).tdiv 8))) = int (p / 8 : Nat) := congrArg int (by rw [Int.tdiv_eq_ediv_of_nonneg (by omega), wrap_i64 (by omega) (by omega)]; omega)
      have hre : T.v (.int .i64 ((p : Int).tmod 8)) = int (p % 8 : Nat) := congrArg int (by rw [Int.tmod_eq_emod_of_nonneg (by omega)]; omega)
      have hsl := shlQ (p % 8) (by omega)
      clear ih hQ
      generalize turnK s a bits k = t at *
      have hget : t.getD (p / 8) 0 = t[p / 8] := by rw [List.getD_eq_getElem?_getD, List.getElem?_eq_getElem hq]; rfl
      unfold Crc.flip at nx
      rw [hget] at nx
      have hxo := xor8 (t[p / 8]) (UInt8.ofNat (2 ^ (p % 8)))
      have hge := turn_get t m (p / 8) hq
      have hce := turn_cells t m (p / 8) (t[p / 8] ^^^ UInt8.ofNat (2 ^ (p % 8))) hq
      have hfi := turn_fit t m (p / 8) hq
      rw [← hce] at nx
      generalize bits / 2 ^ k = y at *
      generalize (t[p / 8] ^^^ UInt8.ofNat (2 ^ (p % 8))) = v at *
      generalize UInt8.ofNat (2 ^ (p % 8)) = w at *
      generalize p % 8 = q at *
      generalize t[p / 8] = c at *
      generalize p / 8 = i at *
      refine run_sound (⟨fun | 5, 2 => .res (u32 (y : Nat)) | 5, 3 => .res (u32 (y % 2 : Nat)) | 5, 8 => .res (int (-(k : Int))) | 5, 15 => .res (int (8 * (s.length : Int))) | 5, 17 => .res (int (8 * (s.length : Int) - (k : Int))) | 6, 3 => .res (int (p : Nat)) | 6, 4 => .res (int (i : Nat)) | 6, 6 => .res (u8 c.toNat) | 6, 9 => .res (int (p : Nat)) | 6, 10 => .res (int (q : Nat)) | 6, 11 => .res (u8 w.toNat) | 6, 12 => .res (u8 v.toNat) | 7, 0 => .res (int (k + 1 : Nat)) | _, _ => .no, [((2, 3), ([1, 2, 7, 11], 1)), ((0, 8), ([7], 1))], fun | 6 => some ⟨[0], [14], .take true [0,1,2,3,4,5,6,7,8,9,10,11,12,13] (.one 14 .done)⟩ | _ => none⟩) 400 (B := bsplit (decide ((↑k : Int) < (32 : Int))) (¬(↑k : Int) < (0 : Int) ∧ u32 (Int.fdiv (↑bits : Int) ((2 : Int) ^ min (Int.toNat (↑k : Int)) 32)) = u32 y ∧ u32 (IntKind.wrap IntKind.u32 (↑(BitVec.toNat (BitVec.ofInt 32 (↑y : Int) &&& BitVec.ofInt 32 (1 : Int))) : Int)) = u32 (y % 2) ∧ bsplit ((↑(y % 2) : Int) == (0 : Int)) (int (IntKind.wrap IntKind.i64 ((↑k : Int) + (1 : Int))) = int (k + 1) ∧ TWk Tryd.prog Γ (fin Tryd.prog Tryd.f19 [] Q) [It.code (sub (bd Tryd.f19) [1, 1, 0, 1, 0]), It.blk 0, It.code (sub (bd Tryd.f19) [1, 1, 1])] { fr := frame 51 [(1, int a), (2, u32 bits), (7, T.sa 0 g 0 (List.length s) cap), (11, int (k + 1))], ob := [(g, Ob.cells (List.map (fun c => u8 (UInt8.toNat c)) t ++ List.replicate m T.und))], gl := fun x => none }) (int (IntKind.wrap IntKind.i64 ((0 : Int) - (↑k : Int))) = int (-(↑k : Int)) ∧ bsplit (decide (a < -(↑k : Int))) (int (IntKind.wrap IntKind.i64 ((↑k : Int) + (1 : Int))) = int (k + 1) ∧ TWk Tryd.prog Γ (fin Tryd.prog Tryd.f19 [] Q) [It.code (sub (bd Tryd.f19) [1, 1, 0, 1, 0]), It.blk 0, It.code (sub (bd Tryd.f19) [1, 1, 1])] { fr := frame 51 [(1, int a), (2, u32 bits), (7, T.sa 0 g 0 (List.length s) cap), (11, int (k + 1))], ob := [(g, Ob.cells (List.map (fun c => u8 (UInt8.toNat c)) t ++ List.replicate m T.und))], gl := fun x => none }) (int (IntKind.wrap IntKind.i64 ((8 : Int) * (↑(List.length s) : Int))) = int ((8 : Int) * (↑(List.length s) : Int)) ∧ int (IntKind.wrap IntKind.i64 ((8 : Int) * (↑(List.length s) : Int) - (↑k : Int))) = int ((8 : Int) * (↑(List.length s) : Int) - (↑k : Int)) ∧ bsplit (decide (a ≥ (8 : Int) * (↑(List.length s) : Int) - (↑k : Int))) (int (IntKind.wrap IntKind.i64 ((↑k : Int) + (1 : Int))) = int (k + 1) ∧ TWk Tryd.prog Γ (fin Tryd.prog Tryd.f19 [] Q) [It.code (sub (bd Tryd.f19) [1, 1, 0, 1, 0]), It.blk 0, It.code (sub (bd Tryd.f19) [1, 1, 1])] { fr := frame 51 [(1, int a), (2, u32 bits), (7, T.sa 0 g 0 (List.length s) cap), (11, int (k + 1))], ob := [(g, Ob.cells (List.map (fun c => u8 (UInt8.toNat c)) t ++ List.replicate m T.und))], gl := fun x => none }) (int (IntKind.wrap IntKind.i64 (a + (↑k : Int))) = int p ∧ int (IntKind.wrap IntKind.i64 (Int.tdiv (↑p : Int) (8 : Int))) = int i ∧ ((0 : Int) ≤ (↑i : Int) ∧ (↑i : Int) < (↑(List.length s) : Int)) ∧ g = g ∧ (List.drop (0 + Int.toNat (↑i : Int) * nat_lit 1) (List.map (fun c => u8 (UInt8.toNat c)) t ++ List.replicate m T.und))[0]? = some (u8 (UInt8.toNat c)) ∧ int (IntKind.wrap IntKind.i64 (a + (↑k : Int))) = int p ∧ int (Int.tmod (↑p : Int) (8 : Int)) = int q ∧ ¬(↑q : Int) < (0 : Int) ∧ u8 (IntKind.wrap IntKind.u8 ((1 : Int) * (2 : Int) ^ min (Int.toNat (↑q : Int)) 8)) = u8 (UInt8.toNat w) ∧ u8 (IntKind.wrap IntKind.u8 (↑(BitVec.toNat (BitVec.ofInt 8 (↑(UInt8.toNat c) : Int) ^^^ BitVec.ofInt 8 (↑(UInt8.toNat w) : Int))) : Int)) = u8 (UInt8.toNat v) ∧ ((0 : Int) ≤ (↑i : Int) ∧ (↑i : Int) < (↑(List.length s) : Int)) ∧ (1 = nat_lit 1 ∧ List.all (List.map T.v (Array.toList #[Value.int IntKind.u8 (↑(UInt8.toNat v) : Int)])) T.one = true) ∧ g = g ∧ 0 + Int.toNat (↑i : Int) * nat_lit 1 + nat_lit 1 ≤ List.length (List.map (fun c => u8 (UInt8.toNat c)) t ++ List.replicate m T.und) ∧ int (IntKind.wrap IntKind.i64 ((↑k : Int) + (1 : Int))) = int (k + 1) ∧ TWk Tryd.prog Γ (fin Tryd.prog Tryd.f19 [] Q) [It.code (sub (bd Tryd.f19) [1, 1, 0, 1, 0]), It.blk 0, It.code (sub (bd Tryd.f19) [1, 1, 1])] { fr := frame 51 [(1, int a), (2, u32 bits), (7, T.sa 0 g 0 (List.length s) cap), (11, int (k + 1))], ob := [(g, Ob.cells (List.take (0 + Int.toNat (↑i : Int) * nat_lit 1) (List.map (fun c => u8 (UInt8.toNat c)) t ++ List.replicate m T.und) ++ List.map T.v (Array.toList #[Value.int IntKind.u8 (↑(UInt8.toNat v) : Int)]) ++ List.drop (0 + Int.toNat (↑i : Int) * nat_lit 1 + 1) (List.map (fun c => u8 (UInt8.toNat c)) t ++ List.replicate m T.und)))], gl := fun x => none })))) (TWk Tryd.prog Γ (fin Tryd.prog Tryd.f19 [] Q) [It.code (sub (bd Tryd.f19) [1, 1, 1])] { fr := frame 51 [(7, T.sa 0 g 0 (List.length s) cap)], ob := [(g, Ob.cells (List.map (fun c => u8 (UInt8.toNat c)) t ++ List.replicate m T.und))], gl := fun x => none })) (by kernel_rfl) ?_
      repeat' (first | exact rfl | exact Nat.le_of_ble_eq_true rfl | refine And.intro ?_ ?_ | intro _ | refine bsplit_mk (fun _ => ?_) (fun _ => ?_))
      all_goals first
        | exact hsh
        | exact han
        | exact hng
        | exact hmu
        | exact hsu
        | exact hk1
        | exact had
        | exact hqu
        | exact hre
        | exact hsl
        | exact hxo
        | exact hge
        | exact hfi
        | exact nx
        | (exfalso; simp only [decide_eq_true_eq, decide_eq_false_iff_not, beq_iff_eq, beq_eq_false_iff_ne] at *; omega)
        | omega
        | (clear nx; trace_state)
end
theorem turn_any (s : List UInt8) (hs : s.length ≤ 100000) (a : Int) (ha : -9223372036854775808 ≤ a ∧ a ≤ 9223372036854775807) (bits : Nat) (hb : bits < 4294967296) : TCalls Tryd.prog 19 [str s, int a, u32 bits] [] none_ (callPost (told (str (turnK s a bits 32)) [] [])) := by
  have hQ : ∀ x, x = str (turnK s a bits 32) → callPost (told (str (turnK s a bits 32)) [] []) x [] none_ := fun x h => told_post h
  generalize callPost (told (str (turnK s a bits 32)) [] []) = Q at *
  have lp := fun Γ g cap m => turn_loop Γ g cap m s a bits Q hs ha hb hQ 32 0 rfl
  have hsz : (⟨s.toArray⟩ : ByteArray).size = s.length := by show s.toArray.size = _; simp
  clear hQ
  rw [← hsz] at lp
  have lp : ∀ (Γ : Ctx) (g cap m : Nat), TWk Tryd.prog Γ (fin Tryd.prog Tryd.f19 [] Q) [.code (sub (bd Tryd.f19) [1, 1, 0, 1, 0]), .blk 0, .code (sub (bd Tryd.f19) [1, 1, 1])] ⟨frame 51 [(1, int a), (2, u32 bits), (7, .sa 0 g 0 (⟨s.toArray⟩ : ByteArray).size cap), (11, int 0)], [(g, .cells (bL s ++ List.replicate m T.und))], none_⟩ := lp
  refine TCalls.of Tryd.func19 rfl (CanCall.of Tryd.func19 rfl (by decide)) [] fun Γ => ?_
  refine run_sound (⟨fun | 1, 1 => .glob | _, _ => .no, [((2, 3), ([1, 2, 7, 11], 1))], fun | 6 => some ⟨[], [14], .take true [0,1,2,3,4,5,6,7,8,9,10,11,12,13] (.one 14 .done)⟩ | _ => none⟩) 400 (B := ByteArray.size (ByteArray.mk (List.toArray s)) ≤ 140737488355328 ∧ ∀ (g cap : Nat), ByteArray.size (ByteArray.mk (List.toArray s)) ≤ cap → cap ≤ 9223372036854775807 → TWk Tryd.prog Γ (fin Tryd.prog Tryd.f19 [] Q) [It.code (sub (bd Tryd.f19) [1, 1, 0, 1, 0]), It.blk 0, It.code (sub (bd Tryd.f19) [1, 1, 1])] { fr := frame 51 [(1, int a), (2, u32 bits), (7, T.sa 0 g 0 (ByteArray.size (ByteArray.mk (List.toArray s))) cap), (11, int 0)], ob := [(g, Ob.cells (List.map (fun c => u8 (UInt8.toNat c)) (Array.toList (ByteArray.data (ByteArray.mk (List.toArray s)))) ++ List.replicate ((cap - ByteArray.size (ByteArray.mk (List.toArray s))) * 1) T.und))], gl := fun x => none }) (by kernel_rfl) ?_
  repeat' (first | exact rfl | exact Nat.le_of_ble_eq_true rfl | refine And.intro ?_ ?_ | intro _ | refine bsplit_mk (fun _ => ?_) (fun _ => ?_))
  all_goals first
    | exact lp Γ _ _ _
    | (rw [hsz]; omega)
    | trace_state
end X6
end Go.Proofs.YtaepgceodcdnhaaDoor.Vm
/- Frames: plain, bounds. No program is named here. -/
namespace Go.Proofs.YtaepgceodcdnhaaDoor.Frm
/-- a frame whose numbers lie within their sizes; its text and its lists may be of any length -/
structure FmIn (f : Fm) : Prop where
  kind : f.kind < 256
  frm : f.frm < 256
  to : f.to < 256
  ep : f.ep < 4294967296
  key : f.key < 256
  sn : f.sn < 4294967296
  sb : f.sb < 256
  sl : f.sl < 256
  dir : f.dir < 256
  life : f.life < 256
  req : f.req < 4294967296
  bn : f.bn < 4294967296
  bb : f.bb < 256
  slot : f.slot < 4294967296
  c : f.c.Ok
  ve : f.ve < 4294967296
  mo : ∀ m ∈ f.ms, m.Ok
  lv : f.lv.Ok
  eo : ∀ x ∈ f.es, x.Ok
def cut40 (f : Fm) : Fm := { f with x := f.x.take 40, ms := f.ms.take 10, es := f.es.take 18 }
theorem FmIn.cut {f : Fm} (h : FmIn f) : (cut40 f).Ok where
  kind := h.kind
  frm := h.frm
  to := h.to
  ep := h.ep
  key := h.key
  sn := h.sn
  sb := h.sb
  sl := h.sl
  x := by show (f.x.take 40).length ≤ _; rw [List.length_take]; omega
  dir := h.dir
  life := h.life
  req := h.req
  bn := h.bn
  bb := h.bb
  slot := h.slot
  c := h.c
  ve := h.ve
  ms := by show (f.ms.take 10).length ≤ _; rw [List.length_take]; omega
  mo := fun m hm => h.mo m (List.mem_of_mem_take hm)
  lv := h.lv
  es := by show (f.es.take 18).length ≤ _; rw [List.length_take]; omega
  eo := fun m hm => h.eo m (List.mem_of_mem_take hm)
theorem cntN_le (most : Nat) (s : RS) (h : s.e = 0 ∨ s.e = 2) : cntN most s ≤ most := by
  unfold cntN
  split
  · exact Nat.zero_le _
  · rename_i hw
    by_cases g : rnum 1 s ≤ most
    · exact g
    · exfalso
      apply hw
      have he := takeL_err (l := s.l) (e := s.e) (f := 0) (n := (1 : Nat)) (by omega) h
      unfold wrong cntS must
      rw [decide_eq_false g]
      by_cases e2 : (rgo 1 s).e = 2
      · rw [if_neg (fun k => k.2 e2), e2]; simp
      · rw [if_pos ⟨rfl, e2⟩]; rfl
structure Sml (f : Fm) : Prop where
  ms : f.ms.length ≤ 8
  es : f.es.length ≤ 16
theorem fldR_sml {f : Fm} (h : Sml f) (c : Nat) {s : RS} (hs : s.Ok) : Sml (fldR c s f).1 := by
  unfold fldR
  by_cases e : c = 101
  · rw [if_pos e]; exact ⟨h.ms, h.es⟩
  rw [if_neg e]; clear e
  by_cases e : c = 107
  · rw [if_pos e]; exact ⟨h.ms, h.es⟩
  rw [if_neg e]; clear e
  by_cases e : c = 115
  · rw [if_pos e]; exact ⟨h.ms, h.es⟩
  rw [if_neg e]; clear e
  by_cases e : c = 118
  · rw [if_pos e]; exact ⟨h.ms, h.es⟩
  rw [if_neg e]; clear e
  by_cases e : c = 114
  · rw [if_pos e]; exact ⟨h.ms, h.es⟩
  rw [if_neg e]; clear e
  by_cases e : c = 102
  · rw [if_pos e]; exact ⟨h.ms, h.es⟩
  rw [if_neg e]; clear e
  by_cases e : c = 100
  · rw [if_pos e]; exact ⟨h.ms, h.es⟩
  rw [if_neg e]; clear e
  by_cases e : c = 108
  · rw [if_pos e]; exact ⟨h.ms, h.es⟩
  rw [if_neg e]; clear e
  by_cases e : c = 113
  · rw [if_pos e]; exact ⟨h.ms, h.es⟩
  rw [if_neg e]; clear e
  by_cases e : c = 98
  · rw [if_pos e]; exact ⟨h.ms, h.es⟩
  rw [if_neg e]; clear e
  by_cases e : c = 110
  · rw [if_pos e]; exact ⟨h.ms, h.es⟩
  rw [if_neg e]; clear e
  by_cases e : c = 99
  · rw [if_pos e]; exact ⟨h.ms, h.es⟩
  rw [if_neg e]; clear e
  by_cases e : c = 119
  · rw [if_pos e]
    refine ⟨?_, h.es⟩
    show (viewR s).1.2.1.length ≤ 8
    have h1 : (viewR s).1.2.1 = (memsR (cntN 8 (rgo 4 s)) (cntS 8 (rgo 4 s))).1 := by
      unfold viewR; dsimp only; split <;> rfl
    rw [h1]
    exact Nat.le_trans (mems_len _ _) (cntN_le 8 _ (hs.go 4).e)
  rw [if_neg e]
  exact ⟨h.ms, Nat.le_trans (ents_len _ _) (cntN_le 16 _ hs.e)⟩
theorem fldsR_sml : ∀ (cs : List Nat) {f : Fm} {s : RS}, Sml f → s.Ok → Sml (fldsR cs s f).1
  | [], _, _, h, _ => h
  | c :: cs, f, s, h, hs => by
    unfold fldsR
    split
    · exact h
    · exact fldsR_sml cs (fldR_sml h c hs) (hs.fld c f)
theorem decR_sml (l : List UInt8) (hl : l.length ≤ 1000000000) : Sml (decR l).1 := by
  have z : Sml fm0 := ⟨Nat.zero_le _, Nat.zero_le _⟩
  have hb : (l.take (l.length - 4)).length ≤ 1000000000 := by rw [List.length_take]; omega
  unfold decR
  split
  · exact z
  · unfold decB
    split
    · exact z
    · split
      · exact z
      · have h0 : (RS.mk (l.take (l.length - 4)) 0 false).Ok := ⟨hb, .inl rfl⟩
        exact fldsR_sml _ (f := hdF (l.take (l.length - 4))) ⟨Nat.zero_le _, Nat.zero_le _⟩ ((((h0.go 1).go 1).go 1).must _)
end Go.Proofs.YtaepgceodcdnhaaDoor.Frm
/- Frames: plain, how long a frame is, and that a spoilt one is none. No program is named here. -/
namespace Go.Proofs.YtaepgceodcdnhaaDoor.Frm
open Oct (be length_be)
def bnd (c : Nat) : Nat := if c = 116 then 321 else 40
theorem bnd_sum (k : Nat) : ((lets k).map bnd).sum ≤ 500 := by
  unfold lets
  rcases Nat.lt_or_ge k 17 with h | h
  · have : k = 0 ∨ k = 1 ∨ k = 2 ∨ k = 3 ∨ k = 4 ∨ k = 5 ∨ k = 6 ∨ k = 7 ∨ k = 8 ∨ k = 9 ∨ k = 10 ∨ k = 11 ∨ k = 12 ∨ k = 13 ∨ k = 14 ∨ k = 15 ∨ k = 16 := by omega
    rcases this with rfl | rfl | rfl | rfl | rfl | rfl | rfl | rfl | rfl | rfl | rfl | rfl | rfl | rfl | rfl | rfl | rfl <;> decide
  · rw [List.getD_eq_getElem?_getD, List.getElem?_eq_none (by simpa [fields] using h)]; decide
theorem flatL {α : Type} (F : α → List UInt8) (k : Nat) (h : ∀ a, (F a).length = k) : ∀ l : List α, (l.flatMap F).length = k * l.length
  | [] => rfl
  | a :: l => by rw [List.flatMap_cons, List.length_append, h, flatL F k h l, List.length_cons, Nat.mul_succ]; omega
theorem cmdL (c : Cmd) : c.bs.length = 11 := by unfold Cmd.bs; simp [length_be]
theorem memL (m : Mem) : m.bs.length = 3 := by unfold Mem.bs; simp [length_be]
theorem entL (m : Ent) : m.bs.length = 20 := by unfold Ent.bs; simp [length_be, cmdL]
theorem fb_bnd (f : Fm) (c : Nat) (hl : isLet c = true) (hm : f.may c = true) : (f.fb c).length ≤ bnd c := by
  unfold isLet at hl
  simp at hl
  rcases hl with rfl | rfl | rfl | rfl | rfl | rfl | rfl | rfl | rfl | rfl | rfl | rfl | rfl | rfl
  · show (be 4 f.ep).length ≤ 40; rw [length_be]; decide
  · show (be 1 f.key).length ≤ 40; rw [length_be]; decide
  · show (be 4 f.sn ++ (be 1 f.sb ++ be 1 f.sl)).length ≤ 40; simp [length_be]
  · have hm : valOk f.has f.x = true := hm
    unfold valOk at hm
    have : f.x.length ≤ 32 := by simp at hm; exact hm.1
    show (be 1 (one f.has) ++ (UInt8.ofNat f.x.length :: f.x)).length ≤ 40
    rw [List.length_append, length_be, List.length_cons]; omega
  · show (be 1 (one f.rmw)).length ≤ 40; rw [length_be]; decide
  · show (be 1 (one f.flag)).length ≤ 40; rw [length_be]; decide
  · show (be 1 f.dir).length ≤ 40; rw [length_be]; decide
  · show (be 1 f.life).length ≤ 40; rw [length_be]; decide
  · show (be 4 f.req).length ≤ 40; rw [length_be]; decide
  · show (be 4 f.bn ++ be 1 f.bb).length ≤ 40; simp [length_be]
  · show (be 4 f.slot).length ≤ 40; rw [length_be]; decide
  · show f.c.bs.length ≤ 40; rw [cmdL]; decide
  · have hk : f.ms.length ≤ 8 := of_decide_eq_true hm
    show (be 4 f.ve ++ (be 1 f.ms.length ++ (f.ms.flatMap Mem.bs ++ f.lv.bs))).length ≤ 40
    rw [List.length_append, List.length_append, List.length_append, length_be, length_be, flatL Mem.bs 3 memL, show f.lv.bs.length = 8 from rfl]; omega
  · have hk : f.es.length ≤ 16 := of_decide_eq_true hm
    show (be 1 f.es.length ++ f.es.flatMap Ent.bs).length ≤ 321
    rw [List.length_append, length_be, flatL Ent.bs 20 entL]; omega
theorem flat_bnd (f : Fm) : ∀ (l : List Nat), (∀ c ∈ l, isLet c = true) → (∀ c ∈ l, f.may c = true) → (l.flatMap f.fb).length ≤ (l.map bnd).sum
  | [], _, _ => Nat.le_refl _
  | c :: l, h1, h2 => by
    rw [List.flatMap_cons, List.length_append, List.map_cons, List.sum_cons]
    have := fb_bnd f c (h1 c (by simp)) (h2 c (by simp))
    have := flat_bnd f l (fun x hx => h1 x (by simp [hx])) (fun x hx => h2 x (by simp [hx]))
    omega
/-- no frame has more than 1024 bytes -/
theorem sealed_len {f : Fm} (hg : f.good = true) : 7 ≤ (Crc.sealL f.bytes).length ∧ (Crc.sealL f.bytes).length ≤ 1024 := by
  unfold Fm.good at hg
  rw [Bool.and_eq_true, List.all_eq_true] at hg
  have h1 := flat_bnd f (lets f.kind) (lets_ok f.kind) hg.2
  have h2 := bnd_sum f.kind
  have hhb : f.hb.length = 3 := by unfold Fm.hb; simp [length_be]
  rw [Crc.sealL_len]
  unfold Fm.bytes
  rw [List.length_append, hhb]
  omega
/-- a frame that was spoilt within 32 bits is none -/
theorem dec_spoilt {f : Fm} (hg : f.good = true) (a : Int) (bits : Nat) (h : Crc.turnK (Crc.sealL f.bytes) a bits 32 ≠ Crc.sealL f.bytes) : decR (Crc.turnK (Crc.sealL f.bytes) a bits 32) = (fm0, 5) := by
  have hl := Crc.turnK_len (Crc.sealL f.bytes) a bits 32
  have hs := sealed_len hg
  have ho : openE (Crc.turnK (Crc.sealL f.bytes) a bits 32) = 5 := by
    unfold openE
    rw [if_neg (by omega), if_pos (fun e => h (Crc.turn_sealed _ _ _ _ e.symm))]
  unfold decR
  rw [ho, if_pos (by decide)]
end Go.Proofs.YtaepgceodcdnhaaDoor.Frm
/- Frames by the engine: FrameSpoilt. -/
namespace Go.Proofs.YtaepgceodcdnhaaDoor.Vm
open Go Go.RowKit
set_option maxRecDepth 100000
namespace X6
open Frm (Cmd Mem Ent Lvs Fm FmIn cut40 restr decR fm0)
open Crc (turnK)
theorem zC_is : zC = frS fm0 (.v nilS) (.v nilS) := rfl
theorem frC_is : frC fm0 = frS fm0 (.sl 3 []) (.sl 8 []) := rfl
theorem rel_zCs {M : Pm} {v : Value} (r : Rel M (.agg zC) v) : Rel M (.agg (frC fm0)) v := by
  rw [zC_is] at r
  rw [frC_is]
  have r1 := rel_agg_set (cs := frS fm0 (.v nilS) (.v nilS)) (j := 24) (t := .v nilS) (t' := .sl 3 []) rfl (fun v r => rel_nil0 r) r
  exact rel_agg_set (cs := frS fm0 (.sl 3 []) (.v nilS)) (j := 33) (t := .v nilS) (t' := .sl 8 []) rfl (fun v r => rel_nil0 r) r1
theorem fsame_00 : TCalls Tryd.prog 15 [.agg zC, .agg zC] [] none_ (callPost (told (bool true) [] [])) := by
  have h := fsame_any fm0 fm0 (Nat.zero_le _) (Nat.zero_le _)
  rw [decide_eq_true rfl] at h
  have h1 : TCalls Tryd.prog 15 [.agg (frC fm0), .agg zC] [] none_ (callPost (told (bool true) [] [])) := h.pre (Imp.slotR (ts := [.agg (frC fm0), .agg zC]) (j := 1) (t' := .agg (frC fm0)) rfl (fun M v r => rel_zCs r))
  exact h1.pre (Imp.slotR (ts := [.agg zC, .agg zC]) (j := 0) (t' := .agg (frC fm0)) rfl (fun M v r => rel_zCs r))
theorem spoilt_tail (Γ : Ctx) (b1 : Nat) (y : Fm) (a : Int) (bits : Nat) (ha : -9223372036854775808 ≤ a ∧ a ≤ 9223372036854775807) (hb : bits < 4294967296) (hf : (cutF y).Ok) (Q : T → Obs → Glb → Prop) (hQ : Q (bool true) obsF none_) :
    TWk Tryd.prog Γ (fin Tryd.prog Tryd.f6 [0] Q) [.code (sub (bd Tryd.f6) [1, 1, 1])] ⟨frame 73 [(1, int a), (2, u32 bits), (3, .ptr 1 b1 0)], [(0, .fix fixF), (b1, .cells (frC y))], none_⟩ := by
  have t1 := told_any y
  have c1 := enc_any (cutF y) hf
  by_cases hg : (cutF y).good = true
  · have he : (cutF y).enc = (Crc.sealL (cutF y).bytes, 0) := by unfold Frm.Fm.enc; rw [if_pos hg]
    have hlen := Frm.sealed_len hg
    have hsz : (⟨(Crc.sealL (cutF y).bytes).toArray⟩ : ByteArray).size = (Crc.sealL (cutF y).bytes).length := by show (Crc.sealL (cutF y).bytes).toArray.size = _; simp
    have c2 := turn_any (Crc.sealL (cutF y).bytes) (by omega) a ha bits hb
    have hd := Frm.dec_enc hf hg
    have hs := Frm.dec_spoilt hg a bits
    have hl := Crc.turnK_len (Crc.sealL (cutF y).bytes) a bits 32
    have c3 := dec_post (turnK (Crc.sealL (cutF y).bytes) a bits 32) (by omega)
    unfold encT at c1
    rw [he] at c1
    by_cases hT : turnK (Crc.sealL (cutF y).bytes) a bits 32 = Crc.sealL (cutF y).bytes
    · rw [hT, hd] at c3
      rw [hT] at c2
      have hdT : decT (restr (cutF y), 0) = .tup [.agg (frC (restr (cutF y))), int 0] := rfl
      rw [hdT] at c3
      clear hs hl hT hd hdT he hg hf
      generalize restr (cutF y) = g at *
      generalize Crc.sealL (cutF y).bytes = S at *
      generalize cutF y = f at *
      have hss : decide ((⟨S.toArray⟩ : ByteArray) = ⟨S.toArray⟩) = true := decide_eq_true rfl
      have hle : decide ((((⟨S.toArray⟩ : ByteArray).size : Nat) : Int) ≤ 1024) = true := decide_eq_true (by rw [hsz]; omega)
      unfold obsF at *
      generalize fixF = F at *
      unfold frC at *
      generalize Row.aggs memC y.ms = M1 at *
      generalize Row.aggs entC y.es = E1 at *
      generalize Row.aggs memC f.ms = M2 at *
      generalize Row.aggs entC f.es = E2 at *
      generalize Row.aggs memC g.ms = M3 at *
      generalize Row.aggs entC g.es = E3 at *
      refine run_sound (⟨fun | 4, 1 => told (.tup [.agg (frS f (.sl 3 M2) (.sl 8 E2)), .agg (frS f (.sl 3 M2) (.sl 8 E2))]) [] [] | 5, 1 => told (.tup [str S, int 0]) [0] [(0, .fix F)] | 8, 3 => told (str S) [] [] | 9, 1 => told (.tup [.agg (frS g (.sl 3 M3) (.sl 8 E3)), int 0]) [0] [(0, .fix F)] | _, _ => .no, [((0, 12), ([9, 12, 13], 1))], fun  | _ => none⟩) 400 (B := b1 = b1 ∧ TCalls Tryd.prog 10 [T.agg [u8 (Fm.kind y), u8 (Fm.frm y), u8 (Fm.to y), u32 (Fm.ep y), u8 (Fm.key y), u32 (Fm.sn y), u8 (Fm.sb y), u8 (Fm.sl y), bool (Fm.has y), str (Fm.x y), bool (Fm.rmw y), bool (Fm.flag y), u8 (Fm.dir y), u8 (Fm.life y), u32 (Fm.req y), u32 (Fm.bn y), u8 (Fm.bb y), u32 (Fm.slot y), u8 (Cmd.k (Fm.c y)), u8 (Cmd.n (Fm.c y)), u8 (Cmd.l (Fm.c y)), u32 (Cmd.e (Fm.c y)), u32 (Cmd.q (Fm.c y)), u32 (Fm.ve y), T.sl 3 M1, u8 (Lvs.l0 (Fm.lv y)), u8 (Lvs.l1 (Fm.lv y)), u8 (Lvs.l2 (Fm.lv y)), u8 (Lvs.l3 (Fm.lv y)), u8 (Lvs.l4 (Fm.lv y)), u8 (Lvs.l5 (Fm.lv y)), u8 (Lvs.l6 (Fm.lv y)), u8 (Lvs.l7 (Fm.lv y)), T.sl 8 E1]] [] none_ (callPost (Hint.call false Unit (fun x => True) [] false (fun x => T.tup [T.agg (frS f (T.sl 3 M2) (T.sl 8 E2)), T.agg (frS f (T.sl 3 M2) (T.sl 8 E2))]) (fun x => []) fun x => none_)) ∧ ∀ (a_1 : Unit), True → ∀ (b b_1 : Nat), (34 = nat_lit 34 ∧ List.all [u8 (Fm.kind f), u8 (Fm.frm f), u8 (Fm.to f), u32 (Fm.ep f), u8 (Fm.key f), u32 (Fm.sn f), u8 (Fm.sb f), u8 (Fm.sl f), bool (Fm.has f), str (Fm.x f), bool (Fm.rmw f), bool (Fm.flag f), u8 (Fm.dir f), u8 (Fm.life f), u32 (Fm.req f), u32 (Fm.bn f), u8 (Fm.bb f), u32 (Fm.slot f), u8 (Cmd.k (Fm.c f)), u8 (Cmd.n (Fm.c f)), u8 (Cmd.l (Fm.c f)), u32 (Cmd.e (Fm.c f)), u32 (Cmd.q (Fm.c f)), u32 (Fm.ve f), T.sl 3 M2, u8 (Lvs.l0 (Fm.lv f)), u8 (Lvs.l1 (Fm.lv f)), u8 (Lvs.l2 (Fm.lv f)), u8 (Lvs.l3 (Fm.lv f)), u8 (Lvs.l4 (Fm.lv f)), u8 (Lvs.l5 (Fm.lv f)), u8 (Lvs.l6 (Fm.lv f)), u8 (Lvs.l7 (Fm.lv f)), T.sl 8 E2] T.one = true) ∧ b = b ∧ 0 + nat_lit 34 ≤ 34 ∧ (34 = nat_lit 34 ∧ List.all [u8 (Fm.kind f), u8 (Fm.frm f), u8 (Fm.to f), u32 (Fm.ep f), u8 (Fm.key f), u32 (Fm.sn f), u8 (Fm.sb f), u8 (Fm.sl f), bool (Fm.has f), str (Fm.x f), bool (Fm.rmw f), bool (Fm.flag f), u8 (Fm.dir f), u8 (Fm.life f), u32 (Fm.req f), u32 (Fm.bn f), u8 (Fm.bb f), u32 (Fm.slot f), u8 (Cmd.k (Fm.c f)), u8 (Cmd.n (Fm.c f)), u8 (Cmd.l (Fm.c f)), u32 (Cmd.e (Fm.c f)), u32 (Cmd.q (Fm.c f)), u32 (Fm.ve f), T.sl 3 M2, u8 (Lvs.l0 (Fm.lv f)), u8 (Lvs.l1 (Fm.lv f)), u8 (Lvs.l2 (Fm.lv f)), u8 (Lvs.l3 (Fm.lv f)), u8 (Lvs.l4 (Fm.lv f)), u8 (Lvs.l5 (Fm.lv f)), u8 (Lvs.l6 (Fm.lv f)), u8 (Lvs.l7 (Fm.lv f)), T.sl 8 E2] T.one = true) ∧ b_1 = b_1 ∧ 0 + nat_lit 34 ≤ 34 ∧ b = b ∧ TCalls Tryd.prog 11 [T.agg [u8 (Fm.kind f), u8 (Fm.frm f), u8 (Fm.to f), u32 (Fm.ep f), u8 (Fm.key f), u32 (Fm.sn f), u8 (Fm.sb f), u8 (Fm.sl f), bool (Fm.has f), str (Fm.x f), bool (Fm.rmw f), bool (Fm.flag f), u8 (Fm.dir f), u8 (Fm.life f), u32 (Fm.req f), u32 (Fm.bn f), u8 (Fm.bb f), u32 (Fm.slot f), u8 (Cmd.k (Fm.c f)), u8 (Cmd.n (Fm.c f)), u8 (Cmd.l (Fm.c f)), u32 (Cmd.e (Fm.c f)), u32 (Cmd.q (Fm.c f)), u32 (Fm.ve f), T.sl 3 M2, u8 (Lvs.l0 (Fm.lv f)), u8 (Lvs.l1 (Fm.lv f)), u8 (Lvs.l2 (Fm.lv f)), u8 (Lvs.l3 (Fm.lv f)), u8 (Lvs.l4 (Fm.lv f)), u8 (Lvs.l5 (Fm.lv f)), u8 (Lvs.l6 (Fm.lv f)), u8 (Lvs.l7 (Fm.lv f)), T.sl 8 E2]] [(0, Ob.fix F)] none_ (callPost (Hint.call false Unit (fun x => True) [0] false (fun x => T.tup [str S, int 0]) (fun x => [(0, Ob.fix F)]) fun x => none_)) ∧ ∀ (a_2 : Unit), True → TCalls Tryd.prog 19 [str S, int a, u32 bits] [] none_ (callPost (Hint.call false Unit (fun x => True) [] false (fun x => str S) (fun x => []) fun x => none_)) ∧ ∀ (a : Unit), True → TCalls Tryd.prog 13 [str S] [(0, Ob.fix F)] none_ (callPost (Hint.call false Unit (fun x => True) [0] false (fun x => T.tup [T.agg (frS g (T.sl 3 M3) (T.sl 8 E3)), int 0]) (fun x => [(0, Ob.fix F)]) fun x => none_)) ∧ ∀ (a : Unit), True → ∀ (b : Nat), (34 = nat_lit 34 ∧ List.all [u8 (Fm.kind g), u8 (Fm.frm g), u8 (Fm.to g), u32 (Fm.ep g), u8 (Fm.key g), u32 (Fm.sn g), u8 (Fm.sb g), u8 (Fm.sl g), bool (Fm.has g), str (Fm.x g), bool (Fm.rmw g), bool (Fm.flag g), u8 (Fm.dir g), u8 (Fm.life g), u32 (Fm.req g), u32 (Fm.bn g), u8 (Fm.bb g), u32 (Fm.slot g), u8 (Cmd.k (Fm.c g)), u8 (Cmd.n (Fm.c g)), u8 (Cmd.l (Fm.c g)), u32 (Cmd.e (Fm.c g)), u32 (Cmd.q (Fm.c g)), u32 (Fm.ve g), T.sl 3 M3, u8 (Lvs.l0 (Fm.lv g)), u8 (Lvs.l1 (Fm.lv g)), u8 (Lvs.l2 (Fm.lv g)), u8 (Lvs.l3 (Fm.lv g)), u8 (Lvs.l4 (Fm.lv g)), u8 (Lvs.l5 (Fm.lv g)), u8 (Lvs.l6 (Fm.lv g)), u8 (Lvs.l7 (Fm.lv g)), T.sl 8 E3] T.one = true) ∧ b = b ∧ 0 + nat_lit 34 ≤ 34 ∧ bsplit (decide ((ByteArray.mk (List.toArray S)) = (ByteArray.mk (List.toArray S)))) (Q (bool (decide ((↑(ByteArray.size (ByteArray.mk (List.toArray S))) : Int) ≤ (1024 : Int)))) [(0, Ob.fix F)] fun x => none) (TWk Tryd.prog Γ (fin Tryd.prog Tryd.f6 [0] Q) [It.code (sub (bd Tryd.f6) [1, 1, 1, 1, 1, 1, 1, 1, 1])] { fr := frame 73 [(9, str S), (12, T.ptr 4 b 0), (13, int 0)], ob := [(0, Ob.fix F)], gl := fun x => none })) (by kernel_rfl) ?_
      repeat' (first | exact rfl | exact Nat.le_of_ble_eq_true rfl | refine And.intro ?_ ?_ | intro _ | refine bsplit_mk (fun _ => ?_) (fun _ => ?_))
      all_goals first
        | exact t1
        | exact c1
        | exact c2
        | exact c3
        | exact hQ
        | (rw [hle]; exact hQ)
        | (exfalso; rename_i h; rw [hss] at h; cases h; done)
        | (exfalso; rename_i h; rw [hle] at h; cases h; done)
        | (clear t1 c1 c2 c3; trace_state)
    · rw [hs hT] at c3
      have hdT : decT (fm0, 5) = .tup [.agg zC, int 5] := rfl
      rw [hdT] at c3
      have c4 := fsame_00
      have hne : decide ((⟨(turnK (Crc.sealL (cutF y).bytes) a bits 32).toArray⟩ : ByteArray) = ⟨(Crc.sealL (cutF y).bytes).toArray⟩) = false := decide_eq_false (fun h => hT (str_inj.1 h))
      have hle : decide ((((⟨(Crc.sealL (cutF y).bytes).toArray⟩ : ByteArray).size : Nat) : Int) ≤ 1024) = true := decide_eq_true (by rw [hsz]; omega)
      clear hs hl hT hd hdT he hg hf
      generalize turnK (Crc.sealL (cutF y).bytes) a bits 32 = S2 at *
      generalize Crc.sealL (cutF y).bytes = S at *
      generalize cutF y = f at *
      unfold obsF at *
      generalize fixF = F at *
      unfold frC at *
      generalize Row.aggs memC y.ms = M1 at *
      generalize Row.aggs entC y.es = E1 at *
      generalize Row.aggs memC f.ms = M2 at *
      generalize Row.aggs entC f.es = E2 at *
      refine run_sound (⟨fun | 4, 1 => told (.tup [.agg (frS f (.sl 3 M2) (.sl 8 E2)), .agg (frS f (.sl 3 M2) (.sl 8 E2))]) [] [] | 5, 1 => told (.tup [str S, int 0]) [0] [(0, .fix F)] | 8, 3 => told (str S2) [] [] | 9, 1 => told (.tup [.agg zC, int 5]) [0] [(0, .fix F)] | 12, 5 => told (bool true) [] [] | _, _ => .no, [((0, 11), ([9, 13], 1))], fun  | _ => none⟩) 400 (B := b1 = b1 ∧ TCalls Tryd.prog 10 [T.agg [u8 (Fm.kind y), u8 (Fm.frm y), u8 (Fm.to y), u32 (Fm.ep y), u8 (Fm.key y), u32 (Fm.sn y), u8 (Fm.sb y), u8 (Fm.sl y), bool (Fm.has y), str (Fm.x y), bool (Fm.rmw y), bool (Fm.flag y), u8 (Fm.dir y), u8 (Fm.life y), u32 (Fm.req y), u32 (Fm.bn y), u8 (Fm.bb y), u32 (Fm.slot y), u8 (Cmd.k (Fm.c y)), u8 (Cmd.n (Fm.c y)), u8 (Cmd.l (Fm.c y)), u32 (Cmd.e (Fm.c y)), u32 (Cmd.q (Fm.c y)), u32 (Fm.ve y), T.sl 3 M1, u8 (Lvs.l0 (Fm.lv y)), u8 (Lvs.l1 (Fm.lv y)), u8 (Lvs.l2 (Fm.lv y)), u8 (Lvs.l3 (Fm.lv y)), u8 (Lvs.l4 (Fm.lv y)), u8 (Lvs.l5 (Fm.lv y)), u8 (Lvs.l6 (Fm.lv y)), u8 (Lvs.l7 (Fm.lv y)), T.sl 8 E1]] [] none_ (callPost (Hint.call false Unit (fun x => True) [] false (fun x => T.tup [T.agg (frS f (T.sl 3 M2) (T.sl 8 E2)), T.agg (frS f (T.sl 3 M2) (T.sl 8 E2))]) (fun x => []) fun x => none_)) ∧ ∀ (a_1 : Unit), True → ∀ (b b_1 : Nat), (34 = nat_lit 34 ∧ List.all [u8 (Fm.kind f), u8 (Fm.frm f), u8 (Fm.to f), u32 (Fm.ep f), u8 (Fm.key f), u32 (Fm.sn f), u8 (Fm.sb f), u8 (Fm.sl f), bool (Fm.has f), str (Fm.x f), bool (Fm.rmw f), bool (Fm.flag f), u8 (Fm.dir f), u8 (Fm.life f), u32 (Fm.req f), u32 (Fm.bn f), u8 (Fm.bb f), u32 (Fm.slot f), u8 (Cmd.k (Fm.c f)), u8 (Cmd.n (Fm.c f)), u8 (Cmd.l (Fm.c f)), u32 (Cmd.e (Fm.c f)), u32 (Cmd.q (Fm.c f)), u32 (Fm.ve f), T.sl 3 M2, u8 (Lvs.l0 (Fm.lv f)), u8 (Lvs.l1 (Fm.lv f)), u8 (Lvs.l2 (Fm.lv f)), u8 (Lvs.l3 (Fm.lv f)), u8 (Lvs.l4 (Fm.lv f)), u8 (Lvs.l5 (Fm.lv f)), u8 (Lvs.l6 (Fm.lv f)), u8 (Lvs.l7 (Fm.lv f)), T.sl 8 E2] T.one = true) ∧ b = b ∧ 0 + nat_lit 34 ≤ 34 ∧ (34 = nat_lit 34 ∧ List.all [u8 (Fm.kind f), u8 (Fm.frm f), u8 (Fm.to f), u32 (Fm.ep f), u8 (Fm.key f), u32 (Fm.sn f), u8 (Fm.sb f), u8 (Fm.sl f), bool (Fm.has f), str (Fm.x f), bool (Fm.rmw f), bool (Fm.flag f), u8 (Fm.dir f), u8 (Fm.life f), u32 (Fm.req f), u32 (Fm.bn f), u8 (Fm.bb f), u32 (Fm.slot f), u8 (Cmd.k (Fm.c f)), u8 (Cmd.n (Fm.c f)), u8 (Cmd.l (Fm.c f)), u32 (Cmd.e (Fm.c f)), u32 (Cmd.q (Fm.c f)), u32 (Fm.ve f), T.sl 3 M2, u8 (Lvs.l0 (Fm.lv f)), u8 (Lvs.l1 (Fm.lv f)), u8 (Lvs.l2 (Fm.lv f)), u8 (Lvs.l3 (Fm.lv f)), u8 (Lvs.l4 (Fm.lv f)), u8 (Lvs.l5 (Fm.lv f)), u8 (Lvs.l6 (Fm.lv f)), u8 (Lvs.l7 (Fm.lv f)), T.sl 8 E2] T.one = true) ∧ b_1 = b_1 ∧ 0 + nat_lit 34 ≤ 34 ∧ b = b ∧ TCalls Tryd.prog 11 [T.agg [u8 (Fm.kind f), u8 (Fm.frm f), u8 (Fm.to f), u32 (Fm.ep f), u8 (Fm.key f), u32 (Fm.sn f), u8 (Fm.sb f), u8 (Fm.sl f), bool (Fm.has f), str (Fm.x f), bool (Fm.rmw f), bool (Fm.flag f), u8 (Fm.dir f), u8 (Fm.life f), u32 (Fm.req f), u32 (Fm.bn f), u8 (Fm.bb f), u32 (Fm.slot f), u8 (Cmd.k (Fm.c f)), u8 (Cmd.n (Fm.c f)), u8 (Cmd.l (Fm.c f)), u32 (Cmd.e (Fm.c f)), u32 (Cmd.q (Fm.c f)), u32 (Fm.ve f), T.sl 3 M2, u8 (Lvs.l0 (Fm.lv f)), u8 (Lvs.l1 (Fm.lv f)), u8 (Lvs.l2 (Fm.lv f)), u8 (Lvs.l3 (Fm.lv f)), u8 (Lvs.l4 (Fm.lv f)), u8 (Lvs.l5 (Fm.lv f)), u8 (Lvs.l6 (Fm.lv f)), u8 (Lvs.l7 (Fm.lv f)), T.sl 8 E2]] [(0, Ob.fix F)] none_ (callPost (Hint.call false Unit (fun x => True) [0] false (fun x => T.tup [str S, int 0]) (fun x => [(0, Ob.fix F)]) fun x => none_)) ∧ ∀ (a_2 : Unit), True → TCalls Tryd.prog 19 [str S, int a, u32 bits] [] none_ (callPost (Hint.call false Unit (fun x => True) [] false (fun x => str S2) (fun x => []) fun x => none_)) ∧ ∀ (a : Unit), True → TCalls Tryd.prog 13 [str S2] [(0, Ob.fix F)] none_ (callPost (Hint.call false Unit (fun x => True) [0] false (fun x => T.tup [T.agg zC, int 5]) (fun x => [(0, Ob.fix F)]) fun x => none_)) ∧ ∀ (a : Unit), True → ∀ (b : Nat), (34 = nat_lit 34 ∧ List.all [u8 0, u8 0, u8 0, u32 0, u8 0, u32 0, u8 0, u8 0, bool false, str [], bool false, bool false, u8 0, u8 0, u32 0, u32 0, u8 0, u32 0, u8 0, u8 0, u8 0, u32 0, u32 0, u32 0, T.v nilS, u8 0, u8 0, u8 0, u8 0, u8 0, u8 0, u8 0, u8 0, T.v nilS] T.one = true) ∧ b = b ∧ 0 + nat_lit 34 ≤ 34 ∧ bsplit (decide ((ByteArray.mk (List.toArray S2)) = (ByteArray.mk (List.toArray S)))) (TWk Tryd.prog Γ (fin Tryd.prog Tryd.f6 [0] Q) [It.code (sub (bd Tryd.f6) [1, 1, 1, 1, 1, 1, 1, 1, 0, 1, 0]), It.code (sub (bd Tryd.f6) [1, 1, 1, 1, 1, 1, 1, 1, 1])] { fr := frame 73 [(9, str S), (13, int 5)], ob := [(0, Ob.fix F)], gl := fun x => none }) (b = b ∧ TCalls Tryd.prog 15 [T.agg [u8 0, u8 0, u8 0, u32 0, u8 0, u32 0, u8 0, u8 0, bool false, str [], bool false, bool false, u8 0, u8 0, u32 0, u32 0, u8 0, u32 0, u8 0, u8 0, u8 0, u32 0, u32 0, u32 0, T.v nilS, u8 0, u8 0, u8 0, u8 0, u8 0, u8 0, u8 0, u8 0, T.v nilS], T.agg [u8 0, u8 0, u8 0, u32 0, u8 0, u32 0, u8 0, u8 0, bool false, str [], bool false, bool false, u8 0, u8 0, u32 0, u32 0, u8 0, u32 0, u8 0, u8 0, u8 0, u32 0, u32 0, u32 0, T.v nilS, u8 0, u8 0, u8 0, u8 0, u8 0, u8 0, u8 0, u8 0, T.v nilS]] [] none_ (callPost (Hint.call false Unit (fun x => True) [] false (fun x => bool true) (fun x => []) fun x => none_)) ∧ ∀ (a : Unit), True → Q (bool (decide ((↑(ByteArray.size (ByteArray.mk (List.toArray S))) : Int) ≤ (1024 : Int)))) [(0, Ob.fix F)] fun x => none)) (by kernel_rfl) ?_
      repeat' (first | exact rfl | exact Nat.le_of_ble_eq_true rfl | refine And.intro ?_ ?_ | intro _ | refine bsplit_mk (fun _ => ?_) (fun _ => ?_))
      all_goals first
        | exact t1
        | exact c1
        | exact c2
        | exact c3
        | exact c4
        | exact hQ
        | (rw [hle]; exact hQ)
        | (exfalso; rename_i h; rw [hne] at h; cases h; done)
        | (exfalso; rename_i h; rw [hle] at h; cases h; done)
        | (clear t1 c1 c2 c3; trace_state)
  · have he : (cutF y).enc = ([], 4) := by unfold Frm.Fm.enc; rw [if_neg hg]
    unfold encT at c1
    rw [he] at c1
    clear he hf hg
    generalize cutF y = f at *
    unfold obsF at *
    generalize fixF = F at *
    unfold frC at *
    generalize Row.aggs memC y.ms = M1 at *
    generalize Row.aggs entC y.es = E1 at *
    generalize Row.aggs memC f.ms = M2 at *
    generalize Row.aggs entC f.es = E2 at *
    refine run_sound (⟨fun | 4, 1 => told (.tup [.agg (frS f (.sl 3 M2) (.sl 8 E2)), .agg (frS f (.sl 3 M2) (.sl 8 E2))]) [] [] | 5, 1 => told (.tup [str [], int 4]) [0] [(0, .fix F)] | _, _ => .no, [((0, 8), ([1, 2, 9], 1))], fun  | _ => none⟩) 400 (B := b1 = b1 ∧ TCalls Tryd.prog 10 [T.agg [u8 (Fm.kind y), u8 (Fm.frm y), u8 (Fm.to y), u32 (Fm.ep y), u8 (Fm.key y), u32 (Fm.sn y), u8 (Fm.sb y), u8 (Fm.sl y), bool (Fm.has y), str (Fm.x y), bool (Fm.rmw y), bool (Fm.flag y), u8 (Fm.dir y), u8 (Fm.life y), u32 (Fm.req y), u32 (Fm.bn y), u8 (Fm.bb y), u32 (Fm.slot y), u8 (Cmd.k (Fm.c y)), u8 (Cmd.n (Fm.c y)), u8 (Cmd.l (Fm.c y)), u32 (Cmd.e (Fm.c y)), u32 (Cmd.q (Fm.c y)), u32 (Fm.ve y), T.sl 3 M1, u8 (Lvs.l0 (Fm.lv y)), u8 (Lvs.l1 (Fm.lv y)), u8 (Lvs.l2 (Fm.lv y)), u8 (Lvs.l3 (Fm.lv y)), u8 (Lvs.l4 (Fm.lv y)), u8 (Lvs.l5 (Fm.lv y)), u8 (Lvs.l6 (Fm.lv y)), u8 (Lvs.l7 (Fm.lv y)), T.sl 8 E1]] [] none_ (callPost (Hint.call false Unit (fun x => True) [] false (fun x => T.tup [T.agg (frS f (T.sl 3 M2) (T.sl 8 E2)), T.agg (frS f (T.sl 3 M2) (T.sl 8 E2))]) (fun x => []) fun x => none_)) ∧ ∀ (a : Unit), True → ∀ (b b_1 : Nat), (34 = nat_lit 34 ∧ List.all [u8 (Fm.kind f), u8 (Fm.frm f), u8 (Fm.to f), u32 (Fm.ep f), u8 (Fm.key f), u32 (Fm.sn f), u8 (Fm.sb f), u8 (Fm.sl f), bool (Fm.has f), str (Fm.x f), bool (Fm.rmw f), bool (Fm.flag f), u8 (Fm.dir f), u8 (Fm.life f), u32 (Fm.req f), u32 (Fm.bn f), u8 (Fm.bb f), u32 (Fm.slot f), u8 (Cmd.k (Fm.c f)), u8 (Cmd.n (Fm.c f)), u8 (Cmd.l (Fm.c f)), u32 (Cmd.e (Fm.c f)), u32 (Cmd.q (Fm.c f)), u32 (Fm.ve f), T.sl 3 M2, u8 (Lvs.l0 (Fm.lv f)), u8 (Lvs.l1 (Fm.lv f)), u8 (Lvs.l2 (Fm.lv f)), u8 (Lvs.l3 (Fm.lv f)), u8 (Lvs.l4 (Fm.lv f)), u8 (Lvs.l5 (Fm.lv f)), u8 (Lvs.l6 (Fm.lv f)), u8 (Lvs.l7 (Fm.lv f)), T.sl 8 E2] T.one = true) ∧ b = b ∧ 0 + nat_lit 34 ≤ 34 ∧ (34 = nat_lit 34 ∧ List.all [u8 (Fm.kind f), u8 (Fm.frm f), u8 (Fm.to f), u32 (Fm.ep f), u8 (Fm.key f), u32 (Fm.sn f), u8 (Fm.sb f), u8 (Fm.sl f), bool (Fm.has f), str (Fm.x f), bool (Fm.rmw f), bool (Fm.flag f), u8 (Fm.dir f), u8 (Fm.life f), u32 (Fm.req f), u32 (Fm.bn f), u8 (Fm.bb f), u32 (Fm.slot f), u8 (Cmd.k (Fm.c f)), u8 (Cmd.n (Fm.c f)), u8 (Cmd.l (Fm.c f)), u32 (Cmd.e (Fm.c f)), u32 (Cmd.q (Fm.c f)), u32 (Fm.ve f), T.sl 3 M2, u8 (Lvs.l0 (Fm.lv f)), u8 (Lvs.l1 (Fm.lv f)), u8 (Lvs.l2 (Fm.lv f)), u8 (Lvs.l3 (Fm.lv f)), u8 (Lvs.l4 (Fm.lv f)), u8 (Lvs.l5 (Fm.lv f)), u8 (Lvs.l6 (Fm.lv f)), u8 (Lvs.l7 (Fm.lv f)), T.sl 8 E2] T.one = true) ∧ b_1 = b_1 ∧ 0 + nat_lit 34 ≤ 34 ∧ b = b ∧ TCalls Tryd.prog 11 [T.agg [u8 (Fm.kind f), u8 (Fm.frm f), u8 (Fm.to f), u32 (Fm.ep f), u8 (Fm.key f), u32 (Fm.sn f), u8 (Fm.sb f), u8 (Fm.sl f), bool (Fm.has f), str (Fm.x f), bool (Fm.rmw f), bool (Fm.flag f), u8 (Fm.dir f), u8 (Fm.life f), u32 (Fm.req f), u32 (Fm.bn f), u8 (Fm.bb f), u32 (Fm.slot f), u8 (Cmd.k (Fm.c f)), u8 (Cmd.n (Fm.c f)), u8 (Cmd.l (Fm.c f)), u32 (Cmd.e (Fm.c f)), u32 (Cmd.q (Fm.c f)), u32 (Fm.ve f), T.sl 3 M2, u8 (Lvs.l0 (Fm.lv f)), u8 (Lvs.l1 (Fm.lv f)), u8 (Lvs.l2 (Fm.lv f)), u8 (Lvs.l3 (Fm.lv f)), u8 (Lvs.l4 (Fm.lv f)), u8 (Lvs.l5 (Fm.lv f)), u8 (Lvs.l6 (Fm.lv f)), u8 (Lvs.l7 (Fm.lv f)), T.sl 8 E2]] [(0, Ob.fix F)] none_ (callPost (Hint.call false Unit (fun x => True) [0] false (fun x => T.tup [str [], int 4]) (fun x => [(0, Ob.fix F)]) fun x => none_)) ∧ ∀ (a : Unit), True → Q (bool true) [(0, Ob.fix F)] fun x => none) (by kernel_rfl) ?_
    repeat' (first | exact rfl | exact Nat.le_of_ble_eq_true rfl | refine And.intro ?_ ?_ | intro _ | refine bsplit_mk (fun _ => ?_) (fun _ => ?_))
    all_goals first
      | exact t1
      | exact c1
      | exact hQ
      | (clear t1 c1; trace_state)
theorem spoilt_any (x : Fm) (hx : FmIn x) (a : Int) (bits : Nat) (ha : -9223372036854775808 ≤ a ∧ a ≤ 9223372036854775807) (hb : bits < 4294967296) (Q : T → Obs → Glb → Prop) (hQ : Q (bool true) obsF none_) : TCalls Tryd.prog 6 [.agg (frC x), int a, u32 bits] obsF none_ Q := by
  have sp := speaks_any
  have hsz : (⟨x.x.toArray⟩ : ByteArray).size = x.x.length := by show x.x.toArray.size = _; simp
  have hcut : T.v (.string ((⟨x.x.toArray⟩ : ByteArray).extract (((0 : Nat) : Int)).toNat (if (40 : Int) < (((⟨x.x.toArray⟩ : ByteArray).size : Nat) : Int) then (40 : Int) else (((⟨x.x.toArray⟩ : ByteArray).size : Nat) : Int)).toNat)) = str (x.x.take 40) := by
    rw [hsz, X1.str_cut]
    refine congrArg str ?_
    show (x.x.take _).drop 0 = _
    rw [List.drop_zero]
    by_cases g : (40 : Int) < ((x.x.length : Nat) : Int)
    · rw [if_pos g]; rfl
    · rw [if_neg g, List.take_of_length_le (by omega), List.take_of_length_le (by omega)]
  have tl := fun (Γ : Ctx) (b1 : Nat) => spoilt_tail Γ b1 { x with x := x.x.take 40 } a bits ha hb hx.cut Q hQ
  have tl : ∀ (Γ : Ctx) (b1 : Nat) (t : T), t = str (x.x.take 40) → TWk Tryd.prog Γ (fin Tryd.prog Tryd.f6 [0] Q) [.code (sub (bd Tryd.f6) [1, 1, 1])] ⟨frame 73 [(1, int a), (2, u32 bits), (3, .ptr 1 b1 0)], [(0, .fix fixF), (b1, .cells ((frC x).set 9 t))], none_⟩ := fun Γ b1 t h => by
    subst h; exact tl Γ b1
  clear hQ hx
  unfold obsF at sp ⊢
  generalize fixF = F at *
  unfold frC at *
  generalize Row.aggs memC x.ms = M1 at *
  generalize Row.aggs entC x.es = E1 at *
  refine TCalls.of Tryd.func6 rfl (CanCall.of Tryd.func6 rfl (by decide)) [0] fun Γ => ?_
  refine run_sound (⟨fun | 1, 0 => told (bool true) [0] [(0, .fix F)] | _, _ => .no, [((0, 4), ([1, 2, 3], 2))], fun  | _ => none⟩) 400 (B := ∀ (b : Nat), TCalls Tryd.prog 9 [] [(0, Ob.fix F)] none_ (callPost (Hint.call false Unit (fun x => True) [0] false (fun x => bool true) (fun x => [(0, Ob.fix F)]) fun x => none_)) ∧ ∀ (a_1 : Unit), True → b = b ∧ b = b ∧ ((0 : Int) ≤ (↑(0 : Nat) : Int) ∧ (↑(0 : Nat) : Int) ≤ Prod.snd (IntKind.i64, if (40 : Int) < (↑(ByteArray.size (ByteArray.mk (List.toArray (Fm.x x)))) : Int) then (40 : Int) else (↑(ByteArray.size (ByteArray.mk (List.toArray (Fm.x x)))) : Int)) ∧ Prod.snd (IntKind.i64, if (40 : Int) < (↑(ByteArray.size (ByteArray.mk (List.toArray (Fm.x x)))) : Int) then (40 : Int) else (↑(ByteArray.size (ByteArray.mk (List.toArray (Fm.x x)))) : Int)) ≤ (↑(ByteArray.size (ByteArray.mk (List.toArray (Fm.x x)))) : Int)) ∧ (1 = nat_lit 1 ∧ List.all (List.map T.v (Array.toList #[Value.string (ByteArray.extract (ByteArray.mk (List.toArray (Fm.x x))) (Int.toNat (↑(0 : Nat) : Int)) (Int.toNat (Prod.snd (IntKind.i64, if (40 : Int) < (↑(ByteArray.size (ByteArray.mk (List.toArray (Fm.x x)))) : Int) then (40 : Int) else (↑(ByteArray.size (ByteArray.mk (List.toArray (Fm.x x)))) : Int)))))])) T.one = true) ∧ b = b ∧ 9 + nat_lit 1 ≤ 34 ∧ TWk Tryd.prog Γ (fin Tryd.prog Tryd.f6 [0] Q) [It.code (sub (bd Tryd.f6) [1, 1, 1])] { fr := frame 73 [(1, int a), (2, u32 bits), (3, T.ptr 1 b 0)], ob := [(0, Ob.fix F), (b, Ob.cells [u8 (Fm.kind x), u8 (Fm.frm x), u8 (Fm.to x), u32 (Fm.ep x), u8 (Fm.key x), u32 (Fm.sn x), u8 (Fm.sb x), u8 (Fm.sl x), bool (Fm.has x), T.v (Value.string (ByteArray.extract (ByteArray.mk (List.toArray (Fm.x x))) (Int.toNat (↑(0 : Nat) : Int)) (Int.toNat (Prod.snd (IntKind.i64, if (40 : Int) < (↑(ByteArray.size (ByteArray.mk (List.toArray (Fm.x x)))) : Int) then (40 : Int) else (↑(ByteArray.size (ByteArray.mk (List.toArray (Fm.x x)))) : Int)))))), bool (Fm.rmw x), bool (Fm.flag x), u8 (Fm.dir x), u8 (Fm.life x), u32 (Fm.req x), u32 (Fm.bn x), u8 (Fm.bb x), u32 (Fm.slot x), u8 (Cmd.k (Fm.c x)), u8 (Cmd.n (Fm.c x)), u8 (Cmd.l (Fm.c x)), u32 (Cmd.e (Fm.c x)), u32 (Cmd.q (Fm.c x)), u32 (Fm.ve x), T.sl 3 M1, u8 (Lvs.l0 (Fm.lv x)), u8 (Lvs.l1 (Fm.lv x)), u8 (Lvs.l2 (Fm.lv x)), u8 (Lvs.l3 (Fm.lv x)), u8 (Lvs.l4 (Fm.lv x)), u8 (Lvs.l5 (Fm.lv x)), u8 (Lvs.l6 (Fm.lv x)), u8 (Lvs.l7 (Fm.lv x)), T.sl 8 E1])], gl := fun x => none }) (by kernel_rfl) ?_
  repeat' (first | exact rfl | exact Nat.le_of_ble_eq_true rfl | refine And.intro ?_ ?_ | intro _ | refine bsplit_mk (fun _ => ?_) (fun _ => ?_))
  all_goals first
    | exact sp
    | exact tl Γ _ _ hcut
    | (show (0 : Int) ≤ 0; decide)
    | (show (0 : Int) ≤ (if (40 : Int) < (((⟨x.x.toArray⟩ : ByteArray).size : Nat) : Int) then (40 : Int) else (((⟨x.x.toArray⟩ : ByteArray).size : Nat) : Int)); split <;> omega)
    | (show (if (40 : Int) < (((⟨x.x.toArray⟩ : ByteArray).size : Nat) : Int) then (40 : Int) else (((⟨x.x.toArray⟩ : ByteArray).size : Nat) : Int)) ≤ (((⟨x.x.toArray⟩ : ByteArray).size : Nat) : Int); split <;> omega)
    | (clear tl; trace_state)
end X6
end Go.Proofs.YtaepgceodcdnhaaDoor.Vm
