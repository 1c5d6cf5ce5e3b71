/- Plain mathematics of layer 1: a number's bytes, the largest first. -/
import Derived.Test.YtaepgceodcdnhaaDoorBase
namespace Go.Proofs.YtaepgceodcdnhaaDoor
namespace Oct

/-- The lowest k bytes of n, the largest first. -/
def be : Nat → Nat → List UInt8
  | 0, _ => []
  | k + 1, n => be k (n / 256) ++ [UInt8.ofNat n]
theorem length_be : ∀ k n, (be k n).length = k
  | 0, _ => rfl
  | k + 1, n => by simp [be, length_be k]
theorem be_succ : ∀ k n, be (k + 1) n = UInt8.ofNat (n / 256 ^ k) :: be k n
  | 0, n => by simp [be]
  | k + 1, n => by
    have h := be_succ k (n / 256)
    show be (k + 1) (n / 256) ++ [UInt8.ofNat n] = _
    rw [h, Nat.div_div_eq_div_mul, show 256 * 256 ^ k = 256 ^ (k + 1) from by rw [Nat.pow_succ, Nat.mul_comm]]
    rfl

/-- 'number' fills its k bytes from the last one on: after i rounds -/
def fill (k n i : Nat) : List UInt8 := List.replicate (k - i) 0 ++ be i n
theorem length_fill (k n i : Nat) (h : i ≤ k) : (fill k n i).length = k := by simp [fill, length_be]; omega
theorem fill_zero (k n : Nat) : fill k n 0 = List.replicate k 0 := by simp [fill, be]
theorem fill_full (k n : Nat) : fill k n k = be k n := by simp [fill]
theorem fill_set (k n i : Nat) (h : i < k) : (fill k n i).set (k - 1 - i) (UInt8.ofNat (n / 256 ^ i)) = fill k n (i + 1) := by
  unfold fill
  rw [be_succ, show k - i = (k - (i + 1)) + 1 from by omega, List.replicate_succ', List.append_assoc]
  rw [List.set_append_right _ _ (by simp; omega)]
  simp [show k - 1 - i - (k - (i + 1)) = 0 from by omega]
theorem u8s_set (l : List UInt8) (j : Nat) (c : UInt8) : (u8s l).setIfInBounds j (.int .u8 (c.toNat : Int)) = u8s (l.set j c) := by
  simp [u8s, List.map_set]
theorem madeCells_u8 (k : Nat) : madeCells #[.int .u8 0] k = u8s (List.replicate k 0) := by
  apply Array.ext
  · simp [size_u8s, madeCells]
  · intro i h1 h2
    have h3 : i < k := by simpa [madeCells] using h1
    simp [u8s, madeCells, Nat.mod_one]
theorem be_mod : ∀ k n, be k (n % 256 ^ k) = be k n
  | 0, _ => rfl
  | k + 1, n => by
    show be k (n % 256 ^ (k + 1) / 256) ++ [UInt8.ofNat (n % 256 ^ (k + 1))] = be k (n / 256) ++ [UInt8.ofNat n]
    have h1 : n % 256 ^ (k + 1) / 256 = n / 256 % 256 ^ k := by
      rw [Nat.pow_succ, Nat.mul_comm, Nat.mod_mul_right_div_self]
    have h2 : UInt8.ofNat (n % 256 ^ (k + 1)) = UInt8.ofNat n := by
      apply UInt8.toNat.inj
      rw [UInt8.toNat_ofNat', UInt8.toNat_ofNat']
      exact Nat.mod_mod_of_dvd n ⟨256 ^ k, by rw [Nat.pow_succ, Nat.mul_comm]⟩
    rw [h1, h2, be_mod k (n / 256)]
theorem be_less : ∀ k a b, a < 256 ^ k → b < 256 ^ k → Op.bytesLess (be k a) (be k b) = decide (a < b)
  | 0, a, b, ha, hb => by
    have : a = b := by simp at ha hb; omega
    subst this
    simp [be, Op.bytesLess]
  | k + 1, a, b, ha, hb => by
    have hp : 0 < 256 ^ k := Nat.pow_pos (by omega)
    have da : a / 256 ^ k < 256 := by rw [Nat.div_lt_iff_lt_mul hp, Nat.mul_comm, ← Nat.pow_succ]; exact ha
    have db : b / 256 ^ k < 256 := by rw [Nat.div_lt_iff_lt_mul hp, Nat.mul_comm, ← Nat.pow_succ]; exact hb
    have ea : (UInt8.ofNat (a / 256 ^ k)).toNat = a / 256 ^ k := by rw [UInt8.toNat_ofNat']; exact Nat.mod_eq_of_lt da
    have eb : (UInt8.ofNat (b / 256 ^ k)).toNat = b / 256 ^ k := by rw [UInt8.toNat_ofNat']; exact Nat.mod_eq_of_lt db
    have ma := Nat.mod_lt a hp
    have mb := Nat.mod_lt b hp
    have xa := Nat.div_add_mod a (256 ^ k)
    have xb := Nat.div_add_mod b (256 ^ k)
    have ih := be_less k (a % 256 ^ k) (b % 256 ^ k) ma mb
    rw [be_mod, be_mod] at ih
    rw [be_succ, be_succ]
    generalize UInt8.ofNat (a / 256 ^ k) = ca at *
    generalize UInt8.ofNat (b / 256 ^ k) = cb at *
    generalize a / 256 ^ k = qa at *
    generalize b / 256 ^ k = qb at *
    generalize a % 256 ^ k = ra at *
    generalize b % 256 ^ k = rb at *
    generalize 256 ^ k = p at *
    simp only [Op.bytesLess, ih]
    rw [Bool.eq_iff_iff]
    simp only [Bool.or_eq_true, Bool.and_eq_true, decide_eq_true_eq, beq_iff_eq, UInt8.lt_iff_toNat_lt, ← UInt8.toNat_inj, ea, eb]
    constructor
    · rintro (h | ⟨h, h'⟩)
      · have : p * qa + p ≤ p * qb := by rw [← Nat.mul_succ]; exact Nat.mul_le_mul_left p h
        omega
      · rw [h] at xa; omega
    · intro h
      rcases Nat.lt_trichotomy qa qb with h1 | h1 | h1
      · exact .inl h1
      · exact .inr ⟨h1, by rw [h1] at xa; omega⟩
      · have : p * qb + p ≤ p * qa := by rw [← Nat.mul_succ]; exact Nat.mul_le_mul_left p h1
        omega
theorem be_inj (k a b : Nat) (ha : a < 256 ^ k) (hb : b < 256 ^ k) : be k a = be k b ↔ a = b := by
  constructor
  · intro h
    have h1 := be_less k a b ha hb
    have h2 := be_less k b a hb ha
    have h3 := be_less k a a ha ha
    rw [h] at h2 h3
    rw [h] at h1
    have e1 : decide (a < b) = false := by rw [← h1, h3]; simp
    have e2 : decide (b < a) = false := by rw [← h2, h3]; simp
    simp at e1 e2
    omega
  · rintro rfl; rfl
theorem pow_256 (j : Nat) : (2 : Int) ^ (8 * j) = ((256 ^ j : Nat) : Int) := by
  rw [Int.pow_mul, show ((2 : Int) ^ 8) = 256 from rfl]
  exact (Int.natCast_pow 256 j).symm
theorem byteVal (n j : Nat) : ((n : Int) / 2 ^ (8 * j) % 256) = ((UInt8.ofNat (n / 256 ^ j)).toNat : Int) := by
  rw [pow_256]
  have : (UInt8.ofNat (n / 256 ^ j)).toNat = n / 256 ^ j % 256 := UInt8.toNat_ofNat'
  rw [this]
  show (n : Int) / ((256 ^ j : Nat) : Int) % ((256 : Nat) : Int) = _
  rw [← Int.natCast_ediv, ← Int.natCast_emod]
theorem fits_iff (n k : Nat) : (((n : Int) / 2 ^ (8 * k) != 0) = false) ↔ n < 256 ^ k := by
  rw [pow_256]
  have hp : 0 < 256 ^ k := Nat.pow_pos (by omega)
  rw [show ((n : Int) / ((256 ^ k : Nat) : Int)) = ((n / 256 ^ k : Nat) : Int) from (Int.natCast_ediv _ _).symm]
  rw [bne_eq_false_iff_eq, Int.natCast_eq_zero, Nat.div_eq_zero_iff]
  omega

/-- A part: its kind, its size, its number, its text. -/
structure Part where
  kind : Int
  size : Int
  n : Nat
  s : ByteArray
def Part.cells (p : Part) : List Value := [.int .i64 p.kind, .int .i64 p.size, .int .u64 p.n, .string p.s]
def Part.val (p : Part) : Value := .agg #[.int .i64 p.kind, .int .i64 p.size, .int .u64 p.n, .string p.s]

/-- what 'number' answers -/
def numRes (n : Nat) (size : Int) : List UInt8 × Int := if 1 ≤ size ∧ size ≤ 8 ∧ n < 256 ^ size.toNat then (be size.toNat n, 0) else ([], 9)
/-- what 'bytes' answers -/
def Part.bytes (p : Part) : List UInt8 × Int :=
  if p.kind = 1 then numRes p.n p.size
  else if p.kind = 2 then (if 255 < p.s.size then ([], 3) else (UInt8.ofNat p.s.size :: p.s.data.toList, 0))
  else if p.kind = 3 then (p.s.data.toList, 0)
  else ([], 1)
/-- what 'Join' answers, with what is gathered so far -/
def joinRes : List Part → List UInt8 → List UInt8 × Int
  | [], acc => (acc, 0)
  | p :: r, acc => if p.bytes.2 ≠ 0 then ([], p.bytes.2) else joinRes r (acc ++ p.bytes.1)
def room (ps : List Part) : Nat := (ps.map fun p => p.s.size + 9).sum
theorem bytes_le (p : Part) : p.bytes.1.length ≤ p.s.size + 9 := by
  have hs : p.s.data.toList.length = p.s.size := by rw [Array.length_toList]; rfl
  unfold Part.bytes
  split
  · unfold numRes
    split
    · rw [length_be]; omega
    · simp
  · split
    · split
      · simp
      · rw [List.length_cons, hs]; omega
    · split
      · rw [hs]; omega
      · simp
theorem room_take (ps : List Part) (k : Nat) (h : k < ps.length) : room (ps.take k) + (ps[k].s.size + 9) ≤ room ps := by
  induction ps generalizing k with
  | nil => simp at h
  | cons p r ih =>
    cases k with
    | zero => simp [room]
    | succ k =>
      have := ih k (by simpa using h)
      simp only [room, List.take_succ_cons, List.map_cons, List.sum_cons, List.getElem_cons_succ] at this ⊢
      omega
theorem room_succ (ps : List Part) (k : Nat) (h : k < ps.length) : room (ps.take (k + 1)) = room (ps.take k) + (ps[k].s.size + 9) := by
  rw [List.take_succ_eq_append_getElem h]
  simp only [room, List.map_append, List.sum_append, List.map_cons, List.map_nil, List.sum_cons, List.sum_nil]
  omega
end Oct
end Go.Proofs.YtaepgceodcdnhaaDoor
