/- Plain mathematics of layer 1: what a reader takes. No program is named here. -/
import Derived.Test.YtaepgceodcdnhaaDoorOctPure
namespace Go.Proofs.YtaepgceodcdnhaaDoor
namespace Oct
/-- the number of some bytes, the largest first -/
def getN (l : List UInt8) : Nat := l.foldl (fun n c => 256 * n + c.toNat) 0

/-- what 'take' does: what it answers, what is left, what is wrong -/
def takeL (l : List UInt8) (bad : Int) (frm n : Int) : List UInt8 × List UInt8 × Int :=
  if bad ≠ 0 then ([], l, bad) else if n < 0 then ([], l, 4) else if n > l.length - frm then ([], l, 2)
  else ((l.take (frm + n).toNat).drop frm.toNat, l.drop (frm + n).toNat, 0)

theorem takeL_len (l : List UInt8) (bad : Int) (n : Int) (h0 : 0 ≤ n) (h8 : n ≤ 8) : (takeL l bad 0 n).1.length ≤ 8 := by
  unfold takeL
  split
  · simp
  · split
    · simp
    · split
      · simp
      · simp; omega
theorem getN_lt (l : List UInt8) : getN l < 256 ^ l.length := by
  unfold getN
  suffices h : ∀ (l : List UInt8) (n k : Nat), n < 256 ^ k → l.foldl (fun n c => 256 * n + c.toNat) n < 256 ^ (k + l.length) by
    have := h l 0 0 (by simp)
    simpa using this
  intro l
  induction l with
  | nil => intro n k h; simpa using h
  | cons c l ih =>
    intro n k h
    have := ih (256 * n + c.toNat) (k + 1) (by
      have hc : c.toNat < 256 := c.toNat_lt
      rw [Nat.pow_succ]; omega)
    simpa [Nat.add_assoc, Nat.add_comm 1] using this
theorem getN_snoc (l : List UInt8) (c : UInt8) : getN (l ++ [c]) = 256 * getN l + c.toNat := by simp [getN]
theorem pow_le8 (k : Nat) (h : k ≤ 8) : 256 ^ k ≤ 18446744073709551616 := Nat.le_trans (Nat.pow_le_pow_right (by omega) h) (Nat.le_of_eq rfl)
def endL (l : List UInt8) (bad : Int) : Int := if bad ≠ 0 then bad else if l ≠ [] then 3 else 0
theorem getN_be : ∀ (k n : Nat), n < 256 ^ k → getN (be k n) = n
  | 0, n, h => by simp at h; simp [be, getN, h]
  | k + 1, n, h => by
    show getN (be k (n / 256) ++ [UInt8.ofNat n]) = n
    rw [getN_snoc, getN_be k (n / 256) (by rw [Nat.pow_succ] at h; omega), UInt8.toNat_ofNat']
    omega
end Oct
end Go.Proofs.YtaepgceodcdnhaaDoor
