/- Registers: plain. What an operation does. No program is named here. -/
import Derived.Test.YtfealopjdkilfaaDoorReg0
namespace Go.Proofs.YtfealopjdkilfaaDoor.Reg
open Go Go.Lib
structure Val where
  h : Bool
  t : List UInt8
  deriving DecidableEq
structure Op where
  k : Int
  key : Int
  t : List UInt8
  o : Val
  n : Int
structure Res where
  v : Val
  e : Int
  a : Val
  w : Bool
def goodV (v : Val) : Bool := decide (v.t.length ≤ 32) && (v.h || decide (v.t = []))
def good (x : Op) : Bool := decide (1 ≤ x.k) && (decide (x.k ≤ 5) && (decide (0 ≤ x.key) && (decide (x.key < 6) && (decide (x.t.length ≤ 32) && goodV x.o))))
def numV (v : Val) : Option Int := if v.h = true then num? v.t else some 0
def zeroV : Val := ⟨false, []⟩
def stay (v : Val) (e : Int) : Res := ⟨v, e, v, false⟩
/-- is a sum beyond 64 bits? -/
def over (n m : Int) : Bool := decide (n + m < -9223372036854775808) || decide (9223372036854775807 < n + m)
def sumV (n m : Int) : Val := ⟨true, itoa (n + m)⟩
def addR (v : Val) (m : Int) : Res := match numV v with
  | none => stay v 4
  | some n => if over n m = true then stay v 9 else ⟨sumV n m, 0, sumV n m, true⟩
def applyR (v : Val) (x : Op) : Res :=
  if good x = false then ⟨v, 1, zeroV, false⟩
  else if x.k = 2 then ⟨⟨true, x.t⟩, 0, zeroV, true⟩
  else if x.k = 3 then ⟨zeroV, 0, zeroV, true⟩
  else if x.k = 4 then (if v = x.o then ⟨⟨true, x.t⟩, 0, zeroV, true⟩ else stay v 11)
  else if x.k = 5 then addR v x.n
  else stay v 0
theorem numV_in {v : Val} {n : Int} (h : numV v = some n) : In64 n := by
  unfold numV at h
  split at h
  · exact (num?_some h).1
  · cases h; exact ⟨by decide, by decide⟩
theorem over_in {n m : Int} (h : over n m = false) : In64 (n + m) := by
  unfold over at h
  rw [Bool.or_eq_false_iff, decide_eq_false_iff_not, decide_eq_false_iff_not] at h
  exact ⟨by omega, by omega⟩
theorem itoa_len {v : Int} (h : In64 v) : (itoa v).length ≤ 20 := by
  have h1 := h.1
  have h2 := h.2
  unfold itoa
  split
  · have := dec_len (u := v.natAbs) (by omega)
    rw [List.length_cons]; omega
  · have := dec_len (u := v.toNat) (by omega)
    omega
theorem applyR_len {v : Val} (h : v.t.length ≤ 100) (x : Op) : (applyR v x).v.t.length ≤ 100 := by
  unfold applyR
  by_cases g : good x = false
  · rw [if_pos g]; exact h
  rw [if_neg g]
  have ht : x.t.length ≤ 100 := by
    have g : good x = true := by simpa using g
    unfold good at g
    simp only [Bool.and_eq_true, decide_eq_true_eq] at g
    omega
  split
  · exact ht
  split
  · exact Nat.zero_le _
  split
  · split
    · exact ht
    · exact h
  split
  · unfold addR
    split
    · exact h
    · split
      · exact h
      · rename_i hn ho
        have := itoa_len (over_in (by simpa using ho))
        show (itoa _).length ≤ 100
        omega
  · exact h
/-- what number() tells -/
def numR (v : Val) : Int × Bool := match numV v with
  | some n => (n, true)
  | none => (0, false)
end Go.Proofs.YtfealopjdkilfaaDoor.Reg
