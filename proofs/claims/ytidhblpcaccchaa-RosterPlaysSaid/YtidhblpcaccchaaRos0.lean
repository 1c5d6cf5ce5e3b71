/- Rosters: the plain model. No program is named here. -/
import Derived.Test.YtidhblpcaccchaaLrn0
namespace Go.Proofs.Ytidhblpcaccchaa.Ros
open View (VS WF Mem)
open Lrn (Cmd ap)
structure Wd where
  n : Nat
  l : Nat
  e : Int
  q : Int
  c : Bool
  a : Int
structure RS where
  su : Int
  wa : Int
  now : Int
  W : Nat → Wd
  S : Nat → Int
  G : Nat → Cmd
def c0 : Cmd := ⟨0, 0, 0, 0, 0⟩
def w0 : Wd := ⟨0, 0, 0, 0, false, 0⟩
def newR (su wa : Int) : RS := ⟨su, wa, 0, fun _ => w0, fun _ => 0, fun _ => c0⟩
def put {α : Type} (f : Nat → α) (k : Nat) (x : α) : Nat → α := fun i => if i = k then x else f i
def hearB (r : RS) (w : Wd) : Bool := decide (1 ≤ w.n ∧ w.n ≤ 8 ∧ 1 ≤ w.l ∧ w.l ≤ 200 ∧ (r.W w.n).l ≤ w.l)
def hear (r : RS) (w : Wd) : RS := if hearB r w then { r with W := put r.W w.n { w with a := r.now } } else r
def grantB (c : Cmd) : Bool := decide (c.k = 4 ∧ 1 ≤ c.n ∧ c.n ≤ 8)
def granted (r : RS) (c : Cmd) : RS := if grantB c then { r with S := put r.S c.n r.now, G := put r.G c.n c } else r
def missed (r : RS) : RS := { r with S := fun _ => r.now }
def tick (r : RS) : RS := { r with now := r.now + 1 }
def has (r : RS) (m : Mem) : Bool := (r.W m.node).l == m.life && decide (0 < (r.W m.node).l)
def lost (r : RS) (m : Mem) : Bool := decide (m.life < (r.W m.node).l) || (decide (r.su ≤ r.now - (r.W m.node).a) && has r m) || (!has r m && decide (r.su ≤ r.now))
def remC (m : Mem) : Cmd := ⟨2, m.node, m.life, 0, 0⟩
def remB (r : RS) (v : VS) (m : Mem) : Bool := lost r m && !decide (r.now - r.S m.node < r.wa) && (ap v (remC m)).2
def addC (w : Wd) : Cmd := ⟨1, w.n, w.l, 0, 0⟩
def addB (r : RS) (v : VS) (w : Wd) : Bool := !(w.l == 0 || decide (r.su < r.now - w.a)) && (ap v (addC w)).2
def setC (m : Mem) : Cmd := ⟨3, m.node, m.life, 0, 0⟩
def setB (r : RS) (v : VS) (m : Mem) : Bool := has r m && !m.ready && (r.W m.node).c && ((r.W m.node).e == v.e)
def grC (r : RS) (v : VS) (m : Mem) : Cmd := ⟨4, m.node, m.life, v.e, (r.W m.node).q⟩
def grB (r : RS) (v : VS) (m : Mem) : Bool := has r m && ((r.W m.node).e == v.e) && !((r.W m.node).q == 0) && !(r.G m.node == grC r v m)
def words (r : RS) : List Wd := [r.W 0, r.W 1, r.W 2, r.W 3, r.W 4, r.W 5, r.W 6, r.W 7, r.W 8]
def want (r : RS) (v : VS) : Option Cmd :=
  match v.ms.find? (remB r v) with
  | some m => some (remC m)
  | none => match (words r).find? (addB r v) with
    | some w => some (addC w)
    | none => match v.ms.find? (setB r v) with
      | some m => some (setC m)
      | none => (v.ms.find? (grB r v)).map (grC r v)
end Go.Proofs.Ytidhblpcaccchaa.Ros
