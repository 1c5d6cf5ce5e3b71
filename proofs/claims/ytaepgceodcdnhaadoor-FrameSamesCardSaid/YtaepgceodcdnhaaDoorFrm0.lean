/- Frames: plain. No program is named here. -/
import Derived.Test.YtaepgceodcdnhaaDoorOct2
import Derived.Test.YtaepgceodcdnhaaDoorCrc0
namespace Go.Proofs.YtaepgceodcdnhaaDoor.Frm
open Oct (Part joinRes be getN takeL)
def num (z : Int) (n : Nat) : Part := ⟨1, z, n, ⟨#[]⟩⟩
def text (x : List UInt8) : Part := ⟨2, 0, 0, ⟨x.toArray⟩⟩
def raw (x : List UInt8) : Part := ⟨3, 0, 0, ⟨x.toArray⟩⟩
def one (b : Bool) : Nat := if b then 1 else 0
structure Cmd where
  k : Nat
  n : Nat
  l : Nat
  e : Nat
  q : Nat
  deriving DecidableEq
structure Mem where
  n : Nat
  l : Nat
  r : Bool
  deriving DecidableEq
structure Ent where
  s : Nat
  n : Nat
  b : Nat
  c : Cmd
  deriving DecidableEq
structure Lvs where
  l0 : Nat
  l1 : Nat
  l2 : Nat
  l3 : Nat
  l4 : Nat
  l5 : Nat
  l6 : Nat
  l7 : Nat
  deriving DecidableEq
structure Fm where
  kind : Nat
  frm : Nat
  to : Nat
  ep : Nat
  key : Nat
  sn : Nat
  sb : Nat
  sl : Nat
  has : Bool
  x : List UInt8
  rmw : Bool
  flag : Bool
  dir : Nat
  life : Nat
  req : Nat
  bn : Nat
  bb : Nat
  slot : Nat
  c : Cmd
  ve : Nat
  ms : List Mem
  lv : Lvs
  es : List Ent
  deriving DecidableEq
def Cmd.ps (c : Cmd) : List Part := [num 1 c.k, num 1 c.n, num 1 c.l, num 4 c.e, num 4 c.q]
def Cmd.bs (c : Cmd) : List UInt8 := be 1 c.k ++ (be 1 c.n ++ (be 1 c.l ++ (be 4 c.e ++ be 4 c.q)))
def Mem.ps (m : Mem) : List Part := [num 1 m.n, num 1 m.l, num 1 (one m.r)]
def Mem.bs (m : Mem) : List UInt8 := be 1 m.n ++ (be 1 m.l ++ be 1 (one m.r))
def Ent.ps (x : Ent) : List Part := num 4 x.s :: num 4 x.n :: num 1 x.b :: x.c.ps
def Ent.bs (x : Ent) : List UInt8 := be 4 x.s ++ (be 4 x.n ++ (be 1 x.b ++ x.c.bs))
def Lvs.bs (l : Lvs) : List UInt8 := [UInt8.ofNat l.l0, UInt8.ofNat l.l1, UInt8.ofNat l.l2, UInt8.ofNat l.l3, UInt8.ofNat l.l4, UInt8.ofNat l.l5, UInt8.ofNat l.l6, UInt8.ofNat l.l7]
/-- the parts of a field: its letter by its number -/
def Fm.ps (f : Fm) (c : Nat) : List Part :=
  if c = 101 then [num 4 f.ep] else if c = 107 then [num 1 f.key] else if c = 115 then [num 4 f.sn, num 1 f.sb, num 1 f.sl]
  else if c = 118 then [num 1 (one f.has), text f.x] else if c = 114 then [num 1 (one f.rmw)] else if c = 102 then [num 1 (one f.flag)]
  else if c = 100 then [num 1 f.dir] else if c = 108 then [num 1 f.life] else if c = 113 then [num 4 f.req] else if c = 98 then [num 4 f.bn, num 1 f.bb]
  else if c = 110 then [num 4 f.slot] else if c = 99 then f.c.ps
  else if c = 119 then num 4 f.ve :: num 1 f.ms.length :: (f.ms.flatMap Mem.ps ++ [raw f.lv.bs])
  else num 1 f.es.length :: f.es.flatMap Ent.ps
def Fm.fb (f : Fm) (c : Nat) : List UInt8 :=
  if c = 101 then be 4 f.ep else if c = 107 then be 1 f.key else if c = 115 then be 4 f.sn ++ (be 1 f.sb ++ be 1 f.sl)
  else if c = 118 then be 1 (one f.has) ++ (UInt8.ofNat f.x.length :: f.x) else if c = 114 then be 1 (one f.rmw) else if c = 102 then be 1 (one f.flag)
  else if c = 100 then be 1 f.dir else if c = 108 then be 1 f.life else if c = 113 then be 4 f.req else if c = 98 then be 4 f.bn ++ be 1 f.bb
  else if c = 110 then be 4 f.slot else if c = 99 then f.c.bs
  else if c = 119 then be 4 f.ve ++ (be 1 f.ms.length ++ (f.ms.flatMap Mem.bs ++ f.lv.bs))
  else be 1 f.es.length ++ f.es.flatMap Ent.bs
def valOk (h : Bool) (x : List UInt8) : Bool := decide (x.length ≤ 32) && (h || decide (x = []))
def Fm.may (f : Fm) (c : Nat) : Bool :=
  if c = 107 then decide (f.key < 6) else if c = 118 then valOk f.has f.x else if c = 119 then decide (f.ms.length ≤ 8) else if c = 116 then decide (f.es.length ≤ 16) else true
/-- the letters of a kind's fields -/
def fields : List (List Nat) := [[], [101, 107, 115, 118, 114, 100], [101, 107, 115, 102], [101, 107, 115], [101, 107], [101, 107, 115, 118, 114, 102], [101, 108, 113, 102], [119], [101, 108, 113], [98, 110], [98, 110, 116], [98], [98, 110, 99], [98, 110], [110, 99], [110, 102], [110, 119]]
def lets (k : Nat) : List Nat := fields.getD k []
def isLet (c : Nat) : Bool := [101, 107, 115, 118, 114, 102, 100, 108, 113, 98, 110, 99, 119, 116].contains c
theorem lets_ok (k : Nat) : ∀ c ∈ lets k, isLet c = true := by
  unfold lets
  rcases Nat.lt_or_ge k 17 with h | h
  · have : k = 0 ∨ k = 1 ∨ k = 2 ∨ k = 3 ∨ k = 4 ∨ k = 5 ∨ k = 6 ∨ k = 7 ∨ k = 8 ∨ k = 9 ∨ k = 10 ∨ k = 11 ∨ k = 12 ∨ k = 13 ∨ k = 14 ∨ k = 15 ∨ k = 16 := by omega
    rcases this with rfl | rfl | rfl | rfl | rfl | rfl | rfl | rfl | rfl | rfl | rfl | rfl | rfl | rfl | rfl | rfl | rfl <;> decide
  · rw [List.getD_eq_getElem?_getD, List.getElem?_eq_none (by simpa [fields] using h)]
    intro c hc; cases hc
/-- a frame within its numbers' sizes -/
structure Cmd.Ok (c : Cmd) : Prop where
  k : c.k < 256
  n : c.n < 256
  l : c.l < 256
  e : c.e < 4294967296
  q : c.q < 4294967296
structure Mem.Ok (m : Mem) : Prop where
  n : m.n < 256
  l : m.l < 256
structure Ent.Ok (x : Ent) : Prop where
  s : x.s < 4294967296
  n : x.n < 4294967296
  b : x.b < 256
  c : x.c.Ok
structure Lvs.Ok (l : Lvs) : Prop where
  l0 : l.l0 < 256
  l1 : l.l1 < 256
  l2 : l.l2 < 256
  l3 : l.l3 < 256
  l4 : l.l4 < 256
  l5 : l.l5 < 256
  l6 : l.l6 < 256
  l7 : l.l7 < 256
structure Fm.Ok (f : Fm) : Prop where
  kind : f.kind < 256
  frm : f.frm < 256
  to : f.to < 256
  ep : f.ep < 4294967296
  key : f.key < 256
  sn : f.sn < 4294967296
  sb : f.sb < 256
  sl : f.sl < 256
  x : f.x.length ≤ 1000000000
  dir : f.dir < 256
  life : f.life < 256
  req : f.req < 4294967296
  bn : f.bn < 4294967296
  bb : f.bb < 256
  slot : f.slot < 4294967296
  c : f.c.Ok
  ve : f.ve < 4294967296
  ms : f.ms.length ≤ 10
  mo : ∀ m ∈ f.ms, m.Ok
  lv : f.lv.Ok
  es : f.es.length ≤ 18
  eo : ∀ x ∈ f.es, x.Ok
end Go.Proofs.YtaepgceodcdnhaaDoor.Frm
