/- Plain model of layer 20: a replica of all keys, and what it sends. -/
import Derived.Test.YtafcbipmmjegcaaVF
namespace Go.Proofs.Ytafcbipmmjegcaa
open Go.RowKit
namespace Rep
open Vm.X5 (hasV othV aheadV behindV)
open View (Mem VS)
structure Stp where
  n : Nat
  b : Nat
  l : Nat
  deriving DecidableEq
structure Wrd where
  s : Stp
  h : Bool
  t : ByteArray
  r : Bool
  deriving DecidableEq
structure Cel where
  w : Wrd
  st : Nat
  deriving DecidableEq
structure Drv where
  w : Wrd
  own : Bool
  acks : Nat → Bool
  cov : Bool
  tk : Nat
structure Plc where
  c : Cel
  dr : Option Drv
  age : Nat
structure RS where
  self : Nat
  life : Nat
  v : VS
  P : Nat → Plc
  has : Nat → Bool
  calls : Nat
structure Fm where
  kind : Nat
  frm : Nat
  to : Nat
  epoch : Int
  key : Nat
  w : Wrd
  flag : Bool
  dir : Nat
  deriving DecidableEq
structure Ev where
  key : Nat
  kind : Nat
  s : Stp
  deriving DecidableEq
def put {α : Type} (f : Nat → α) (k : Nat) (x : α) : Nat → α := fun j => if j = k then x else f j
theorem put_at {α : Type} (f : Nat → α) (k : Nat) (x : α) : put f k x k = x := if_pos rfl
theorem put_ne {α : Type} (f : Nat → α) (k : Nat) (x : α) {j : Nat} (h : j ≠ k) : put f k x j = f j := if_neg h
theorem put_put {α : Type} (f : Nat → α) (k : Nat) (x y : α) : put (put f k x) k y = put f k y := by
  funext j; unfold put; split <;> rfl
theorem put_self {α : Type} (f : Nat → α) (k : Nat) : put f k (f k) = f := by
  funext j; unfold put; split <;> simp [*]
/-! stamps, cells -/
def less (a b : Stp) : Bool := decide (a.n < b.n ∨ a.n = b.n ∧ (a.b < b.b ∨ a.b = b.b ∧ a.l < b.l))
def nextS (s : Stp) (d node life : Nat) : Option Stp := if s.n + d ≤ 4294967295 then some ⟨s.n + d, node, life⟩ else none
def inv (c : Cel) (w : Wrd) : Cel × Nat := if less c.w.s w.s then (⟨w, 2⟩, 1) else if c.w.s = w.s then (c, 2) else if w.r then (c, 4) else (c, 3)
def val (c : Cel) (s : Stp) : Cel × Bool := if c.st = 2 ∧ c.w.s = s then (⟨c.w, 1⟩, true) else (c, false)
def give (c : Cel) (w : Wrd) (ok : Bool) : Cel × Bool := if c.st = 0 ∨ less c.w.s w.s = true then (⟨w, if ok then 1 else 2⟩, true) else if ok then val c w.s else (c, false)
/-! drives -/
def newD (w : Wrd) (own : Bool) : Drv := ⟨w, own, fun _ => false, false, 0⟩
def ackD (d : Drv) (n : Nat) (c : Bool) : Drv := { d with acks := put d.acks n true, cov := d.cov || c }
def doneD (d : Drv) (l : List Nat) : Bool := l.all d.acks
def tickD (d : Drv) (every : Nat) : Drv × Bool := if d.tk + 1 < every then ({ d with tk := d.tk + 1 }, false) else ({ d with tk := 0 }, true)
/-! replicas -/
abbrev Out := RS × List Fm × List Ev
def z0 : Wrd := ⟨⟨0, 0, 0⟩, false, ⟨#[]⟩, false⟩
def ad (n : Nat) : Nat := (16 + n) % 256
def inR (r : RS) : Bool := hasV r.v.ms r.self r.life
def oth (r : RS) : List Nat := othV r.v.ms r.self
def frW (r : RS) (kind node key : Nat) (w : Wrd) (flag : Bool) (dir : Nat) : Fm := ⟨kind, ad r.self, ad node, r.v.e, key, w, flag, dir⟩
abbrev fr (r : RS) (kind node key : Nat) : Fm := frW r kind node key z0 false 0
abbrev zS (s : Stp) : Wrd := ⟨s, false, ⟨#[]⟩, false⟩
def sent (r : RS) (k : Nat) (w : Wrd) : List Fm :=
  (if aheadV r.v.ms r.self = 0 then [] else [frW r 1 (aheadV r.v.ms r.self) k w false 1]) ++
  (if behindV r.v.ms r.self = 0 then [] else [frW r 1 (behindV r.v.ms r.self) k w false 2])
def setP (r : RS) (k : Nat) (p : Plc) : RS := { r with P := put r.P k p }
def look (r : RS) (k : Nat) : Out :=
  match (r.P k).dr with
  | none => (r, [], [])
  | some d => if doneD d (oth r) then
      (if (r.P k).c.w.s = d.w.s ∧ d.cov = false then
        (setP r k { r.P k with dr := none, c := (val (r.P k).c d.w.s).1 }, (oth r).map (fun n => frW r 3 n k (zS d.w.s) false 0), if d.own then [⟨k, 1, d.w.s⟩] else [])
      else (setP r k { r.P k with dr := none }, [], if d.own then [⟨k, 1, d.w.s⟩] else []))
    else (r, [], [])
def way (r : RS) (k : Nat) : RS × List Ev :=
  match (r.P k).dr with
  | none => (setP r k { r.P k with age := 0 }, [])
  | some d => if d.own then (if d.w.r then (setP r k { r.P k with age := 0, dr := none }, [⟨k, 2, d.w.s⟩]) else (setP r k { r.P k with age := 0 }, []))
    else (setP r k { r.P k with age := 0, dr := none }, [])
def rest (r : RS) (k : Nat) : RS :=
  match (r.P k).dr with
  | none => setP r k { r.P k with age := 0 }
  | some d => if d.own then setP r k { r.P k with age := 0 } else setP r k { r.P k with age := 0, dr := none }
def again (r : RS) (k : Nat) : RS × List Fm :=
  match (r.P k).dr with
  | none => (r, [])
  | some d => if inR r then (setP r k { r.P k with dr := some (newD d.w d.own) }, sent r k d.w) else (r, [])
def againL (r : RS) : List Nat → RS × List Fm
  | [] => (r, [])
  | k :: l => ((againL (again r k).1 l).1, (again r k).2 ++ (againL (again r k).1 l).2)
def enter (r : RS) (v : VS) : RS × List Fm := againL { r with v := v } [0, 1, 2, 3, 4, 5]
def free (r : RS) (k : Nat) : Bool := inR r && (decide (k < 6) && (r.has k && (decide ((r.P k).c.st = 1) && (r.P k).dr.isNone)))
def write (r : RS) (k : Nat) (h : Bool) (t : ByteArray) (rmw : Bool) : Out × Option Stp :=
  if free r k then
    match nextS (r.P k).c.w.s (if rmw then 1 else 2) r.self r.life with
    | none => ((r, [], []), none)
    | some s => (((look (setP r k ⟨⟨⟨s, h, t, rmw⟩, 2⟩, some (newD ⟨s, h, t, rmw⟩ true), 0⟩) k).1, sent r k ⟨s, h, t, rmw⟩ ++ (look (setP r k ⟨⟨⟨s, h, t, rmw⟩, 2⟩, some (newD ⟨s, h, t, rmw⟩ true), 0⟩) k).2.1,
        (look (setP r k ⟨⟨⟨s, h, t, rmw⟩, 2⟩, some (newD ⟨s, h, t, rmw⟩ true), 0⟩) k).2.2), some s)
  else ((r, [], []), none)
def sender (r : RS) (f : Fm) : Option Nat := if inR r = true ∧ f.to = ad r.self ∧ f.epoch = r.v.e ∧ f.key < 6 then (oth r).find? (fun n => ad n == f.frm) else none
def sendOn (r : RS) (f : Fm) : List Fm :=
  if f.dir = 1 then (if aheadV r.v.ms r.self = 0 then [] else [{ f with to := ad (aheadV r.v.ms r.self) }])
  else if f.dir = 2 then (if behindV r.v.ms r.self = 0 then [] else [{ f with to := ad (behindV r.v.ms r.self) }]) else []
def setC (r : RS) (k : Nat) (c : Cel) : RS := setP r k { r.P k with c := c }
def onInv (r : RS) (f : Fm) (frm : Nat) : Out :=
  if (inv (r.P f.key).c f.w).2 = 4 then (r, sendOn r f ++ [frW r 1 frm f.key (r.P f.key).c.w false 0], [])
  else if (inv (r.P f.key).c f.w).2 = 1 then
    ((way (setC r f.key (inv (r.P f.key).c f.w).1) f.key).1, sendOn r f ++ [frW r 2 frm f.key (zS f.w.s) false 0], (way (setC r f.key (inv (r.P f.key).c f.w).1) f.key).2)
  else (setC r f.key (inv (r.P f.key).c f.w).1, sendOn r f ++ [frW r 2 frm f.key (zS f.w.s) (decide ((inv (r.P f.key).c f.w).2 = 3)) 0], [])
def onAck (r : RS) (f : Fm) (frm : Nat) : Out :=
  match (r.P f.key).dr with
  | none => (r, [], [])
  | some d => if d.w.s = f.w.s then look (setP r f.key { r.P f.key with dr := some (ackD d frm f.flag) }) f.key else (r, [], [])
def onVal (r : RS) (f : Fm) : RS := if (val (r.P f.key).c f.w.s).2 then rest (setC r f.key (val (r.P f.key).c f.w.s).1) f.key else r
def onNeed (r : RS) (f : Fm) (frm : Nat) : List Fm := if r.has f.key then [frW r 5 frm f.key (r.P f.key).c.w (decide ((r.P f.key).c.st = 1)) 0] else []
def got (r : RS) (k : Nat) : RS := { r with has := put r.has k true }
def onGive (r : RS) (f : Fm) : RS × List Ev :=
  if (give (r.P f.key).c f.w f.flag).2 then
    (if less (r.P f.key).c.w.s (give (r.P f.key).c f.w f.flag).1.w.s then way (setC (got r f.key) f.key (give (r.P f.key).c f.w f.flag).1) f.key
    else (rest (setC (got r f.key) f.key (give (r.P f.key).c f.w f.flag).1) f.key, []))
  else (got r f.key, [])
def on (r : RS) (f : Fm) (lease : Bool) : Out :=
  match sender r f with
  | none => (r, [], [])
  | some frm =>
    if f.kind = 1 then onInv r f frm
    else if f.kind = 2 then (if lease then onAck r f frm else (r, [], []))
    else if f.kind = 3 then (onVal r f, [], [])
    else if f.kind = 4 then (r, onNeed r f frm, [])
    else if f.kind = 5 then ((onGive r f).1, [], (onGive r f).2)
    else (r, [], [])
def complete (r : RS) : Bool := r.has 0 && (r.has 1 && (r.has 2 && (r.has 3 && (r.has 4 && r.has 5))))
def needs (r : RS) : List (Nat × Nat) := if oth r = [] then [] else (([0, 1, 2, 3, 4, 5].filter fun k => !r.has k).map fun k => (k, (oth r).getD ((r.calls + k) % (oth r).length) 0))
def stall (r : RS) (k : Nat) (replay : Nat) (lease : Bool) : RS × List Fm :=
  if r.has k = true ∧ (r.P k).c.st = 2 then
    (if (r.P k).age + 1 ≥ replay ∧ lease = true then
      (if (r.P k).c.w.r = true ∧ hasV r.v.ms (r.P k).c.w.s.b (r.P k).c.w.s.l = true then
        (setP r k { r.P k with age := 0 }, if (r.P k).c.w.s.b = r.self then [] else [fr r 4 (r.P k).c.w.s.b k])
      else (setP r k { r.P k with age := 0, dr := some (newD (r.P k).c.w false) }, sent r k (r.P k).c.w))
    else (setP r k { r.P k with age := (r.P k).age + 1 }, []))
  else (r, [])
def beat (r : RS) (k : Nat) (every : Nat) : RS × List Fm :=
  match (r.P k).dr with
  | none => (r, [])
  | some d => (setP r k { r.P k with dr := some (tickD d every).1 }, if (tickD d every).2 then sent r k d.w else [])
def tickK (r : RS) (k : Nat) (every replay : Nat) (lease : Bool) : Out :=
  match (r.P k).dr with
  | some _ => if lease then ((beat (look r k).1 k every).1, (look r k).2.1 ++ (beat (look r k).1 k every).2, (look r k).2.2) else ((beat r k every).1, (beat r k every).2, [])
  | none => ((stall r k replay lease).1, (stall r k replay lease).2, [])
def tickL (r : RS) (every replay : Nat) (lease : Bool) : List Nat → Out
  | [] => (r, [], [])
  | k :: l => ((tickL (tickK r k every replay lease).1 every replay lease l).1, (tickK r k every replay lease).2.1 ++ (tickL (tickK r k every replay lease).1 every replay lease l).2.1, (tickK r k every replay lease).2.2 ++ (tickL (tickK r k every replay lease).1 every replay lease l).2.2)
def asked (r : RS) : RS × List Fm := if complete r then (r, []) else ({ r with calls := r.calls + 1 }, (needs r).map fun n => fr r 4 n.2 n.1)
def tick (r : RS) (every replay : Nat) (lease : Bool) : Out :=
  if inR r then ((tickL (asked r).1 every replay lease [0, 1, 2, 3, 4, 5]).1, (asked r).2 ++ (tickL (asked r).1 every replay lease [0, 1, 2, 3, 4, 5]).2.1, (tickL (asked r).1 every replay lease [0, 1, 2, 3, 4, 5]).2.2) else (r, [], [])
def begun (self life : Nat) (whole : Bool) : RS := ⟨self, life, ⟨0, [], fun _ => 0⟩, fun _ => ⟨⟨z0, if whole then 1 else 0⟩, none, 0⟩, fun _ => whole, 0⟩
end Rep
end Go.Proofs.Ytafcbipmmjegcaa
