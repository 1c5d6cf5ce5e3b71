/- Sessions by the engine: records, what a record changes. -/
import Derived.Test.YtaepgceodcdnhaaJC
import Derived.Test.YtaepgceodcdnhaaSes0
namespace Go.Proofs.Ytaepgceodcdnhaa.Vm
open Go Go.RowKit
set_option maxRecDepth 100000
namespace X22
open Ses (Cl Tb look put lost Rc step num text)
open Oct (Part joinRes room)
open Jrn (Dk)
open X9 (dkC obsK)
open X10 (strs jC obsJ)
theorem otext_any (x : List UInt8) (Q : T → Obs → Glb → Prop) (hQ : ∀ y, y = .agg (X1.partC (text x)) → Q y [] none_) : TCalls Try.prog 48 [str x] [] none_ Q := by
  refine TCalls.of Try.func48 rfl (CanCall.of Try.func48 rfl (by decide)) [] fun Γ => ?_
  refine run_sound (⟨fun _ _ => .no, [], fun _ => none⟩) 400 (B := ∀ (b : Nat), ((4 : Nat) = nat_lit 4 ∧ List.all [T.v (Value.int IntKind.i64 (2 : Int)), T.v (Value.int IntKind.i64 (0 : Int)), T.v (Value.int IntKind.u64 (0 : Int)), T.v (Value.string (ByteArray.mk (List.toArray x)))] T.one = true) ∧ b = b ∧ (0 : Nat) + nat_lit 4 ≤ (4 : Nat) ∧ b = b ∧ Q (T.agg [T.v (Value.int IntKind.i64 (2 : Int)), T.v (Value.int IntKind.i64 (0 : Int)), T.v (Value.int IntKind.u64 (0 : Int)), T.v (Value.string (ByteArray.mk (List.toArray x)))]) [] fun x => none) (by kernel_rfl) ?_
  repeat' (first | exact rfl | exact Nat.le_of_ble_eq_true rfl | refine And.intro ?_ ?_ | intro _ | refine bsplit_mk (fun _ => ?_) (fun _ => ?_))
  all_goals first
    | exact hQ _ rfl
    | trace_state
theorem wide_any (n : Nat) (hn : n < 4294967296) (Q : T → Obs → Glb → Prop) (hQ : ∀ y, y = .agg (X1.partC (num 4 n)) → Q y [] none_) : TCalls Try.prog 46 [u32 n] [] none_ Q := by
  have hw : T.v (.int .u64 (IntKind.wrap .u64 (n : Int))) = u64 n := congrArg u64 (IntWalk.u64_in _ (by omega))
  refine TCalls.of Try.func46 rfl (CanCall.of Try.func46 rfl (by decide)) [] fun Γ => ?_
  refine run_sound (⟨fun | 1, 1 => .res (u64 n) | 1, 2 => told (.agg (X1.partC (num 4 n))) [] [] | _, _ => .no, [], fun  | _ => none⟩) 400 (B := ∀ (b : Nat), T.v (Value.int IntKind.u64 (IntKind.wrap IntKind.u64 (↑n : Int))) = T.v (Value.int IntKind.u64 (↑n : Int)) ∧ TCalls Try.prog (47 : Nat) [T.v (Value.int IntKind.u64 (↑n : Int)), T.v (Value.int IntKind.i64 (4 : Int))] [] (fun x => none) (callPost (Hint.call false Unit (fun x => True) [] false (fun x => T.agg (X1.partC (num (4 : Int) n))) (fun x => []) fun x => none_)) ∧ ∀ (a : Unit), True → ((4 : Nat) = nat_lit 4 ∧ List.all [T.v (Value.int IntKind.i64 (Part.kind (num (4 : Int) n))), T.v (Value.int IntKind.i64 (Part.size (num (4 : Int) n))), T.v (Value.int IntKind.u64 (↑(Part.n (num (4 : Int) n)) : Int)), T.v (Value.string (Part.s (num (4 : Int) n)))] T.one = true) ∧ b = b ∧ (0 : Nat) + nat_lit 4 ≤ (4 : Nat) ∧ b = b ∧ Q (T.agg [T.v (Value.int IntKind.i64 (Part.kind (num (4 : Int) n))), T.v (Value.int IntKind.i64 (Part.size (num (4 : Int) n))), T.v (Value.int IntKind.u64 (↑(Part.n (num (4 : Int) n)) : Int)), T.v (Value.string (Part.s (num (4 : Int) n)))]) [] fun x => none) (by kernel_rfl) ?_
  repeat' (first | exact rfl | exact Nat.le_of_ble_eq_true rfl | refine And.intro ?_ ?_ | intro _ | refine bsplit_mk (fun _ => ?_) (fun _ => ?_))
  all_goals first
    | exact hw
    | exact X2.onum_any n 4 _ (fun x hx => told_post hx)
    | exact hQ _ rfl
    | trace_state
theorem parts_cons (p : Part) (ps : List Part) : X1.parts (p :: ps) = .agg (X1.partC p) :: X1.parts ps := rfl
theorem record_any (k : Nat) (ps : List Part) (hroom : room (num 1 k :: ps) ≤ 140737488355328) (hn : ∀ p ∈ num 1 k :: ps, p.n < 18446744073709551616) (hl : ps.length ≤ 1000000) (Q : T → Obs → Glb → Prop)
    (hQ : ∀ x, x = str (joinRes (num 1 k :: ps) []).1 → Q x [] none_) : TCalls Try.prog 45 [u64 k, .sl 4 (X1.parts ps)] [] none_ Q := by
  have hj := X1.join_any (num 1 k :: ps) hroom hn (by rw [List.length_cons]; omega) _ (fun x hx => told_post (sel := []) (ob := []) hx)
  have hpl := X1.parts_len ps
  refine TCalls.of Try.func45 rfl (CanCall.of Try.func45 rfl (by decide)) [] fun Γ => ?_
  refine run_sound (⟨fun | 1, 1 => told (.agg (X1.partC (num 1 k))) [] [] | 1, 2 => .plain .no | 1, 5 => .plain (told (.tup [str (joinRes (num 1 k :: ps) []).1, int (joinRes (num 1 k :: ps) []).2]) [] []) | _, _ => .no, [], fun  | _ => none⟩) 400 (B := TCalls Try.prog (47 : Nat) [T.v (Value.int IntKind.u64 (↑k : Int)), T.v (Value.int IntKind.i64 (1 : Int))] [] (fun x => none) (callPost (Hint.call false Unit (fun x => True) [] false (fun x => T.agg (X1.partC (num (1 : Int) k))) (fun x => []) fun x => none_)) ∧ ∀ (a : Unit), True → ∀ (x : Value), (x = x ∧ (1 : Nat) = (1 : Nat)) ∧ Fits ((1 : Nat) + List.length (X1.parts ps)) (nat_lit 40) ∧ ∀ (x : Value), True ∧ TCalls Try.prog (56 : Nat) [T.slx (4 : Nat) (0 : Nat) (T.agg [T.v (Value.int IntKind.i64 (Part.kind (num (1 : Int) k))), T.v (Value.int IntKind.i64 (Part.size (num (1 : Int) k))), T.v (Value.int IntKind.u64 (↑(Part.n (num (1 : Int) k)) : Int)), T.v (Value.string (Part.s (num (1 : Int) k)))] :: X1.parts ps) x] [] (fun x => none) (callPost (Hint.call false Unit (fun x => True) [] false (fun x => T.tup [str (Prod.fst (joinRes (num (1 : Int) k :: ps) [])), int (Prod.snd (joinRes (num (1 : Int) k :: ps) []))]) (fun x => []) fun x => none_)) ∧ ∀ (a : Unit), True → True ∧ Q (T.v (Value.string (ByteArray.mk (List.toArray (Prod.fst (joinRes (num (1 : Int) k :: ps) [])))))) [] fun x => none) (by kernel_rfl) ?_
  repeat' (first | exact rfl | exact Nat.le_of_ble_eq_true rfl | refine And.intro ?_ ?_ | intro _ | refine bsplit_mk (fun _ => ?_) (fun _ => ?_))
  all_goals first
    | exact X2.onum_any k 1 _ (fun x hx => told_post hx)
    | exact hj
    | exact hQ _ rfl
    | exact trivial
    | exact TCalls.pre hj (Imp.slotR (ts := [_]) (j := 0) (t' := .sl 4 (X1.parts (num 1 k :: ps))) rfl fun _ _ h => weak_rel h)
    | (show _ ≤ 9223372036854775807; rw [hpl]; omega)
    | exact Nat.le_trans (Nat.mul_le_mul_right 40 (show 1 + (X1.parts ps).length ≤ 1000001 by omega)) (Nat.le_of_ble_eq_true rfl)
    | trace_state
def clC (c : Cl) : List T := [u32 c.q, bool c.o, int c.e, bool c.h, str c.x]
/-- a table's calls as a function of the session -/
def tF (l : List (Nat × Cl)) : Int → Option Cl := fun z => if 0 ≤ z then Ses.look l z.toNat else none
def mT (f : Int → Option Cl) : Int → Option T := fun z => (f z).map fun c => .agg (clC c)
def tC (jb lf mb : Nat) : List T := [.ptr 1 jb 0, u8 lf, .mp 4 mb]
def obsT (db jb tb mb : Nat) (d : Dk) (l : List (List UInt8)) (hd : Value) (dead : Bool) (lf : Nat) (f : Int → Option Cl) (es : Array MapEntry) (ck : Nat) : Obs :=
  [(db, .cells (dkC d)), (jb, .cells (jC db l hd dead)), (0, .room 1 9 (strs l).length hd), (tb, .cells (tC jb lf mb)), (mb, .map .u32 (mT f) es ck)]
def obsL (db jb tb mb ib : Nat) (d : Dk) (l : List (List UInt8)) (hd : Value) (dead : Bool) (lf : Nat) (f : Int → Option Cl) (es : Array MapEntry) (ck : Nat) (es0 : Array MapEntry) (ck0 : Nat) (left : List Int) (cur : Option Int) : Obs :=
  [(db, .cells (dkC d)), (jb, .cells (jC db l hd dead)), (0, .room 1 9 (strs l).length hd), (tb, .cells (tC jb lf mb)), (mb, .map .u32 (mT f) es ck), (ib, .iter 4 mb .u32 es0 ck0 left cur)]
def upF (f : Int → Option Cl) (z : Int) (c : Cl) : Int → Option Cl := fun y => if y = z then some c else f y
theorem upF_mT (f : Int → Option Cl) (z : Int) (c : Cl) (t : T) (h : t = .agg (clC c)) (y : Int) : mT (upF f z c) y = updT (mT f) z t y := by
  unfold mT upF updT
  split
  · rw [h]; rfl
  · rfl
section
variable (Γ : Ctx) (db jb tb mb ib : Nat) (d : Dk) (l : List (List UInt8)) (hd : Value) (dead : Bool) (lf : Nat)
theorem lose_body (f : Int → Option Cl) (es : Array MapEntry) (ck : Nat) (left : List Int) (y : Int) (c : Cl) (hc : f y = some c) (Q : T → Obs → Glb → Prop)
    (h1 : c.o = true → ∀ es' ck', UpdE es ck es' ck' (.int .u32 y) → TWk Try.prog Γ (fin Try.prog Try.f58 [0, 1, 2, 3, 4] Q) [.code (sub (bd Try.f58) [1, 0]), .blk 0] ⟨frame 25 [(0, .ptr 3 tb 0), (8, .ptr 5 ib 0)], obsL db jb tb mb ib d l hd dead lf (upF f y (lost c)) es' ck' es ck left (some y), none_⟩)
    (h2 : c.o = false → TWk Try.prog Γ (fin Try.prog Try.f58 [0, 1, 2, 3, 4] Q) [.code (sub (bd Try.f58) [1, 0]), .blk 0] ⟨frame 25 [(0, .ptr 3 tb 0), (8, .ptr 5 ib 0)], obsL db jb tb mb ib d l hd dead lf f es ck es ck left (some y), none_⟩) :
    TWk Try.prog Γ (fin Try.prog Try.f58 [0, 1, 2, 3, 4] Q) [.code (sub (bd Try.f58) [1, 0, 0, 1, 1, 0]), .blk 1, .code (sub (bd Try.f58) [1, 0]), .blk 0] ⟨frame 25 [(0, .ptr 3 tb 0), (8, .ptr 5 ib 0)], obsL db jb tb mb ib d l hd dead lf f es ck es ck left (some y), none_⟩ := by
  have hm : mT f y = some (.agg (clC c)) := by unfold mT; rw [hc]; rfl
  refine run_sound (⟨fun | 2, 0 => .res (.agg (clC c)) | 4, 9 => .fn (mT (upF f y (lost c))) | _, _ => .no, [((2, 1), ([0, 8], 6))], fun | 4 => some ⟨[3, 6], [9], .take true [0,1,2,3,4,5,6,7,8] (.one 9 .done)⟩ | _ => none⟩) 400 (B := (ib = ib ∧ mb = mb ∧ es = es ∧ ck = ck) ∧ mT f y = some (T.agg [T.v (Value.int IntKind.u32 (↑(Cl.q c) : Int)), T.v (Value.bool (Cl.o c)), T.v (Value.int IntKind.i64 (↑(Cl.e c) : Int)), T.v (Value.bool (Cl.h c)), T.v (Value.string (ByteArray.mk (List.toArray (Cl.x c))))]) ∧ ∀ (b : Nat), ((5 : Nat) = nat_lit 5 ∧ List.all [T.v (Value.int IntKind.u32 (↑(Cl.q c) : Int)), T.v (Value.bool (Cl.o c)), T.v (Value.int IntKind.i64 (↑(Cl.e c) : Int)), T.v (Value.bool (Cl.h c)), T.v (Value.string (ByteArray.mk (List.toArray (Cl.x c))))] T.one = true) ∧ b = b ∧ (0 : Nat) + nat_lit 5 ≤ (5 : Nat) ∧ b = b ∧ bsplit (Cl.o c) (tb = tb ∧ b = b ∧ mb = mb ∧ (∀ (z : Int), mT (upF f y (lost c)) z = updT (mT f) y (List.getD [T.ptr (3 : Nat) tb (0 : Nat), T.und, T.v (Value.int IntKind.u32 y), T.ptr (6 : Nat) b (0 : Nat), T.und, T.und, T.und, T.und, T.ptr (5 : Nat) ib (0 : Nat), T.und, T.und, T.tup [T.v (Value.int IntKind.u32 y), T.agg [T.v (Value.int IntKind.u32 (↑(Cl.q c) : Int)), T.v (Value.bool (Cl.o c)), T.v (Value.int IntKind.i64 (↑(Cl.e c) : Int)), T.v (Value.bool (Cl.h c)), T.v (Value.string (ByteArray.mk (List.toArray (Cl.x c))))]], T.v (Value.int IntKind.u32 y), T.agg [T.v (Value.int IntKind.u32 (↑(Cl.q c) : Int)), T.v (Value.bool (Cl.o c)), T.v (Value.int IntKind.i64 (↑(Cl.e c) : Int)), T.v (Value.bool (Cl.h c)), T.v (Value.string (ByteArray.mk (List.toArray (Cl.x c))))], T.ptr (6 : Nat) b (1 : Nat), T.v (Value.bool true), T.ptr (3 : Nat) tb (0 : Nat), T.ptr (3 : Nat) tb (0 : Nat), T.ptr (3 : Nat) tb (2 : Nat), T.mp (4 : Nat) mb, T.v (Value.int IntKind.u32 y), T.ptr (6 : Nat) b (0 : Nat), T.v (Value.int IntKind.u32 (↑(Cl.q c) : Int)), T.agg [T.v (Value.int IntKind.i64 (13 : Int)), T.v (Value.bool false), T.v (Value.string (ByteArray.mk (#[])))], T.agg [T.v (Value.int IntKind.u32 (↑(Cl.q c) : Int)), T.v (Value.bool false), T.v (Value.int IntKind.i64 (13 : Int)), T.v (Value.bool false), T.v (Value.string (ByteArray.mk (#[])))]] (24 : Nat) T.und) z) ∧ ∀ (es' : Array MapEntry) (ck' : Nat), ((∃ x, x ∈ Array.toList es ∧ MapEntry.key x = Value.int IntKind.u32 y) → ck' = ck ∧ ∀ (y : Value) (n : Nat), (∃ x, x ∈ Array.toList es' ∧ MapEntry.key x = y ∧ MapEntry.born x = n) ↔ ∃ x, x ∈ Array.toList es ∧ MapEntry.key x = y ∧ MapEntry.born x = n) → TWk Try.prog Γ (fin Try.prog Try.f58 [(0 : Nat), (1 : Nat), (2 : Nat), (3 : Nat), (4 : Nat)] Q) [It.code (sub (bd Try.f58) [(1 : Nat), (0 : Nat)]), It.blk (0 : Nat)] { fr := [T.ptr (3 : Nat) tb (0 : Nat), T.und, T.und, T.und, T.und, T.und, T.und, T.und, T.ptr (5 : Nat) ib (0 : Nat), T.und, T.und, T.und, T.und, T.und, T.und, T.und, T.und, T.und, T.und, T.und, T.und, T.und, T.und, T.und, T.und], ob := [(db, Ob.cells [T.v (Value.string (ByteArray.mk (List.toArray (Dk.b d)))), T.v (Value.int IntKind.i64 (↑(Dk.n d) : Int)), T.v (Value.bool (Dk.off d))]), (jb, Ob.cells [T.ptr (0 : Nat) db (0 : Nat), T.slx (1 : Nat) (2 : Nat) (strs l) hd, T.v (Value.bool dead)]), ((0 : Nat), Ob.room (1 : Nat) (9 : Nat) (List.length (strs l)) hd), (tb, Ob.cells [T.ptr (1 : Nat) jb (0 : Nat), T.v (Value.int IntKind.u8 (↑lf : Int)), T.mp (4 : Nat) mb]), (mb, Ob.map IntKind.u32 (mT (upF f y (lost c))) es' ck'), (ib, Ob.iter (4 : Nat) mb IntKind.u32 es ck left (some y))], gl := fun x => none }) (TWk Try.prog Γ (fin Try.prog Try.f58 [(0 : Nat), (1 : Nat), (2 : Nat), (3 : Nat), (4 : Nat)] Q) [It.code (sub (bd Try.f58) [(1 : Nat), (0 : Nat)]), It.blk (0 : Nat)] { fr := [T.ptr (3 : Nat) tb (0 : Nat), T.und, T.und, T.und, T.und, T.und, T.und, T.und, T.ptr (5 : Nat) ib (0 : Nat), T.und, T.und, T.und, T.und, T.und, T.und, T.und, T.und, T.und, T.und, T.und, T.und, T.und, T.und, T.und, T.und], ob := [(db, Ob.cells [T.v (Value.string (ByteArray.mk (List.toArray (Dk.b d)))), T.v (Value.int IntKind.i64 (↑(Dk.n d) : Int)), T.v (Value.bool (Dk.off d))]), (jb, Ob.cells [T.ptr (0 : Nat) db (0 : Nat), T.slx (1 : Nat) (2 : Nat) (strs l) hd, T.v (Value.bool dead)]), ((0 : Nat), Ob.room (1 : Nat) (9 : Nat) (List.length (strs l)) hd), (tb, Ob.cells [T.ptr (1 : Nat) jb (0 : Nat), T.v (Value.int IntKind.u8 (↑lf : Int)), T.mp (4 : Nat) mb]), (mb, Ob.map IntKind.u32 (mT f) es ck), (ib, Ob.iter (4 : Nat) mb IntKind.u32 es ck left (some y))], gl := fun x => none })) (by kernel_rfl) ?_
  repeat' (first | exact rfl | exact Nat.le_of_ble_eq_true rfl | refine And.intro ?_ ?_ | intro _ | refine bsplit_mk (fun _ => ?_) (fun _ => ?_))
  all_goals first
    | exact hm
    | exact h1 ‹_› _ _ ‹_›
    | exact h2 ‹_›
    | exact upF_mT f y (lost c) _ (by rw [show lost c = ⟨c.q, false, 13, false, []⟩ from by unfold lost; rw [if_pos ‹_›]]; rfl) _
    | trace_state
theorem lose_loop (f : Int → Option Cl) (Q : T → Obs → Glb → Prop) (hQ : ∀ es ck, Q (.tup []) (obsT db jb tb mb d l hd dead lf (fun z => (f z).map lost) es ck) none_) : ∀ (n : Nat) (left : List Int) (g : Int → Option Cl) (es : Array MapEntry) (ck : Nat) (cur : Option Int), left.length = n → left.Nodup →
    (∀ y, g y = if y ∈ left then f y else (f y).map lost) →
    TWk Try.prog Γ (fin Try.prog Try.f58 [0, 1, 2, 3, 4] Q) [.code (sub (bd Try.f58) [1, 0]), .blk 0] ⟨frame 25 [(0, .ptr 3 tb 0), (8, .ptr 5 ib 0)], obsL db jb tb mb ib d l hd dead lf g es ck es ck left cur, none_⟩ := by
  intro n
  induction n with
  | zero =>
    intro left g es ck cur hn _ h1
    have hl0 : left = [] := List.eq_nil_of_length_eq_zero hn
    have e : g = fun z => (f z).map lost := by
      funext y
      rw [h1 y, if_neg (by rw [hl0]; simp)]
    subst e
    refine run_sound (⟨fun  | _, _ => .no, [((0, 2), ([0, 8], 6))], fun | 4 => some ⟨[], [9], .take true [0,1,2,3,4,5,6,7,8] (.one 9 .done)⟩ | _ => none⟩) 400 (B := (ib = ib ∧ mb = mb ∧ es = es ∧ ck = ck) ∧ (left = [] → Q (T.tup []) [(db, Ob.cells [T.v (Value.string (ByteArray.mk (List.toArray (Dk.b d)))), T.v (Value.int IntKind.i64 (↑(Dk.n d) : Int)), T.v (Value.bool (Dk.off d))]), (jb, Ob.cells [T.ptr (0 : Nat) db (0 : Nat), T.slx (1 : Nat) (2 : Nat) (strs l) hd, T.v (Value.bool dead)]), ((0 : Nat), Ob.room (1 : Nat) (9 : Nat) (List.length (strs l)) hd), (tb, Ob.cells [T.ptr (1 : Nat) jb (0 : Nat), T.v (Value.int IntKind.u8 (↑lf : Int)), T.mp (4 : Nat) mb]), (mb, Ob.map IntKind.u32 (mT fun z => Option.map lost (f z)) es ck)] fun x => none) ∧ ∀ (z : Int) (t : T), z ∈ left → mT (fun z => Option.map lost (f z)) z = some t → TWk Try.prog Γ (fin Try.prog Try.f58 [(0 : Nat), (1 : Nat), (2 : Nat), (3 : Nat), (4 : Nat)] Q) [It.code (sub (bd Try.f58) [(1 : Nat), (0 : Nat), (0 : Nat), (1 : Nat), (1 : Nat), (0 : Nat)]), It.blk (1 : Nat), It.code (sub (bd Try.f58) [(1 : Nat), (0 : Nat)]), It.blk (0 : Nat)] { fr := [T.ptr (3 : Nat) tb (0 : Nat), T.und, T.und, T.und, T.und, T.und, T.und, T.und, T.ptr (5 : Nat) ib (0 : Nat), T.und, T.und, T.und, T.und, T.und, T.und, T.und, T.und, T.und, T.und, T.und, T.und, T.und, T.und, T.und, T.und], ob := [(db, Ob.cells [T.v (Value.string (ByteArray.mk (List.toArray (Dk.b d)))), T.v (Value.int IntKind.i64 (↑(Dk.n d) : Int)), T.v (Value.bool (Dk.off d))]), (jb, Ob.cells [T.ptr (0 : Nat) db (0 : Nat), T.slx (1 : Nat) (2 : Nat) (strs l) hd, T.v (Value.bool dead)]), ((0 : Nat), Ob.room (1 : Nat) (9 : Nat) (List.length (strs l)) hd), (tb, Ob.cells [T.ptr (1 : Nat) jb (0 : Nat), T.v (Value.int IntKind.u8 (↑lf : Int)), T.mp (4 : Nat) mb]), (mb, Ob.map IntKind.u32 (mT fun z => Option.map lost (f z)) es ck), (ib, Ob.iter (4 : Nat) mb IntKind.u32 es ck (List.erase left z) (some z))], gl := fun x => none }) (by kernel_rfl) ?_
    repeat' (first | exact rfl | exact Nat.le_of_ble_eq_true rfl | refine And.intro ?_ ?_ | intro _ | refine bsplit_mk (fun _ => ?_) (fun _ => ?_))
    all_goals first
      | exact hQ _ _
      | (exfalso; rename_i h _; rw [hl0] at h; simp at h; done)
  | succ n ih =>
    intro left g es ck cur hn hd' h1
    refine run_sound (⟨fun  | _, _ => .no, [((0, 2), ([0, 8], 6))], fun | 4 => some ⟨[], [9], .take true [0,1,2,3,4,5,6,7,8] (.one 9 .done)⟩ | _ => none⟩) 400 (B := (ib = ib ∧ mb = mb ∧ es = es ∧ ck = ck) ∧ (left = [] → Q (T.tup []) [(db, Ob.cells [T.v (Value.string (ByteArray.mk (List.toArray (Dk.b d)))), T.v (Value.int IntKind.i64 (↑(Dk.n d) : Int)), T.v (Value.bool (Dk.off d))]), (jb, Ob.cells [T.ptr (0 : Nat) db (0 : Nat), T.slx (1 : Nat) (2 : Nat) (strs l) hd, T.v (Value.bool dead)]), ((0 : Nat), Ob.room (1 : Nat) (9 : Nat) (List.length (strs l)) hd), (tb, Ob.cells [T.ptr (1 : Nat) jb (0 : Nat), T.v (Value.int IntKind.u8 (↑lf : Int)), T.mp (4 : Nat) mb]), (mb, Ob.map IntKind.u32 (mT g) es ck)] fun x => none) ∧ ∀ (z : Int) (t : T), z ∈ left → mT g z = some t → TWk Try.prog Γ (fin Try.prog Try.f58 [(0 : Nat), (1 : Nat), (2 : Nat), (3 : Nat), (4 : Nat)] Q) [It.code (sub (bd Try.f58) [(1 : Nat), (0 : Nat), (0 : Nat), (1 : Nat), (1 : Nat), (0 : Nat)]), It.blk (1 : Nat), It.code (sub (bd Try.f58) [(1 : Nat), (0 : Nat)]), It.blk (0 : Nat)] { fr := [T.ptr (3 : Nat) tb (0 : Nat), T.und, T.und, T.und, T.und, T.und, T.und, T.und, T.ptr (5 : Nat) ib (0 : Nat), T.und, T.und, T.und, T.und, T.und, T.und, T.und, T.und, T.und, T.und, T.und, T.und, T.und, T.und, T.und, T.und], ob := [(db, Ob.cells [T.v (Value.string (ByteArray.mk (List.toArray (Dk.b d)))), T.v (Value.int IntKind.i64 (↑(Dk.n d) : Int)), T.v (Value.bool (Dk.off d))]), (jb, Ob.cells [T.ptr (0 : Nat) db (0 : Nat), T.slx (1 : Nat) (2 : Nat) (strs l) hd, T.v (Value.bool dead)]), ((0 : Nat), Ob.room (1 : Nat) (9 : Nat) (List.length (strs l)) hd), (tb, Ob.cells [T.ptr (1 : Nat) jb (0 : Nat), T.v (Value.int IntKind.u8 (↑lf : Int)), T.mp (4 : Nat) mb]), (mb, Ob.map IntKind.u32 (mT g) es ck), (ib, Ob.iter (4 : Nat) mb IntKind.u32 es ck (List.erase left z) (some z))], gl := fun x => none }) (by kernel_rfl) ?_
    repeat' (first | exact rfl | exact Nat.le_of_ble_eq_true rfl | refine And.intro ?_ ?_ | intro _ | refine bsplit_mk (fun _ => ?_) (fun _ => ?_))
    all_goals first
      | (exfalso; rename_i h; rw [h] at hn; simp at hn; done)
      | skip
    rename_i y t hy ht
    obtain ⟨c, hc⟩ : ∃ c, g y = some c := by
      cases hw : g y with
      | none => rw [mT, hw] at ht; cases ht
      | some c => exact ⟨c, rfl⟩
    have hlen : (left.erase y).length = n := by rw [List.length_erase_of_mem hy]; omega
    have hfy : f y = some c := by rw [← hc, h1 y, if_pos hy]
    have hne : y ∉ left.erase y := List.Nodup.not_mem_erase hd'
    have hmem : ∀ x, x ≠ y → (x ∈ left.erase y ↔ x ∈ left) := fun x hx => List.mem_erase_of_ne hx
    refine lose_body Γ db jb tb mb ib d l hd dead lf g es ck _ y c hc Q (fun ho es' ck' hU => ?_) (fun ho => ?_)
    · refine TWk.imp (ih (left.erase y) (upF g y (lost c)) es' ck' (some y) hlen (hd'.erase y) (fun x => ?_)) (Imp.iterUpd (j := 5) rfl hU)
      unfold upF
      by_cases e : x = y
      · subst e
        rw [if_pos rfl, if_neg hne, hfy]; rfl
      · rw [if_neg e, h1 x]
        by_cases hx : x ∈ left
        · rw [if_pos hx, if_pos ((hmem x e).2 hx)]
        · rw [if_neg hx, if_neg (fun h => hx ((hmem x e).1 h))]
    · refine ih (left.erase y) g es ck (some y) hlen (hd'.erase y) (fun x => ?_)
      by_cases e : x = y
      · subst e
        rw [if_neg hne, hc, hfy]
        show some c = some (lost c)
        unfold lost
        rw [if_neg (by rw [ho]; decide)]
      · rw [h1 x]
        by_cases hx : x ∈ left
        · rw [if_pos hx, if_pos ((hmem x e).2 hx)]
        · rw [if_neg hx, if_neg (fun h => hx ((hmem x e).1 h))]
end
theorem lose_any (db jb tb mb : Nat) (d : Dk) (l : List (List UInt8)) (hd : Value) (dead : Bool) (lf : Nat) (f : Int → Option Cl) (es : Array MapEntry) (ck : Nat) (Q : T → Obs → Glb → Prop)
    (hQ : ∀ es ck, Q (.tup []) (obsT db jb tb mb d l hd dead lf (fun z => (f z).map lost) es ck) none_) : TCalls Try.prog 58 [.ptr 3 tb 0] (obsT db jb tb mb d l hd dead lf f es ck) none_ Q := by
  refine TCalls.of Try.func58 rfl (CanCall.of Try.func58 rfl (by decide)) [0, 1, 2, 3, 4] fun Γ => ?_
  refine run_sound (⟨fun  | _, _ => .no, [((2, 1), ([0, 8], 6))], fun | 4 => some ⟨[], [9], .take true [0,1,2,3,4,5,6,7,8] (.one 9 .done)⟩ | _ => none⟩) 400 (B := tb = tb ∧ mb = mb ∧ ∀ (c : Nat) (ks : List Int), List.Nodup ks → (∀ (z : Int), z ∈ ks ↔ Option.isSome (mT f z) = true) → TWk Try.prog Γ (fin Try.prog Try.f58 [(0 : Nat), (1 : Nat), (2 : Nat), (3 : Nat), (4 : Nat)] Q) [It.code (sub (bd Try.f58) [(1 : Nat), (0 : Nat)]), It.blk (0 : Nat)] { fr := [T.ptr (3 : Nat) tb (0 : Nat), T.und, T.und, T.und, T.und, T.und, T.und, T.und, T.ptr (5 : Nat) c (0 : Nat), T.und, T.und, T.und, T.und, T.und, T.und, T.und, T.und, T.und, T.und, T.und, T.und, T.und, T.und, T.und, T.und], ob := [(db, Ob.cells [T.v (Value.string (ByteArray.mk (List.toArray (Dk.b d)))), T.v (Value.int IntKind.i64 (↑(Dk.n d) : Int)), T.v (Value.bool (Dk.off d))]), (jb, Ob.cells [T.ptr (0 : Nat) db (0 : Nat), T.slx (1 : Nat) (2 : Nat) (strs l) hd, T.v (Value.bool dead)]), ((0 : Nat), Ob.room (1 : Nat) (9 : Nat) (List.length (strs l)) hd), (tb, Ob.cells [T.ptr (1 : Nat) jb (0 : Nat), T.v (Value.int IntKind.u8 (↑lf : Int)), T.mp (4 : Nat) mb]), (mb, Ob.map IntKind.u32 (mT f) es ck), (c, Ob.iter (4 : Nat) mb IntKind.u32 es ck ks none)], gl := fun x => none }) (by kernel_rfl) ?_
  repeat' (first | exact rfl | exact Nat.le_of_ble_eq_true rfl | refine And.intro ?_ ?_ | intro _ | refine bsplit_mk (fun _ => ?_) (fun _ => ?_))
  rename_i ib ks hnd hk
  refine lose_loop Γ db jb tb mb ib d l hd dead lf f Q hQ _ ks f es ck none rfl hnd (fun y => ?_)
  cases hw : f y with
  | none => rw [Option.map_none]; exact (ite_self _).symm
  | some c => rw [if_pos ((hk y).2 (by unfold mT; rw [hw]; rfl))]
end X22
end Go.Proofs.Ytaepgceodcdnhaa.Vm
