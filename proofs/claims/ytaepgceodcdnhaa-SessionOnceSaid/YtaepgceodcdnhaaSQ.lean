/- Sessions by the engine: SessionOnce. -/
import Derived.Test.YtaepgceodcdnhaaSN
namespace Go.Proofs.Ytaepgceodcdnhaa.Vm
open Go Go.RowKit
set_option maxRecDepth 100000
namespace X22
open Ses (Cl put lost lose Rc Tb)
open Jrn (Dk flat)
open X9 (dkC obsK dkH dk_post)
open X10 (strs jC keepH nwH)
def backO (i : Nat) : Nat := if i = 9 then 1 else if i = 10 then 2 else if i = 11 then 3 else if i = 12 then 4 else i
section
variable (Γ : Ctx) (acts : List T) (db jb tb mb bb ba b7 b8 i : Nat) (hi : i < 80) (a : Act) (s q : Nat) (d d' : Dk) (l l' : List (List UInt8)) (hd : Value) (lf lf' : Nat) (f f' : Int → Option Cl) (es : Array MapEntry) (ck : Nat) (B : Nat → Nat → Option Unit) (A : Nat → Nat → Option Ans) (Q : T → Obs → Glb → Prop)
theorem imp_restO (jb' tb' mb' : Nat) (hd' : Value) (es' : Array MapEntry) (ck' : Nat) :
    Imp (frame 163 [(0, .sl 7 acts), (3, .ptr 0 db 0), (4, .ptr 11 tb' 0), (6, .mp 5 bb), (7, .mp 6 ba), (8, int (i + 1 : Nat))])
      [(db, .cells (dkC d')), (jb, .cells (jC db l hd false)), (0, .room 1 9 (strs l).length hd), (tb, .cells (tC jb lf mb)), (mb, .map .u32 (mT f) es ck), (bb, .kv kt GK (kF bT B)), (ba, .kv kt GK (kF aT A)), (b7, .cells (actC a)), (b8, .cells [u32 s, u32 q]), (jb', .cells [.ptr 0 db 0, .slx 1 10 (strs l') hd', bool false]), (0, .room 1 9 (strs l').length hd'), (tb', .cells [.ptr 9 jb' 0, u8 lf', .mp 12 mb']), (mb', .map .u32 (mT f') es' ck')] none_
      (frame 163 [(0, .sl 7 acts), (3, .ptr 0 db 0), (4, .ptr 3 tb' 0), (6, .mp 5 bb), (7, .mp 6 ba), (8, int (i + 1 : Nat))]) (obsO db jb' tb' mb' bb ba d' l' hd' lf' f' es' ck' B A) none_ := by
  have h1 := Imp.reix (ts := frame 163 [(0, .sl 7 acts), (3, .ptr 0 db 0), (4, .ptr 11 tb' 0), (6, .mp 5 bb), (7, .mp 6 ba), (8, int (i + 1 : Nat))])
    (ob := [(db, .cells (dkC d')), (jb, .cells (jC db l hd false)), (0, .room 1 9 (strs l).length hd), (tb, .cells (tC jb lf mb)), (mb, .map .u32 (mT f) es ck), (bb, .kv kt GK (kF bT B)), (ba, .kv kt GK (kF aT A)), (b7, .cells (actC a)), (b8, .cells [u32 s, u32 q]), (jb', .cells [.ptr 0 db 0, .slx 1 10 (strs l') hd', bool false]), (0, .room 1 9 (strs l').length hd'), (tb', .cells [.ptr 9 jb' 0, u8 lf', .mp 12 mb']), (mb', .map .u32 (mT f') es' ck')]) (gl := none_) backO
  have e : List.map (ix3 backO) (frame 163 [(0, .sl 7 acts), (3, .ptr 0 db 0), (4, .ptr 11 tb' 0), (6, .mp 5 bb), (7, .mp 6 ba), (8, int (i + 1 : Nat))]) = frame 163 [(0, .sl 7 acts), (3, .ptr 0 db 0), (4, .ptr 3 tb' 0), (6, .mp 5 bb), (7, .mp 6 ba), (8, int (i + 1 : Nat))] := by kernel_rfl
  rw [e] at h1
  exact h1.trans (Imp.sel [0, 9, 10, 11, 12, 5, 6] (by decide) rfl)
include hi
theorem on_w3 (hw : a.w % 4 = 3) (d1 : Dk)
    (hC : TCalls Try.prog 19 [.ptr 0 db 0, int a.k] (obsK db d) none_ (callPost (told (.tup []) [0] (obsK db d1))))
    (hD : TCalls Try.prog 20 [.ptr 0 db 0] (obsK db d1) none_ (callPost (told (.tup []) [0] (obsK db d))))
    (hS : TCalls Try.prog 22 [.ptr 0 db 0] (obsK db d) none_ (callPost (stP db d' l' lf' f')))
    (nx1 : TWk Try.prog Γ (fin Try.prog Try.f6 [] Q) [.code (sub (bd Try.f6) [1, 1, 1, 1, 1, 1, 1, 0, 1, 0]), .blk 0, .code (sub (bd Try.f6) [1, 1, 1, 1, 1, 1, 1, 1])] ⟨frame 163 [(0, .sl 7 acts), (3, .ptr 0 db 0), (4, .ptr 3 tb 0), (6, .mp 5 bb), (7, .mp 6 ba), (8, int (i + 1 : Nat))], obsO db jb tb mb bb ba d l hd lf f es ck B A, none_⟩)
    (nx : ∀ jb tb mb hd es ck, TWk Try.prog Γ (fin Try.prog Try.f6 [] Q) [.code (sub (bd Try.f6) [1, 1, 1, 1, 1, 1, 1, 0, 1, 0]), .blk 0, .code (sub (bd Try.f6) [1, 1, 1, 1, 1, 1, 1, 1])] ⟨frame 163 [(0, .sl 7 acts), (3, .ptr 0 db 0), (4, .ptr 3 tb 0), (6, .mp 5 bb), (7, .mp 6 ba), (8, int (i + 1 : Nat))], obsO db jb tb mb bb ba d' l' hd lf' f' es ck B A, none_⟩) :
    TWk Try.prog Γ (fin Try.prog Try.f6 [] Q) [.code (sub (bd Try.f6) [1, 1, 1, 1, 1, 1, 1, 0, 1, 0, 0, 1, 0, 0, 1, 1]), .blk 1, .code (sub (bd Try.f6) [1, 1, 1, 1, 1, 1, 1, 0, 1, 0, 0, 1, 1]), .code (sub (bd Try.f6) [1, 1, 1, 1, 1, 1, 1, 0, 1, 0]), .blk 0, .code (sub (bd Try.f6) [1, 1, 1, 1, 1, 1, 1, 1])] ⟨frame 163 [(0, .sl 7 acts), (3, .ptr 0 db 0), (4, .ptr 3 tb 0), (6, .mp 5 bb), (7, .mp 6 ba), (8, int i), (9, .ptr 7 b7 0), (10, .ptr 8 b8 0)], obsO2 db jb tb mb bb ba b7 b8 a s q d l hd lf f es ck B A, none_⟩ := by
  have hrem := remT4 a.w
  rw [hw] at hrem
  have hw1 : T.v (.int .i64 (IntKind.wrap .i64 ((i : Int) + 1))) = int (i + 1 : Nat) := congrArg int (by rw [wrap_i64 (by omega) (by omega)]; omega)
  have imp := fun jb' tb' mb' hd' es' ck' => TWk.imp (s := ⟨frame 163 [(0, .sl 7 acts), (3, .ptr 0 db 0), (4, .ptr 11 tb' 0), (6, .mp 5 bb), (7, .mp 6 ba), (8, int (i + 1 : Nat))], _, none_⟩) (nx jb' tb' mb' hd' es' ck') (imp_restO acts db jb tb mb bb ba b7 b8 i a s q d' l l' hd lf lf' f f' es ck B A jb' tb' mb' hd' es' ck')
  have nx1 := TWk.imp (s := ⟨frame 163 [(0, .sl 7 acts), (3, .ptr 0 db 0), (4, .ptr 3 tb 0), (6, .mp 5 bb), (7, .mp 6 ba), (8, int (i + 1 : Nat))], obsO2 db jb tb mb bb ba b7 b8 a s q d l hd lf f es ck B A, none_⟩) nx1 (Imp.take 7)
  refine run_sound (⟨fun | 14, 2 => .res (u8 3) | 33, 3 => dkH 0 d1 (.tup []) | 34, 1 => dkH 0 d (.tup []) | 35, 1 => stH 0 d' l' lf' f' | 11, 1 => .res (int (i + 1 : Nat)) | _, _ => .no, [((2, 10), ([0, 3, 4, 6, 7, 8], 13))], fun | 25 => some ⟨[], [16], .take true [0,1,2,3,4,5,6,7,8,9,10,11,12,13,14] (.one 15 (.one 16 .done))⟩ | _ => none⟩) 400 (B := b7 = b7 ∧ T.v (Value.int IntKind.u8 (Int.tmod (↑(Act.w a) : Int) (4 : Int))) = T.v (Value.int IntKind.u8 (3 : Int)) ∧ b7 = b7 ∧ bsplit (IntKind.wrap IntKind.i64 (↑(BitVec.toNat (BitVec.ofInt (64 : Nat) (Act.k a) &&& BitVec.ofInt (64 : Nat) (3 : Int))) : Int) == (0 : Int)) (b7 = b7 ∧ TCalls Try.prog (19 : Nat) [T.ptr (0 : Nat) db (0 : Nat), T.v (Value.int IntKind.i64 (Act.k a))] [(db, Ob.cells [T.v (Value.string (ByteArray.mk (List.toArray (Dk.b d)))), T.v (Value.int IntKind.i64 (↑(Dk.n d) : Int)), T.v (Value.bool (Dk.off d))])] (fun x => none) (callPost (Hint.call false Unit (fun x => True) [(0 : Nat)] false (fun x => T.tup []) (fun x => obsK db d1) fun x => none_)) ∧ ∀ (a_1 : Unit), True → TCalls Try.prog (20 : Nat) [T.ptr (0 : Nat) db (0 : Nat)] [(db, Ob.cells [T.v (Value.string (ByteArray.mk (List.toArray (Dk.b d1)))), T.v (Value.int IntKind.i64 (↑(Dk.n d1) : Int)), T.v (Value.bool (Dk.off d1))])] (fun x => none) (callPost (Hint.call false Unit (fun x => True) [(0 : Nat)] false (fun x => T.tup []) (fun x => obsK db d) fun x => none_)) ∧ ∀ (a_2 : Unit), True → TCalls Try.prog (22 : Nat) [T.ptr (0 : Nat) db (0 : Nat)] [(db, Ob.cells [T.v (Value.string (ByteArray.mk (List.toArray (Dk.b d)))), T.v (Value.int IntKind.i64 (↑(Dk.n d) : Int)), T.v (Value.bool (Dk.off d))])] (fun x => none) (callPost (Hint.call false (Nat × Nat × Nat × Value × Array MapEntry × Nat) (fun x => True) [(0 : Nat)] false (fun a => T.tup [T.ptr (3 : Nat) (Prod.fst (Prod.snd a)) (0 : Nat), int (0 : Int)]) (fun a => obsT db (Prod.fst a) (Prod.fst (Prod.snd a)) (Prod.fst (Prod.snd (Prod.snd a))) d' l' (Prod.fst (Prod.snd (Prod.snd (Prod.snd a)))) false lf' f' (Prod.fst (Prod.snd (Prod.snd (Prod.snd (Prod.snd a))))) (Prod.snd (Prod.snd (Prod.snd (Prod.snd (Prod.snd a)))))) fun x => none_)) ∧ ∀ (a_3 : Nat × Nat × Nat × Value × Array MapEntry × Nat), True → T.v (Value.int IntKind.i64 (IntKind.wrap IntKind.i64 ((↑i : Int) + (1 : Int)))) = T.v (Value.int IntKind.i64 (↑(i + (1 : Nat)) : Int)) ∧ TWk Try.prog Γ (fin Try.prog Try.f6 [] Q) [It.code (sub (bd Try.f6) [(1 : Nat), (1 : Nat), (1 : Nat), (1 : Nat), (1 : Nat), (1 : Nat), (1 : Nat), (0 : Nat), (1 : Nat), (0 : Nat)]), It.blk (0 : Nat), It.code (sub (bd Try.f6) [(1 : Nat), (1 : Nat), (1 : Nat), (1 : Nat), (1 : Nat), (1 : Nat), (1 : Nat), (1 : Nat)])] { fr := [T.sl (7 : Nat) acts, T.und, T.und, T.ptr (0 : Nat) db (0 : Nat), T.ptr (11 : Nat) (Prod.fst (Prod.snd a_3)) (0 : Nat), T.und, T.mp (5 : Nat) bb, T.mp (6 : Nat) ba, T.v (Value.int IntKind.i64 (↑(i + (1 : Nat)) : Int)), T.und, T.und, T.und, T.und, T.und, T.und, T.und, T.und, T.und, T.und, T.und, T.und, T.und, T.und, T.und, T.und, T.und, T.und, T.und, T.und, T.und, T.und, T.und, T.und, T.und, T.und, T.und, T.und, T.und, T.und, T.und, T.und, T.und, T.und, T.und, T.und, T.und, T.und, T.und, T.und, T.und, T.und, T.und, T.und, T.und, T.und, T.und, T.und, T.und, T.und, T.und, T.und, T.und, T.und, T.und, T.und, T.und, T.und, T.und, T.und, T.und, T.und, T.und, T.und, T.und, T.und, T.und, T.und, T.und, T.und, T.und, T.und, T.und, T.und, T.und, T.und, T.und, T.und, T.und, T.und, T.und, T.und, T.und, T.und, T.und, T.und, T.und, T.und, T.und, T.und, T.und, T.und, T.und, T.und, T.und, T.und, T.und, T.und, T.und, T.und, T.und, T.und, T.und, T.und, T.und, T.und, T.und, T.und, T.und, T.und, T.und, T.und, T.und, T.und, T.und, T.und, T.und, T.und, T.und, T.und, T.und, T.und, T.und, T.und, T.und, T.und, T.und, T.und, T.und, T.und, T.und, T.und, T.und, T.und, T.und, T.und, T.und, T.und, T.und, T.und, T.und, T.und, T.und, T.und, T.und, T.und, T.und, T.und, T.und, T.und, T.und, T.und, T.und, T.und], ob := [(db, Ob.cells [T.v (Value.string (ByteArray.mk (List.toArray (Dk.b d')))), T.v (Value.int IntKind.i64 (↑(Dk.n d') : Int)), T.v (Value.bool (Dk.off d'))]), (jb, Ob.cells [T.ptr (0 : Nat) db (0 : Nat), T.slx (1 : Nat) (2 : Nat) (strs l) hd, T.v (Value.bool false)]), ((0 : Nat), Ob.room (1 : Nat) (9 : Nat) (List.length (strs l)) hd), (tb, Ob.cells [T.ptr (1 : Nat) jb (0 : Nat), T.v (Value.int IntKind.u8 (↑lf : Int)), T.mp (4 : Nat) mb]), (mb, Ob.map IntKind.u32 (mT f) es ck), (bb, Ob.kv (56 : Nat) GK (kF bT B)), (ba, Ob.kv (56 : Nat) GK (kF aT A)), (b7, Ob.cells [T.v (Value.int IntKind.u8 (↑(Act.w a) : Int)), T.v (Value.int IntKind.u32 (↑(Act.s a) : Int)), T.v (Value.int IntKind.u32 (↑(Act.q a) : Int)), T.v (Value.int IntKind.u8 (↑(Act.e a) : Int)), T.v (Value.bool (Act.h a)), T.v (Value.string (ByteArray.mk (List.toArray (Act.x a)))), T.v (Value.int IntKind.i64 (Act.k a))]), (b8, Ob.cells [T.v (Value.int IntKind.u32 (↑s : Int)), T.v (Value.int IntKind.u32 (↑q : Int))]), (Prod.fst a_3, Ob.cells [T.ptr (0 : Nat) db (0 : Nat), T.slx (1 : Nat) (10 : Nat) (strs l') (Prod.fst (Prod.snd (Prod.snd (Prod.snd a_3)))), T.v (Value.bool false)]), ((0 : Nat), Ob.room (1 : Nat) (9 : Nat) (List.length (strs l')) (Prod.fst (Prod.snd (Prod.snd (Prod.snd a_3))))), (Prod.fst (Prod.snd a_3), Ob.cells [T.ptr (9 : Nat) (Prod.fst a_3) (0 : Nat), T.v (Value.int IntKind.u8 (↑lf' : Int)), T.mp (12 : Nat) (Prod.fst (Prod.snd (Prod.snd a_3)))]), (Prod.fst (Prod.snd (Prod.snd a_3)), Ob.map IntKind.u32 (mT f') (Prod.fst (Prod.snd (Prod.snd (Prod.snd (Prod.snd a_3))))) (Prod.snd (Prod.snd (Prod.snd (Prod.snd (Prod.snd a_3))))))], gl := fun x => none }) (T.v (Value.int IntKind.i64 (IntKind.wrap IntKind.i64 ((↑i : Int) + (1 : Int)))) = T.v (Value.int IntKind.i64 (↑(i + (1 : Nat)) : Int)) ∧ TWk Try.prog Γ (fin Try.prog Try.f6 [] Q) [It.code (sub (bd Try.f6) [(1 : Nat), (1 : Nat), (1 : Nat), (1 : Nat), (1 : Nat), (1 : Nat), (1 : Nat), (0 : Nat), (1 : Nat), (0 : Nat)]), It.blk (0 : Nat), It.code (sub (bd Try.f6) [(1 : Nat), (1 : Nat), (1 : Nat), (1 : Nat), (1 : Nat), (1 : Nat), (1 : Nat), (1 : Nat)])] { fr := [T.sl (7 : Nat) acts, T.und, T.und, T.ptr (0 : Nat) db (0 : Nat), T.ptr (3 : Nat) tb (0 : Nat), T.und, T.mp (5 : Nat) bb, T.mp (6 : Nat) ba, T.v (Value.int IntKind.i64 (↑(i + (1 : Nat)) : Int)), T.und, T.und, T.und, T.und, T.und, T.und, T.und, T.und, T.und, T.und, T.und, T.und, T.und, T.und, T.und, T.und, T.und, T.und, T.und, T.und, T.und, T.und, T.und, T.und, T.und, T.und, T.und, T.und, T.und, T.und, T.und, T.und, T.und, T.und, T.und, T.und, T.und, T.und, T.und, T.und, T.und, T.und, T.und, T.und, T.und, T.und, T.und, T.und, T.und, T.und, T.und, T.und, T.und, T.und, T.und, T.und, T.und, T.und, T.und, T.und, T.und, T.und, T.und, T.und, T.und, T.und, T.und, T.und, T.und, T.und, T.und, T.und, T.und, T.und, T.und, T.und, T.und, T.und, T.und, T.und, T.und, T.und, T.und, T.und, T.und, T.und, T.und, T.und, T.und, T.und, T.und, T.und, T.und, T.und, T.und, T.und, T.und, T.und, T.und, T.und, T.und, T.und, T.und, T.und, T.und, T.und, T.und, T.und, T.und, T.und, T.und, T.und, T.und, T.und, T.und, T.und, T.und, T.und, T.und, T.und, T.und, T.und, T.und, T.und, T.und, T.und, T.und, T.und, T.und, T.und, T.und, T.und, T.und, T.und, T.und, T.und, T.und, T.und, T.und, T.und, T.und, T.und, T.und, T.und, T.und, T.und, T.und, T.und, T.und, T.und, T.und, T.und, T.und, T.und], ob := [(db, Ob.cells [T.v (Value.string (ByteArray.mk (List.toArray (Dk.b d)))), T.v (Value.int IntKind.i64 (↑(Dk.n d) : Int)), T.v (Value.bool (Dk.off d))]), (jb, Ob.cells [T.ptr (0 : Nat) db (0 : Nat), T.slx (1 : Nat) (2 : Nat) (strs l) hd, T.v (Value.bool false)]), ((0 : Nat), Ob.room (1 : Nat) (9 : Nat) (List.length (strs l)) hd), (tb, Ob.cells [T.ptr (1 : Nat) jb (0 : Nat), T.v (Value.int IntKind.u8 (↑lf : Int)), T.mp (4 : Nat) mb]), (mb, Ob.map IntKind.u32 (mT f) es ck), (bb, Ob.kv (56 : Nat) GK (kF bT B)), (ba, Ob.kv (56 : Nat) GK (kF aT A)), (b7, Ob.cells [T.v (Value.int IntKind.u8 (↑(Act.w a) : Int)), T.v (Value.int IntKind.u32 (↑(Act.s a) : Int)), T.v (Value.int IntKind.u32 (↑(Act.q a) : Int)), T.v (Value.int IntKind.u8 (↑(Act.e a) : Int)), T.v (Value.bool (Act.h a)), T.v (Value.string (ByteArray.mk (List.toArray (Act.x a)))), T.v (Value.int IntKind.i64 (Act.k a))]), (b8, Ob.cells [T.v (Value.int IntKind.u32 (↑s : Int)), T.v (Value.int IntKind.u32 (↑q : Int))])], gl := fun x => none })) (by kernel_rfl) ?_
  repeat' (first | exact rfl | exact Nat.le_of_ble_eq_true rfl | refine And.intro ?_ ?_ | intro _ | refine bsplit_mk (fun _ => ?_) (fun _ => ?_))
  all_goals first
    | exact hrem
    | exact hw1
    | exact hC
    | exact hD
    | exact hS
    | exact imp _ _ _ _ _ _
    | exact nx1
    | trace_state
end
theorem on_head (Γ : Ctx) (L : List Act) (db jb tb mb bb ba i : Nat) (hi : i < 80) (a : Act) (hia : L[i]? = some a) (hq : a.q < 4294967296) (d : Dk) (l : List (List UInt8)) (hd : Value) (lf : Nat) (f : Int → Option Cl) (es : Array MapEntry) (ck : Nat) (B : Nat → Nat → Option Unit) (A : Nat → Nat → Option Ans) (Q : T → Obs → Glb → Prop)
    (nx : ∀ b7 b8, TWk Try.prog Γ (fin Try.prog Try.f6 [] Q) [.code (sub (bd Try.f6) [1, 1, 1, 1, 1, 1, 1, 0, 1, 0, 0, 1, 0, 0, 1, 1]), .blk 1, .code (sub (bd Try.f6) [1, 1, 1, 1, 1, 1, 1, 0, 1, 0, 0, 1, 1]), .code (sub (bd Try.f6) [1, 1, 1, 1, 1, 1, 1, 0, 1, 0]), .blk 0, .code (sub (bd Try.f6) [1, 1, 1, 1, 1, 1, 1, 1])] ⟨frame 163 [(0, .sl 7 (Row.aggs actC L)), (3, .ptr 0 db 0), (4, .ptr 3 tb 0), (6, .mp 5 bb), (7, .mp 6 ba), (8, int i), (9, .ptr 7 b7 0), (10, .ptr 8 b8 0)], obsO2 db jb tb mb bb ba b7 b8 a (a.s % 4) (1 + a.q % 8) d l hd lf f es ck B A, none_⟩) :
    TWk Try.prog Γ (fin Try.prog Try.f6 [] Q) [.code (sub (bd Try.f6) [1, 1, 1, 1, 1, 1, 1, 0, 1, 0]), .blk 0, .code (sub (bd Try.f6) [1, 1, 1, 1, 1, 1, 1, 1])] ⟨frame 163 [(0, .sl 7 (Row.aggs actC L)), (3, .ptr 0 db 0), (4, .ptr 3 tb 0), (6, .mp 5 bb), (7, .mp 6 ba), (8, int i)], obsO db jb tb mb bb ba d l hd lf f es ck B A, none_⟩ := by
  have hga := acts_at hia
  have hal : (Row.aggs actC L).length = L.length := Row.aggs_len L
  have hil : i < L.length := by rcases Nat.lt_or_ge i L.length with h | h; · exact h
                                · rw [List.getElem?_eq_none h] at hia; cases hia
  have e1 : T.v (.int .u32 ((a.s : Int).tmod 4)) = u32 (a.s % 4 : Nat) := congrArg u32 (by rw [Int.tmod_eq_emod_of_nonneg (by omega)]; omega)
  have e2 : T.v (.int .u32 ((a.q : Int).tmod 8)) = u32 (a.q % 8 : Nat) := congrArg u32 (by rw [Int.tmod_eq_emod_of_nonneg (by omega)]; omega)
  have e3 : T.v (.int .u32 (IntKind.wrap .u32 (1 + ((a.q % 8 : Nat) : Int)))) = u32 (1 + a.q % 8 : Nat) := congrArg u32 (by rw [IntWalk.u32_in _ (by omega)]; omega)
  generalize a.s % 4 = s at *
  generalize hs2 : 1 + a.q % 8 = q at *
  generalize Row.aggs actC L = acts at *
  refine run_sound (⟨fun | 12, 2 => .res (.agg (actC a)) | 13, 2 => .res (u32 s) | 13, 5 => .res (u32 (a.q % 8 : Nat)) | 13, 6 => .res (u32 q) | _, _ => .no, [((0, 14), ([0, 3, 4, 6, 7, 8, 9, 10], 9)), ((0, 39), ([], 7))], fun | 25 => some ⟨[], [16], .take true [0,1,2,3,4,5,6,7,8,9,10,11,12,13,14] (.one 15 (.one 16 .done))⟩ | _ => none⟩) 400 (B := bsplit (decide ((↑i : Int) < (↑(List.length acts) : Int))) (bsplit (decide ((↑i : Int) < (80 : Int))) ((0 : Int) ≤ (↑i : Int) ∧ acts[Int.toNat (↑i : Int)]? = some (T.agg [T.v (Value.int IntKind.u8 (↑(Act.w a) : Int)), T.v (Value.int IntKind.u32 (↑(Act.s a) : Int)), T.v (Value.int IntKind.u32 (↑(Act.q a) : Int)), T.v (Value.int IntKind.u8 (↑(Act.e a) : Int)), T.v (Value.bool (Act.h a)), T.v (Value.string (ByteArray.mk (List.toArray (Act.x a)))), T.v (Value.int IntKind.i64 (Act.k a))]) ∧ ∀ (b : Nat), ((7 : Nat) = nat_lit 7 ∧ List.all [T.v (Value.int IntKind.u8 (↑(Act.w a) : Int)), T.v (Value.int IntKind.u32 (↑(Act.s a) : Int)), T.v (Value.int IntKind.u32 (↑(Act.q a) : Int)), T.v (Value.int IntKind.u8 (↑(Act.e a) : Int)), T.v (Value.bool (Act.h a)), T.v (Value.string (ByteArray.mk (List.toArray (Act.x a)))), T.v (Value.int IntKind.i64 (Act.k a))] T.one = true) ∧ b = b ∧ (0 : Nat) + nat_lit 7 ≤ (7 : Nat) ∧ b = b ∧ T.v (Value.int IntKind.u32 (Int.tmod (↑(Act.s a) : Int) (4 : Int))) = T.v (Value.int IntKind.u32 (↑s : Int)) ∧ b = b ∧ T.v (Value.int IntKind.u32 (Int.tmod (↑(Act.q a) : Int) (8 : Int))) = T.v (Value.int IntKind.u32 (↑(Act.q a % (8 : Nat)) : Int)) ∧ T.v (Value.int IntKind.u32 (IntKind.wrap IntKind.u32 ((1 : Int) + (↑(Act.q a % (8 : Nat)) : Int)))) = T.v (Value.int IntKind.u32 (↑q : Int)) ∧ ∀ (b_1 : Nat), ((2 : Nat) = nat_lit 2 ∧ List.all [T.v (Value.int IntKind.u32 (↑s : Int)), T.v (Value.int IntKind.u32 (↑q : Int))] T.one = true) ∧ b_1 = b_1 ∧ (0 : Nat) + nat_lit 2 ≤ (2 : Nat) ∧ TWk Try.prog Γ (fin Try.prog Try.f6 [] Q) [It.code (sub (bd Try.f6) [(1 : Nat), (1 : Nat), (1 : Nat), (1 : Nat), (1 : Nat), (1 : Nat), (1 : Nat), (0 : Nat), (1 : Nat), (0 : Nat), (0 : Nat), (1 : Nat), (0 : Nat), (0 : Nat), (1 : Nat), (1 : Nat)]), It.blk (1 : Nat), It.code (sub (bd Try.f6) [(1 : Nat), (1 : Nat), (1 : Nat), (1 : Nat), (1 : Nat), (1 : Nat), (1 : Nat), (0 : Nat), (1 : Nat), (0 : Nat), (0 : Nat), (1 : Nat), (1 : Nat)]), It.code (sub (bd Try.f6) [(1 : Nat), (1 : Nat), (1 : Nat), (1 : Nat), (1 : Nat), (1 : Nat), (1 : Nat), (0 : Nat), (1 : Nat), (0 : Nat)]), It.blk (0 : Nat), It.code (sub (bd Try.f6) [(1 : Nat), (1 : Nat), (1 : Nat), (1 : Nat), (1 : Nat), (1 : Nat), (1 : Nat), (1 : Nat)])] { fr := [T.sl (7 : Nat) acts, T.und, T.und, T.ptr (0 : Nat) db (0 : Nat), T.ptr (3 : Nat) tb (0 : Nat), T.und, T.mp (5 : Nat) bb, T.mp (6 : Nat) ba, T.v (Value.int IntKind.i64 (↑i : Int)), T.ptr (7 : Nat) b (0 : Nat), T.ptr (8 : Nat) b_1 (0 : Nat), T.und, T.und, T.und, T.und, T.und, T.und, T.und, T.und, T.und, T.und, T.und, T.und, T.und, T.und, T.und, T.und, T.und, T.und, T.und, T.und, T.und, T.und, T.und, T.und, T.und, T.und, T.und, T.und, T.und, T.und, T.und, T.und, T.und, T.und, T.und, T.und, T.und, T.und, T.und, T.und, T.und, T.und, T.und, T.und, T.und, T.und, T.und, T.und, T.und, T.und, T.und, T.und, T.und, T.und, T.und, T.und, T.und, T.und, T.und, T.und, T.und, T.und, T.und, T.und, T.und, T.und, T.und, T.und, T.und, T.und, T.und, T.und, T.und, T.und, T.und, T.und, T.und, T.und, T.und, T.und, T.und, T.und, T.und, T.und, T.und, T.und, T.und, T.und, T.und, T.und, T.und, T.und, T.und, T.und, T.und, T.und, T.und, T.und, T.und, T.und, T.und, T.und, T.und, T.und, T.und, T.und, T.und, T.und, T.und, T.und, T.und, T.und, T.und, T.und, T.und, T.und, T.und, T.und, T.und, T.und, T.und, T.und, T.und, T.und, T.und, T.und, T.und, T.und, T.und, T.und, T.und, T.und, T.und, T.und, T.und, T.und, T.und, T.und, T.und, T.und, T.und, T.und, T.und, T.und, T.und, T.und, T.und, T.und, T.und, T.und, T.und, T.und], ob := [(db, Ob.cells [T.v (Value.string (ByteArray.mk (List.toArray (Dk.b d)))), T.v (Value.int IntKind.i64 (↑(Dk.n d) : Int)), T.v (Value.bool (Dk.off d))]), (jb, Ob.cells [T.ptr (0 : Nat) db (0 : Nat), T.slx (1 : Nat) (2 : Nat) (strs l) hd, T.v (Value.bool false)]), ((0 : Nat), Ob.room (1 : Nat) (9 : Nat) (List.length (strs l)) hd), (tb, Ob.cells [T.ptr (1 : Nat) jb (0 : Nat), T.v (Value.int IntKind.u8 (↑lf : Int)), T.mp (4 : Nat) mb]), (mb, Ob.map IntKind.u32 (mT f) es ck), (bb, Ob.kv (56 : Nat) GK (kF bT B)), (ba, Ob.kv (56 : Nat) GK (kF aT A)), (b, Ob.cells [T.v (Value.int IntKind.u8 (↑(Act.w a) : Int)), T.v (Value.int IntKind.u32 (↑(Act.s a) : Int)), T.v (Value.int IntKind.u32 (↑(Act.q a) : Int)), T.v (Value.int IntKind.u8 (↑(Act.e a) : Int)), T.v (Value.bool (Act.h a)), T.v (Value.string (ByteArray.mk (List.toArray (Act.x a)))), T.v (Value.int IntKind.i64 (Act.k a))]), (b_1, Ob.cells [T.v (Value.int IntKind.u32 (↑s : Int)), T.v (Value.int IntKind.u32 (↑q : Int))])], gl := fun x => none }) (TWk Try.prog Γ (fin Try.prog Try.f6 [] Q) [It.code (sub (bd Try.f6) [(1 : Nat), (1 : Nat), (1 : Nat), (1 : Nat), (1 : Nat), (1 : Nat), (1 : Nat), (1 : Nat)])] { fr := [T.und, T.und, T.und, T.und, T.und, T.und, T.und, T.und, T.und, T.und, T.und, T.und, T.und, T.und, T.und, T.und, T.und, T.und, T.und, T.und, T.und, T.und, T.und, T.und, T.und, T.und, T.und, T.und, T.und, T.und, T.und, T.und, T.und, T.und, T.und, T.und, T.und, T.und, T.und, T.und, T.und, T.und, T.und, T.und, T.und, T.und, T.und, T.und, T.und, T.und, T.und, T.und, T.und, T.und, T.und, T.und, T.und, T.und, T.und, T.und, T.und, T.und, T.und, T.und, T.und, T.und, T.und, T.und, T.und, T.und, T.und, T.und, T.und, T.und, T.und, T.und, T.und, T.und, T.und, T.und, T.und, T.und, T.und, T.und, T.und, T.und, T.und, T.und, T.und, T.und, T.und, T.und, T.und, T.und, T.und, T.und, T.und, T.und, T.und, T.und, T.und, T.und, T.und, T.und, T.und, T.und, T.und, T.und, T.und, T.und, T.und, T.und, T.und, T.und, T.und, T.und, T.und, T.und, T.und, T.und, T.und, T.und, T.und, T.und, T.und, T.und, T.und, T.und, T.und, T.und, T.und, T.und, T.und, T.und, T.und, T.und, T.und, T.und, T.und, T.und, T.und, T.und, T.und, T.und, T.und, T.und, T.und, T.und, T.und, T.und, T.und, T.und, T.und, T.und, T.und, T.und, T.und, T.und, T.und, T.und, T.und, T.und, T.und], ob := [(db, Ob.cells [T.v (Value.string (ByteArray.mk (List.toArray (Dk.b d)))), T.v (Value.int IntKind.i64 (↑(Dk.n d) : Int)), T.v (Value.bool (Dk.off d))]), (jb, Ob.cells [T.ptr (0 : Nat) db (0 : Nat), T.slx (1 : Nat) (2 : Nat) (strs l) hd, T.v (Value.bool false)]), ((0 : Nat), Ob.room (1 : Nat) (9 : Nat) (List.length (strs l)) hd), (tb, Ob.cells [T.ptr (1 : Nat) jb (0 : Nat), T.v (Value.int IntKind.u8 (↑lf : Int)), T.mp (4 : Nat) mb]), (mb, Ob.map IntKind.u32 (mT f) es ck), (bb, Ob.kv (56 : Nat) GK (kF bT B)), (ba, Ob.kv (56 : Nat) GK (kF aT A))], gl := fun x => none })) (TWk Try.prog Γ (fin Try.prog Try.f6 [] Q) [It.code (sub (bd Try.f6) [(1 : Nat), (1 : Nat), (1 : Nat), (1 : Nat), (1 : Nat), (1 : Nat), (1 : Nat), (1 : Nat)])] { fr := [T.und, T.und, T.und, T.und, T.und, T.und, T.und, T.und, T.und, T.und, T.und, T.und, T.und, T.und, T.und, T.und, T.und, T.und, T.und, T.und, T.und, T.und, T.und, T.und, T.und, T.und, T.und, T.und, T.und, T.und, T.und, T.und, T.und, T.und, T.und, T.und, T.und, T.und, T.und, T.und, T.und, T.und, T.und, T.und, T.und, T.und, T.und, T.und, T.und, T.und, T.und, T.und, T.und, T.und, T.und, T.und, T.und, T.und, T.und, T.und, T.und, T.und, T.und, T.und, T.und, T.und, T.und, T.und, T.und, T.und, T.und, T.und, T.und, T.und, T.und, T.und, T.und, T.und, T.und, T.und, T.und, T.und, T.und, T.und, T.und, T.und, T.und, T.und, T.und, T.und, T.und, T.und, T.und, T.und, T.und, T.und, T.und, T.und, T.und, T.und, T.und, T.und, T.und, T.und, T.und, T.und, T.und, T.und, T.und, T.und, T.und, T.und, T.und, T.und, T.und, T.und, T.und, T.und, T.und, T.und, T.und, T.und, T.und, T.und, T.und, T.und, T.und, T.und, T.und, T.und, T.und, T.und, T.und, T.und, T.und, T.und, T.und, T.und, T.und, T.und, T.und, T.und, T.und, T.und, T.und, T.und, T.und, T.und, T.und, T.und, T.und, T.und, T.und, T.und, T.und, T.und, T.und, T.und, T.und, T.und, T.und, T.und, T.und], ob := [(db, Ob.cells [T.v (Value.string (ByteArray.mk (List.toArray (Dk.b d)))), T.v (Value.int IntKind.i64 (↑(Dk.n d) : Int)), T.v (Value.bool (Dk.off d))]), (jb, Ob.cells [T.ptr (0 : Nat) db (0 : Nat), T.slx (1 : Nat) (2 : Nat) (strs l) hd, T.v (Value.bool false)]), ((0 : Nat), Ob.room (1 : Nat) (9 : Nat) (List.length (strs l)) hd), (tb, Ob.cells [T.ptr (1 : Nat) jb (0 : Nat), T.v (Value.int IntKind.u8 (↑lf : Int)), T.mp (4 : Nat) mb]), (mb, Ob.map IntKind.u32 (mT f) es ck), (bb, Ob.kv (56 : Nat) GK (kF bT B)), (ba, Ob.kv (56 : Nat) GK (kF aT A))], gl := fun x => none })) (by kernel_rfl) ?_
  repeat' (first | exact rfl | exact Nat.le_of_ble_eq_true rfl | refine And.intro ?_ ?_ | intro _ | refine bsplit_mk (fun _ => ?_) (fun _ => ?_))
  all_goals first
    | exact hga
    | exact e1
    | exact e2
    | exact e3
    | exact nx _ _
    | exact Int.natCast_nonneg _
    | (exfalso; simp only [decide_eq_false_iff_not] at *; omega)
    | trace_state
/-- what the law's maps say of a session's last call -/
def ORel (c : Option Cl) (q : Nat) (b : Option Unit) (a : Option Ans) : Prop :=
  match c with
  | none => b = none ∧ a = none
  | some c => (c.q < q → b = none ∧ a = none) ∧ (c.q = q → b = some () ∧ (c.o = true → a = none) ∧ (c.o = false → a = some ⟨c.e, c.h, c.x⟩ ∨ (a = none ∧ c.e = 13 ∧ c.h = false ∧ c.x = [])))
structure OInv (rs : List Rc) (lf : Nat) (cs : List (Nat × Cl)) (i : Nat) (B : Nat → Nat → Option Unit) (A : Nat → Nat → Option Ans) : Prop where
  p : PInv rs lf cs i
  r : ∀ s q, ORel (Ses.look cs s) q (B s q) (A s q)
theorem upA_ne {α : Type} {A : Nat → Nat → Option α} {s q s' q' : Nat} {a : α} (h : ¬ (s' = s ∧ q' = q)) : upA A s q a s' q' = A s' q' := if_neg h
theorem upA_eq {α : Type} {A : Nat → Nat → Option α} {s q : Nat} {a : α} : upA A s q a s q = some a := if_pos ⟨rfl, rfl⟩
theorem OInv.fin {rs : List Rc} {lf : Nat} {cs : List (Nat × Cl)} {i : Nat} {B : Nat → Nat → Option Unit} {A : Nat → Nat → Option Ans} (h : OInv rs lf cs i B A) {rs' : List Rc} {s q : Nat} {e : Nat} {b : Bool} {x : List UInt8} {c : Cl} (hc : Ses.look cs s = some c) (hq : c.q = q)
    (hp : PInv rs' lf (put cs s ⟨q, false, e, b, x⟩) (i + 1)) : OInv rs' lf (put cs s ⟨q, false, e, b, x⟩) (i + 1) B (upA A s q ⟨e, b, x⟩) := ⟨hp, fun s' q' => by
  rw [Ses.look_put]
  have hr := h.r s' q'
  by_cases hs : s' = s
  · subst hs
    rw [if_pos rfl]
    rw [hc] at hr
    by_cases hq' : q' = q
    · subst hq'
      rw [upA_eq]
      exact ⟨fun h => absurd h (Nat.lt_irrefl _), fun _ => ⟨(hr.2 hq).1, (fun h => by cases h), fun _ => .inl rfl⟩⟩
    · rw [upA_ne (fun h => hq' h.2)]
      exact ⟨fun h => hr.1 (by rw [hq]; exact h), fun h => absurd h.symm hq'⟩
  · rw [if_neg hs, upA_ne (fun h => hs h.1)]; exact hr⟩
theorem OInv.beg {rs : List Rc} {lf : Nat} {cs : List (Nat × Cl)} {i : Nat} {B : Nat → Nat → Option Unit} {A : Nat → Nat → Option Ans} (h : OInv rs lf cs i B A) {rs' : List Rc} {s q : Nat} (hc : ∀ c, Ses.look cs s = some c → c.q < q)
    (hp : PInv rs' lf (put cs s ⟨q, true, 0, false, []⟩) (i + 1)) : OInv rs' lf (put cs s ⟨q, true, 0, false, []⟩) (i + 1) (upA B s q ()) A := ⟨hp, fun s' q' => by
  rw [Ses.look_put]
  have hr := h.r s' q'
  by_cases hs : s' = s
  · subst hs
    rw [if_pos rfl]
    by_cases hq' : q' = q
    · subst hq'
      rw [upA_eq]
      refine ⟨fun h => absurd h (Nat.lt_irrefl _), fun _ => ⟨rfl, fun _ => ?_, fun h => by cases h⟩⟩
      cases hk : Ses.look cs s' with
      | none => rw [hk] at hr; exact hr.2
      | some c => rw [hk] at hr; exact (hr.1 (hc c hk)).2
    · rw [upA_ne (fun h => hq' h.2)]
      refine ⟨fun (hlt : q < q') => ?_, fun h => absurd h.symm hq'⟩
      cases hk : Ses.look cs s' with
      | none => rw [hk] at hr; exact hr
      | some c => rw [hk] at hr; exact hr.1 (Nat.lt_trans (hc c hk) hlt)
  · rw [if_neg hs, upA_ne (fun h => hs h.1)]; exact hr⟩
theorem OInv.live {rs : List Rc} {lf : Nat} {cs : List (Nat × Cl)} {i : Nat} {B : Nat → Nat → Option Unit} {A : Nat → Nat → Option Ans} (h : OInv rs lf cs i B A) (hi : i < 80) : OInv (rs ++ [.live (lf + 1)]) (lf + 1) (lose cs) (i + 1) B A := ⟨h.p.live hi, fun s q => by
  rw [Ses.look_lose]
  have hr := h.r s q
  cases hk : Ses.look cs s with
  | none => rw [hk] at hr; exact hr
  | some c =>
    rw [hk] at hr
    show ORel (some (lost c)) q (B s q) (A s q)
    unfold Ses.lost
    cases ho : c.o with
    | true =>
      rw [if_pos rfl]
      exact ⟨hr.1, fun e => ⟨(hr.2 e).1, (fun h => by cases h), fun _ => .inr ⟨(hr.2 e).2.1 ho, rfl, rfl, rfl⟩⟩⟩
    | false => rw [if_neg Bool.false_ne_true]; exact hr⟩
section
variable (Γ : Ctx) (acts : List T) (db jb tb mb bb ba b7 b8 i : Nat) (a : Act) (ha : a.Ok) (hi : i < 80) (rs : List Rc) (hd : Value) (lf : Nat) (cs : List (Nat × Cl)) (es : Array MapEntry) (ck : Nat) (B : Nat → Nat → Option Unit) (A : Nat → Nat → Option Ans) (s q : Nat) (hs : s < 4) (hq : 1 ≤ q ∧ q ≤ 8) (Q : T → Obs → Glb → Prop) (h : OInv rs lf cs i B A)
  (nx : ∀ rs' lf' cs' B' A' jb tb mb hd es ck, OInv rs' lf' cs' (i + 1) B' A' → TWk Try.prog Γ (fin Try.prog Try.f6 [] Q) [.code (sub (bd Try.f6) [1, 1, 1, 1, 1, 1, 1, 0, 1, 0]), .blk 0, .code (sub (bd Try.f6) [1, 1, 1, 1, 1, 1, 1, 1])] ⟨frame 163 [(0, .sl 7 acts), (3, .ptr 0 db 0), (4, .ptr 3 tb 0), (6, .mp 5 bb), (7, .mp 6 ba), (8, int (i + 1 : Nat))], obsO db jb tb mb bb ba (Jrn.jd (bsR rs')) (bsR rs') hd lf' (Ses.fn cs') es ck B' A', none_⟩)
include ha hi hs hq h nx
theorem on_round : TWk Try.prog Γ (fin Try.prog Try.f6 [] Q) [.code (sub (bd Try.f6) [1, 1, 1, 1, 1, 1, 1, 0, 1, 0, 0, 1, 0, 0, 1, 1]), .blk 1, .code (sub (bd Try.f6) [1, 1, 1, 1, 1, 1, 1, 0, 1, 0, 0, 1, 1]), .code (sub (bd Try.f6) [1, 1, 1, 1, 1, 1, 1, 0, 1, 0]), .blk 0, .code (sub (bd Try.f6) [1, 1, 1, 1, 1, 1, 1, 1])] ⟨frame 163 [(0, .sl 7 acts), (3, .ptr 0 db 0), (4, .ptr 3 tb 0), (6, .mp 5 bb), (7, .mp 6 ba), (8, int i), (9, .ptr 7 b7 0), (10, .ptr 8 b8 0)], obsO2 db jb tb mb bb ba b7 b8 a s q (Jrn.jd (bsR rs)) (bsR rs) hd lf (Ses.fn cs) es ck B A, none_⟩ := by
  have hp := h.p
  have h8 : cs.length ≤ 8 := hp.tb.l
  have hlf := hp.lf
  have stayI : OInv rs lf cs (i + 1) B A := ⟨hp.keep hi, h.r⟩
  have tl := fun (hd : Value) (es : Array MapEntry) (ck : Nat) => nx rs lf cs B A jb tb mb hd es ck stayI
  have stay : ∀ (x : T) (P : T → Obs → Glb → Prop), P = callPost (tP db jb tb mb (Jrn.jd (bsR rs)) (bsR rs) false lf (Ses.fn cs) x) → ∀ y, y = x → P y (obsT db jb tb mb (Jrn.jd (bsR rs)) (bsR rs) hd false lf (Ses.fn cs) es ck) none_ := fun x P hP y hy => by
    subst hP
    exact ⟨(hd, es, ck), trivial, hy, rfl, Nat.le_of_ble_eq_true rfl, fun h => by cases h⟩
  have hqn : q ≠ 0 := by omega
  have hq32 : q < 4294967296 := by omega
  have hs32 : s < 4294967296 := by omega
  by_cases h2 : a.w % 4 = 2
  · have hx : (a.x.take 9).length ≤ 9 := by rw [List.length_take]; omega
    generalize ht : a.x.take 9 = t at *
    have noend : (TCalls Try.prog 23 [.ptr 3 tb 0, u32 s, u32 q, ansT (a.e % 20 : Nat) a.h t] (obsT db jb tb mb (Jrn.jd (bsR rs)) (bsR rs) hd false lf (Ses.fn cs) es ck) none_ (callPost (tP db jb tb mb (Jrn.jd (bsR rs)) (bsR rs) false lf (Ses.fn cs) (int 7)))) →
        TWk Try.prog Γ (fin Try.prog Try.f6 [] Q) [.code (sub (bd Try.f6) [1, 1, 1, 1, 1, 1, 1, 0, 1, 0, 0, 1, 0, 0, 1, 1]), .blk 1, .code (sub (bd Try.f6) [1, 1, 1, 1, 1, 1, 1, 0, 1, 0, 0, 1, 1]), .code (sub (bd Try.f6) [1, 1, 1, 1, 1, 1, 1, 0, 1, 0]), .blk 0, .code (sub (bd Try.f6) [1, 1, 1, 1, 1, 1, 1, 1])] ⟨frame 163 [(0, .sl 7 acts), (3, .ptr 0 db 0), (4, .ptr 3 tb 0), (6, .mp 5 bb), (7, .mp 6 ba), (8, int i), (9, .ptr 7 b7 0), (10, .ptr 8 b8 0)], obsO2 db jb tb mb bb ba b7 b8 a s q (Jrn.jd (bsR rs)) (bsR rs) hd lf (Ses.fn cs) es ck B A, none_⟩ := fun hE =>
      on_endF Γ acts db jb tb mb bb ba b7 b8 i hi a s q _ _ hd lf (Ses.fn cs) es ck B A Q h2 ha.e t ht.symm 7 (by decide) hE tl
    cases hk : Ses.look cs s with
    | none => exact noend (end_none db jb tb mb _ _ hd false lf _ es ck s q (a.e % 20) a.h t (by omega) (by rw [Ses.fn_nat]; exact hk) _ (stay _ _ rfl))
    | some c =>
      by_cases hco : c.q = q ∧ c.o = true
      · have he : a.e % 20 < 256 := by omega
        have hr : (Rc.fin s q (a.e % 20) a.h t).Ok := ⟨hs32, hq32, he, by omega⟩
        have h' := hp.put hi (.fin s q (a.e % 20) a.h t) hr s ⟨q, false, a.e % 20, a.h, t⟩ ⟨hs32, hq32, he, by show t.length ≤ 255; omega⟩ (.inl (by rw [hk]; rfl)) (fun _ => rfl)
        have hO := h.fin hk hco.1 h'
        have e := Ses.fn_put cs s ⟨q, false, a.e % 20, a.h, t⟩
        have hE := en_post db jb tb mb hd lf (Ses.fn cs) es ck rs (i + 1) hp.ok s q hs32 hq32 (a.e % 20) he a.h t (by omega) c (by rw [Ses.fn_nat]; exact hk) hco.1 hco.2
        have hE : TCalls Try.prog 23 [.ptr 3 tb 0, u32 s, u32 q, ansT (a.e % 20 : Nat) a.h t] (obsT db jb tb mb (Jrn.jd (bsR rs)) (bsR rs) hd false lf (Ses.fn cs) es ck) none_ (callPost (tP db jb tb mb (Jrn.jd (bsR (rs ++ [.fin s q (a.e % 20) a.h t]))) (bsR (rs ++ [.fin s q (a.e % 20) a.h t])) false lf (Ses.fn (put cs s ⟨q, false, a.e % 20, a.h, t⟩)) (int 0))) := by rw [e]; exact hE
        have hrel := h.r s q
        rw [hk] at hrel
        have hr2 := hrel.2 hco.1
        exact on_endT Γ acts db jb tb mb bb ba b7 b8 i hi a s q _ _ _ _ hd lf (Ses.fn cs) _ es ck B A Q h2 ha.e t ht.symm hr2.1 (hr2.2.1 hco.2) hE (fun hd es ck => nx _ lf _ B _ jb tb mb hd es ck hO)
      · have hco : c.q ≠ q ∨ c.o = false := by
          by_cases hq : c.q = q
          · exact .inr (by cases ho : c.o with | false => rfl | true => exact absurd ⟨hq, ho⟩ hco)
          · exact .inl hq
        exact noend (end_other db jb tb mb _ _ hd false lf _ es ck s q (a.e % 20) a.h t (by omega) c (by rw [Ses.fn_nat]; exact hk) hco _ (stay _ _ rfl))
  · by_cases h3 : a.w % 4 = 3
    · have hfl := Ses.fn_lose cs
      have hst := st_post db rs hp.ok.ok hp.ok.vs (lf, Ses.fn cs) hp.fo (by show lf < 200; omega) (by have := hp.ok.le; omega)
      have hst : TCalls Try.prog 22 [.ptr 0 db 0] (obsK db (Jrn.jd (bsR rs))) none_ (callPost (stP db (Jrn.jd (bsR (rs ++ [.live (lf + 1)]))) (bsR (rs ++ [.live (lf + 1)])) (lf + 1) (Ses.fn (lose cs)))) := by rw [hfl]; exact hst
      have hC := X9.crash_any db _ hp.ok.vs.ok a.k (callPost (told (.tup []) [0] (obsK db (Jrn.crashD (Jrn.jd (bsR rs)) a.k)))) (dk_post rfl)
      have hD := X9.start_any db (Jrn.crashD (Jrn.jd (bsR rs)) a.k) (callPost (told (.tup []) [0] (obsK db (Jrn.jd (bsR rs))))) (by rw [crash_jd]; exact dk_post rfl)
      exact on_w3 Γ acts db jb tb mb bb ba b7 b8 i hi a s q _ _ _ _ hd lf (lf + 1) (Ses.fn cs) _ es ck B A Q h3 _ hC hD hst (tl hd es ck) (fun jb tb mb hd es ck => nx _ (lf + 1) _ B A jb tb mb hd es ck (h.live hi))
    · have hw : ¬ a.w % 4 = 2 ∧ ¬ a.w % 4 = 3 := ⟨h2, h3⟩
      have new : ∀ (hlk : (Ses.look cs s).isSome = true ∨ cs.length < 8) (hB : B s q = none) (hcq : ∀ c, Ses.look cs s = some c → c.q < q),
          TCalls Try.prog 24 [.ptr 3 tb 0, u32 s, u32 q] (obsT db jb tb mb (Jrn.jd (bsR rs)) (bsR rs) hd false lf (Ses.fn cs) es ck) none_ (callPost (tP db jb tb mb (Jrn.jd (bsR (rs ++ [.beg s q]))) (bsR (rs ++ [.beg s q])) false lf (upF (Ses.fn cs) s ⟨q, true, 0, false, []⟩) (tellT 1 0 false []))) →
          TWk Try.prog Γ (fin Try.prog Try.f6 [] Q) [.code (sub (bd Try.f6) [1, 1, 1, 1, 1, 1, 1, 0, 1, 0, 0, 1, 0, 0, 1, 1]), .blk 1, .code (sub (bd Try.f6) [1, 1, 1, 1, 1, 1, 1, 0, 1, 0, 0, 1, 1]), .code (sub (bd Try.f6) [1, 1, 1, 1, 1, 1, 1, 0, 1, 0]), .blk 0, .code (sub (bd Try.f6) [1, 1, 1, 1, 1, 1, 1, 1])] ⟨frame 163 [(0, .sl 7 acts), (3, .ptr 0 db 0), (4, .ptr 3 tb 0), (6, .mp 5 bb), (7, .mp 6 ba), (8, int i), (9, .ptr 7 b7 0), (10, .ptr 8 b8 0)], obsO2 db jb tb mb bb ba b7 b8 a s q (Jrn.jd (bsR rs)) (bsR rs) hd lf (Ses.fn cs) es ck B A, none_⟩ := fun hlk hB hcq hBg => by
        have hr : (Rc.beg s q).Ok := ⟨hs32, hq32⟩
        have h' := hp.put hi (.beg s q) hr s ⟨q, true, 0, false, []⟩ ⟨hs32, hq32, (show 0 < 256 by decide), (show 0 ≤ 255 by decide)⟩ hlk (fun _ => rfl)
        have hO := h.beg hcq h'
        have e := Ses.fn_put cs s ⟨q, true, 0, false, []⟩
        have hBg : TCalls Try.prog 24 [.ptr 3 tb 0, u32 s, u32 q] (obsT db jb tb mb (Jrn.jd (bsR rs)) (bsR rs) hd false lf (Ses.fn cs) es ck) none_ (callPost (tP db jb tb mb (Jrn.jd (bsR (rs ++ [.beg s q]))) (bsR (rs ++ [.beg s q])) false lf (Ses.fn (put cs s ⟨q, true, 0, false, []⟩)) (tellT 1 0 false []))) := by rw [e]; exact hBg
        exact on_begN Γ acts db jb tb mb bb ba b7 b8 i hi a s q _ _ _ _ hd lf (Ses.fn cs) _ es ck B A Q hw 0 false [] hB hBg (fun hd es ck => nx _ lf _ _ A jb tb mb hd es ck hO)
      have hrel := h.r s q
      cases hk : Ses.look cs s with
      | none =>
        rw [hk] at hrel
        have hf : Ses.fn cs (s : Int) = none := by rw [Ses.fn_nat]; exact hk
        have hkeys := fn_keys hp.tb.n
        by_cases hf8 : 8 ≤ cs.length
        · exact on_begO Γ acts db jb tb mb bb ba b7 b8 i hi a s q _ _ hd lf (Ses.fn cs) es ck B A Q hw 4 6 (by decide) false []
            (begin_full db jb tb mb _ _ hd lf _ es ck false s q hqn hf cs.length _ hkeys hf8 _ (stay _ _ rfl)) tl
        · exact new (.inr (by omega)) hrel.1 (fun c hc => by rw [hk] at hc; cases hc) (bgN_post db jb tb mb hd lf (Ses.fn cs) es ck rs (i + 1) hp.ok s q hs32 hqn hq32 hf cs.length _ hkeys (by omega))
      | some c =>
        rw [hk] at hrel
        have hf : Ses.fn cs (s : Int) = some c := by rw [Ses.fn_nat]; exact hk
        by_cases ho : q ≤ c.q ∨ c.o = true
        · have hB := fun P hP => begin_old db jb tb mb (Jrn.jd (bsR rs)) (bsR rs) hd false lf (Ses.fn cs) es ck s q hqn c hf ho _ (stay (begT c q) P hP)
          unfold begT at hB
          by_cases e1 : c.q = q
          · rw [if_pos e1] at hB
            cases e2 : c.o with
            | true =>
              rw [e2] at hB
              exact on_begO Γ acts db jb tb mb bb ba b7 b8 i hi a s q _ _ hd lf (Ses.fn cs) es ck B A Q hw 2 0 (by decide) false [] (hB _ rfl) tl
            | false =>
              rw [e2] at hB
              have hr2 := hrel.2 e1
              exact on_begA Γ acts db jb tb mb bb ba b7 b8 i hi a s q _ _ hd lf (Ses.fn cs) es ck B A Q hw c.e c.h c.x hr2.1 (hr2.2.2 e2) (hB _ rfl) tl
          · rw [if_neg e1] at hB
            by_cases e3 : q < c.q
            · rw [if_pos e3] at hB
              exact on_begO Γ acts db jb tb mb bb ba b7 b8 i hi a s q _ _ hd lf (Ses.fn cs) es ck B A Q hw 4 14 (by decide) false [] (hB _ rfl) tl
            · rw [if_neg e3] at hB
              exact on_begO Γ acts db jb tb mb bb ba b7 b8 i hi a s q _ _ hd lf (Ses.fn cs) es ck B A Q hw 4 8 (by decide) false [] (hB _ rfl) tl
        · have ho2 : c.o = false := by cases e : c.o with | false => rfl | true => exact absurd (.inr e) ho
          have hlt : c.q < q := by omega
          exact new (.inl (by rw [hk]; rfl)) (hrel.1 hlt).1 (fun c' hc' => by rw [hk] at hc'; injection hc' with hc'; subst hc'; exact hlt) (bgS_post db jb tb mb hd lf (Ses.fn cs) es ck rs (i + 1) hp.ok s q hs32 hqn hq32 c hf hlt ho2)
end
theorem on_loop (Γ : Ctx) (L : List Act) (hL : ∀ a ∈ L, a.Ok) (db bb ba : Nat) (Q : T → Obs → Glb → Prop) (hQ : ∀ x, x = bool true → Q x [] none_) : ∀ (n i : Nat), i + n = 80 → ∀ (rs : List Rc) (lf : Nat) (cs : List (Nat × Cl)) (B : Nat → Nat → Option Unit) (A : Nat → Nat → Option Ans) (jb tb mb : Nat) (hd : Value) (es : Array MapEntry) (ck : Nat), OInv rs lf cs i B A →
    TWk Try.prog Γ (fin Try.prog Try.f6 [] Q) [.code (sub (bd Try.f6) [1, 1, 1, 1, 1, 1, 1, 0, 1, 0]), .blk 0, .code (sub (bd Try.f6) [1, 1, 1, 1, 1, 1, 1, 1])] ⟨frame 163 [(0, .sl 7 (Row.aggs actC L)), (3, .ptr 0 db 0), (4, .ptr 3 tb 0), (6, .mp 5 bb), (7, .mp 6 ba), (8, int i)], obsO db jb tb mb bb ba (Jrn.jd (bsR rs)) (bsR rs) hd lf (Ses.fn cs) es ck B A, none_⟩ := by
  have hal : (Row.aggs actC L).length = L.length := Row.aggs_len L
  have out : ∀ (i : Nat), 80 ≤ i ∨ L.length ≤ i → ∀ (d : Dk) (l : List (List UInt8)) (lf : Nat) (f : Int → Option Cl) (B : Nat → Nat → Option Unit) (A : Nat → Nat → Option Ans) (jb tb mb : Nat) (hd : Value) (es : Array MapEntry) (ck : Nat),
      TWk Try.prog Γ (fin Try.prog Try.f6 [] Q) [.code (sub (bd Try.f6) [1, 1, 1, 1, 1, 1, 1, 0, 1, 0]), .blk 0, .code (sub (bd Try.f6) [1, 1, 1, 1, 1, 1, 1, 1])] ⟨frame 163 [(0, .sl 7 (Row.aggs actC L)), (3, .ptr 0 db 0), (4, .ptr 3 tb 0), (6, .mp 5 bb), (7, .mp 6 ba), (8, int i)], obsO db jb tb mb bb ba d l hd lf f es ck B A, none_⟩ := by
    intro i hi d l lf f B A jb tb mb hd es ck
    generalize Row.aggs actC L = acts at *
    refine run_sound (⟨fun | 12, 2 => .res (.agg (actC ⟨0, 0, 0, 0, false, [], 0⟩)) | _, _ => .no, [((0, 14), ([0, 3, 4, 6, 7, 8, 9, 10], 9))], fun | 25 => some ⟨[], [16], .take true [0,1,2,3,4,5,6,7,8,9,10,11,12,13,14] (.one 15 (.one 16 .done))⟩ | _ => none⟩) 400 (B := bsplit (decide ((↑i : Int) < (↑(List.length acts) : Int))) (bsplit (decide ((↑i : Int) < (80 : Int))) ((0 : Int) ≤ (↑i : Int) ∧ acts[Int.toNat (↑i : Int)]? = some (T.agg [T.v (Value.int IntKind.u8 (↑(Act.w { w := (0 : Nat), s := (0 : Nat), q := (0 : Nat), e := (0 : Nat), h := false, x := [], k := (0 : Int) }) : Int)), T.v (Value.int IntKind.u32 (↑(Act.s { w := (0 : Nat), s := (0 : Nat), q := (0 : Nat), e := (0 : Nat), h := false, x := [], k := (0 : Int) }) : Int)), T.v (Value.int IntKind.u32 (↑(Act.q { w := (0 : Nat), s := (0 : Nat), q := (0 : Nat), e := (0 : Nat), h := false, x := [], k := (0 : Int) }) : Int)), T.v (Value.int IntKind.u8 (↑(Act.e { w := (0 : Nat), s := (0 : Nat), q := (0 : Nat), e := (0 : Nat), h := false, x := [], k := (0 : Int) }) : Int)), T.v (Value.bool false), T.v (Value.string (ByteArray.mk (List.toArray (Act.x { w := (0 : Nat), s := (0 : Nat), q := (0 : Nat), e := (0 : Nat), h := false, x := [], k := (0 : Int) })))), T.v (Value.int IntKind.i64 (Act.k { w := (0 : Nat), s := (0 : Nat), q := (0 : Nat), e := (0 : Nat), h := false, x := [], k := (0 : Int) }))]) ∧ ∀ (b : Nat), ((7 : Nat) = nat_lit 7 ∧ List.all [T.v (Value.int IntKind.u8 (↑(Act.w { w := (0 : Nat), s := (0 : Nat), q := (0 : Nat), e := (0 : Nat), h := false, x := [], k := (0 : Int) }) : Int)), T.v (Value.int IntKind.u32 (↑(Act.s { w := (0 : Nat), s := (0 : Nat), q := (0 : Nat), e := (0 : Nat), h := false, x := [], k := (0 : Int) }) : Int)), T.v (Value.int IntKind.u32 (↑(Act.q { w := (0 : Nat), s := (0 : Nat), q := (0 : Nat), e := (0 : Nat), h := false, x := [], k := (0 : Int) }) : Int)), T.v (Value.int IntKind.u8 (↑(Act.e { w := (0 : Nat), s := (0 : Nat), q := (0 : Nat), e := (0 : Nat), h := false, x := [], k := (0 : Int) }) : Int)), T.v (Value.bool false), T.v (Value.string (ByteArray.mk (List.toArray (Act.x { w := (0 : Nat), s := (0 : Nat), q := (0 : Nat), e := (0 : Nat), h := false, x := [], k := (0 : Int) })))), T.v (Value.int IntKind.i64 (Act.k { w := (0 : Nat), s := (0 : Nat), q := (0 : Nat), e := (0 : Nat), h := false, x := [], k := (0 : Int) }))] T.one = true) ∧ b = b ∧ (0 : Nat) + nat_lit 7 ≤ (7 : Nat) ∧ b = b ∧ b = b ∧ ∀ (b_1 : Nat), ((2 : Nat) = nat_lit 2 ∧ List.all [T.v (Value.int IntKind.u32 (Int.tmod (↑(Act.s { w := (0 : Nat), s := (0 : Nat), q := (0 : Nat), e := (0 : Nat), h := false, x := [], k := (0 : Int) }) : Int) (4 : Int))), T.v (Value.int IntKind.u32 (IntKind.wrap IntKind.u32 ((1 : Int) + Int.tmod (↑(Act.q { w := (0 : Nat), s := (0 : Nat), q := (0 : Nat), e := (0 : Nat), h := false, x := [], k := (0 : Int) }) : Int) (8 : Int))))] T.one = true) ∧ b_1 = b_1 ∧ (0 : Nat) + nat_lit 2 ≤ (2 : Nat) ∧ TWk Try.prog Γ (fin Try.prog Try.f6 [] Q) [It.code (sub (bd Try.f6) [(1 : Nat), (1 : Nat), (1 : Nat), (1 : Nat), (1 : Nat), (1 : Nat), (1 : Nat), (0 : Nat), (1 : Nat), (0 : Nat), (0 : Nat), (1 : Nat), (0 : Nat), (0 : Nat), (1 : Nat), (1 : Nat)]), It.blk (1 : Nat), It.code (sub (bd Try.f6) [(1 : Nat), (1 : Nat), (1 : Nat), (1 : Nat), (1 : Nat), (1 : Nat), (1 : Nat), (0 : Nat), (1 : Nat), (0 : Nat), (0 : Nat), (1 : Nat), (1 : Nat)]), It.code (sub (bd Try.f6) [(1 : Nat), (1 : Nat), (1 : Nat), (1 : Nat), (1 : Nat), (1 : Nat), (1 : Nat), (0 : Nat), (1 : Nat), (0 : Nat)]), It.blk (0 : Nat), It.code (sub (bd Try.f6) [(1 : Nat), (1 : Nat), (1 : Nat), (1 : Nat), (1 : Nat), (1 : Nat), (1 : Nat), (1 : Nat)])] { fr := [T.sl (7 : Nat) acts, T.und, T.und, T.ptr (0 : Nat) db (0 : Nat), T.ptr (3 : Nat) tb (0 : Nat), T.und, T.mp (5 : Nat) bb, T.mp (6 : Nat) ba, T.v (Value.int IntKind.i64 (↑i : Int)), T.ptr (7 : Nat) b (0 : Nat), T.ptr (8 : Nat) b_1 (0 : Nat), T.und, T.und, T.und, T.und, T.und, T.und, T.und, T.und, T.und, T.und, T.und, T.und, T.und, T.und, T.und, T.und, T.und, T.und, T.und, T.und, T.und, T.und, T.und, T.und, T.und, T.und, T.und, T.und, T.und, T.und, T.und, T.und, T.und, T.und, T.und, T.und, T.und, T.und, T.und, T.und, T.und, T.und, T.und, T.und, T.und, T.und, T.und, T.und, T.und, T.und, T.und, T.und, T.und, T.und, T.und, T.und, T.und, T.und, T.und, T.und, T.und, T.und, T.und, T.und, T.und, T.und, T.und, T.und, T.und, T.und, T.und, T.und, T.und, T.und, T.und, T.und, T.und, T.und, T.und, T.und, T.und, T.und, T.und, T.und, T.und, T.und, T.und, T.und, T.und, T.und, T.und, T.und, T.und, T.und, T.und, T.und, T.und, T.und, T.und, T.und, T.und, T.und, T.und, T.und, T.und, T.und, T.und, T.und, T.und, T.und, T.und, T.und, T.und, T.und, T.und, T.und, T.und, T.und, T.und, T.und, T.und, T.und, T.und, T.und, T.und, T.und, T.und, T.und, T.und, T.und, T.und, T.und, T.und, T.und, T.und, T.und, T.und, T.und, T.und, T.und, T.und, T.und, T.und, T.und, T.und, T.und, T.und, T.und, T.und, T.und, T.und, T.und], ob := [(db, Ob.cells [T.v (Value.string (ByteArray.mk (List.toArray (Dk.b d)))), T.v (Value.int IntKind.i64 (↑(Dk.n d) : Int)), T.v (Value.bool (Dk.off d))]), (jb, Ob.cells [T.ptr (0 : Nat) db (0 : Nat), T.slx (1 : Nat) (2 : Nat) (strs l) hd, T.v (Value.bool false)]), ((0 : Nat), Ob.room (1 : Nat) (9 : Nat) (List.length (strs l)) hd), (tb, Ob.cells [T.ptr (1 : Nat) jb (0 : Nat), T.v (Value.int IntKind.u8 (↑lf : Int)), T.mp (4 : Nat) mb]), (mb, Ob.map IntKind.u32 (mT f) es ck), (bb, Ob.kv (56 : Nat) GK (kF bT B)), (ba, Ob.kv (56 : Nat) GK (kF aT A)), (b, Ob.cells [T.v (Value.int IntKind.u8 (↑(Act.w { w := (0 : Nat), s := (0 : Nat), q := (0 : Nat), e := (0 : Nat), h := false, x := [], k := (0 : Int) }) : Int)), T.v (Value.int IntKind.u32 (↑(Act.s { w := (0 : Nat), s := (0 : Nat), q := (0 : Nat), e := (0 : Nat), h := false, x := [], k := (0 : Int) }) : Int)), T.v (Value.int IntKind.u32 (↑(Act.q { w := (0 : Nat), s := (0 : Nat), q := (0 : Nat), e := (0 : Nat), h := false, x := [], k := (0 : Int) }) : Int)), T.v (Value.int IntKind.u8 (↑(Act.e { w := (0 : Nat), s := (0 : Nat), q := (0 : Nat), e := (0 : Nat), h := false, x := [], k := (0 : Int) }) : Int)), T.v (Value.bool false), T.v (Value.string (ByteArray.mk (List.toArray (Act.x { w := (0 : Nat), s := (0 : Nat), q := (0 : Nat), e := (0 : Nat), h := false, x := [], k := (0 : Int) })))), T.v (Value.int IntKind.i64 (Act.k { w := (0 : Nat), s := (0 : Nat), q := (0 : Nat), e := (0 : Nat), h := false, x := [], k := (0 : Int) }))]), (b_1, Ob.cells [T.v (Value.int IntKind.u32 (Int.tmod (↑(Act.s { w := (0 : Nat), s := (0 : Nat), q := (0 : Nat), e := (0 : Nat), h := false, x := [], k := (0 : Int) }) : Int) (4 : Int))), T.v (Value.int IntKind.u32 (IntKind.wrap IntKind.u32 ((1 : Int) + Int.tmod (↑(Act.q { w := (0 : Nat), s := (0 : Nat), q := (0 : Nat), e := (0 : Nat), h := false, x := [], k := (0 : Int) }) : Int) (8 : Int))))])], gl := fun x => none }) (Q (T.v (Value.bool true)) [] fun x => none)) (Q (T.v (Value.bool true)) [] fun x => none)) (by kernel_rfl) ?_
    repeat' (first | exact rfl | exact Nat.le_of_ble_eq_true rfl | refine And.intro ?_ ?_ | intro _ | refine bsplit_mk (fun _ => ?_) (fun _ => ?_))
    all_goals first
      | exact hQ _ rfl
      | (exfalso; simp only [decide_eq_true_eq] at *; omega)
      | trace_state
  intro n
  induction n with
  | zero => intro i hi rs lf cs B A jb tb mb hd es ck _; exact out i (.inl (by omega)) _ _ _ _ _ _ _ _ _ _ _ _
  | succ n ih =>
    intro i hi rs lf cs B A jb tb mb hd es ck hI
    by_cases hl : L.length ≤ i
    · exact out i (.inr hl) _ _ _ _ _ _ _ _ _ _ _ _
    · obtain ⟨a, hia⟩ : ∃ a, L[i]? = some a := ⟨_, List.getElem?_eq_getElem (by omega)⟩
      have ha := hL a (List.mem_of_getElem? hia)
      exact on_head Γ L db jb tb mb bb ba i (by omega) a hia ha.q _ _ hd lf _ es ck B A Q fun b7 b8 =>
        on_round Γ (Row.aggs actC L) db jb tb mb bb ba b7 b8 i a ha (by omega) rs hd lf cs es ck B A (a.s % 4) (1 + a.q % 8) (by omega) (by omega) Q hI (fun rs' lf' cs' B' A' jb tb mb hd es ck h' => ih (i + 1) (by omega) rs' lf' cs' B' A' jb tb mb hd es ck h')
def noA {α : Type} : Nat → Nat → Option α := fun _ _ => none
theorem kF_no {α : Type} (g : α → T) : kF g noA = fun _ => none := by
  funext v
  unfold kF
  split
  · split <;> rfl
  · rfl
theorem on_any (L : List Act) (hL : ∀ a ∈ L, a.Ok) (Q : T → Obs → Glb → Prop) (hQ : ∀ x, x = bool true → Q x [] none_) : TCalls Try.prog 6 [actsT L] [] none_ Q := by
  have k1 := rs_nil 3 (by decide)
  have hsp := speaks_true _ (fun x hx => told_post (sel := []) (ob := []) hx)
  have hs := fun db => st_post db [] k1.ok k1.vs (0, nof) rfl (by decide) (by have := k1.le; omega)
  have hI : PInv [r1] 1 [] 0 := ⟨(by rw [← fn_nil]; rfl), (rs_nil 0 (by decide)).snoc r1 (show 1 < 256 by decide) (by decide), ⟨(by show ([] : List Nat).Nodup; exact List.nodup_nil), (fun _ h => by cases h), Nat.zero_le _⟩, Nat.le_refl _⟩
  have hO : OInv [r1] 1 [] 0 noA noA := ⟨hI, fun s q => ⟨rfl, rfl⟩⟩
  have lp := fun Γ db bb ba jb tb mb hd es ck => on_loop Γ L hL db bb ba Q hQ 80 0 rfl [r1] 1 [] noA noA jb tb mb hd es ck hO
  have hs : ∀ db, TCalls Try.prog 22 [.ptr 0 db 0] (obsK db Jrn.newD) none_ (callPost (stP db (Jrn.jd (bsR [r1])) (bsR [r1]) 1 (Ses.fn []))) := by rw [← fn_nil]; exact hs
  unfold obsO at lp
  rw [kF_no, kF_no] at lp
  generalize bsR [r1] = l at *
  generalize Jrn.jd l = d at *
  generalize Ses.fn [] = f at *
  unfold actsT at *
  generalize Row.aggs actC L = acts at *
  refine TCalls.of Try.func6 rfl (CanCall.of Try.func6 rfl (by decide)) [] fun Γ => ?_
  refine run_sound (⟨fun | 1, 0 => told (bool true) [] [] | 3, 0 => nwH | 4, 1 => stH 0 d l 1 f | 7, 0 => .kv GK | 8, 0 => .kv GK | _, _ => .no, [((2, 10), ([0, 3, 4, 6, 7, 8], 7))], fun | 25 => some ⟨[], [16], .take true [0,1,2,3,4,5,6,7,8,9,10,11,12,13,14] (.one 15 (.one 16 .done))⟩ | _ => none⟩) 400 (B := TCalls Try.prog (21 : Nat) [] [] (fun x => none) (callPost (Hint.call false Unit (fun x => True) [] false (fun x => bool true) (fun x => []) fun x => none_)) ∧ ∀ (a : Unit), True → TCalls Try.prog (11 : Nat) [] [] (fun x => none) (callPost (Hint.call false Nat (fun x => True) [] false (fun b => T.ptr (0 : Nat) b (0 : Nat)) (fun b => obsK b Jrn.newD) fun x => none_)) ∧ ∀ (a : Nat), True → TCalls Try.prog (22 : Nat) [T.ptr (0 : Nat) a (0 : Nat)] [(a, Ob.cells [T.v (Value.string (ByteArray.mk (List.toArray (Dk.b Jrn.newD)))), T.v (Value.int IntKind.i64 (↑(Dk.n Jrn.newD) : Int)), T.v (Value.bool false)])] (fun x => none) (callPost (Hint.call false (Nat × Nat × Nat × Value × Array MapEntry × Nat) (fun x => True) [(0 : Nat)] false (fun a => T.tup [T.ptr (3 : Nat) (Prod.fst (Prod.snd a)) (0 : Nat), int (0 : Int)]) (fun a_1 => obsT a (Prod.fst a_1) (Prod.fst (Prod.snd a_1)) (Prod.fst (Prod.snd (Prod.snd a_1))) d l (Prod.fst (Prod.snd (Prod.snd (Prod.snd a_1)))) false (1 : Nat) f (Prod.fst (Prod.snd (Prod.snd (Prod.snd (Prod.snd a_1))))) (Prod.snd (Prod.snd (Prod.snd (Prod.snd (Prod.snd a_1)))))) fun x => none_)) ∧ ∀ (a_1 : Nat × Nat × Nat × Value × Array MapEntry × Nat), True → ∀ (b b_1 : Nat), TWk Try.prog Γ (fin Try.prog Try.f6 [] Q) [It.code (sub (bd Try.f6) [(1 : Nat), (1 : Nat), (1 : Nat), (1 : Nat), (1 : Nat), (1 : Nat), (1 : Nat), (0 : Nat), (1 : Nat), (0 : Nat)]), It.blk (0 : Nat), It.code (sub (bd Try.f6) [(1 : Nat), (1 : Nat), (1 : Nat), (1 : Nat), (1 : Nat), (1 : Nat), (1 : Nat), (1 : Nat)])] { fr := [T.sl (7 : Nat) acts, T.und, T.und, T.ptr (0 : Nat) a (0 : Nat), T.ptr (3 : Nat) (Prod.fst (Prod.snd a_1)) (0 : Nat), T.und, T.mp (5 : Nat) b, T.mp (6 : Nat) b_1, T.v (Value.int IntKind.i64 (0 : Int)), T.und, T.und, T.und, T.und, T.und, T.und, T.und, T.und, T.und, T.und, T.und, T.und, T.und, T.und, T.und, T.und, T.und, T.und, T.und, T.und, T.und, T.und, T.und, T.und, T.und, T.und, T.und, T.und, T.und, T.und, T.und, T.und, T.und, T.und, T.und, T.und, T.und, T.und, T.und, T.und, T.und, T.und, T.und, T.und, T.und, T.und, T.und, T.und, T.und, T.und, T.und, T.und, T.und, T.und, T.und, T.und, T.und, T.und, T.und, T.und, T.und, T.und, T.und, T.und, T.und, T.und, T.und, T.und, T.und, T.und, T.und, T.und, T.und, T.und, T.und, T.und, T.und, T.und, T.und, T.und, T.und, T.und, T.und, T.und, T.und, T.und, T.und, T.und, T.und, T.und, T.und, T.und, T.und, T.und, T.und, T.und, T.und, T.und, T.und, T.und, T.und, T.und, T.und, T.und, T.und, T.und, T.und, T.und, T.und, T.und, T.und, T.und, T.und, T.und, T.und, T.und, T.und, T.und, T.und, T.und, T.und, T.und, T.und, T.und, T.und, T.und, T.und, T.und, T.und, T.und, T.und, T.und, T.und, T.und, T.und, T.und, T.und, T.und, T.und, T.und, T.und, T.und, T.und, T.und, T.und, T.und, T.und, T.und, T.und, T.und, T.und, T.und, T.und, T.und], ob := [(a, Ob.cells [T.v (Value.string (ByteArray.mk (List.toArray (Dk.b d)))), T.v (Value.int IntKind.i64 (↑(Dk.n d) : Int)), T.v (Value.bool (Dk.off d))]), (Prod.fst a_1, Ob.cells [T.ptr (0 : Nat) a (0 : Nat), T.slx (1 : Nat) (2 : Nat) (strs l) (Prod.fst (Prod.snd (Prod.snd (Prod.snd a_1)))), T.v (Value.bool false)]), ((0 : Nat), Ob.room (1 : Nat) (9 : Nat) (List.length (strs l)) (Prod.fst (Prod.snd (Prod.snd (Prod.snd a_1))))), (Prod.fst (Prod.snd a_1), Ob.cells [T.ptr (1 : Nat) (Prod.fst a_1) (0 : Nat), T.v (Value.int IntKind.u8 (↑(1 : Nat) : Int)), T.mp (4 : Nat) (Prod.fst (Prod.snd (Prod.snd a_1)))]), (Prod.fst (Prod.snd (Prod.snd a_1)), Ob.map IntKind.u32 (mT f) (Prod.fst (Prod.snd (Prod.snd (Prod.snd (Prod.snd a_1))))) (Prod.snd (Prod.snd (Prod.snd (Prod.snd (Prod.snd a_1)))))), (b, Ob.kv (56 : Nat) GK fun x => none), (b_1, Ob.kv (56 : Nat) GK fun x => none)], gl := fun x => none }) (by kernel_rfl) ?_
  repeat' (first | exact rfl | exact Nat.le_of_ble_eq_true rfl | refine And.intro ?_ ?_ | intro _ | refine bsplit_mk (fun _ => ?_) (fun _ => ?_))
  all_goals first
    | exact hsp
    | exact X10.nw_post
    | exact hs _
    | exact lp _ _ _ _ _ _ _ _ _ _
    | trace_state
end X22
end Go.Proofs.Ytaepgceodcdnhaa.Vm
