/- Sessions by the engine: take. -/
import Derived.Test.YtaepgceodcdnhaaSA
namespace Go.Proofs.Ytaepgceodcdnhaa.Vm
open Go Go.RowKit
set_option maxRecDepth 100000
namespace X22
open Ses (Cl Tb look put lost Rc step num text one)
open Oct (be getN takeL)
open Jrn (Dk)
open X1 (obsD rdH)
theorem nm_post (b k n : Nat) (r : List UInt8) (hk : 1 ≤ k ∧ k ≤ 8) (hn : n < 256 ^ k) (hl : r.length ≤ 100000000) : TCalls Try.prog 53 [.ptr 0 b 0, int k] (obsD b (be k n ++ r) 0) none_ (callPost (told (u64 n) [0] (obsD b r 0))) :=
  X1.rdnum_any b _ (by rw [List.length_append, Oct.length_be]; omega) 0 k hk _ fun x hx => by
    rw [Ses.take_num] at hx ⊢
    rw [Ses.get_num k n hn] at hx
    exact ⟨(), trivial, hx, rfl, Nat.le_of_ble_eq_true rfl, fun h => by cases h⟩
theorem tx_post (b : Nat) (x : List UInt8) (h : x.length ≤ 255) : TCalls Try.prog 59 [.ptr 0 b 0] (obsD b (UInt8.ofNat x.length :: x) 0) none_ (callPost (told (str x) [0] (obsD b [] 0))) :=
  X1.text_any b _ (by rw [List.length_cons]; omega) 0 _ (fun e => by cases e) fun c r e y hy => by
    injection e with e1 e2
    subst e1 e2
    rw [Ses.take_text x h] at hy ⊢
    exact ⟨(), trivial, hy, rfl, Nat.le_of_ble_eq_true rfl, fun h => by cases h⟩
def rdN (s : List UInt8) : Hint := .call false Nat (fun _ => True) [] false (fun b => .ptr 0 b 0) (fun b => obsD b s 0) (fun _ => none_)
theorem rd_post (s : List UInt8) : TCalls Try.prog 52 [str s] [] none_ (callPost (rdN s)) := X1.read_any s _ fun b => ⟨b, trivial, rfl, rfl, Nat.zero_le _, fun h => by cases h⟩
section
variable (db jb tb mb : Nat) (d : Dk) (l : List (List UInt8)) (hd : Value) (dead : Bool)
def lsH (lf : Nat) (f : Int → Option Cl) : Hint := .call false (Array MapEntry × Nat) (fun _ => True) [0, 1, 2, 3, 4] false (fun _ => .tup []) (fun a => obsT db jb tb mb d l hd dead lf f a.1 a.2) (fun _ => none_)
theorem ls_post (lf : Nat) (f : Int → Option Cl) (es : Array MapEntry) (ck : Nat) : TCalls Try.prog 58 [.ptr 3 tb 0] (obsT db jb tb mb d l hd dead lf f es ck) none_ (callPost (lsH db jb tb mb d l hd dead lf (fun z => (f z).map lost))) :=
  lose_any db jb tb mb d l hd dead lf f es ck _ fun es ck => ⟨(es, ck), trivial, rfl, rfl, Nat.le_of_ble_eq_true rfl, fun h => by cases h⟩
theorem take_live (lf : Nat) (f : Int → Option Cl) (es : Array MapEntry) (ck : Nat) (n : Nat) (hn : n < 256) (Q : T → Obs → Glb → Prop)
    (hQ : ∀ es ck, Q (.tup []) (obsT db jb tb mb d l hd dead n (fun z => (f z).map lost) es ck) none_) : TCalls Try.prog 43 [.ptr 3 tb 0, str (be 1 1 ++ be 1 n)] (obsT db jb tb mb d l hd dead lf f es ck) none_ Q := by
  have c1 := fun b => nm_post b 1 1 (be 1 n) (by omega) (by decide) (by rw [Oct.length_be]; omega)
  have c2 := fun b => nm_post b 1 n [] (by omega) (by omega) (by simp)
  rw [List.append_nil] at c2
  generalize be 1 1 ++ be 1 n = s0 at *
  generalize be 1 n = s1 at *
  have hw : T.v (.int .u8 (IntKind.wrap .u8 (n : Int))) = u8 n := congrArg u8 (IntWalk.u8_in _ (by omega))
  have hl := fun es ck => ls_post db jb tb mb d l hd dead n f es ck
  generalize (fun z => (f z).map lost) = g at *
  refine TCalls.of Try.func43 rfl (CanCall.of Try.func43 rfl (by decide)) [0, 1, 2, 3, 4] fun Γ => ?_
  refine run_sound (⟨fun | 0, 1 => rdN s0 | 1, 1 => rdH 5 s1 0 (u64 1) | 3, 2 => rdH 5 [] 0 (u64 n) | 3, 3 => .res (u8 n) | 4, 1 => lsH db jb tb mb d l hd dead n g | _, _ => .no, [], fun | 6 => some ⟨[], [11], .take true [0,1,2,3,4,7] (.one 5 (.take true [6] (.one 8 (.take true [9,10] (.one 11 .done)))))⟩ | 10 => some ⟨[], [8], .take true [0,1,2,3,4,5,6,7] (.one 8 .done)⟩ | _ => none⟩) 400 (B := TCalls Try.prog (52 : Nat) [T.v (Value.string (ByteArray.mk (List.toArray s0)))] [] (fun x => none) (callPost (Hint.call false Nat (fun x => True) [] false (fun b => T.ptr (0 : Nat) b (0 : Nat)) (fun b => obsD b s0 (0 : Int)) fun x => none_)) ∧ ∀ (a : Nat), True → TCalls Try.prog (53 : Nat) [T.ptr (0 : Nat) a (0 : Nat), T.v (Value.int IntKind.i64 (1 : Int))] [(a, Ob.cells [T.v (Value.string (ByteArray.mk (List.toArray s0))), T.v (Value.int IntKind.i64 (0 : Int))])] (fun x => none) (callPost (Hint.call false Unit (fun x => True) [(5 : Nat)] false (fun x => u64 (1 : Int)) (fun x => obsD a s1 (0 : Int)) fun x => none_)) ∧ ∀ (a_1 : Unit), True → TCalls Try.prog (53 : Nat) [T.ptr (0 : Nat) a (0 : Nat), T.v (Value.int IntKind.i64 (1 : Int))] [(a, Ob.cells [T.v (Value.string (ByteArray.mk (List.toArray s1))), T.v (Value.int IntKind.i64 (0 : Int))])] (fun x => none) (callPost (Hint.call false Unit (fun x => True) [(5 : Nat)] false (fun x => u64 (↑n : Int)) (fun x => obsD a [] (0 : Int)) fun x => none_)) ∧ ∀ (a : Unit), True → T.v (Value.int IntKind.u8 (IntKind.wrap IntKind.u8 (↑n : Int))) = T.v (Value.int IntKind.u8 (↑n : Int)) ∧ ((1 : Nat) = nat_lit 1 ∧ List.all (List.map T.v (Array.toList #[Value.int IntKind.u8 (↑n : Int)])) T.one = true) ∧ tb = tb ∧ (1 : Nat) + nat_lit 1 ≤ (3 : Nat) ∧ TCalls Try.prog (58 : Nat) [T.ptr (3 : Nat) tb (0 : Nat)] [(db, Ob.cells [T.v (Value.string (ByteArray.mk (List.toArray (Dk.b d)))), T.v (Value.int IntKind.i64 (↑(Dk.n d) : Int)), T.v (Value.bool (Dk.off d))]), (jb, Ob.cells [T.ptr (0 : Nat) db (0 : Nat), T.slx (1 : Nat) (2 : Nat) (X10.strs l) hd, T.v (Value.bool dead)]), ((0 : Nat), Ob.room (1 : Nat) (9 : Nat) (List.length (X10.strs l)) hd), (tb, Ob.cells [T.ptr (1 : Nat) jb (0 : Nat), T.v (Value.int IntKind.u8 (↑n : Int)), T.mp (4 : Nat) mb]), (mb, Ob.map IntKind.u32 (mT f) es ck)] (fun x => none) (callPost (Hint.call false (Array MapEntry × Nat) (fun x => True) [(0 : Nat), (1 : Nat), (2 : Nat), (3 : Nat), (4 : Nat)] false (fun x => T.tup []) (fun a => obsT db jb tb mb d l hd dead n g (Prod.fst a) (Prod.snd a)) fun x => none_)) ∧ ∀ (a : Array MapEntry × Nat), True → Q (T.tup []) [(db, Ob.cells [T.v (Value.string (ByteArray.mk (List.toArray (Dk.b d)))), T.v (Value.int IntKind.i64 (↑(Dk.n d) : Int)), T.v (Value.bool (Dk.off d))]), (jb, Ob.cells [T.ptr (0 : Nat) db (0 : Nat), T.slx (1 : Nat) (2 : Nat) (X10.strs l) hd, T.v (Value.bool dead)]), ((0 : Nat), Ob.room (1 : Nat) (9 : Nat) (List.length (X10.strs l)) hd), (tb, Ob.cells [T.ptr (1 : Nat) jb (0 : Nat), T.v (Value.int IntKind.u8 (↑n : Int)), T.mp (4 : Nat) mb]), (mb, Ob.map IntKind.u32 (mT g) (Prod.fst a) (Prod.snd a))] fun x => none) (by kernel_rfl) ?_
  repeat' (first | exact rfl | exact Nat.le_of_ble_eq_true rfl | refine And.intro ?_ ?_ | intro _ | refine bsplit_mk (fun _ => ?_) (fun _ => ?_))
  all_goals first
    | exact rd_post _
    | exact c1 _
    | exact c2 _
    | exact hw
    | exact hl _ _
    | exact hQ _ _
    | trace_state
theorem take_beg (lf : Nat) (f : Int → Option Cl) (es : Array MapEntry) (ck : Nat) (s q : Nat) (hs : s < 4294967296) (hq : q < 4294967296) (Q : T → Obs → Glb → Prop)
    (hQ : ∀ es ck, Q (.tup []) (obsT db jb tb mb d l hd dead lf (upF f s ⟨q, true, 0, false, []⟩) es ck) none_) : TCalls Try.prog 43 [.ptr 3 tb 0, str (be 1 2 ++ (be 4 s ++ be 4 q))] (obsT db jb tb mb d l hd dead lf f es ck) none_ Q := by
  have c1 := fun b => nm_post b 1 2 (be 4 s ++ be 4 q) (by omega) (by decide) (by rw [List.length_append, Oct.length_be, Oct.length_be]; omega)
  have c2 := fun b => nm_post b 4 s (be 4 q) (by omega) (by omega) (by rw [Oct.length_be]; omega)
  have c3 := fun b => nm_post b 4 q [] (by omega) (by omega) (by simp)
  rw [List.append_nil] at c3
  generalize be 1 2 ++ (be 4 s ++ be 4 q) = s0 at *
  generalize be 4 s ++ be 4 q = s1 at *
  generalize be 4 q = s2 at *
  have hw : T.v (.int .u32 (IntKind.wrap .u32 (s : Int))) = u32 s := congrArg u32 (IntWalk.u32_in _ (by omega))
  have hw2 : T.v (.int .u32 (IntKind.wrap .u32 (q : Int))) = u32 q := congrArg u32 (IntWalk.u32_in _ (by omega))
  have hup := fun t ht => upF_mT f s ⟨q, true, 0, false, []⟩ t ht
  generalize upF f s ⟨q, true, 0, false, []⟩ = g at *
  refine TCalls.of Try.func43 rfl (CanCall.of Try.func43 rfl (by decide)) [0, 1, 2, 3, 4] fun Γ => ?_
  refine run_sound (⟨fun | 0, 1 => rdN s0 | 1, 1 => rdH 5 s1 0 (u64 2) | 6, 5 => rdH 5 s2 0 (u64 s) | 6, 6 => .res (u32 s) | 6, 8 => rdH 5 [] 0 (u64 q) | 6, 9 => .res (u32 q) | 6, 11 => .fn (mT g) | _, _ => .no, [], fun | 6 => some ⟨[3], [11], .take true [0,1,2,3,4,7] (.one 5 (.take true [6] (.one 8 (.take true [9,10] (.one 11 .done)))))⟩ | 10 => some ⟨[], [8], .take true [0,1,2,3,4,5,6,7] (.one 8 .done)⟩ | _ => none⟩) 400 (B := TCalls Try.prog (52 : Nat) [T.v (Value.string (ByteArray.mk (List.toArray s0)))] [] (fun x => none) (callPost (Hint.call false Nat (fun x => True) [] false (fun b => T.ptr (0 : Nat) b (0 : Nat)) (fun b => obsD b s0 (0 : Int)) fun x => none_)) ∧ ∀ (a : Nat), True → TCalls Try.prog (53 : Nat) [T.ptr (0 : Nat) a (0 : Nat), T.v (Value.int IntKind.i64 (1 : Int))] [(a, Ob.cells [T.v (Value.string (ByteArray.mk (List.toArray s0))), T.v (Value.int IntKind.i64 (0 : Int))])] (fun x => none) (callPost (Hint.call false Unit (fun x => True) [(5 : Nat)] false (fun x => u64 (2 : Int)) (fun x => obsD a s1 (0 : Int)) fun x => none_)) ∧ ∀ (a_1 : Unit), True → tb = tb ∧ TCalls Try.prog (53 : Nat) [T.ptr (0 : Nat) a (0 : Nat), T.v (Value.int IntKind.i64 (4 : Int))] [(a, Ob.cells [T.v (Value.string (ByteArray.mk (List.toArray s1))), T.v (Value.int IntKind.i64 (0 : Int))])] (fun x => none) (callPost (Hint.call false Unit (fun x => True) [(5 : Nat)] false (fun x => u64 (↑s : Int)) (fun x => obsD a s2 (0 : Int)) fun x => none_)) ∧ ∀ (a_2 : Unit), True → T.v (Value.int IntKind.u32 (IntKind.wrap IntKind.u32 (↑s : Int))) = T.v (Value.int IntKind.u32 (↑s : Int)) ∧ TCalls Try.prog (53 : Nat) [T.ptr (0 : Nat) a (0 : Nat), T.v (Value.int IntKind.i64 (4 : Int))] [(a, Ob.cells [T.v (Value.string (ByteArray.mk (List.toArray s2))), T.v (Value.int IntKind.i64 (0 : Int))])] (fun x => none) (callPost (Hint.call false Unit (fun x => True) [(5 : Nat)] false (fun x => u64 (↑q : Int)) (fun x => obsD a [] (0 : Int)) fun x => none_)) ∧ ∀ (a_3 : Unit), True → T.v (Value.int IntKind.u32 (IntKind.wrap IntKind.u32 (↑q : Int))) = T.v (Value.int IntKind.u32 (↑q : Int)) ∧ mb = mb ∧ (∀ (z : Int), mT g z = updT (mT f) (↑s : Int) (List.getD [T.ptr (3 : Nat) tb (0 : Nat), T.v (Value.string (ByteArray.mk (List.toArray s0))), T.v (Value.tuple #[]), T.v (Value.tuple #[]), T.ptr (5 : Nat) a (0 : Nat), T.v (Value.tuple #[]), T.v (Value.tuple #[]), T.v (Value.tuple #[]), T.v (Value.string (ByteArray.mk (List.toArray s0))), T.ptr (5 : Nat) a (0 : Nat), T.ptr (5 : Nat) a (0 : Nat), T.v (Value.int IntKind.u64 (2 : Int)), T.v (Value.bool false), T.v (Value.bool false), T.v (Value.tuple #[]), T.v (Value.tuple #[]), T.v (Value.tuple #[]), T.v (Value.tuple #[]), T.v (Value.tuple #[]), T.v (Value.tuple #[]), T.v (Value.tuple #[]), T.v (Value.tuple #[]), T.v (Value.bool true), T.v (Value.bool true), T.ptr (3 : Nat) tb (0 : Nat), T.ptr (3 : Nat) tb (0 : Nat), T.ptr (3 : Nat) tb (2 : Nat), T.mp (4 : Nat) mb, T.ptr (5 : Nat) a (0 : Nat), T.v (Value.int IntKind.u64 (↑s : Int)), T.v (Value.int IntKind.u32 (↑s : Int)), T.ptr (5 : Nat) a (0 : Nat), T.v (Value.int IntKind.u64 (↑q : Int)), T.v (Value.int IntKind.u32 (↑q : Int)), T.agg [T.v (Value.int IntKind.u32 (↑q : Int)), T.v (Value.bool true), T.v (Value.int IntKind.i64 (0 : Int)), T.v (Value.bool false), T.v (Value.string (ByteArray.mk (#[])))], T.v (Value.tuple #[]), T.v (Value.tuple #[]), T.v (Value.tuple #[]), T.v (Value.tuple #[]), T.v (Value.tuple #[]), T.v (Value.tuple #[]), T.v (Value.tuple #[]), T.v (Value.tuple #[]), T.v (Value.tuple #[]), T.v (Value.tuple #[]), T.v (Value.tuple #[]), T.v (Value.tuple #[]), T.v (Value.tuple #[]), T.v (Value.tuple #[]), T.v (Value.tuple #[]), T.v (Value.tuple #[]), T.v (Value.tuple #[]), T.v (Value.tuple #[]), T.v (Value.tuple #[]), T.v (Value.tuple #[]), T.v (Value.tuple #[]), T.v (Value.tuple #[]), T.v (Value.tuple #[]), T.v (Value.tuple #[]), T.v (Value.tuple #[]), T.v (Value.tuple #[])] (34 : Nat) T.und) z) ∧ ∀ (es' : Array MapEntry) (ck' : Nat), ((∃ x, x ∈ Array.toList es ∧ MapEntry.key x = Value.int IntKind.u32 (↑s : Int)) → ck' = ck ∧ ∀ (y : Value) (n : Nat), (∃ x, x ∈ Array.toList es' ∧ MapEntry.key x = y ∧ MapEntry.born x = n) ↔ ∃ x, x ∈ Array.toList es ∧ MapEntry.key x = y ∧ MapEntry.born x = n) → Q (T.tup []) [(db, Ob.cells [T.v (Value.string (ByteArray.mk (List.toArray (Dk.b d)))), T.v (Value.int IntKind.i64 (↑(Dk.n d) : Int)), T.v (Value.bool (Dk.off d))]), (jb, Ob.cells [T.ptr (0 : Nat) db (0 : Nat), T.slx (1 : Nat) (2 : Nat) (X10.strs l) hd, T.v (Value.bool dead)]), ((0 : Nat), Ob.room (1 : Nat) (9 : Nat) (List.length (X10.strs l)) hd), (tb, Ob.cells [T.ptr (1 : Nat) jb (0 : Nat), T.v (Value.int IntKind.u8 (↑lf : Int)), T.mp (4 : Nat) mb]), (mb, Ob.map IntKind.u32 (mT g) es' ck')] fun x => none) (by kernel_rfl) ?_
  repeat' (first | exact rfl | exact Nat.le_of_ble_eq_true rfl | refine And.intro ?_ ?_ | intro _ | refine bsplit_mk (fun _ => ?_) (fun _ => ?_))
  all_goals first
    | exact rd_post _
    | exact c1 _
    | exact c2 _
    | exact c3 _
    | exact hw
    | exact hw2
    | exact hQ _ _
    | exact hup _ rfl _
    | trace_state
theorem take_fin (lf : Nat) (f : Int → Option Cl) (es : Array MapEntry) (ck : Nat) (s q e : Nat) (h : Bool) (x : List UInt8) (hs : s < 4294967296) (hq : q < 4294967296) (he : e < 256) (hx : x.length ≤ 255) (Q : T → Obs → Glb → Prop)
    (hQ : ∀ es ck, Q (.tup []) (obsT db jb tb mb d l hd dead lf (upF f s ⟨q, false, e, h, x⟩) es ck) none_) :
    TCalls Try.prog 43 [.ptr 3 tb 0, str (be 1 3 ++ (be 4 s ++ (be 4 q ++ (be 1 e ++ (be 1 (one h) ++ (UInt8.ofNat x.length :: x))))))] (obsT db jb tb mb d l hd dead lf f es ck) none_ Q := by
  have h1 := Ses.one_lt h
  have c6 := fun b => tx_post b x hx
  have e6 : (UInt8.ofNat x.length :: x).length ≤ 256 := by rw [List.length_cons]; omega
  generalize UInt8.ofNat x.length :: x = s5 at *
  have c5 := fun b => nm_post b 1 (one h) s5 (by omega) (by omega) (by omega)
  have e5 : (be 1 (one h) ++ s5).length ≤ 257 := by rw [List.length_append, Oct.length_be]; omega
  generalize be 1 (one h) ++ s5 = s4 at *
  have c4 := fun b => nm_post b 1 e s4 (by omega) (by omega) (by omega)
  have e4 : (be 1 e ++ s4).length ≤ 258 := by rw [List.length_append, Oct.length_be]; omega
  generalize be 1 e ++ s4 = s3 at *
  have c3 := fun b => nm_post b 4 q s3 (by omega) (by omega) (by omega)
  have e3 : (be 4 q ++ s3).length ≤ 262 := by rw [List.length_append, Oct.length_be]; omega
  generalize be 4 q ++ s3 = s2 at *
  have c2 := fun b => nm_post b 4 s s2 (by omega) (by omega) (by omega)
  have e2 : (be 4 s ++ s2).length ≤ 266 := by rw [List.length_append, Oct.length_be]; omega
  generalize be 4 s ++ s2 = s1 at *
  have c1 := fun b => nm_post b 1 3 s1 (by omega) (by decide) (by omega)
  generalize be 1 3 ++ s1 = s0 at *
  have hw : T.v (.int .u32 (IntKind.wrap .u32 (s : Int))) = u32 s := congrArg u32 (IntWalk.u32_in _ (by omega))
  have hw2 : T.v (.int .u32 (IntKind.wrap .u32 (q : Int))) = u32 q := congrArg u32 (IntWalk.u32_in _ (by omega))
  have hw3 : T.v (.int .i64 (IntKind.wrap .i64 (e : Int))) = int e := congrArg int (wrap_i64 (by omega) (by omega))
  have ho : bool (decide (((one h : Nat) : Int) = 1)) = bool h := by cases h <;> rfl
  generalize one h = k at *
  have hup := fun t ht => upF_mT f s ⟨q, false, e, h, x⟩ t ht
  generalize upF f s ⟨q, false, e, h, x⟩ = g at *
  refine TCalls.of Try.func43 rfl (CanCall.of Try.func43 rfl (by decide)) [0, 1, 2, 3, 4] fun Γ => ?_
  refine run_sound (⟨fun | 0, 1 => rdN s0 | 1, 1 => rdH 5 s1 0 (u64 3) | 8, 1 => rdH 5 s2 0 (u64 s) | 8, 2 => .res (u32 s) | 8, 4 => rdH 5 s3 0 (u64 q) | 8, 5 => .res (u32 q) | 9, 1 => rdH 5 s4 0 (u64 e) | 9, 2 => .res (int e) | 9, 4 => rdH 5 s5 0 (u64 k) | 9, 5 => .res (bool h) | 9, 7 => rdH 5 [] 0 (str x) | 10, 8 => .fn (mT g) | _, _ => .no, [], fun | 6 => some ⟨[], [11], .take true [0,1,2,3,4,7] (.one 5 (.take true [6] (.one 8 (.take true [9,10] (.one 11 .done)))))⟩ | 10 => some ⟨[3, 6], [8], .take true [0,1,2,3,4,5,6,7] (.one 8 .done)⟩ | _ => none⟩) 400 (B := TCalls Try.prog (52 : Nat) [T.v (Value.string (ByteArray.mk (List.toArray s0)))] [] (fun x => none) (callPost (Hint.call false Nat (fun x => True) [] false (fun b => T.ptr (0 : Nat) b (0 : Nat)) (fun b => obsD b s0 (0 : Int)) fun x => none_)) ∧ ∀ (a : Nat), True → TCalls Try.prog (53 : Nat) [T.ptr (0 : Nat) a (0 : Nat), T.v (Value.int IntKind.i64 (1 : Int))] [(a, Ob.cells [T.v (Value.string (ByteArray.mk (List.toArray s0))), T.v (Value.int IntKind.i64 (0 : Int))])] (fun x => none) (callPost (Hint.call false Unit (fun x => True) [(5 : Nat)] false (fun x => u64 (3 : Int)) (fun x => obsD a s1 (0 : Int)) fun x => none_)) ∧ ∀ (a_1 : Unit), True → TCalls Try.prog (53 : Nat) [T.ptr (0 : Nat) a (0 : Nat), T.v (Value.int IntKind.i64 (4 : Int))] [(a, Ob.cells [T.v (Value.string (ByteArray.mk (List.toArray s1))), T.v (Value.int IntKind.i64 (0 : Int))])] (fun x => none) (callPost (Hint.call false Unit (fun x => True) [(5 : Nat)] false (fun x => u64 (↑s : Int)) (fun x => obsD a s2 (0 : Int)) fun x => none_)) ∧ ∀ (a_2 : Unit), True → T.v (Value.int IntKind.u32 (IntKind.wrap IntKind.u32 (↑s : Int))) = T.v (Value.int IntKind.u32 (↑s : Int)) ∧ TCalls Try.prog (53 : Nat) [T.ptr (0 : Nat) a (0 : Nat), T.v (Value.int IntKind.i64 (4 : Int))] [(a, Ob.cells [T.v (Value.string (ByteArray.mk (List.toArray s2))), T.v (Value.int IntKind.i64 (0 : Int))])] (fun x => none) (callPost (Hint.call false Unit (fun x => True) [(5 : Nat)] false (fun x => u64 (↑q : Int)) (fun x => obsD a s3 (0 : Int)) fun x => none_)) ∧ ∀ (a_3 : Unit), True → T.v (Value.int IntKind.u32 (IntKind.wrap IntKind.u32 (↑q : Int))) = T.v (Value.int IntKind.u32 (↑q : Int)) ∧ TCalls Try.prog (53 : Nat) [T.ptr (0 : Nat) a (0 : Nat), T.v (Value.int IntKind.i64 (1 : Int))] [(a, Ob.cells [T.v (Value.string (ByteArray.mk (List.toArray s3))), T.v (Value.int IntKind.i64 (0 : Int))])] (fun x => none) (callPost (Hint.call false Unit (fun x => True) [(5 : Nat)] false (fun x => u64 (↑e : Int)) (fun x => obsD a s4 (0 : Int)) fun x => none_)) ∧ ∀ (a_4 : Unit), True → T.v (Value.int IntKind.i64 (IntKind.wrap IntKind.i64 (↑e : Int))) = T.v (Value.int IntKind.i64 (↑e : Int)) ∧ TCalls Try.prog (53 : Nat) [T.ptr (0 : Nat) a (0 : Nat), T.v (Value.int IntKind.i64 (1 : Int))] [(a, Ob.cells [T.v (Value.string (ByteArray.mk (List.toArray s4))), T.v (Value.int IntKind.i64 (0 : Int))])] (fun x => none) (callPost (Hint.call false Unit (fun x => True) [(5 : Nat)] false (fun x => u64 (↑k : Int)) (fun x => obsD a s5 (0 : Int)) fun x => none_)) ∧ ∀ (a_5 : Unit), True → T.v (Value.bool ((↑k : Int) == (1 : Int))) = T.v (Value.bool h) ∧ TCalls Try.prog (59 : Nat) [T.ptr (0 : Nat) a (0 : Nat)] [(a, Ob.cells [T.v (Value.string (ByteArray.mk (List.toArray s5))), T.v (Value.int IntKind.i64 (0 : Int))])] (fun x => none) (callPost (Hint.call false Unit (fun x => True) [(5 : Nat)] false (fun x_7 => str x) (fun x => obsD a [] (0 : Int)) fun x => none_)) ∧ ∀ (a_6 : Unit), True → ∀ (b : Nat), ((3 : Nat) = nat_lit 3 ∧ List.all [T.v (Value.int IntKind.i64 (↑e : Int)), T.v (Value.bool h), T.v (Value.string (ByteArray.mk (List.toArray x)))] T.one = true) ∧ b = b ∧ (0 : Nat) + nat_lit 3 ≤ (3 : Nat) ∧ tb = tb ∧ b = b ∧ mb = mb ∧ (∀ (z : Int), mT g z = updT (mT f) (↑s : Int) (List.getD [T.ptr (3 : Nat) tb (0 : Nat), T.v (Value.string (ByteArray.mk (List.toArray s0))), T.v (Value.tuple #[]), T.v (Value.tuple #[]), T.ptr (5 : Nat) a (0 : Nat), T.v (Value.int IntKind.u32 (↑s : Int)), T.v (Value.int IntKind.u32 (↑q : Int)), T.ptr (6 : Nat) b (0 : Nat), T.v (Value.string (ByteArray.mk (List.toArray s0))), T.ptr (5 : Nat) a (0 : Nat), T.ptr (5 : Nat) a (0 : Nat), T.v (Value.int IntKind.u64 (3 : Int)), T.v (Value.bool false), T.v (Value.bool false), T.v (Value.tuple #[]), T.v (Value.tuple #[]), T.v (Value.tuple #[]), T.v (Value.tuple #[]), T.v (Value.tuple #[]), T.v (Value.tuple #[]), T.v (Value.tuple #[]), T.v (Value.tuple #[]), T.v (Value.bool false), T.v (Value.bool false), T.v (Value.tuple #[]), T.v (Value.tuple #[]), T.v (Value.tuple #[]), T.v (Value.tuple #[]), T.v (Value.tuple #[]), T.v (Value.tuple #[]), T.v (Value.tuple #[]), T.v (Value.tuple #[]), T.v (Value.tuple #[]), T.v (Value.tuple #[]), T.v (Value.tuple #[]), T.v (Value.bool true), T.v (Value.bool true), T.ptr (5 : Nat) a (0 : Nat), T.v (Value.int IntKind.u64 (↑s : Int)), T.v (Value.int IntKind.u32 (↑s : Int)), T.ptr (5 : Nat) a (0 : Nat), T.v (Value.int IntKind.u64 (↑q : Int)), T.v (Value.int IntKind.u32 (↑q : Int)), T.ptr (5 : Nat) a (0 : Nat), T.v (Value.int IntKind.u64 (↑e : Int)), T.v (Value.int IntKind.i64 (↑e : Int)), T.ptr (5 : Nat) a (0 : Nat), T.v (Value.int IntKind.u64 (↑k : Int)), T.v (Value.bool h), T.ptr (5 : Nat) a (0 : Nat), T.v (Value.string (ByteArray.mk (List.toArray x))), T.agg [T.v (Value.bool h), T.v (Value.string (ByteArray.mk (List.toArray x)))], T.agg [T.v (Value.int IntKind.i64 (↑e : Int)), T.v (Value.bool h), T.v (Value.string (ByteArray.mk (List.toArray x)))], T.ptr (3 : Nat) tb (0 : Nat), T.ptr (3 : Nat) tb (0 : Nat), T.ptr (3 : Nat) tb (2 : Nat), T.mp (4 : Nat) mb, T.v (Value.int IntKind.u32 (↑s : Int)), T.v (Value.int IntKind.u32 (↑q : Int)), T.agg [T.v (Value.int IntKind.i64 (↑e : Int)), T.v (Value.bool h), T.v (Value.string (ByteArray.mk (List.toArray x)))], T.agg [T.v (Value.int IntKind.u32 (↑q : Int)), T.v (Value.bool false), T.v (Value.int IntKind.i64 (↑e : Int)), T.v (Value.bool h), T.v (Value.string (ByteArray.mk (List.toArray x)))]] (60 : Nat) T.und) z) ∧ ∀ (es' : Array MapEntry) (ck' : Nat), ((∃ x, x ∈ Array.toList es ∧ MapEntry.key x = Value.int IntKind.u32 (↑s : Int)) → ck' = ck ∧ ∀ (y : Value) (n : Nat), (∃ x, x ∈ Array.toList es' ∧ MapEntry.key x = y ∧ MapEntry.born x = n) ↔ ∃ x, x ∈ Array.toList es ∧ MapEntry.key x = y ∧ MapEntry.born x = n) → Q (T.tup []) [(db, Ob.cells [T.v (Value.string (ByteArray.mk (List.toArray (Dk.b d)))), T.v (Value.int IntKind.i64 (↑(Dk.n d) : Int)), T.v (Value.bool (Dk.off d))]), (jb, Ob.cells [T.ptr (0 : Nat) db (0 : Nat), T.slx (1 : Nat) (2 : Nat) (X10.strs l) hd, T.v (Value.bool dead)]), ((0 : Nat), Ob.room (1 : Nat) (9 : Nat) (List.length (X10.strs l)) hd), (tb, Ob.cells [T.ptr (1 : Nat) jb (0 : Nat), T.v (Value.int IntKind.u8 (↑lf : Int)), T.mp (4 : Nat) mb]), (mb, Ob.map IntKind.u32 (mT g) es' ck')] fun x => none) (by kernel_rfl) ?_
  repeat' (first | exact rfl | exact Nat.le_of_ble_eq_true rfl | refine And.intro ?_ ?_ | intro _ | refine bsplit_mk (fun _ => ?_) (fun _ => ?_))
  all_goals first
    | exact rd_post _
    | exact c1 _
    | exact c2 _
    | exact c3 _
    | exact c4 _
    | exact c5 _
    | exact c6 _
    | exact hw
    | exact hw2
    | exact hw3
    | exact ho
    | exact hQ _ _
    | exact hup _ rfl _
    | trace_state
/-- what a record changes -/
def stF (lf : Nat) (f : Int → Option Cl) : Rc → Nat × (Int → Option Cl)
  | .live n => (n, fun z => (f z).map lost)
  | .beg s q => (lf, upF f s ⟨q, true, 0, false, []⟩)
  | .fin s q e h x => (lf, upF f s ⟨q, false, e, h, x⟩)
theorem take_any (lf : Nat) (f : Int → Option Cl) (es : Array MapEntry) (ck : Nat) (r : Rc) (hr : r.Ok) (Q : T → Obs → Glb → Prop)
    (hQ : ∀ es ck, Q (.tup []) (obsT db jb tb mb d l hd dead (stF lf f r).1 (stF lf f r).2 es ck) none_) : TCalls Try.prog 43 [.ptr 3 tb 0, str r.b] (obsT db jb tb mb d l hd dead lf f es ck) none_ Q := by
  cases r with
  | live n => exact take_live db jb tb mb d l hd dead lf f es ck n hr Q hQ
  | beg s q => exact take_beg db jb tb mb d l hd dead lf f es ck s q hr.1 hr.2 Q hQ
  | fin s q e h x => exact take_fin db jb tb mb d l hd dead lf f es ck s q e h x hr.1 hr.2.1 hr.2.2.1 hr.2.2.2 Q hQ
end
end X22
end Go.Proofs.Ytaepgceodcdnhaa.Vm
