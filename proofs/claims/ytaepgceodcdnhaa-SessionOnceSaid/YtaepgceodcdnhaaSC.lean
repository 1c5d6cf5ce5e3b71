/- Sessions by the engine: write, Live, denied, Start. -/
import Derived.Test.YtaepgceodcdnhaaSB
namespace Go.Proofs.Ytaepgceodcdnhaa.Vm
open Go Go.RowKit
set_option maxRecDepth 100000
namespace X22
open Ses (Cl Tb look put lost Rc step num text one)
open Jrn (Dk flat)
open X10 (obsJ adH)
/-- what a record leaves, as a call tells it -/
def tH (s0 s1 s2 s3 s4 : Nat) (d : Dk) (l : List (List UInt8)) (dead : Bool) (lf : Nat) (f : Int → Option Cl) (x : T) : Hint := .withB fun B =>
  .call false (Value × Array MapEntry × Nat) (fun _ => True) [s0, s1, s2, s3, s4] false (fun _ => x) (fun a => obsT (B.getD s0 0) (B.getD s1 0) (B.getD s3 0) (B.getD s4 0) d l a.1 dead lf f a.2.1 a.2.2) (fun _ => none_)
def tP (db jb tb mb : Nat) (d : Dk) (l : List (List UInt8)) (dead : Bool) (lf : Nat) (f : Int → Option Cl) (x : T) : Hint :=
  .call false (Value × Array MapEntry × Nat) (fun _ => True) [0, 1, 2, 3, 4] false (fun _ => x) (fun a => obsT db jb tb mb d l a.1 dead lf f a.2.1 a.2.2) (fun _ => none_)
theorem room_parts (r : Rc) (hr : r.Ok) : Oct.room (num 1 r.kind :: r.parts) ≤ 140737488355328 := by
  cases r with
  | live n => exact Nat.le_of_ble_eq_true rfl
  | beg s q => exact Nat.le_of_ble_eq_true rfl
  | fin s q e h x =>
    have h3 : (⟨x.toArray⟩ : ByteArray).size = x.length := by show x.toArray.size = _; simp
    have h4 := hr.2.2.2
    show (0 + 9) + ((0 + 9) + ((0 + 9) + ((0 + 9) + ((0 + 9) + (((⟨x.toArray⟩ : ByteArray).size + 9) + 0))))) ≤ _
    omega
theorem rec_post (r : Rc) (hr : r.Ok) : TCalls Try.prog 45 [u64 r.kind, .sl 4 (X1.parts r.parts)] [] none_ (callPost (told (str r.b) [] [])) :=
  record_any r.kind r.parts (room_parts r hr)
    (by cases r with
      | live n => have : n < 256 := hr; intro p hp; simp only [Ses.Rc.parts, Ses.Rc.kind, List.mem_cons, List.not_mem_nil, or_false] at hp; rcases hp with rfl | rfl <;> simp only [num] <;> omega
      | beg s q => have := hr.1; have := hr.2; intro p hp; simp only [Ses.Rc.parts, Ses.Rc.kind, List.mem_cons, List.not_mem_nil, or_false] at hp; rcases hp with rfl | rfl | rfl <;> simp only [num] <;> omega
      | fin s q e h x => have := hr.1; have := hr.2.1; have := hr.2.2.1; have := Ses.one_lt h; intro p hp; simp only [Ses.Rc.parts, Ses.Rc.kind, List.mem_cons, List.not_mem_nil, or_false] at hp; rcases hp with rfl | rfl | rfl | rfl | rfl | rfl <;> simp only [num, text] <;> omega)
    (by cases r <;> simp [Ses.Rc.parts]) _ fun x hx => by rw [Ses.Rc.join hr] at hx; exact told_post hx
section
variable (db jb tb mb : Nat)
theorem tk_post (d : Dk) (l : List (List UInt8)) (hd : Value) (dead : Bool) (lf : Nat) (f : Int → Option Cl) (es : Array MapEntry) (ck : Nat) (r : Rc) (hr : r.Ok) :
    TCalls Try.prog 43 [.ptr 3 tb 0, str r.b] (obsT db jb tb mb d l hd dead lf f es ck) none_ (callPost (tP db jb tb mb d l dead (stF lf f r).1 (stF lf f r).2 (.tup []))) :=
  take_any db jb tb mb d l hd dead lf f es ck r hr _ fun es ck => ⟨(hd, es, ck), trivial, rfl, rfl, Nat.le_of_ble_eq_true rfl, fun h => by cases h⟩
theorem write_ok (l : List (List UInt8)) (hv : Jrn.Vs l) (hd : Value) (lf : Nat) (f : Int → Option Cl) (es : Array MapEntry) (ck : Nat) (r : Rc) (hr : r.Ok) (h2 : (flat l).length + r.b.length + 6 ≤ 1048576) (Q : T → Obs → Glb → Prop)
    (hQ : ∀ h es ck, Q (int 0) (obsT db jb tb mb (Jrn.jd (l ++ [r.b])) (l ++ [r.b]) h false (stF lf f r).1 (stF lf f r).2 es ck) none_) : TCalls Try.prog 44 [.ptr 3 tb 0, str r.b] (obsT db jb tb mb (Jrn.jd l) l hd false lf f es ck) none_ Q := by
  have ha := X10.ad_post db jb hv hd r.b (Ses.Rc.vr hr) h2
  have ht := fun h => tk_post db jb tb mb (Jrn.jd (l ++ [r.b])) (l ++ [r.b]) h false lf f es ck r hr
  generalize r.b = s at *
  generalize l ++ [s] = l' at *
  generalize Jrn.jd l = d at *
  generalize Jrn.jd l' = d' at *
  generalize (stF lf f r).1 = lf' at *
  generalize (stF lf f r).2 = f' at *
  refine TCalls.of Try.func44 rfl (CanCall.of Try.func44 rfl (by decide)) [0, 1, 2, 3, 4] fun Γ => ?_
  refine run_sound (⟨fun | 1, 5 => adH 0 1 2 d' l' (int 0) | 4, 2 => tH 0 1 2 3 4 d' l' false lf' f' (.tup []) | _, _ => .no, [], fun  | _ => none⟩) 400 (B := tb = tb ∧ TCalls Try.prog (18 : Nat) [T.ptr (1 : Nat) jb (0 : Nat), T.v (Value.string (ByteArray.mk (List.toArray s)))] [(db, Ob.cells [T.v (Value.string (ByteArray.mk (List.toArray (Dk.b d)))), T.v (Value.int IntKind.i64 (↑(Dk.n d) : Int)), T.v (Value.bool (Dk.off d))]), (jb, Ob.cells [T.ptr (0 : Nat) db (0 : Nat), T.slx (1 : Nat) (2 : Nat) (X10.strs l) hd, T.v (Value.bool false)]), ((0 : Nat), Ob.room (1 : Nat) (9 : Nat) (List.length (X10.strs l)) hd)] (fun x => none) (callPost (Hint.call false Value (fun x => True) [(0 : Nat), (1 : Nat), (2 : Nat)] false (fun x => int (0 : Int)) (fun h => obsJ db jb d' l' h false) fun x => none_)) ∧ ∀ (a : Value), True → TCalls Try.prog (43 : Nat) [T.ptr (3 : Nat) tb (0 : Nat), T.v (Value.string (ByteArray.mk (List.toArray s)))] [(db, Ob.cells [T.v (Value.string (ByteArray.mk (List.toArray (Dk.b d')))), T.v (Value.int IntKind.i64 (↑(Dk.n d') : Int)), T.v (Value.bool (Dk.off d'))]), (jb, Ob.cells [T.ptr (0 : Nat) db (0 : Nat), T.slx (1 : Nat) (2 : Nat) (X10.strs l') a, T.v (Value.bool false)]), ((0 : Nat), Ob.room (1 : Nat) (9 : Nat) (List.length (X10.strs l')) a), (tb, Ob.cells [T.ptr (1 : Nat) jb (0 : Nat), T.v (Value.int IntKind.u8 (↑lf : Int)), T.mp (4 : Nat) mb]), (mb, Ob.map IntKind.u32 (mT f) es ck)] (fun x => none) (callPost (Hint.call false (Value × Array MapEntry × Nat) (fun x => True) [(0 : Nat), (1 : Nat), (2 : Nat), (3 : Nat), (4 : Nat)] false (fun x => T.tup []) (fun a => obsT db jb tb mb d' l' (Prod.fst a) false lf' f' (Prod.fst (Prod.snd a)) (Prod.snd (Prod.snd a))) fun x => none_)) ∧ ∀ (a : Value × Array MapEntry × Nat), True → Q (T.v (Value.int IntKind.i64 (0 : Int))) [(db, Ob.cells [T.v (Value.string (ByteArray.mk (List.toArray (Dk.b d')))), T.v (Value.int IntKind.i64 (↑(Dk.n d') : Int)), T.v (Value.bool (Dk.off d'))]), (jb, Ob.cells [T.ptr (0 : Nat) db (0 : Nat), T.slx (1 : Nat) (2 : Nat) (X10.strs l') (Prod.fst a), T.v (Value.bool false)]), ((0 : Nat), Ob.room (1 : Nat) (9 : Nat) (List.length (X10.strs l')) (Prod.fst a)), (tb, Ob.cells [T.ptr (1 : Nat) jb (0 : Nat), T.v (Value.int IntKind.u8 (↑lf' : Int)), T.mp (4 : Nat) mb]), (mb, Ob.map IntKind.u32 (mT f') (Prod.fst (Prod.snd a)) (Prod.snd (Prod.snd a)))] fun x => none) (by kernel_rfl) ?_
  repeat' (first | exact rfl | exact Nat.le_of_ble_eq_true rfl | refine And.intro ?_ ?_ | intro _ | refine bsplit_mk (fun _ => ?_) (fun _ => ?_))
  all_goals first
    | exact ha
    | exact ht _
    | exact hQ _ _ _
    | trace_state
/-- a write that the disk refuses -/
theorem write_fail (d : Dk) (hk : d.Ok) (l : List (List UInt8)) (hd : Value) (lf : Nat) (f : Int → Option Cl) (es : Array MapEntry) (ck : Nat) (s : List UInt8) (hs : Jrn.Vr s) (e : Int) (he : Jrn.appE d (Jrn.frL s) = e) (hne : e ≠ 0) (Q : T → Obs → Glb → Prop)
    (hQ : ∀ x, x = int e → Q x (obsT db jb tb mb d l hd true lf f es ck) none_) : TCalls Try.prog 44 [.ptr 3 tb 0, str s] (obsT db jb tb mb d l hd false lf f es ck) none_ Q := by
  have ha := X10.add_fail db jb d hk l hd s hs e he hne _ (fun x hx => told_post (sel := [0, 1, 2]) (ob := obsJ db jb d l hd true) hx)
  refine TCalls.of Try.func44 rfl (CanCall.of Try.func44 rfl (by decide)) [0, 1, 2, 3, 4] fun Γ => ?_
  refine run_sound (⟨fun | 1, 5 => told (int e) [0, 1, 2] (obsJ db jb d l hd true) | _, _ => .no, [], fun  | _ => none⟩) 400 (B := tb = tb ∧ TCalls Try.prog (18 : Nat) [T.ptr (1 : Nat) jb (0 : Nat), T.v (Value.string (ByteArray.mk (List.toArray s)))] [(db, Ob.cells [T.v (Value.string (ByteArray.mk (List.toArray (Dk.b d)))), T.v (Value.int IntKind.i64 (↑(Dk.n d) : Int)), T.v (Value.bool (Dk.off d))]), (jb, Ob.cells [T.ptr (0 : Nat) db (0 : Nat), T.slx (1 : Nat) (2 : Nat) (X10.strs l) hd, T.v (Value.bool false)]), ((0 : Nat), Ob.room (1 : Nat) (9 : Nat) (List.length (X10.strs l)) hd)] (fun x => none) (callPost (Hint.call false Unit (fun x => True) [(0 : Nat), (1 : Nat), (2 : Nat)] false (fun x => int e) (fun x => obsJ db jb d l hd true) fun x => none_)) ∧ ∀ (a : Unit), True → bsplit (e != (0 : Int)) (Q (T.v (Value.int IntKind.i64 e)) [(db, Ob.cells [T.v (Value.string (ByteArray.mk (List.toArray (Dk.b d)))), T.v (Value.int IntKind.i64 (↑(Dk.n d) : Int)), T.v (Value.bool (Dk.off d))]), (jb, Ob.cells [T.ptr (0 : Nat) db (0 : Nat), T.slx (1 : Nat) (2 : Nat) (X10.strs l) hd, T.v (Value.bool true)]), ((0 : Nat), Ob.room (1 : Nat) (9 : Nat) (List.length (X10.strs l)) hd), (tb, Ob.cells [T.ptr (1 : Nat) jb (0 : Nat), T.v (Value.int IntKind.u8 (↑lf : Int)), T.mp (4 : Nat) mb]), (mb, Ob.map IntKind.u32 (mT f) es ck)] fun x => none) False) (by kernel_rfl) ?_
  repeat' (first | exact rfl | exact Nat.le_of_ble_eq_true rfl | refine And.intro ?_ ?_ | intro _ | refine bsplit_mk (fun _ => ?_) (fun _ => ?_))
  all_goals first
    | exact ha
    | exact hQ _ rfl
    | (exfalso; rename_i h; simp only [bne_eq_false_iff_eq] at h; exact hne (by simpa using h))
    | trace_state
theorem write_dead (d : Dk) (l : List (List UInt8)) (hd : Value) (lf : Nat) (f : Int → Option Cl) (es : Array MapEntry) (ck : Nat) (s : List UInt8) (hs : Jrn.Vr s) (Q : T → Obs → Glb → Prop)
    (hQ : ∀ x, x = int 8 → Q x (obsT db jb tb mb d l hd true lf f es ck) none_) : TCalls Try.prog 44 [.ptr 3 tb 0, str s] (obsT db jb tb mb d l hd true lf f es ck) none_ Q := by
  have ha := X10.add_dead db jb d l hd s hs _ (fun x hx => told_post (sel := [0, 1, 2]) (ob := obsJ db jb d l hd true) hx)
  refine TCalls.of Try.func44 rfl (CanCall.of Try.func44 rfl (by decide)) [0, 1, 2, 3, 4] fun Γ => ?_
  refine run_sound (⟨fun | 1, 5 => told (int 8) [0, 1, 2] (obsJ db jb d l hd true) | _, _ => .no, [], fun  | _ => none⟩) 400 (B := tb = tb ∧ TCalls Try.prog (18 : Nat) [T.ptr (1 : Nat) jb (0 : Nat), T.v (Value.string (ByteArray.mk (List.toArray s)))] [(db, Ob.cells [T.v (Value.string (ByteArray.mk (List.toArray (Dk.b d)))), T.v (Value.int IntKind.i64 (↑(Dk.n d) : Int)), T.v (Value.bool (Dk.off d))]), (jb, Ob.cells [T.ptr (0 : Nat) db (0 : Nat), T.slx (1 : Nat) (2 : Nat) (X10.strs l) hd, T.v (Value.bool true)]), ((0 : Nat), Ob.room (1 : Nat) (9 : Nat) (List.length (X10.strs l)) hd)] (fun x => none) (callPost (Hint.call false Unit (fun x => True) [(0 : Nat), (1 : Nat), (2 : Nat)] false (fun x => int (8 : Int)) (fun x => obsJ db jb d l hd true) fun x => none_)) ∧ ∀ (a : Unit), True → Q (T.v (Value.int IntKind.i64 (8 : Int))) [(db, Ob.cells [T.v (Value.string (ByteArray.mk (List.toArray (Dk.b d)))), T.v (Value.int IntKind.i64 (↑(Dk.n d) : Int)), T.v (Value.bool (Dk.off d))]), (jb, Ob.cells [T.ptr (0 : Nat) db (0 : Nat), T.slx (1 : Nat) (2 : Nat) (X10.strs l) hd, T.v (Value.bool true)]), ((0 : Nat), Ob.room (1 : Nat) (9 : Nat) (List.length (X10.strs l)) hd), (tb, Ob.cells [T.ptr (1 : Nat) jb (0 : Nat), T.v (Value.int IntKind.u8 (↑lf : Int)), T.mp (4 : Nat) mb]), (mb, Ob.map IntKind.u32 (mT f) es ck)] fun x => none) (by kernel_rfl) ?_
  repeat' (first | exact rfl | exact Nat.le_of_ble_eq_true rfl | refine And.intro ?_ ?_ | intro _ | refine bsplit_mk (fun _ => ?_) (fun _ => ?_))
  all_goals first
    | exact ha
    | exact hQ _ rfl
    | trace_state
/-! Live -/
def evT (db jb tb mb : Nat) (d : Dk) (l : List (List UInt8)) (hd : Value) (dead : Bool) (lf : Nat) (f : Int → Option Cl) (es : Array MapEntry) (ck : Nat) (x : T) : Hint := told x [0, 1, 2, 3, 4] (obsT db jb tb mb d l hd dead lf f es ck)
theorem live_nil (Q : T → Obs → Glb → Prop) (hQ : ∀ x, x = int 1 → Q x [] none_) : TCalls Try.prog 25 [.v (.pointer none)] [] none_ Q := by
  refine TCalls.of Try.func25 rfl (CanCall.of Try.func25 rfl (by decide)) [] fun Γ => ?_
  refine run_sound (⟨fun _ _ => .no, [], fun _ => none⟩) 400 (B := Q (T.v (Value.int IntKind.i64 (1 : Int))) [] fun x => none) (by kernel_rfl) ?_
  repeat' (first | exact rfl | exact Nat.le_of_ble_eq_true rfl | refine And.intro ?_ ?_ | intro _ | refine bsplit_mk (fun _ => ?_) (fun _ => ?_))
  all_goals first
    | exact hQ _ rfl
    | trace_state
theorem live_full (d : Dk) (l : List (List UInt8)) (hd : Value) (dead : Bool) (lf : Nat) (h8 : 200 ≤ lf) (f : Int → Option Cl) (es : Array MapEntry) (ck : Nat) (Q : T → Obs → Glb → Prop)
    (hQ : ∀ x, x = int 6 → Q x (obsT db jb tb mb d l hd dead lf f es ck) none_) : TCalls Try.prog 25 [.ptr 3 tb 0] (obsT db jb tb mb d l hd dead lf f es ck) none_ Q := by
  refine TCalls.of Try.func25 rfl (CanCall.of Try.func25 rfl (by decide)) [0, 1, 2, 3, 4] fun Γ => ?_
  refine run_sound (⟨fun _ _ => .no, [], fun _ => none⟩) 400 (B := tb = tb ∧ bsplit (decide ((↑lf : Int) ≥ (200 : Int))) (Q (T.v (Value.int IntKind.i64 (6 : Int))) [(db, Ob.cells [T.v (Value.string (ByteArray.mk (List.toArray (Dk.b d)))), T.v (Value.int IntKind.i64 (↑(Dk.n d) : Int)), T.v (Value.bool (Dk.off d))]), (jb, Ob.cells [T.ptr (0 : Nat) db (0 : Nat), T.slx (1 : Nat) (2 : Nat) (X10.strs l) hd, T.v (Value.bool dead)]), ((0 : Nat), Ob.room (1 : Nat) (9 : Nat) (List.length (X10.strs l)) hd), (tb, Ob.cells [T.ptr (1 : Nat) jb (0 : Nat), T.v (Value.int IntKind.u8 (↑lf : Int)), T.mp (4 : Nat) mb]), (mb, Ob.map IntKind.u32 (mT f) es ck)] fun x => none) (tb = tb ∧ False)) (by kernel_rfl) ?_
  repeat' (first | exact rfl | exact Nat.le_of_ble_eq_true rfl | refine And.intro ?_ ?_ | intro _ | refine bsplit_mk (fun _ => ?_) (fun _ => ?_))
  all_goals first
    | exact hQ _ rfl
    | (exfalso; simp only [decide_eq_false_iff_not] at *; omega)
    | trace_state
theorem live_ok (l : List (List UInt8)) (hv : Jrn.Vs l) (hd : Value) (lf : Nat) (h8 : lf < 200) (f : Int → Option Cl) (es : Array MapEntry) (ck : Nat) (h2 : (flat l).length + 8 ≤ 1048576) (Q : T → Obs → Glb → Prop)
    (hQ : ∀ h es ck, Q (int 0) (obsT db jb tb mb (Jrn.jd (l ++ [(Rc.live (lf + 1)).b])) (l ++ [(Rc.live (lf + 1)).b]) h false (lf + 1) (fun z => (f z).map lost) es ck) none_) : TCalls Try.prog 25 [.ptr 3 tb 0] (obsT db jb tb mb (Jrn.jd l) l hd false lf f es ck) none_ Q := by
  have hr : (Rc.live (lf + 1)).Ok := (show lf + 1 < 256 by omega)
  have hn := X2.onum_any (lf + 1) 1 _ (fun x hx => told_post (sel := []) (ob := []) hx)
  have hrec := rec_post (.live (lf + 1)) hr
  have hw := write_ok db jb tb mb l hv hd lf f es ck (.live (lf + 1)) hr (by rw [Ses.Rc.b_len]; show _ + 2 + 6 ≤ _; omega) (callPost (tP db jb tb mb (Jrn.jd (l ++ [(Rc.live (lf + 1)).b])) (l ++ [(Rc.live (lf + 1)).b]) false (lf + 1) (fun z => (f z).map lost) (int 0))) fun h es ck => ⟨(h, es, ck), trivial, rfl, rfl, Nat.le_of_ble_eq_true rfl, fun h => by cases h⟩
  have e1 : T.v (.int .u64 (IntKind.wrap .u64 (lf : Int))) = u64 lf := congrArg u64 (IntWalk.u64_in _ (by omega))
  have e2 : T.v (.int .u64 (IntKind.wrap .u64 ((lf : Int) + 1))) = u64 (lf + 1 : Nat) := congrArg u64 (by rw [IntWalk.u64_in _ (by omega)]; omega)
  have e3 : (num 1 (lf + 1)).n = lf + 1 := rfl
  generalize (Rc.live (lf + 1)).b = s at *
  generalize l ++ [s] = l' at *
  generalize Jrn.jd l = d at *
  generalize Jrn.jd l' = d' at *
  generalize (fun z => (f z).map lost) = g at *
  refine TCalls.of Try.func25 rfl (CanCall.of Try.func25 rfl (by decide)) [0, 1, 2, 3, 4] fun Γ => ?_
  refine run_sound (⟨fun | 5, 5 => .res (u64 lf) | 5, 6 => .res (u64 (lf + 1 : Nat)) | 5, 7 => told (.agg (X1.partC (num 1 (lf + 1)))) [] [] | 5, 9 => told (str s) [] [] | 5, 10 => tH 0 1 2 3 4 d' l' false (lf + 1) g (int 0) | _, _ => .no, [], fun  | _ => none⟩) 400 (B := tb = tb ∧ bsplit (decide ((↑lf : Int) ≥ (200 : Int))) (Q (T.v (Value.int IntKind.i64 (6 : Int))) [(db, Ob.cells [T.v (Value.string (ByteArray.mk (List.toArray (Dk.b d)))), T.v (Value.int IntKind.i64 (↑(Dk.n d) : Int)), T.v (Value.bool (Dk.off d))]), (jb, Ob.cells [T.ptr (0 : Nat) db (0 : Nat), T.slx (1 : Nat) (2 : Nat) (X10.strs l) hd, T.v (Value.bool false)]), ((0 : Nat), Ob.room (1 : Nat) (9 : Nat) (List.length (X10.strs l)) hd), (tb, Ob.cells [T.ptr (1 : Nat) jb (0 : Nat), T.v (Value.int IntKind.u8 (↑lf : Int)), T.mp (4 : Nat) mb]), (mb, Ob.map IntKind.u32 (mT f) es ck)] fun x => none) (tb = tb ∧ T.v (Value.int IntKind.u64 (IntKind.wrap IntKind.u64 (↑lf : Int))) = T.v (Value.int IntKind.u64 (↑lf : Int)) ∧ T.v (Value.int IntKind.u64 (IntKind.wrap IntKind.u64 ((↑lf : Int) + (1 : Int)))) = T.v (Value.int IntKind.u64 (↑(lf + (1 : Nat)) : Int)) ∧ TCalls Try.prog (47 : Nat) [T.v (Value.int IntKind.u64 (↑(lf + (1 : Nat)) : Int)), T.v (Value.int IntKind.i64 (1 : Int))] [] (fun x => none) (callPost (Hint.call false Unit (fun x => True) [] false (fun x => T.agg (X1.partC (num (1 : Int) (lf + (1 : Nat))))) (fun x => []) fun x => none_)) ∧ ∀ (a : Unit), True → TCalls Try.prog (45 : Nat) [T.v (Value.int IntKind.u64 (1 : Int)), T.sl (4 : Nat) [T.agg [T.v (Value.int IntKind.i64 (Oct.Part.kind (num (1 : Int) (lf + (1 : Nat))))), T.v (Value.int IntKind.i64 (Oct.Part.size (num (1 : Int) (lf + (1 : Nat))))), T.v (Value.int IntKind.u64 (↑(Oct.Part.n (num (1 : Int) (lf + (1 : Nat)))) : Int)), T.v (Value.string (Oct.Part.s (num (1 : Int) (lf + (1 : Nat)))))]]] [] (fun x => none) (callPost (Hint.call false Unit (fun x => True) [] false (fun x => str s) (fun x => []) fun x => none_)) ∧ ∀ (a : Unit), True → TCalls Try.prog (44 : Nat) [T.ptr (3 : Nat) tb (0 : Nat), T.v (Value.string (ByteArray.mk (List.toArray s)))] [(db, Ob.cells [T.v (Value.string (ByteArray.mk (List.toArray (Dk.b d)))), T.v (Value.int IntKind.i64 (↑(Dk.n d) : Int)), T.v (Value.bool (Dk.off d))]), (jb, Ob.cells [T.ptr (0 : Nat) db (0 : Nat), T.slx (1 : Nat) (2 : Nat) (X10.strs l) hd, T.v (Value.bool false)]), ((0 : Nat), Ob.room (1 : Nat) (9 : Nat) (List.length (X10.strs l)) hd), (tb, Ob.cells [T.ptr (1 : Nat) jb (0 : Nat), T.v (Value.int IntKind.u8 (↑lf : Int)), T.mp (4 : Nat) mb]), (mb, Ob.map IntKind.u32 (mT f) es ck)] (fun x => none) (callPost (Hint.call false (Value × Array MapEntry × Nat) (fun x => True) [(0 : Nat), (1 : Nat), (2 : Nat), (3 : Nat), (4 : Nat)] false (fun x => int (0 : Int)) (fun a => obsT db jb tb mb d' l' (Prod.fst a) false (lf + (1 : Nat)) g (Prod.fst (Prod.snd a)) (Prod.snd (Prod.snd a))) fun x => none_)) ∧ ∀ (a : Value × Array MapEntry × Nat), True → Q (T.v (Value.int IntKind.i64 (0 : Int))) [(db, Ob.cells [T.v (Value.string (ByteArray.mk (List.toArray (Dk.b d')))), T.v (Value.int IntKind.i64 (↑(Dk.n d') : Int)), T.v (Value.bool (Dk.off d'))]), (jb, Ob.cells [T.ptr (0 : Nat) db (0 : Nat), T.slx (1 : Nat) (2 : Nat) (X10.strs l') (Prod.fst a), T.v (Value.bool false)]), ((0 : Nat), Ob.room (1 : Nat) (9 : Nat) (List.length (X10.strs l')) (Prod.fst a)), (tb, Ob.cells [T.ptr (1 : Nat) jb (0 : Nat), T.v (Value.int IntKind.u8 (↑(lf + (1 : Nat)) : Int)), T.mp (4 : Nat) mb]), (mb, Ob.map IntKind.u32 (mT g) (Prod.fst (Prod.snd a)) (Prod.snd (Prod.snd a)))] fun x => none)) (by kernel_rfl) ?_
  repeat' (first | exact rfl | exact Nat.le_of_ble_eq_true rfl | refine And.intro ?_ ?_ | intro _ | refine bsplit_mk (fun _ => ?_) (fun _ => ?_))
  all_goals first
    | exact e1
    | exact e2
    | exact hn
    | exact hrec
    | exact hw
    | exact hQ _ _ _
    | (exfalso; simp only [decide_eq_true_eq] at *; omega)
    | trace_state
theorem live_fail (d : Dk) (hk : d.Ok) (l : List (List UInt8)) (hd : Value) (lf : Nat) (h8 : lf < 200) (f : Int → Option Cl) (es : Array MapEntry) (ck : Nat) (ho : d.off = true) (Q : T → Obs → Glb → Prop)
    (hQ : ∀ x, x = int 10 → Q x (obsT db jb tb mb d l hd true lf f es ck) none_) : TCalls Try.prog 25 [.ptr 3 tb 0] (obsT db jb tb mb d l hd false lf f es ck) none_ Q := by
  have hr : (Rc.live (lf + 1)).Ok := (show lf + 1 < 256 by omega)
  have hn := X2.onum_any (lf + 1) 1 _ (fun x hx => told_post (sel := []) (ob := []) hx)
  have hrec := rec_post (.live (lf + 1)) hr
  have hw := write_fail db jb tb mb d hk l hd lf f es ck (Rc.live (lf + 1)).b (Ses.Rc.vr hr) 10 (by unfold Jrn.appE; rw [if_pos ho]) (by decide) _ (fun x hx => told_post (sel := [0, 1, 2, 3, 4]) (ob := obsT db jb tb mb d l hd true lf f es ck) hx)
  have e1 : T.v (.int .u64 (IntKind.wrap .u64 (lf : Int))) = u64 lf := congrArg u64 (IntWalk.u64_in _ (by omega))
  have e2 : T.v (.int .u64 (IntKind.wrap .u64 ((lf : Int) + 1))) = u64 (lf + 1 : Nat) := congrArg u64 (by rw [IntWalk.u64_in _ (by omega)]; omega)
  have e3 : (num 1 (lf + 1)).n = lf + 1 := rfl
  generalize (Rc.live (lf + 1)).b = s at *
  refine TCalls.of Try.func25 rfl (CanCall.of Try.func25 rfl (by decide)) [0, 1, 2, 3, 4] fun Γ => ?_
  refine run_sound (⟨fun | 5, 5 => .res (u64 lf) | 5, 6 => .res (u64 (lf + 1 : Nat)) | 5, 7 => told (.agg (X1.partC (num 1 (lf + 1)))) [] [] | 5, 9 => told (str s) [] [] | 5, 10 => told (int 10) [0, 1, 2, 3, 4] (obsT db jb tb mb d l hd true lf f es ck) | _, _ => .no, [], fun  | _ => none⟩) 400 (B := tb = tb ∧ bsplit (decide ((↑lf : Int) ≥ (200 : Int))) (Q (T.v (Value.int IntKind.i64 (6 : Int))) [(db, Ob.cells [T.v (Value.string (ByteArray.mk (List.toArray (Dk.b d)))), T.v (Value.int IntKind.i64 (↑(Dk.n d) : Int)), T.v (Value.bool (Dk.off d))]), (jb, Ob.cells [T.ptr (0 : Nat) db (0 : Nat), T.slx (1 : Nat) (2 : Nat) (X10.strs l) hd, T.v (Value.bool false)]), ((0 : Nat), Ob.room (1 : Nat) (9 : Nat) (List.length (X10.strs l)) hd), (tb, Ob.cells [T.ptr (1 : Nat) jb (0 : Nat), T.v (Value.int IntKind.u8 (↑lf : Int)), T.mp (4 : Nat) mb]), (mb, Ob.map IntKind.u32 (mT f) es ck)] fun x => none) (tb = tb ∧ T.v (Value.int IntKind.u64 (IntKind.wrap IntKind.u64 (↑lf : Int))) = T.v (Value.int IntKind.u64 (↑lf : Int)) ∧ T.v (Value.int IntKind.u64 (IntKind.wrap IntKind.u64 ((↑lf : Int) + (1 : Int)))) = T.v (Value.int IntKind.u64 (↑(lf + (1 : Nat)) : Int)) ∧ TCalls Try.prog (47 : Nat) [T.v (Value.int IntKind.u64 (↑(lf + (1 : Nat)) : Int)), T.v (Value.int IntKind.i64 (1 : Int))] [] (fun x => none) (callPost (Hint.call false Unit (fun x => True) [] false (fun x => T.agg (X1.partC (num (1 : Int) (lf + (1 : Nat))))) (fun x => []) fun x => none_)) ∧ ∀ (a : Unit), True → TCalls Try.prog (45 : Nat) [T.v (Value.int IntKind.u64 (1 : Int)), T.sl (4 : Nat) [T.agg [T.v (Value.int IntKind.i64 (Oct.Part.kind (num (1 : Int) (lf + (1 : Nat))))), T.v (Value.int IntKind.i64 (Oct.Part.size (num (1 : Int) (lf + (1 : Nat))))), T.v (Value.int IntKind.u64 (↑(Oct.Part.n (num (1 : Int) (lf + (1 : Nat)))) : Int)), T.v (Value.string (Oct.Part.s (num (1 : Int) (lf + (1 : Nat)))))]]] [] (fun x => none) (callPost (Hint.call false Unit (fun x => True) [] false (fun x => str s) (fun x => []) fun x => none_)) ∧ ∀ (a : Unit), True → TCalls Try.prog (44 : Nat) [T.ptr (3 : Nat) tb (0 : Nat), T.v (Value.string (ByteArray.mk (List.toArray s)))] [(db, Ob.cells [T.v (Value.string (ByteArray.mk (List.toArray (Dk.b d)))), T.v (Value.int IntKind.i64 (↑(Dk.n d) : Int)), T.v (Value.bool (Dk.off d))]), (jb, Ob.cells [T.ptr (0 : Nat) db (0 : Nat), T.slx (1 : Nat) (2 : Nat) (X10.strs l) hd, T.v (Value.bool false)]), ((0 : Nat), Ob.room (1 : Nat) (9 : Nat) (List.length (X10.strs l)) hd), (tb, Ob.cells [T.ptr (1 : Nat) jb (0 : Nat), T.v (Value.int IntKind.u8 (↑lf : Int)), T.mp (4 : Nat) mb]), (mb, Ob.map IntKind.u32 (mT f) es ck)] (fun x => none) (callPost (Hint.call false Unit (fun x => True) [(0 : Nat), (1 : Nat), (2 : Nat), (3 : Nat), (4 : Nat)] false (fun x => int (10 : Int)) (fun x => obsT db jb tb mb d l hd true lf f es ck) fun x => none_)) ∧ ∀ (a : Unit), True → Q (T.v (Value.int IntKind.i64 (10 : Int))) [(db, Ob.cells [T.v (Value.string (ByteArray.mk (List.toArray (Dk.b d)))), T.v (Value.int IntKind.i64 (↑(Dk.n d) : Int)), T.v (Value.bool (Dk.off d))]), (jb, Ob.cells [T.ptr (0 : Nat) db (0 : Nat), T.slx (1 : Nat) (2 : Nat) (X10.strs l) hd, T.v (Value.bool true)]), ((0 : Nat), Ob.room (1 : Nat) (9 : Nat) (List.length (X10.strs l)) hd), (tb, Ob.cells [T.ptr (1 : Nat) jb (0 : Nat), T.v (Value.int IntKind.u8 (↑lf : Int)), T.mp (4 : Nat) mb]), (mb, Ob.map IntKind.u32 (mT f) es ck)] fun x => none)) (by kernel_rfl) ?_
  repeat' (first | exact rfl | exact Nat.le_of_ble_eq_true rfl | refine And.intro ?_ ?_ | intro _ | refine bsplit_mk (fun _ => ?_) (fun _ => ?_))
  all_goals first
    | exact e1
    | exact e2
    | exact hn
    | exact hrec
    | exact hw
    | exact hQ _ rfl
    | (exfalso; simp only [decide_eq_true_eq] at *; omega)
    | trace_state
theorem live_dead (d : Dk) (l : List (List UInt8)) (hd : Value) (lf : Nat) (h8 : lf < 200) (f : Int → Option Cl) (es : Array MapEntry) (ck : Nat) (Q : T → Obs → Glb → Prop)
    (hQ : ∀ x, x = int 8 → Q x (obsT db jb tb mb d l hd true lf f es ck) none_) : TCalls Try.prog 25 [.ptr 3 tb 0] (obsT db jb tb mb d l hd true lf f es ck) none_ Q := by
  have hr : (Rc.live (lf + 1)).Ok := (show lf + 1 < 256 by omega)
  have hn := X2.onum_any (lf + 1) 1 _ (fun x hx => told_post (sel := []) (ob := []) hx)
  have hrec := rec_post (.live (lf + 1)) hr
  have hw := write_dead db jb tb mb d l hd lf f es ck (Rc.live (lf + 1)).b (Ses.Rc.vr hr) _ (fun x hx => told_post (sel := [0, 1, 2, 3, 4]) (ob := obsT db jb tb mb d l hd true lf f es ck) hx)
  have e1 : T.v (.int .u64 (IntKind.wrap .u64 (lf : Int))) = u64 lf := congrArg u64 (IntWalk.u64_in _ (by omega))
  have e2 : T.v (.int .u64 (IntKind.wrap .u64 ((lf : Int) + 1))) = u64 (lf + 1 : Nat) := congrArg u64 (by rw [IntWalk.u64_in _ (by omega)]; omega)
  have e3 : (num 1 (lf + 1)).n = lf + 1 := rfl
  generalize (Rc.live (lf + 1)).b = s at *
  refine TCalls.of Try.func25 rfl (CanCall.of Try.func25 rfl (by decide)) [0, 1, 2, 3, 4] fun Γ => ?_
  refine run_sound (⟨fun | 5, 5 => .res (u64 lf) | 5, 6 => .res (u64 (lf + 1 : Nat)) | 5, 7 => told (.agg (X1.partC (num 1 (lf + 1)))) [] [] | 5, 9 => told (str s) [] [] | 5, 10 => told (int 8) [0, 1, 2, 3, 4] (obsT db jb tb mb d l hd true lf f es ck) | _, _ => .no, [], fun  | _ => none⟩) 400 (B := tb = tb ∧ bsplit (decide ((↑lf : Int) ≥ (200 : Int))) (Q (T.v (Value.int IntKind.i64 (6 : Int))) [(db, Ob.cells [T.v (Value.string (ByteArray.mk (List.toArray (Dk.b d)))), T.v (Value.int IntKind.i64 (↑(Dk.n d) : Int)), T.v (Value.bool (Dk.off d))]), (jb, Ob.cells [T.ptr (0 : Nat) db (0 : Nat), T.slx (1 : Nat) (2 : Nat) (X10.strs l) hd, T.v (Value.bool true)]), ((0 : Nat), Ob.room (1 : Nat) (9 : Nat) (List.length (X10.strs l)) hd), (tb, Ob.cells [T.ptr (1 : Nat) jb (0 : Nat), T.v (Value.int IntKind.u8 (↑lf : Int)), T.mp (4 : Nat) mb]), (mb, Ob.map IntKind.u32 (mT f) es ck)] fun x => none) (tb = tb ∧ T.v (Value.int IntKind.u64 (IntKind.wrap IntKind.u64 (↑lf : Int))) = T.v (Value.int IntKind.u64 (↑lf : Int)) ∧ T.v (Value.int IntKind.u64 (IntKind.wrap IntKind.u64 ((↑lf : Int) + (1 : Int)))) = T.v (Value.int IntKind.u64 (↑(lf + (1 : Nat)) : Int)) ∧ TCalls Try.prog (47 : Nat) [T.v (Value.int IntKind.u64 (↑(lf + (1 : Nat)) : Int)), T.v (Value.int IntKind.i64 (1 : Int))] [] (fun x => none) (callPost (Hint.call false Unit (fun x => True) [] false (fun x => T.agg (X1.partC (num (1 : Int) (lf + (1 : Nat))))) (fun x => []) fun x => none_)) ∧ ∀ (a : Unit), True → TCalls Try.prog (45 : Nat) [T.v (Value.int IntKind.u64 (1 : Int)), T.sl (4 : Nat) [T.agg [T.v (Value.int IntKind.i64 (Oct.Part.kind (num (1 : Int) (lf + (1 : Nat))))), T.v (Value.int IntKind.i64 (Oct.Part.size (num (1 : Int) (lf + (1 : Nat))))), T.v (Value.int IntKind.u64 (↑(Oct.Part.n (num (1 : Int) (lf + (1 : Nat)))) : Int)), T.v (Value.string (Oct.Part.s (num (1 : Int) (lf + (1 : Nat)))))]]] [] (fun x => none) (callPost (Hint.call false Unit (fun x => True) [] false (fun x => str s) (fun x => []) fun x => none_)) ∧ ∀ (a : Unit), True → TCalls Try.prog (44 : Nat) [T.ptr (3 : Nat) tb (0 : Nat), T.v (Value.string (ByteArray.mk (List.toArray s)))] [(db, Ob.cells [T.v (Value.string (ByteArray.mk (List.toArray (Dk.b d)))), T.v (Value.int IntKind.i64 (↑(Dk.n d) : Int)), T.v (Value.bool (Dk.off d))]), (jb, Ob.cells [T.ptr (0 : Nat) db (0 : Nat), T.slx (1 : Nat) (2 : Nat) (X10.strs l) hd, T.v (Value.bool true)]), ((0 : Nat), Ob.room (1 : Nat) (9 : Nat) (List.length (X10.strs l)) hd), (tb, Ob.cells [T.ptr (1 : Nat) jb (0 : Nat), T.v (Value.int IntKind.u8 (↑lf : Int)), T.mp (4 : Nat) mb]), (mb, Ob.map IntKind.u32 (mT f) es ck)] (fun x => none) (callPost (Hint.call false Unit (fun x => True) [(0 : Nat), (1 : Nat), (2 : Nat), (3 : Nat), (4 : Nat)] false (fun x => int (8 : Int)) (fun x => obsT db jb tb mb d l hd true lf f es ck) fun x => none_)) ∧ ∀ (a : Unit), True → Q (T.v (Value.int IntKind.i64 (8 : Int))) [(db, Ob.cells [T.v (Value.string (ByteArray.mk (List.toArray (Dk.b d)))), T.v (Value.int IntKind.i64 (↑(Dk.n d) : Int)), T.v (Value.bool (Dk.off d))]), (jb, Ob.cells [T.ptr (0 : Nat) db (0 : Nat), T.slx (1 : Nat) (2 : Nat) (X10.strs l) hd, T.v (Value.bool true)]), ((0 : Nat), Ob.room (1 : Nat) (9 : Nat) (List.length (X10.strs l)) hd), (tb, Ob.cells [T.ptr (1 : Nat) jb (0 : Nat), T.v (Value.int IntKind.u8 (↑lf : Int)), T.mp (4 : Nat) mb]), (mb, Ob.map IntKind.u32 (mT f) es ck)] fun x => none)) (by kernel_rfl) ?_
  repeat' (first | exact rfl | exact Nat.le_of_ble_eq_true rfl | refine And.intro ?_ ?_ | intro _ | refine bsplit_mk (fun _ => ?_) (fun _ => ?_))
  all_goals first
    | exact e1
    | exact e2
    | exact hn
    | exact hrec
    | exact hw
    | exact hQ _ rfl
    | (exfalso; simp only [decide_eq_true_eq] at *; omega)
    | trace_state
theorem life_any (d : Dk) (l : List (List UInt8)) (hd : Value) (dead : Bool) (lf : Nat) (f : Int → Option Cl) (es : Array MapEntry) (ck : Nat) (Q : T → Obs → Glb → Prop)
    (hQ : ∀ x, x = u8 lf → Q x (obsT db jb tb mb d l hd dead lf f es ck) none_) : TCalls Try.prog 26 [.ptr 3 tb 0] (obsT db jb tb mb d l hd dead lf f es ck) none_ Q := by
  refine TCalls.of Try.func26 rfl (CanCall.of Try.func26 rfl (by decide)) [0, 1, 2, 3, 4] fun Γ => ?_
  refine run_sound (⟨fun _ _ => .no, [], fun _ => none⟩) 400 (B := tb = tb ∧ Q (T.v (Value.int IntKind.u8 (↑lf : Int))) [(db, Ob.cells [T.v (Value.string (ByteArray.mk (List.toArray (Dk.b d)))), T.v (Value.int IntKind.i64 (↑(Dk.n d) : Int)), T.v (Value.bool (Dk.off d))]), (jb, Ob.cells [T.ptr (0 : Nat) db (0 : Nat), T.slx (1 : Nat) (2 : Nat) (X10.strs l) hd, T.v (Value.bool dead)]), ((0 : Nat), Ob.room (1 : Nat) (9 : Nat) (List.length (X10.strs l)) hd), (tb, Ob.cells [T.ptr (1 : Nat) jb (0 : Nat), T.v (Value.int IntKind.u8 (↑lf : Int)), T.mp (4 : Nat) mb]), (mb, Ob.map IntKind.u32 (mT f) es ck)] fun x => none) (by kernel_rfl) ?_
  repeat' (first | exact rfl | exact Nat.le_of_ble_eq_true rfl | refine And.intro ?_ ?_ | intro _ | refine bsplit_mk (fun _ => ?_) (fun _ => ?_))
  all_goals first
    | exact hQ _ rfl
    | trace_state
theorem life_nil (Q : T → Obs → Glb → Prop) (hQ : ∀ x, x = u8 0 → Q x [] none_) : TCalls Try.prog 26 [.v (.pointer none)] [] none_ Q := by
  refine TCalls.of Try.func26 rfl (CanCall.of Try.func26 rfl (by decide)) [] fun Γ => ?_
  refine run_sound (⟨fun _ _ => .no, [], fun _ => none⟩) 400 (B := Q (T.v (Value.int IntKind.u8 (0 : Int))) [] fun x => none) (by kernel_rfl) ?_
  repeat' (first | exact rfl | exact Nat.le_of_ble_eq_true rfl | refine And.intro ?_ ?_ | intro _ | refine bsplit_mk (fun _ => ?_) (fun _ => ?_))
  all_goals first
    | exact hQ _ rfl
    | trace_state
theorem denied_any (e : Int) (Q : T → Obs → Glb → Prop) (hQ : ∀ x, x = .tup [int 4, .agg [int e, bool false, str []]] → Q x [] none_) : TCalls Try.prog 49 [int e] [] none_ Q := by
  refine TCalls.of Try.func49 rfl (CanCall.of Try.func49 rfl (by decide)) [] fun Γ => ?_
  refine run_sound (⟨fun _ _ => .no, [], fun _ => none⟩) 400 (B := ∀ (b : Nat), ((3 : Nat) = nat_lit 3 ∧ List.all [T.v (Value.int IntKind.i64 e), T.v (Value.bool false), T.v (Value.string (ByteArray.mk (#[])))] T.one = true) ∧ b = b ∧ (0 : Nat) + nat_lit 3 ≤ (3 : Nat) ∧ b = b ∧ Q (T.tup [T.v (Value.int IntKind.i64 (4 : Int)), T.agg [T.v (Value.int IntKind.i64 e), T.v (Value.bool false), T.v (Value.string (ByteArray.mk (#[])))]]) [] fun x => none) (by kernel_rfl) ?_
  repeat' (first | exact rfl | exact Nat.le_of_ble_eq_true rfl | refine And.intro ?_ ?_ | intro _ | refine bsplit_mk (fun _ => ?_) (fun _ => ?_))
  all_goals first
    | exact hQ _ rfl
    | trace_state
end
end X22
end Go.Proofs.Ytaepgceodcdnhaa.Vm
