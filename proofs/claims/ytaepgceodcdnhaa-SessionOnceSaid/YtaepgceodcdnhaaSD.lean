/- Sessions by the engine: Start. -/
import Derived.Test.YtaepgceodcdnhaaSC
namespace Go.Proofs.Ytaepgceodcdnhaa.Vm
open Go Go.RowKit
set_option maxRecDepth 100000
namespace X22
open Ses (Cl Tb look put lost Rc step num text one)
open Jrn (Dk flat)
open X9 (dkC obsK)
open X10 (strs jC obsJ opH keepH)
/-- what records change, one behind the other -/
def foF : List Rc → Nat → (Int → Option Cl) → Nat × (Int → Option Cl)
  | [], lf, f => (lf, f)
  | r :: rs, lf, f => foF rs (stF lf f r).1 (stF lf f r).2
def nof : Int → Option Cl := fun _ => none
def bsR (rs : List Rc) : List (List UInt8) := rs.map Rc.b
theorem bsR_vr {rs : List Rc} (h : ∀ r ∈ rs, r.Ok) : ∀ t ∈ bsR rs, Jrn.Vr t := fun t ht => by
  obtain ⟨r, hr, rfl⟩ := List.mem_map.1 ht
  exact Ses.Rc.vr (h r hr)
def obsS (db jb tb mb : Nat) (d : Dk) (l : List (List UInt8)) (hd : Value) (lf : Nat) (f : Int → Option Cl) (es : Array MapEntry) (ck : Nat) : Obs :=
  [(db, .cells (dkC d)), (jb, .cells (jC db l hd false)), (0, .room 1 9 (strs l).length hd), (mb, .map .u32 (mT f) es ck), (tb, .cells [.ptr 1 jb 0, u8 lf, .mp 3 mb])]
section
variable (Γ : Ctx) (db jb tb mb : Nat)
theorem start_loop (d : Dk) (l : List (List UInt8)) (hl : l.length ≤ 100000000) (F : Nat × (Int → Option Cl)) (Q : T → Obs → Glb → Prop)
    (hQ : ∀ h es ck, TWk Try.prog Γ (fin Try.prog Try.f22 [0, 1, 2, 4, 3] Q) [.code (sub (bd Try.f22) [1, 1, 1, 1, 1])] ⟨frame 39 [(6, .ptr 4 tb 0)], obsS db jb tb mb d l h F.1 F.2 es ck, none_⟩) : ∀ (rest : List Rc) (k : Nat) (lf : Nat) (f : Int → Option Cl) (hd : Value) (es : Array MapEntry) (ck : Nat), k + rest.length = l.length → l.drop k = bsR rest → (∀ r ∈ rest, r.Ok) → foF rest lf f = F →
    TWk Try.prog Γ (fin Try.prog Try.f22 [0, 1, 2, 4, 3] Q) [.code (sub (bd Try.f22) [1, 1, 1, 1, 0, 1, 0]), .blk 0, .code (sub (bd Try.f22) [1, 1, 1, 1, 1])] ⟨frame 39 [(6, .ptr 4 tb 0), (23, .sl 1 (strs l)), (24, int (strs l).length), (25, int k)], obsS db jb tb mb d l hd lf f es ck, none_⟩ := by
  intro rest
  induction rest with
  | nil =>
    intro k lf f hd es ck hk _ _ hF
    have hk : k = l.length := hk
    subst hk
    have h1 := hQ hd es ck
    rw [← hF] at h1
    have h1 : TWk Try.prog Γ (fin Try.prog Try.f22 [0, 1, 2, 4, 3] Q) [.code (sub (bd Try.f22) [1, 1, 1, 1, 1])] ⟨frame 39 [(6, .ptr 4 tb 0)], obsS db jb tb mb d l hd lf f es ck, none_⟩ := h1
    have hsl := X10.strs_len l
    refine run_sound (⟨fun | 7, 0 => .res (str []) | _, _ => .no, [((2, 6), ([6, 23, 24, 25], 5)), ((0, 10), ([6], 5))], fun  | _ => none⟩) 400 (B := bsplit (decide ((↑(List.length l) : Int) < (↑(List.length (strs l)) : Int))) ((0 : Int) ≤ (↑(List.length l) : Int) ∧ (strs l)[Int.toNat (↑(List.length l) : Int)]? = some (T.v (Value.string (ByteArray.mk (#[])))) ∧ False) (TWk Try.prog Γ (fin Try.prog Try.f22 [(0 : Nat), (1 : Nat), (2 : Nat), (4 : Nat), (3 : Nat)] Q) [It.code (sub (bd Try.f22) [(1 : Nat), (1 : Nat), (1 : Nat), (1 : Nat), (1 : Nat)])] { fr := [T.und, T.und, T.und, T.und, T.und, T.und, T.ptr (4 : Nat) tb (0 : Nat), T.und, T.und, T.und, T.und, T.und, T.und, T.und, T.und, T.und, T.und, T.und, T.und, T.und, T.und, T.und, T.und, T.und, T.und, T.und, T.und, T.und, T.und, T.und, T.und, T.und, T.und, T.und, T.und, T.und, T.und, T.und, T.und], ob := [(db, Ob.cells [T.v (Value.string (ByteArray.mk (List.toArray (Dk.b d)))), T.v (Value.int IntKind.i64 (↑(Dk.n d) : Int)), T.v (Value.bool (Dk.off d))]), (jb, Ob.cells [T.ptr (0 : Nat) db (0 : Nat), T.slx (1 : Nat) (2 : Nat) (strs l) hd, T.v (Value.bool false)]), ((0 : Nat), Ob.room (1 : Nat) (9 : Nat) (List.length (strs l)) hd), (mb, Ob.map IntKind.u32 (mT f) es ck), (tb, Ob.cells [T.ptr (1 : Nat) jb (0 : Nat), T.v (Value.int IntKind.u8 (↑lf : Int)), T.mp (3 : Nat) mb])], gl := fun x => none })) (by kernel_rfl) ?_
    repeat' (first | exact rfl | exact Nat.le_of_ble_eq_true rfl | refine And.intro ?_ ?_ | intro _ | refine bsplit_mk (fun _ => ?_) (fun _ => ?_))
    all_goals first
      | exact h1
      | (exfalso; simp only [decide_eq_true_eq] at *; omega)
      | trace_state
  | cons r rest ih =>
    intro k lf f hd es ck hk hdr hok hF
    have hlt : k < l.length := by simp only [List.length_cons] at hk; omega
    have hr := hok r (by simp)
    rw [List.drop_eq_getElem_cons hlt] at hdr
    obtain ⟨e1, e2⟩ := List.cons.inj (show l[k] :: l.drop (k + 1) = r.b :: bsR rest from hdr)
    have ga : (strs l)[(k : Int).toNat]? = some (str r.b) := by rw [Int.toNat_natCast, ← e1]; exact X10.strs_at (List.getElem?_eq_getElem hlt)
    have ht := fun h es ck => tk_post db jb tb mb d l h false lf f es ck r hr
    have nx := fun h es ck => ih (k + 1) (stF lf f r).1 (stF lf f r).2 h es ck (by simp only [List.length_cons] at hk; omega) e2 (fun x hx => hok x (by simp [hx])) hF
    have hw : IntKind.wrap .i64 ((k : Int) + 1) = ((k + 1 : Nat) : Int) := by rw [wrap_i64 (by omega) (by omega)]; omega
    clear ih hF hQ e1 hdr hok
    generalize r.b = s at *
    generalize (stF lf f r).1 = lf' at *
    generalize (stF lf f r).2 = f' at *
    have hsl := X10.strs_len l
    refine run_sound (⟨fun | 7, 0 => .res (str s) | 8, 2 => tH 0 1 2 4 3 d l false lf' f' (.tup []) | _, _ => .no, [((2, 6), ([6, 23, 24, 25], 5)), ((0, 10), ([6], 5))], fun  | _ => none⟩) 400 (B := bsplit (decide ((↑k : Int) < (↑(List.length (strs l)) : Int))) ((0 : Int) ≤ (↑k : Int) ∧ (strs l)[Int.toNat (↑k : Int)]? = some (T.v (Value.string (ByteArray.mk (List.toArray s)))) ∧ TCalls Try.prog (43 : Nat) [T.ptr (3 : Nat) tb (0 : Nat), T.v (Value.string (ByteArray.mk (List.toArray s)))] [(db, Ob.cells [T.v (Value.string (ByteArray.mk (List.toArray (Dk.b d)))), T.v (Value.int IntKind.i64 (↑(Dk.n d) : Int)), T.v (Value.bool (Dk.off d))]), (jb, Ob.cells [T.ptr (0 : Nat) db (0 : Nat), T.slx (1 : Nat) (2 : Nat) (strs l) hd, T.v (Value.bool false)]), ((0 : Nat), Ob.room (1 : Nat) (9 : Nat) (List.length (strs l)) hd), (tb, Ob.cells [T.ptr (1 : Nat) jb (0 : Nat), T.v (Value.int IntKind.u8 (↑lf : Int)), T.mp (4 : Nat) mb]), (mb, Ob.map IntKind.u32 (mT f) es ck)] (fun x => none) (callPost (Hint.call false (Value × Array MapEntry × Nat) (fun x => True) [(0 : Nat), (1 : Nat), (2 : Nat), (4 : Nat), (3 : Nat)] false (fun x => T.tup []) (fun a => obsT db jb tb mb d l (Prod.fst a) false lf' f' (Prod.fst (Prod.snd a)) (Prod.snd (Prod.snd a))) fun x => none_)) ∧ ∀ (a : Value × Array MapEntry × Nat), True → TWk Try.prog Γ (fin Try.prog Try.f22 [(0 : Nat), (1 : Nat), (2 : Nat), (4 : Nat), (3 : Nat)] Q) [It.code (sub (bd Try.f22) [(1 : Nat), (1 : Nat), (1 : Nat), (1 : Nat), (0 : Nat), (1 : Nat), (0 : Nat)]), It.blk (0 : Nat), It.code (sub (bd Try.f22) [(1 : Nat), (1 : Nat), (1 : Nat), (1 : Nat), (1 : Nat)])] { fr := [T.und, T.und, T.und, T.und, T.und, T.und, T.ptr (4 : Nat) tb (0 : Nat), T.und, T.und, T.und, T.und, T.und, T.und, T.und, T.und, T.und, T.und, T.und, T.und, T.und, T.und, T.und, T.und, T.sl (1 : Nat) (strs l), T.v (Value.int IntKind.i64 (↑(List.length (strs l)) : Int)), T.v (Value.int IntKind.i64 (IntKind.wrap IntKind.i64 ((↑k : Int) + (1 : Int)))), T.und, T.und, T.und, T.und, T.und, T.und, T.und, T.und, T.und, T.und, T.und, T.und, T.und], ob := [(db, Ob.cells [T.v (Value.string (ByteArray.mk (List.toArray (Dk.b d)))), T.v (Value.int IntKind.i64 (↑(Dk.n d) : Int)), T.v (Value.bool (Dk.off d))]), (jb, Ob.cells [T.ptr (0 : Nat) db (0 : Nat), T.slx (1 : Nat) (2 : Nat) (strs l) (Prod.fst a), T.v (Value.bool false)]), ((0 : Nat), Ob.room (1 : Nat) (9 : Nat) (List.length (strs l)) (Prod.fst a)), (mb, Ob.map IntKind.u32 (mT f') (Prod.fst (Prod.snd a)) (Prod.snd (Prod.snd a))), (tb, Ob.cells [T.ptr (1 : Nat) jb (0 : Nat), T.v (Value.int IntKind.u8 (↑lf' : Int)), T.mp (3 : Nat) mb])], gl := fun x => none }) (TWk Try.prog Γ (fin Try.prog Try.f22 [(0 : Nat), (1 : Nat), (2 : Nat), (4 : Nat), (3 : Nat)] Q) [It.code (sub (bd Try.f22) [(1 : Nat), (1 : Nat), (1 : Nat), (1 : Nat), (1 : Nat)])] { fr := [T.und, T.und, T.und, T.und, T.und, T.und, T.ptr (4 : Nat) tb (0 : Nat), T.und, T.und, T.und, T.und, T.und, T.und, T.und, T.und, T.und, T.und, T.und, T.und, T.und, T.und, T.und, T.und, T.und, T.und, T.und, T.und, T.und, T.und, T.und, T.und, T.und, T.und, T.und, T.und, T.und, T.und, T.und, T.und], ob := [(db, Ob.cells [T.v (Value.string (ByteArray.mk (List.toArray (Dk.b d)))), T.v (Value.int IntKind.i64 (↑(Dk.n d) : Int)), T.v (Value.bool (Dk.off d))]), (jb, Ob.cells [T.ptr (0 : Nat) db (0 : Nat), T.slx (1 : Nat) (2 : Nat) (strs l) hd, T.v (Value.bool false)]), ((0 : Nat), Ob.room (1 : Nat) (9 : Nat) (List.length (strs l)) hd), (mb, Ob.map IntKind.u32 (mT f) es ck), (tb, Ob.cells [T.ptr (1 : Nat) jb (0 : Nat), T.v (Value.int IntKind.u8 (↑lf : Int)), T.mp (3 : Nat) mb])], gl := fun x => none })) (by kernel_rfl) ?_
    rw [hw]
    repeat' (first | exact rfl | exact Nat.le_of_ble_eq_true rfl | refine And.intro ?_ ?_ | intro _ | refine bsplit_mk (fun _ => ?_) (fun _ => ?_))
    all_goals first
      | exact ga
      | exact ht _ _ _
      | exact nx _ _ _
      | omega
      | (exfalso; simp only [decide_eq_false_iff_not] at *; omega)
      | trace_state
theorem start_tail (lf : Nat) (h8 : lf < 200) (l : List (List UInt8)) (hv : Jrn.Vs l) (h2 : (flat l).length + 8 ≤ 1048576) (f : Int → Option Cl) (hd : Value) (es : Array MapEntry) (ck : Nat) (Q : T → Obs → Glb → Prop)
    (hQ : ∀ h es ck, Q (.tup [.ptr 3 tb 0, int 0]) (obsT db jb tb mb (Jrn.jd (l ++ [(Rc.live (lf + 1)).b])) (l ++ [(Rc.live (lf + 1)).b]) h false (lf + 1) (fun z => (f z).map lost) es ck) none_) :
    TWk Try.prog Γ (fin Try.prog Try.f22 [0, 1, 2, 4, 3] Q) [.code (sub (bd Try.f22) [1, 1, 1, 1, 1])] ⟨frame 39 [(6, .ptr 4 tb 0)], obsS db jb tb mb (Jrn.jd l) l hd lf f es ck, none_⟩ := by
  have hw := live_ok db jb tb mb l hv hd lf h8 f es ck h2 (callPost (tP db jb tb mb (Jrn.jd (l ++ [(Rc.live (lf + 1)).b])) (l ++ [(Rc.live (lf + 1)).b]) false (lf + 1) (fun z => (f z).map lost) (int 0))) fun h es ck => ⟨(h, es, ck), trivial, rfl, rfl, Nat.le_of_ble_eq_true rfl, fun h => by cases h⟩
  generalize (Rc.live (lf + 1)).b = s at *
  generalize l ++ [s] = l' at *
  generalize Jrn.jd l = d at *
  generalize Jrn.jd l' = d' at *
  generalize (fun z => (f z).map lost) = g at *
  refine run_sound (⟨fun | 10, 1 => tH 0 1 2 4 3 d' l' false (lf + 1) g (int 0) | _, _ => .no, [], fun  | _ => none⟩) 400 (B := TCalls Try.prog (25 : Nat) [T.ptr (3 : Nat) tb (0 : Nat)] [(db, Ob.cells [T.v (Value.string (ByteArray.mk (List.toArray (Dk.b d)))), T.v (Value.int IntKind.i64 (↑(Dk.n d) : Int)), T.v (Value.bool (Dk.off d))]), (jb, Ob.cells [T.ptr (0 : Nat) db (0 : Nat), T.slx (1 : Nat) (2 : Nat) (strs l) hd, T.v (Value.bool false)]), ((0 : Nat), Ob.room (1 : Nat) (9 : Nat) (List.length (strs l)) hd), (tb, Ob.cells [T.ptr (1 : Nat) jb (0 : Nat), T.v (Value.int IntKind.u8 (↑lf : Int)), T.mp (4 : Nat) mb]), (mb, Ob.map IntKind.u32 (mT f) es ck)] (fun x => none) (callPost (Hint.call false (Value × Array MapEntry × Nat) (fun x => True) [(0 : Nat), (1 : Nat), (2 : Nat), (4 : Nat), (3 : Nat)] false (fun x => int (0 : Int)) (fun a => obsT db jb tb mb d' l' (Prod.fst a) false (lf + (1 : Nat)) g (Prod.fst (Prod.snd a)) (Prod.snd (Prod.snd a))) fun x => none_)) ∧ ∀ (a : Value × Array MapEntry × Nat), True → Q (T.tup [T.ptr (3 : Nat) tb (0 : Nat), T.v (Value.int IntKind.i64 (0 : Int))]) [(db, Ob.cells [T.v (Value.string (ByteArray.mk (List.toArray (Dk.b d')))), T.v (Value.int IntKind.i64 (↑(Dk.n d') : Int)), T.v (Value.bool (Dk.off d'))]), (jb, Ob.cells [T.ptr (0 : Nat) db (0 : Nat), T.slx (1 : Nat) (2 : Nat) (strs l') (Prod.fst a), T.v (Value.bool false)]), ((0 : Nat), Ob.room (1 : Nat) (9 : Nat) (List.length (strs l')) (Prod.fst a)), (tb, Ob.cells [T.ptr (1 : Nat) jb (0 : Nat), T.v (Value.int IntKind.u8 (↑(lf + (1 : Nat)) : Int)), T.mp (4 : Nat) mb]), (mb, Ob.map IntKind.u32 (mT g) (Prod.fst (Prod.snd a)) (Prod.snd (Prod.snd a)))] fun x => none) (by kernel_rfl) ?_
  repeat' (first | exact rfl | exact Nat.le_of_ble_eq_true rfl | refine And.intro ?_ ?_ | intro _ | refine bsplit_mk (fun _ => ?_) (fun _ => ?_))
  all_goals first
    | exact hw
    | exact hQ _ _ _
    | trace_state
theorem start_tailF (lf : Nat) (h8 : 200 ≤ lf) (l : List (List UInt8)) (d : Dk) (f : Int → Option Cl) (hd : Value) (es : Array MapEntry) (ck : Nat) (Q : T → Obs → Glb → Prop)
    (hQ : Q (.tup [.v (.pointer none), int 6]) (obsT db jb tb mb d l hd false lf f es ck) none_) :
    TWk Try.prog Γ (fin Try.prog Try.f22 [0, 1, 2, 4, 3] Q) [.code (sub (bd Try.f22) [1, 1, 1, 1, 1])] ⟨frame 39 [(6, .ptr 4 tb 0)], obsS db jb tb mb d l hd lf f es ck, none_⟩ := by
  have hw := live_full db jb tb mb d l hd false lf h8 f es ck _ (fun x hx => told_post (sel := [0, 1, 2, 3, 4]) (ob := obsT db jb tb mb d l hd false lf f es ck) hx)
  refine run_sound (⟨fun | 10, 1 => keepH [0, 1, 2, 4, 3] (int 6) | _, _ => .no, [], fun  | _ => none⟩) 400 (B := TCalls Try.prog (25 : Nat) [T.ptr (3 : Nat) tb (0 : Nat)] [(db, Ob.cells [T.v (Value.string (ByteArray.mk (List.toArray (Dk.b d)))), T.v (Value.int IntKind.i64 (↑(Dk.n d) : Int)), T.v (Value.bool (Dk.off d))]), (jb, Ob.cells [T.ptr (0 : Nat) db (0 : Nat), T.slx (1 : Nat) (2 : Nat) (strs l) hd, T.v (Value.bool false)]), ((0 : Nat), Ob.room (1 : Nat) (9 : Nat) (List.length (strs l)) hd), (tb, Ob.cells [T.ptr (1 : Nat) jb (0 : Nat), T.v (Value.int IntKind.u8 (↑lf : Int)), T.mp (4 : Nat) mb]), (mb, Ob.map IntKind.u32 (mT f) es ck)] (fun x => none) (callPost (Hint.call false Unit (fun x => True) [(0 : Nat), (1 : Nat), (2 : Nat), (4 : Nat), (3 : Nat)] false (fun x => int (6 : Int)) (fun x => List.map (fwdO [(0 : Nat), (1 : Nat), (2 : Nat), (4 : Nat), (3 : Nat)]) (List.filterMap (fun i => (S.ob { fr := [T.und, T.und, T.und, T.und, T.und, T.und, T.ptr (4 : Nat) tb (0 : Nat), T.und, T.und, T.und, T.und, T.und, T.und, T.und, T.und, T.und, T.und, T.und, T.und, T.und, T.und, T.und, T.und, T.und, T.und, T.und, T.und, T.und, T.und, T.und, T.und, T.und, T.und, T.ptr (4 : Nat) tb (0 : Nat), T.und, T.und, T.und, T.und, T.und], ob := [(db, Ob.cells [T.v (Value.string (ByteArray.mk (List.toArray (Dk.b d)))), T.v (Value.int IntKind.i64 (↑(Dk.n d) : Int)), T.v (Value.bool (Dk.off d))]), (jb, Ob.cells [T.ptr (0 : Nat) db (0 : Nat), T.slx (1 : Nat) (2 : Nat) (strs l) hd, T.v (Value.bool false)]), ((0 : Nat), Ob.room (1 : Nat) (9 : Nat) (List.length (strs l)) hd), (mb, Ob.map IntKind.u32 (mT f) es ck), (tb, Ob.cells [T.ptr (1 : Nat) jb (0 : Nat), T.v (Value.int IntKind.u8 (↑lf : Int)), T.mp (3 : Nat) mb])], gl := fun x => none })[i]?) [(0 : Nat), (1 : Nat), (2 : Nat), (4 : Nat), (3 : Nat)])) fun x => none_)) ∧ ∀ (a : Unit), True → Q (T.tup [T.v (Value.pointer none), T.v (Value.int IntKind.i64 (6 : Int))]) [(db, Ob.cells [T.v (Value.string (ByteArray.mk (List.toArray (Dk.b d)))), T.v (Value.int IntKind.i64 (↑(Dk.n d) : Int)), T.v (Value.bool (Dk.off d))]), (jb, Ob.cells [T.ptr (0 : Nat) db (0 : Nat), T.slx (1 : Nat) (2 : Nat) (strs l) hd, T.v (Value.bool false)]), ((0 : Nat), Ob.room (1 : Nat) (9 : Nat) (List.length (strs l)) hd), (tb, Ob.cells [T.ptr (1 : Nat) jb (0 : Nat), T.v (Value.int IntKind.u8 (↑lf : Int)), T.mp (4 : Nat) mb]), (mb, Ob.map IntKind.u32 (mT f) es ck)] fun x => none) (by kernel_rfl) ?_
  repeat' (first | exact rfl | exact Nat.le_of_ble_eq_true rfl | refine And.intro ?_ ?_ | intro _ | refine bsplit_mk (fun _ => ?_) (fun _ => ?_))
  all_goals first
    | exact hw
    | exact hQ
    | trace_state
end
theorem start_walk (db : Nat) (rs : List Rc) (hok : ∀ r ∈ rs, r.Ok) (hv : Jrn.Vs (bsR rs)) (F : Nat × (Int → Option Cl)) (hF : foF rs 0 nof = F) (Q : T → Obs → Glb → Prop)
    (hQ : ∀ Γ jb tb mb h es ck, TWk Try.prog Γ (fin Try.prog Try.f22 [0, 1, 2, 4, 3] Q) [.code (sub (bd Try.f22) [1, 1, 1, 1, 1])] ⟨frame 39 [(6, .ptr 4 tb 0)], obsS db jb tb mb (Jrn.jd (bsR rs)) (bsR rs) h F.1 F.2 es ck, none_⟩) :
    TCalls Try.prog 22 [.ptr 0 db 0] (obsK db (Jrn.jd (bsR rs))) none_ Q := by
  have hop := X10.op_post db (Jrn.jd (bsR rs)) hv.ok rfl (Jrn.jd (bsR rs)) (bsR rs) (by rw [Jrn.rec_jd hv]; exact Jrn.keep_jd _) (by rw [Jrn.rec_jd hv])
  have hlen : (bsR rs).length ≤ 100000000 := by have := hv.len; omega
  have hrc := fun jb h => X10.rc_post db jb (Jrn.jd (bsR rs)) (bsR rs) hlen h false
  have lp := fun Γ jb tb mb hd => start_loop Γ db jb tb mb (Jrn.jd (bsR rs)) (bsR rs) hlen F Q (fun h es ck => hQ Γ jb tb mb h es ck) rs 0 0 nof hd #[] 0 (by rw [Nat.zero_add]; exact (List.length_map _).symm) rfl hok hF
  generalize bsR rs = l at *
  generalize Jrn.jd l = d at *
  refine TCalls.of Try.func22 rfl (CanCall.of Try.func22 rfl (by decide)) [0, 1, 2, 4, 3] fun Γ => ?_
  refine run_sound (⟨fun | 1, 1 => opH 0 d l | 5, 1 => keepH [0, 1, 2] (.sl 1 (strs l)) | _, _ => .no, [((2, 6), ([6, 23, 24, 25], 5))], fun  | _ => none⟩) 400 (B := TCalls Try.prog (14 : Nat) [T.ptr (0 : Nat) db (0 : Nat)] [(db, Ob.cells [T.v (Value.string (ByteArray.mk (List.toArray (Dk.b d)))), T.v (Value.int IntKind.i64 (↑(Dk.n d) : Int)), T.v (Value.bool (Dk.off d))])] (fun x => none) (callPost (Hint.call false (Nat × Value) (fun x => True) [(0 : Nat)] false (fun a => T.tup [T.ptr (1 : Nat) (Prod.fst a) (0 : Nat), int (0 : Int)]) (fun a => obsJ db (Prod.fst a) d l (Prod.snd a) false) fun x => none_)) ∧ ∀ (a : Nat × Value), True → ∀ (b b_1 : Nat), TCalls Try.prog (17 : Nat) [T.ptr (1 : Nat) (Prod.fst a) (0 : Nat)] [(db, Ob.cells [T.v (Value.string (ByteArray.mk (List.toArray (Dk.b d)))), T.v (Value.int IntKind.i64 (↑(Dk.n d) : Int)), T.v (Value.bool (Dk.off d))]), (Prod.fst a, Ob.cells [T.ptr (0 : Nat) db (0 : Nat), T.slx (1 : Nat) (2 : Nat) (strs l) (Prod.snd a), T.v (Value.bool false)]), ((0 : Nat), Ob.room (1 : Nat) (9 : Nat) (List.length (strs l)) (Prod.snd a))] (fun x => none) (callPost (Hint.call false Unit (fun x => True) [(0 : Nat), (1 : Nat), (2 : Nat)] false (fun x => T.sl (1 : Nat) (strs l)) (fun x => List.map (fwdO [(0 : Nat), (1 : Nat), (2 : Nat)]) (List.filterMap (fun i => (S.ob { fr := [T.ptr (0 : Nat) db (0 : Nat), T.v (Value.tuple #[]), T.v (Value.pointer none), T.v (Value.int IntKind.i64 (0 : Int)), T.ptr (1 : Nat) (Prod.fst a) (0 : Nat), T.v (Value.int IntKind.i64 (0 : Int)), T.ptr (4 : Nat) b_1 (0 : Nat), T.v (Value.tuple #[]), T.v (Value.tuple #[]), T.v (Value.tuple #[]), T.tup [T.ptr (1 : Nat) (Prod.fst a) (0 : Nat), T.v (Value.int IntKind.i64 (0 : Int))], T.ptr (0 : Nat) db (0 : Nat), T.tup [T.ptr (1 : Nat) (Prod.fst a) (0 : Nat), T.v (Value.int IntKind.i64 (0 : Int))], T.ptr (1 : Nat) (Prod.fst a) (0 : Nat), T.v (Value.int IntKind.i64 (0 : Int)), T.v (Value.int IntKind.i64 (0 : Int)), T.v (Value.bool false), T.v (Value.tuple #[]), T.ptr (1 : Nat) (Prod.fst a) (0 : Nat), T.mp (3 : Nat) b, T.agg [T.ptr (1 : Nat) (Prod.fst a) (0 : Nat), T.v (Value.int IntKind.u8 (0 : Int)), T.mp (3 : Nat) b], T.ptr (4 : Nat) b_1 (0 : Nat), T.ptr (1 : Nat) (Prod.fst a) (0 : Nat), T.v (Value.tuple #[]), T.v (Value.tuple #[]), T.v (Value.tuple #[]), T.v (Value.tuple #[]), T.v (Value.tuple #[]), T.v (Value.tuple #[]), T.v (Value.tuple #[]), T.v (Value.tuple #[]), T.v (Value.tuple #[]), T.v (Value.tuple #[]), T.v (Value.tuple #[]), T.v (Value.tuple #[]), T.v (Value.tuple #[]), T.v (Value.tuple #[]), T.v (Value.tuple #[]), T.v (Value.tuple #[])], ob := [(db, Ob.cells [T.v (Value.string (ByteArray.mk (List.toArray (Dk.b d)))), T.v (Value.int IntKind.i64 (↑(Dk.n d) : Int)), T.v (Value.bool (Dk.off d))]), (Prod.fst a, Ob.cells [T.ptr (0 : Nat) db (0 : Nat), T.slx (1 : Nat) (2 : Nat) (strs l) (Prod.snd a), T.v (Value.bool false)]), ((0 : Nat), Ob.room (1 : Nat) (9 : Nat) (List.length (strs l)) (Prod.snd a)), (b, Ob.map IntKind.u32 (fun x => none) #[] (0 : Nat)), (b_1, Ob.cells [T.ptr (1 : Nat) (Prod.fst a) (0 : Nat), T.v (Value.int IntKind.u8 (0 : Int)), T.mp (3 : Nat) b])], gl := fun x => none })[i]?) [(0 : Nat), (1 : Nat), (2 : Nat)])) fun x => none_)) ∧ ∀ (a_1 : Unit), True → TWk Try.prog Γ (fin Try.prog Try.f22 [(0 : Nat), (1 : Nat), (2 : Nat), (4 : Nat), (3 : Nat)] Q) [It.code (sub (bd Try.f22) [(1 : Nat), (1 : Nat), (1 : Nat), (1 : Nat), (0 : Nat), (1 : Nat), (0 : Nat)]), It.blk (0 : Nat), It.code (sub (bd Try.f22) [(1 : Nat), (1 : Nat), (1 : Nat), (1 : Nat), (1 : Nat)])] { fr := [T.und, T.und, T.und, T.und, T.und, T.und, T.ptr (4 : Nat) b_1 (0 : Nat), T.und, T.und, T.und, T.und, T.und, T.und, T.und, T.und, T.und, T.und, T.und, T.und, T.und, T.und, T.und, T.und, T.sl (1 : Nat) (strs l), T.v (Value.int IntKind.i64 (↑(List.length (strs l)) : Int)), T.v (Value.int IntKind.i64 (0 : Int)), T.und, T.und, T.und, T.und, T.und, T.und, T.und, T.und, T.und, T.und, T.und, T.und, T.und], ob := [(db, Ob.cells [T.v (Value.string (ByteArray.mk (List.toArray (Dk.b d)))), T.v (Value.int IntKind.i64 (↑(Dk.n d) : Int)), T.v (Value.bool (Dk.off d))]), (Prod.fst a, Ob.cells [T.ptr (0 : Nat) db (0 : Nat), T.slx (1 : Nat) (2 : Nat) (strs l) (Prod.snd a), T.v (Value.bool false)]), ((0 : Nat), Ob.room (1 : Nat) (9 : Nat) (List.length (strs l)) (Prod.snd a)), (b, Ob.map IntKind.u32 (fun x => none) #[] (0 : Nat)), (b_1, Ob.cells [T.ptr (1 : Nat) (Prod.fst a) (0 : Nat), T.v (Value.int IntKind.u8 (0 : Int)), T.mp (3 : Nat) b])], gl := fun x => none }) (by kernel_rfl) ?_
  repeat' (first | exact rfl | exact Nat.le_of_ble_eq_true rfl | refine And.intro ?_ ?_ | intro _ | refine bsplit_mk (fun _ => ?_) (fun _ => ?_))
  all_goals first
    | exact hop
    | exact hrc _ _
    | exact lp _ _ _ _ _
    | trace_state
theorem start_ok (db : Nat) (rs : List Rc) (hok : ∀ r ∈ rs, r.Ok) (hv : Jrn.Vs (bsR rs)) (F : Nat × (Int → Option Cl)) (hF : foF rs 0 nof = F) (h8 : F.1 < 200) (h2 : (flat (bsR rs)).length + 8 ≤ 1048576) (Q : T → Obs → Glb → Prop)
    (hQ : ∀ jb tb mb h es ck, Q (.tup [.ptr 3 tb 0, int 0]) (obsT db jb tb mb (Jrn.jd (bsR rs ++ [(Rc.live (F.1 + 1)).b])) (bsR rs ++ [(Rc.live (F.1 + 1)).b]) h false (F.1 + 1) (fun z => (F.2 z).map lost) es ck) none_) :
    TCalls Try.prog 22 [.ptr 0 db 0] (obsK db (Jrn.jd (bsR rs))) none_ Q :=
  start_walk db rs hok hv F hF Q fun Γ jb tb mb h es ck => start_tail Γ db jb tb mb F.1 h8 (bsR rs) hv h2 F.2 h es ck Q (hQ jb tb mb)
theorem start_full (db : Nat) (rs : List Rc) (hok : ∀ r ∈ rs, r.Ok) (hv : Jrn.Vs (bsR rs)) (F : Nat × (Int → Option Cl)) (hF : foF rs 0 nof = F) (h8 : 200 ≤ F.1) (Q : T → Obs → Glb → Prop)
    (hQ : Q (.tup [.v (.pointer none), int 6]) (obsK db (Jrn.jd (bsR rs))) none_) : TCalls Try.prog 22 [.ptr 0 db 0] (obsK db (Jrn.jd (bsR rs))) none_ Q :=
  TCalls.post (Q := fun r ob gl => ∃ jb tb mb h es ck, r = .tup [.v (.pointer none), int 6] ∧ ob = obsT db jb tb mb (Jrn.jd (bsR rs)) (bsR rs) h false F.1 F.2 es ck ∧ gl = none_)
    (start_walk db rs hok hv F hF _ fun Γ jb tb mb h es ck => start_tailF Γ db jb tb mb F.1 h8 (bsR rs) _ F.2 h es ck _ ⟨jb, tb, mb, h, es, ck, rfl, rfl, rfl⟩)
    fun r ob gl ⟨jb, tb, mb, h, es, ck, hr, ho, hg⟩ => by
      subst hr ho hg
      exact ⟨_, _, _, Imp.take 1, hQ⟩
theorem start_off (db : Nat) (d : Dk) (ho : d.off = true) (Q : T → Obs → Glb → Prop) (hQ : ∀ x, x = .tup [.v (.pointer none), int 10] → Q x (obsK db d) none_) : TCalls Try.prog 22 [.ptr 0 db 0] (obsK db d) none_ Q := by
  have hop := X10.jopen_off db d ho _ (fun x hx => told_post (sel := [0]) (ob := obsK db d) hx)
  refine TCalls.of Try.func22 rfl (CanCall.of Try.func22 rfl (by decide)) [0] fun Γ => ?_
  refine run_sound (⟨fun | 1, 1 => told (.tup [.v (.pointer none), int 10]) [0] (obsK db d) | _, _ => .no, [], fun  | _ => none⟩) 400 (B := TCalls Try.prog (14 : Nat) [T.ptr (0 : Nat) db (0 : Nat)] [(db, Ob.cells [T.v (Value.string (ByteArray.mk (List.toArray (Dk.b d)))), T.v (Value.int IntKind.i64 (↑(Dk.n d) : Int)), T.v (Value.bool (Dk.off d))])] (fun x => none) (callPost (Hint.call false Unit (fun x => True) [(0 : Nat)] false (fun x => T.tup [T.v (Value.pointer none), int (10 : Int)]) (fun x => obsK db d) fun x => none_)) ∧ ∀ (a : Unit), True → Q (T.tup [T.v (Value.pointer none), T.v (Value.int IntKind.i64 (10 : Int))]) [(db, Ob.cells [T.v (Value.string (ByteArray.mk (List.toArray (Dk.b d)))), T.v (Value.int IntKind.i64 (↑(Dk.n d) : Int)), T.v (Value.bool (Dk.off d))])] fun x => none) (by kernel_rfl) ?_
  repeat' (first | exact rfl | exact Nat.le_of_ble_eq_true rfl | refine And.intro ?_ ?_ | intro _ | refine bsplit_mk (fun _ => ?_) (fun _ => ?_))
  all_goals first
    | exact hop
    | exact hQ _ rfl
    | trace_state
end X22
end Go.Proofs.Ytaepgceodcdnhaa.Vm
