/- Texts of this claim, one behind the other: FH, FI, FK, FL, FM, FN, Laid. -/
import Derived.Test.YtaepgceodcdnhaaDoorMg5
import Derived.Test.YtaepgceodcdnhaaDoorRows
import Derived.Test.YtaepgceodcdnhaaDoorMg3
import Derived.ProofKit
import Derived.LaidMore
import Derived.OpenShut
/- Frames by the engine: crc.Open, Decode. -/
namespace Go.Proofs.YtaepgceodcdnhaaDoor.Vm
open Go Go.RowKit
set_option maxRecDepth 100000
namespace X6
open Frm (Fm RS rnum rgo must wrong endE fldR fldsR fm0 hdF hdS letsK bodyR decB decR openE lets hasKind)
open Oct (getN takeL)
open X1 (obsD rdH rdC)
theorem str_inj {a b : List UInt8} : ((⟨a.toArray⟩ : ByteArray) = ⟨b.toArray⟩) ↔ a = b := ⟨fun h => by injection h with h; simpa using h, fun h => by rw [h]⟩
theorem open_post (l : List UInt8) (hl : l.length ≤ 1000000000) : TCalls Tryd.prog 38 [str l] [] none_ (callPost (told (.tup [str (if openE l ≠ 0 then [] else l.take (l.length - 4)), int (openE l)]) [] [])) := by
  have hQ : ∀ y, y = .tup [str (if openE l ≠ 0 then [] else l.take (l.length - 4)), int (openE l)] → callPost (told (.tup [str (if openE l ≠ 0 then [] else l.take (l.length - 4)), int (openE l)]) [] []) y [] none_ := fun y h => told_post h
  generalize callPost (told (.tup [str (if openE l ≠ 0 then [] else l.take (l.length - 4)), int (openE l)]) [] []) = Q at *
  have hsz : (⟨l.toArray⟩ : ByteArray).size = l.length := by show l.toArray.size = _; simp
  have hw : T.v (.int .i64 (IntKind.wrap .i64 (((⟨l.toArray⟩ : ByteArray).size : Int) - 4))) = int ((l.length : Int) - 4) := congrArg int (by rw [hsz, wrap_i64 (by omega) (by omega)])
  by_cases h4 : l.length < 4
  · have e : openE l = 2 := by unfold Frm.openE; rw [if_pos h4]
    rw [e] at hQ
    refine TCalls.of Tryd.func38 rfl (CanCall.of Tryd.func38 rfl (by decide)) [] fun Γ => ?_
    refine run_sound (⟨fun | 1, 2 => .res (int ((l.length : Int) - 4)) | _, _ => .no, [((0, 4), ([0, 4], 0)), ((0, 6), ([0, 4], 0))], fun  | _ => none⟩) 400 (B := int (IntKind.wrap IntKind.i64 ((↑(ByteArray.size (ByteArray.mk (List.toArray l))) : Int) - (4 : Int))) = int ((↑(List.length l) : Int) - (4 : Int)) ∧ bsplit (decide ((↑(List.length l) : Int) - (4 : Int) < (0 : Int))) (Q (T.tup [str [], int 2]) [] fun x => none) (TWk Tryd.prog Γ (fin Tryd.prog Tryd.f38 [] Q) [It.code (sub (bd Tryd.f38) [1, 1, 0, 0, 1, 1]), It.blk 0, It.code (sub (bd Tryd.f38) [1, 1, 1])] { fr := frame 21 [(0, str l), (4, int ((↑(List.length l) : Int) - (4 : Int)))], ob := [], gl := fun x => none })) (by kernel_rfl) ?_
    repeat' (first | exact rfl | exact Nat.le_of_ble_eq_true rfl | refine And.intro ?_ ?_ | intro _ | refine bsplit_mk (fun _ => ?_) (fun _ => ?_))
    all_goals first
      | exact hw
      | exact hQ _ rfl
      | (exfalso; have := of_decide_eq_false ‹decide ((l.length : Int) - 4 < 0) = false›; omega)
      | trace_state
  · have hcut : T.v (.string ((⟨l.toArray⟩ : ByteArray).extract 0 ((l.length : Int) - 4).toNat)) = str (l.take (l.length - 4)) := by
      rw [X1.str_cut, show ((l.length : Int) - 4).toNat = l.length - 4 by omega]; rfl
    have hs := X2.seal_any (l.take (l.length - 4)) (by rw [List.length_take]; omega) _ (fun x h => told_post (sel := []) (ob := []) h)
    have hE : openE l = if Crc.sealL (l.take (l.length - 4)) ≠ l then 5 else 0 := by unfold Frm.openE; rw [if_neg h4]
    rw [hE] at hQ
    generalize hbody : l.take (l.length - 4) = body at *
    generalize hsb : Crc.sealL body = sb at *
    have q1 : sb = l → Q (.tup [str body, int 0]) [] none_ := fun he => hQ _ (by rw [show (if sb ≠ l then (5 : Int) else 0) = 0 from if_neg (fun h => h he)]; rfl)
    have q2 : sb ≠ l → Q (.tup [str [], int 5]) [] none_ := fun he => hQ _ (by rw [show (if sb ≠ l then (5 : Int) else 0) = 5 from if_pos he]; rfl)
    have hs' : TCalls Tryd.prog 17 [T.v (.string ((⟨l.toArray⟩ : ByteArray).extract (((0 : Nat) : Int)).toNat ((IntKind.i64, (l.length : Int) - 4).snd.toNat)))] [] none_ (callPost (told (str sb) [] [])) := by rw [show T.v (.string ((⟨l.toArray⟩ : ByteArray).extract (((0 : Nat) : Int)).toNat ((IntKind.i64, (l.length : Int) - 4).snd.toNat))) = str body from hcut]; exact hs
    have t1 : (!decide ((⟨sb.toArray⟩ : ByteArray) = ⟨l.toArray⟩)) = false → sb = l := fun h => str_inj.1 (of_decide_eq_true (by cases hd : decide ((⟨sb.toArray⟩ : ByteArray) = ⟨l.toArray⟩) with | true => rfl | false => rw [hd] at h; cases h))
    have t2 : (!decide ((⟨sb.toArray⟩ : ByteArray) = ⟨l.toArray⟩)) = true → sb ≠ l := fun h e => by rw [decide_eq_true (str_inj.2 e)] at h; cases h
    clear hQ hE
    refine TCalls.of Tryd.func38 rfl (CanCall.of Tryd.func38 rfl (by decide)) [] fun Γ => ?_
    refine run_sound (⟨fun | 1, 2 => .res (int ((l.length : Int) - 4)) | 4, 3 => told (str sb) [] [] | 6, 3 => .res (str body) | _, _ => .no, [], fun  | _ => none⟩) 400 (B := int (IntKind.wrap IntKind.i64 ((↑(ByteArray.size (ByteArray.mk (List.toArray l))) : Int) - (4 : Int))) = int ((↑(List.length l) : Int) - (4 : Int)) ∧ bsplit (decide ((↑(List.length l) : Int) - (4 : Int) < (0 : Int))) (Q (T.tup [str [], int 2]) [] fun x => none) (((0 : Int) ≤ (↑(0 : Nat) : Int) ∧ (↑(0 : Nat) : Int) ≤ Prod.snd (IntKind.i64, (↑(List.length l) : Int) - (4 : Int)) ∧ Prod.snd (IntKind.i64, (↑(List.length l) : Int) - (4 : Int)) ≤ (↑(ByteArray.size (ByteArray.mk (List.toArray l))) : Int)) ∧ TCalls Tryd.prog 17 [T.v (Value.string (ByteArray.extract (ByteArray.mk (List.toArray l)) (Int.toNat (↑(0 : Nat) : Int)) (Int.toNat (Prod.snd (IntKind.i64, (↑(List.length l) : Int) - (4 : Int))))))] [] none_ (callPost (Hint.call false Unit (fun x => True) [] false (fun x => str sb) (fun x => []) fun x => none_)) ∧ ∀ (a : Unit), True → bsplit (!decide ((ByteArray.mk (List.toArray sb)) = (ByteArray.mk (List.toArray l)))) (Q (T.tup [str [], int 5]) [] fun x => none) (((0 : Int) ≤ (↑(0 : Nat) : Int) ∧ (↑(0 : Nat) : Int) ≤ Prod.snd (IntKind.i64, (↑(List.length l) : Int) - (4 : Int)) ∧ Prod.snd (IntKind.i64, (↑(List.length l) : Int) - (4 : Int)) ≤ (↑(ByteArray.size (ByteArray.mk (List.toArray l))) : Int)) ∧ some (T.v (Value.string (ByteArray.extract (ByteArray.mk (List.toArray l)) (Int.toNat (↑(0 : Nat) : Int)) (Int.toNat (Prod.snd (IntKind.i64, (↑(List.length l) : Int) - (4 : Int))))))) = some (str body) ∧ Q (T.tup [str body, int 0]) [] fun x => none))) (by kernel_rfl) ?_
    repeat' (first | exact rfl | exact Nat.le_of_ble_eq_true rfl | refine And.intro ?_ ?_ | intro _ | refine bsplit_mk (fun _ => ?_) (fun _ => ?_))
    all_goals first
      | exact hw
      | exact hs'
      | exact hs
      | exact congrArg some hcut
      | exact hcut
      | exact q1 (t1 ‹_›)
      | exact q2 (t2 ‹_›)
      | (exfalso; have := of_decide_eq_true ‹decide ((l.length : Int) - 4 < 0) = true›; omega)
      | omega
      | (rw [hsz]; omega)
      | trace_state
/-! Decode -/
def zC : List T := [u8 0, u8 0, u8 0, u32 0, u8 0, u32 0, u8 0, u8 0, bool false, str [], bool false, bool false, u8 0, u8 0, u32 0, u32 0, u8 0, u32 0, u8 0, u8 0, u8 0, u32 0, u32 0, u32 0, .v nilS, u8 0, u8 0, u8 0, u8 0, u8 0, u8 0, u8 0, u8 0, .v nilS]
def decT (r : Fm × Int) : T := if r.2 ≠ 0 then .tup [.agg zC, int r.2] else .tup [.agg (frC r.1), int 0]
def bodyT (f : Fm) (s : RS) : Fm × Int := if s.bad = true then (fm0, 4) else if endE s ≠ 0 then (fm0, endE s) else (f, 0)
def obsX (b1 rb fb b4 : Nat) (s : RS) (f : Fm) : Obs := [(0, .fix fixF), (b1, .cells zC), (rb, .cells [str s.l, int s.e]), (fb, .cells [.ptr 2 rb 0, bool s.bad]), (b4, .cells (frC f))]
theorem dec_end (Γ : Ctx) (b1 rb fb b4 : Nat) (s : RS) (f : Fm) (Q : T → Obs → Glb → Prop) (hQ : Q (decT (bodyT f s)) obsF none_) :
    TWk Tryd.prog Γ (fin Tryd.prog Tryd.f13 [0] Q) [.code (sub (bd Tryd.f13) [1, 1, 1, 1, 1, 1, 1, 1, 0, 0]), .blk 2, .code (sub (bd Tryd.f13) [1, 1, 1, 1, 1, 1, 1, 1, 1])] ⟨frame 72 [(2, .ptr 1 b1 0), (5, .ptr 3 fb 0), (6, .ptr 4 b4 0)], obsX b1 rb fb b4 s f, none_⟩ := by
  have hE := end_any rb s.l s.e s.bad
  have hE : TCalls Tryd.prog 44 [.ptr 0 rb 0] (obsD rb s.l s.e) none_ (callPost (told (int (endE s)) [0] (obsD rb s.l s.e))) := hE
  have q1 : s.bad = true → Q (.tup [.agg zC, int 4]) obsF none_ := fun h => by unfold bodyT at hQ; rw [if_pos h] at hQ; exact hQ
  have q2 : s.bad = false → (endE s != 0) = true → Q (.tup [.agg zC, int (endE s)]) obsF none_ := fun h h2 => by
    unfold bodyT at hQ
    have h2 : endE s ≠ 0 := by simpa using h2
    rw [if_neg (by rw [h]; decide), if_pos h2] at hQ
    unfold decT at hQ
    rw [if_pos h2] at hQ; exact hQ
  have q3 : s.bad = false → (endE s != 0) = false → Q (.tup [.agg (frC f), int 0]) obsF none_ := fun h h2 => by
    unfold bodyT at hQ
    have h2 : endE s = 0 := by simpa using h2
    rw [if_neg (by rw [h]; decide), if_neg (fun g => g h2)] at hQ
    exact hQ
  clear hQ
  generalize endE s = n at *
  unfold obsF obsX at *
  generalize fixF = F at *
  refine run_sound (⟨fun | 15, 4 => rdH 2 s.l s.e (int n) | 16, 5 => rdH 2 s.l s.e (int n) | _, _ => .no, [], fun  | _ => none⟩) 400 (B := fb = fb ∧ bsplit (RS.bad s) ((34 = nat_lit 34 ∧ List.all zC T.one = true) ∧ b1 = b1 ∧ 0 + nat_lit 34 ≤ 34 ∧ b1 = b1 ∧ Q (T.tup [T.agg zC, int 4]) [(0, Ob.fix F)] fun x => none) (fb = fb ∧ TCalls Tryd.prog 44 [T.ptr 0 rb 0] [(rb, Ob.cells [str (RS.l s), int (RS.e s)])] none_ (callPost (Hint.call false Unit (fun x => True) [2] false (fun x => int n) (fun x => obsD rb (RS.l s) (RS.e s)) fun x => none_)) ∧ ∀ (a : Unit), True → bsplit (n != (0 : Int)) (fb = fb ∧ TCalls Tryd.prog 44 [T.ptr 0 rb 0] [(rb, Ob.cells [str (RS.l s), int (RS.e s)])] none_ (callPost (Hint.call false Unit (fun x => True) [2] false (fun x => int n) (fun x => obsD rb (RS.l s) (RS.e s)) fun x => none_)) ∧ ∀ (a : Unit), True → (34 = nat_lit 34 ∧ List.all zC T.one = true) ∧ b1 = b1 ∧ 0 + nat_lit 34 ≤ 34 ∧ b1 = b1 ∧ Q (T.tup [T.agg zC, int n]) [(0, Ob.fix F)] fun x => none) (b4 = b4 ∧ (34 = nat_lit 34 ∧ List.all [u8 (Fm.kind f), u8 (Fm.frm f), u8 (Fm.to f), u32 (Fm.ep f), u8 (Fm.key f), u32 (Fm.sn f), u8 (Fm.sb f), u8 (Fm.sl f), bool (Fm.has f), str (Fm.x f), bool (Fm.rmw f), bool (Fm.flag f), u8 (Fm.dir f), u8 (Fm.life f), u32 (Fm.req f), u32 (Fm.bn f), u8 (Fm.bb f), u32 (Fm.slot f), u8 (Frm.Cmd.k (Fm.c f)), u8 (Frm.Cmd.n (Fm.c f)), u8 (Frm.Cmd.l (Fm.c f)), u32 (Frm.Cmd.e (Fm.c f)), u32 (Frm.Cmd.q (Fm.c f)), u32 (Fm.ve f), T.sl 3 (List.map (fun x => T.agg (memC x)) (Fm.ms f)), u8 (Frm.Lvs.l0 (Fm.lv f)), u8 (Frm.Lvs.l1 (Fm.lv f)), u8 (Frm.Lvs.l2 (Fm.lv f)), u8 (Frm.Lvs.l3 (Fm.lv f)), u8 (Frm.Lvs.l4 (Fm.lv f)), u8 (Frm.Lvs.l5 (Fm.lv f)), u8 (Frm.Lvs.l6 (Fm.lv f)), u8 (Frm.Lvs.l7 (Fm.lv f)), T.sl 8 (List.map (fun x => T.agg (entC x)) (Fm.es f))] T.one = true) ∧ b1 = b1 ∧ 0 + nat_lit 34 ≤ 34 ∧ b1 = b1 ∧ Q (T.tup [T.agg [u8 (Fm.kind f), u8 (Fm.frm f), u8 (Fm.to f), u32 (Fm.ep f), u8 (Fm.key f), u32 (Fm.sn f), u8 (Fm.sb f), u8 (Fm.sl f), bool (Fm.has f), str (Fm.x f), bool (Fm.rmw f), bool (Fm.flag f), u8 (Fm.dir f), u8 (Fm.life f), u32 (Fm.req f), u32 (Fm.bn f), u8 (Fm.bb f), u32 (Fm.slot f), u8 (Frm.Cmd.k (Fm.c f)), u8 (Frm.Cmd.n (Fm.c f)), u8 (Frm.Cmd.l (Fm.c f)), u32 (Frm.Cmd.e (Fm.c f)), u32 (Frm.Cmd.q (Fm.c f)), u32 (Fm.ve f), T.sl 3 (List.map (fun x => T.agg (memC x)) (Fm.ms f)), u8 (Frm.Lvs.l0 (Fm.lv f)), u8 (Frm.Lvs.l1 (Fm.lv f)), u8 (Frm.Lvs.l2 (Fm.lv f)), u8 (Frm.Lvs.l3 (Fm.lv f)), u8 (Frm.Lvs.l4 (Fm.lv f)), u8 (Frm.Lvs.l5 (Fm.lv f)), u8 (Frm.Lvs.l6 (Fm.lv f)), u8 (Frm.Lvs.l7 (Fm.lv f)), T.sl 8 (List.map (fun x => T.agg (entC x)) (Fm.es f))], int 0]) [(0, Ob.fix F)] fun x => none))) (by kernel_rfl) ?_
  repeat' (first | exact rfl | exact Nat.le_of_ble_eq_true rfl | refine And.intro ?_ ?_ | intro _ | refine bsplit_mk (fun _ => ?_) (fun _ => ?_))
  all_goals first
    | exact hE
    | exact q1 ‹_›
    | exact q2 ‹_› ‹_›
    | exact q3 ‹_› ‹_›
    | trace_state
theorem dec_loop (Γ : Ctx) (b1 rb fb b4 c : Nat) (k : Nat) (Q : T → Obs → Glb → Prop) : ∀ (r d : List Nat) (s : RS) (f : Fm), s.Ok → lets k = d ++ r → Q (decT (bodyT (fldsR r s f).1 (fldsR r s f).2)) obsF none_ →
    TWk Tryd.prog Γ (fin Tryd.prog Tryd.f13 [0] Q) [.code (sub (bd Tryd.f13) [1, 1, 1, 1, 1, 1, 1, 0, 1, 0]), .blk 0, .code (sub (bd Tryd.f13) [1, 1, 1, 1, 1, 1, 1, 1])] ⟨frame 72 [(2, .ptr 1 b1 0), (5, .ptr 3 fb 0), (6, .ptr 4 b4 0), (43, .ptr 5 c 0)], obsX b1 rb fb b4 s f ++ [(c, .siter ⟨(letS (lets k)).toArray⟩ d.length)], none_⟩ := by
  intro r
  induction r with
  | nil =>
    intro d s f hs h1 hQ
    have e : d = lets k := by rw [h1]; simp
    subst e
    have en := dec_end Γ b1 rb fb b4 s f Q hQ
    have hsz : (⟨(letS (lets k)).toArray⟩ : ByteArray).size = (lets k).length := by show (letS (lets k)).toArray.size = _; simp [letS]
    have hno : ¬ (lets k).length < (⟨(letS (lets k)).toArray⟩ : ByteArray).size := by omega
    clear hQ
    generalize (⟨(letS (lets k)).toArray⟩ : ByteArray) = z at *
    generalize (lets k).length = n at *
    unfold obsX at *
    generalize fixF = F at *
    refine run_sound (⟨fun | 11, 1 => rsH 2 3 s (bool true) | _, _ => .no, [((2, 9), ([2, 5, 6, 43], 6)), ((0, 13), ([2, 5, 6], 5))], fun  | _ => none⟩) 400 (B := c = c ∧ (n < ByteArray.size z → (∃ r, AsciiAt z n r) ∧ ∀ (r : Nat), AsciiAt z n r → TCalls Tryd.prog 42 [T.ptr 1 fb 0] [(rb, Ob.cells [str (RS.l s), int (RS.e s)]), (fb, Ob.cells [T.ptr 0 rb 0, bool (RS.bad s)])] none_ (callPost (Hint.call false Unit (fun x => True) [2, 3] false (fun x => bool true) (fun x => obsR rb fb s) fun x => none_)) ∧ ∀ (a : Unit), True → TWk Tryd.prog Γ (fin Tryd.prog Tryd.f13 [0] Q) [It.code (sub (bd Tryd.f13) [1, 1, 1, 1, 1, 1, 1, 1, 0, 0]), It.blk 2, It.code (sub (bd Tryd.f13) [1, 1, 1, 1, 1, 1, 1, 1, 1])] { fr := frame 72 [(2, T.ptr 1 b1 0), (5, T.ptr 3 fb 0), (6, T.ptr 4 b4 0)], ob := [(0, Ob.fix F), (b1, Ob.cells zC), (rb, Ob.cells [str (RS.l s), int (RS.e s)]), (fb, Ob.cells [T.ptr 2 rb 0, bool (RS.bad s)]), (b4, Ob.cells [u8 (Fm.kind f), u8 (Fm.frm f), u8 (Fm.to f), u32 (Fm.ep f), u8 (Fm.key f), u32 (Fm.sn f), u8 (Fm.sb f), u8 (Fm.sl f), bool (Fm.has f), str (Fm.x f), bool (Fm.rmw f), bool (Fm.flag f), u8 (Fm.dir f), u8 (Fm.life f), u32 (Fm.req f), u32 (Fm.bn f), u8 (Fm.bb f), u32 (Fm.slot f), u8 (Frm.Cmd.k (Fm.c f)), u8 (Frm.Cmd.n (Fm.c f)), u8 (Frm.Cmd.l (Fm.c f)), u32 (Frm.Cmd.e (Fm.c f)), u32 (Frm.Cmd.q (Fm.c f)), u32 (Fm.ve f), T.sl 3 (List.map (fun x => T.agg (memC x)) (Fm.ms f)), u8 (Frm.Lvs.l0 (Fm.lv f)), u8 (Frm.Lvs.l1 (Fm.lv f)), u8 (Frm.Lvs.l2 (Fm.lv f)), u8 (Frm.Lvs.l3 (Fm.lv f)), u8 (Frm.Lvs.l4 (Fm.lv f)), u8 (Frm.Lvs.l5 (Fm.lv f)), u8 (Frm.Lvs.l6 (Fm.lv f)), u8 (Frm.Lvs.l7 (Fm.lv f)), T.sl 8 (List.map (fun x => T.agg (entC x)) (Fm.es f))])], gl := fun x => none }) ∧ (ByteArray.size z ≤ n → TWk Tryd.prog Γ (fin Tryd.prog Tryd.f13 [0] Q) [It.code (sub (bd Tryd.f13) [1, 1, 1, 1, 1, 1, 1, 1, 0, 0]), It.blk 2, It.code (sub (bd Tryd.f13) [1, 1, 1, 1, 1, 1, 1, 1, 1])] { fr := frame 72 [(2, T.ptr 1 b1 0), (5, T.ptr 3 fb 0), (6, T.ptr 4 b4 0)], ob := [(0, Ob.fix F), (b1, Ob.cells zC), (rb, Ob.cells [str (RS.l s), int (RS.e s)]), (fb, Ob.cells [T.ptr 2 rb 0, bool (RS.bad s)]), (b4, Ob.cells [u8 (Fm.kind f), u8 (Fm.frm f), u8 (Fm.to f), u32 (Fm.ep f), u8 (Fm.key f), u32 (Fm.sn f), u8 (Fm.sb f), u8 (Fm.sl f), bool (Fm.has f), str (Fm.x f), bool (Fm.rmw f), bool (Fm.flag f), u8 (Fm.dir f), u8 (Fm.life f), u32 (Fm.req f), u32 (Fm.bn f), u8 (Fm.bb f), u32 (Fm.slot f), u8 (Frm.Cmd.k (Fm.c f)), u8 (Frm.Cmd.n (Fm.c f)), u8 (Frm.Cmd.l (Fm.c f)), u32 (Frm.Cmd.e (Fm.c f)), u32 (Frm.Cmd.q (Fm.c f)), u32 (Fm.ve f), T.sl 3 (List.map (fun x => T.agg (memC x)) (Fm.ms f)), u8 (Frm.Lvs.l0 (Fm.lv f)), u8 (Frm.Lvs.l1 (Fm.lv f)), u8 (Frm.Lvs.l2 (Fm.lv f)), u8 (Frm.Lvs.l3 (Fm.lv f)), u8 (Frm.Lvs.l4 (Fm.lv f)), u8 (Frm.Lvs.l5 (Fm.lv f)), u8 (Frm.Lvs.l6 (Fm.lv f)), u8 (Frm.Lvs.l7 (Fm.lv f)), T.sl 8 (List.map (fun x => T.agg (entC x)) (Fm.es f))])], gl := fun x => none })) (by kernel_rfl) ?_
    repeat' (first | exact rfl | exact Nat.le_of_ble_eq_true rfl | refine And.intro ?_ ?_ | intro _ | refine bsplit_mk (fun _ => ?_) (fun _ => ?_))
    all_goals first
      | exact en
      | exact absurd ‹_› hno
      | trace_state
  | cons x r ih =>
    intro d s f hs h1 hQ
    have hmem : x ∈ lets k := by rw [h1]; simp
    have hil := Frm.lets_ok k x hmem
    have hx := ascii_at (lets k) d r x h1 (let_lt hil)
    have hsz : (⟨(letS (lets k)).toArray⟩ : ByteArray).size = (lets k).length := by show (letS (lets k)).toArray.size = _; simp [letS]
    have hlt : d.length < (⟨(letS (lets k)).toArray⟩ : ByteArray).size := by rw [hsz, h1]; simp
    have hw := rwr_post rb fb s hs
    have hf := fld_post rb fb b4 s hs f x hil
    have q1 : wrong s = true → TWk Tryd.prog Γ (fin Tryd.prog Tryd.f13 [0] Q) [.code (sub (bd Tryd.f13) [1, 1, 1, 1, 1, 1, 1, 1, 0, 0]), .blk 2, .code (sub (bd Tryd.f13) [1, 1, 1, 1, 1, 1, 1, 1, 1])] ⟨frame 72 [(2, .ptr 1 b1 0), (5, .ptr 3 fb 0), (6, .ptr 4 b4 0)], obsX b1 rb fb b4 s f, none_⟩ := fun h => dec_end Γ b1 rb fb b4 s f Q (by unfold Frm.fldsR at hQ; rw [if_pos h] at hQ; exact hQ)
    have q2 : wrong s = false → TWk Tryd.prog Γ (fin Tryd.prog Tryd.f13 [0] Q) [.code (sub (bd Tryd.f13) [1, 1, 1, 1, 1, 1, 1, 0, 1, 0]), .blk 0, .code (sub (bd Tryd.f13) [1, 1, 1, 1, 1, 1, 1, 1])] ⟨frame 72 [(2, .ptr 1 b1 0), (5, .ptr 3 fb 0), (6, .ptr 4 b4 0), (43, .ptr 5 c 0)], obsX b1 rb fb b4 (fldR x s f).2 (fldR x s f).1 ++ [(c, .siter ⟨(letS (lets k)).toArray⟩ (d.length + 1))], none_⟩ := fun h => by
      have nx := ih (d ++ [x]) (fldR x s f).2 (fldR x s f).1 (hs.fld x f) (by rw [h1]; simp) (by unfold Frm.fldsR at hQ; rw [if_neg (by rw [h]; decide)] at hQ; exact hQ)
      rw [show (d ++ [x]).length = d.length + 1 from by simp] at nx
      exact nx
    clear ih hQ
    generalize (⟨(letS (lets k)).toArray⟩ : ByteArray) = z at *
    generalize d.length = n at *
    generalize wrong s = w at *
    generalize (fldR x s f).2 = s' at *
    generalize (fldR x s f).1 = f' at *
    unfold obsX at *
    generalize fixF = F at *
    refine run_sound (⟨fun | 11, 1 => rsH 2 3 s (bool w) | 12, 2 => fdH 2 3 4 s' f' (.tup []) | _, _ => .no, [((2, 9), ([2, 5, 6, 43], 6)), ((0, 13), ([2, 5, 6], 5))], fun  | _ => none⟩) 400 (B := c = c ∧ (n < ByteArray.size z → (∃ r, AsciiAt z n r) ∧ ∀ (r : Nat), AsciiAt z n r → TCalls Tryd.prog 42 [T.ptr 1 fb 0] [(rb, Ob.cells [str (RS.l s), int (RS.e s)]), (fb, Ob.cells [T.ptr 0 rb 0, bool (RS.bad s)])] none_ (callPost (Hint.call false Unit (fun x => True) [2, 3] false (fun x => bool w) (fun x => obsR rb fb s) fun x => none_)) ∧ ∀ (a : Unit), True → bsplit w (TWk Tryd.prog Γ (fin Tryd.prog Tryd.f13 [0] Q) [It.code (sub (bd Tryd.f13) [1, 1, 1, 1, 1, 1, 1, 1, 0, 0]), It.blk 2, It.code (sub (bd Tryd.f13) [1, 1, 1, 1, 1, 1, 1, 1, 1])] { fr := frame 72 [(2, T.ptr 1 b1 0), (5, T.ptr 3 fb 0), (6, T.ptr 4 b4 0)], ob := [(0, Ob.fix F), (b1, Ob.cells zC), (rb, Ob.cells [str (RS.l s), int (RS.e s)]), (fb, Ob.cells [T.ptr 2 rb 0, bool (RS.bad s)]), (b4, Ob.cells [u8 (Fm.kind f), u8 (Fm.frm f), u8 (Fm.to f), u32 (Fm.ep f), u8 (Fm.key f), u32 (Fm.sn f), u8 (Fm.sb f), u8 (Fm.sl f), bool (Fm.has f), str (Fm.x f), bool (Fm.rmw f), bool (Fm.flag f), u8 (Fm.dir f), u8 (Fm.life f), u32 (Fm.req f), u32 (Fm.bn f), u8 (Fm.bb f), u32 (Fm.slot f), u8 (Frm.Cmd.k (Fm.c f)), u8 (Frm.Cmd.n (Fm.c f)), u8 (Frm.Cmd.l (Fm.c f)), u32 (Frm.Cmd.e (Fm.c f)), u32 (Frm.Cmd.q (Fm.c f)), u32 (Fm.ve f), T.sl 3 (List.map (fun x => T.agg (memC x)) (Fm.ms f)), u8 (Frm.Lvs.l0 (Fm.lv f)), u8 (Frm.Lvs.l1 (Fm.lv f)), u8 (Frm.Lvs.l2 (Fm.lv f)), u8 (Frm.Lvs.l3 (Fm.lv f)), u8 (Frm.Lvs.l4 (Fm.lv f)), u8 (Frm.Lvs.l5 (Fm.lv f)), u8 (Frm.Lvs.l6 (Fm.lv f)), u8 (Frm.Lvs.l7 (Fm.lv f)), T.sl 8 (List.map (fun x => T.agg (entC x)) (Fm.es f))])], gl := fun x => none }) (TCalls Tryd.prog 43 [T.ptr 1 fb 0, T.ptr 2 b4 0, T.v (Value.int IntKind.i32 (↑r : Int))] [(rb, Ob.cells [str (RS.l s), int (RS.e s)]), (fb, Ob.cells [T.ptr 0 rb 0, bool (RS.bad s)]), (b4, Ob.cells [u8 (Fm.kind f), u8 (Fm.frm f), u8 (Fm.to f), u32 (Fm.ep f), u8 (Fm.key f), u32 (Fm.sn f), u8 (Fm.sb f), u8 (Fm.sl f), bool (Fm.has f), str (Fm.x f), bool (Fm.rmw f), bool (Fm.flag f), u8 (Fm.dir f), u8 (Fm.life f), u32 (Fm.req f), u32 (Fm.bn f), u8 (Fm.bb f), u32 (Fm.slot f), u8 (Frm.Cmd.k (Fm.c f)), u8 (Frm.Cmd.n (Fm.c f)), u8 (Frm.Cmd.l (Fm.c f)), u32 (Frm.Cmd.e (Fm.c f)), u32 (Frm.Cmd.q (Fm.c f)), u32 (Fm.ve f), T.sl 3 (List.map (fun x => T.agg (memC x)) (Fm.ms f)), u8 (Frm.Lvs.l0 (Fm.lv f)), u8 (Frm.Lvs.l1 (Fm.lv f)), u8 (Frm.Lvs.l2 (Fm.lv f)), u8 (Frm.Lvs.l3 (Fm.lv f)), u8 (Frm.Lvs.l4 (Fm.lv f)), u8 (Frm.Lvs.l5 (Fm.lv f)), u8 (Frm.Lvs.l6 (Fm.lv f)), u8 (Frm.Lvs.l7 (Fm.lv f)), T.sl 8 (List.map (fun x => T.agg (entC x)) (Fm.es f))])] none_ (callPost (Hint.call false Unit (fun x => True) [2, 3, 4] false (fun x => T.tup []) (fun x => obsG rb fb b4 s' f') fun x => none_)) ∧ ∀ (a : Unit), True → TWk Tryd.prog Γ (fin Tryd.prog Tryd.f13 [0] Q) [It.code (sub (bd Tryd.f13) [1, 1, 1, 1, 1, 1, 1, 0, 1, 0]), It.blk 0, It.code (sub (bd Tryd.f13) [1, 1, 1, 1, 1, 1, 1, 1])] { fr := frame 72 [(2, T.ptr 1 b1 0), (5, T.ptr 3 fb 0), (6, T.ptr 4 b4 0), (43, T.ptr 5 c 0)], ob := [(0, Ob.fix F), (b1, Ob.cells zC), (rb, Ob.cells [str (RS.l s'), int (RS.e s')]), (fb, Ob.cells [T.ptr 2 rb 0, bool (RS.bad s')]), (b4, Ob.cells [u8 (Fm.kind f'), u8 (Fm.frm f'), u8 (Fm.to f'), u32 (Fm.ep f'), u8 (Fm.key f'), u32 (Fm.sn f'), u8 (Fm.sb f'), u8 (Fm.sl f'), bool (Fm.has f'), str (Fm.x f'), bool (Fm.rmw f'), bool (Fm.flag f'), u8 (Fm.dir f'), u8 (Fm.life f'), u32 (Fm.req f'), u32 (Fm.bn f'), u8 (Fm.bb f'), u32 (Fm.slot f'), u8 (Frm.Cmd.k (Fm.c f')), u8 (Frm.Cmd.n (Fm.c f')), u8 (Frm.Cmd.l (Fm.c f')), u32 (Frm.Cmd.e (Fm.c f')), u32 (Frm.Cmd.q (Fm.c f')), u32 (Fm.ve f'), T.sl 3 (List.map (fun x => T.agg (memC x)) (Fm.ms f')), u8 (Frm.Lvs.l0 (Fm.lv f')), u8 (Frm.Lvs.l1 (Fm.lv f')), u8 (Frm.Lvs.l2 (Fm.lv f')), u8 (Frm.Lvs.l3 (Fm.lv f')), u8 (Frm.Lvs.l4 (Fm.lv f')), u8 (Frm.Lvs.l5 (Fm.lv f')), u8 (Frm.Lvs.l6 (Fm.lv f')), u8 (Frm.Lvs.l7 (Fm.lv f')), T.sl 8 (List.map (fun x => T.agg (entC x)) (Fm.es f'))]), (c, Ob.siter z (n + 1))], gl := fun x => none })) ∧ (ByteArray.size z ≤ n → TWk Tryd.prog Γ (fin Tryd.prog Tryd.f13 [0] Q) [It.code (sub (bd Tryd.f13) [1, 1, 1, 1, 1, 1, 1, 1, 0, 0]), It.blk 2, It.code (sub (bd Tryd.f13) [1, 1, 1, 1, 1, 1, 1, 1, 1])] { fr := frame 72 [(2, T.ptr 1 b1 0), (5, T.ptr 3 fb 0), (6, T.ptr 4 b4 0)], ob := [(0, Ob.fix F), (b1, Ob.cells zC), (rb, Ob.cells [str (RS.l s), int (RS.e s)]), (fb, Ob.cells [T.ptr 2 rb 0, bool (RS.bad s)]), (b4, Ob.cells [u8 (Fm.kind f), u8 (Fm.frm f), u8 (Fm.to f), u32 (Fm.ep f), u8 (Fm.key f), u32 (Fm.sn f), u8 (Fm.sb f), u8 (Fm.sl f), bool (Fm.has f), str (Fm.x f), bool (Fm.rmw f), bool (Fm.flag f), u8 (Fm.dir f), u8 (Fm.life f), u32 (Fm.req f), u32 (Fm.bn f), u8 (Fm.bb f), u32 (Fm.slot f), u8 (Frm.Cmd.k (Fm.c f)), u8 (Frm.Cmd.n (Fm.c f)), u8 (Frm.Cmd.l (Fm.c f)), u32 (Frm.Cmd.e (Fm.c f)), u32 (Frm.Cmd.q (Fm.c f)), u32 (Fm.ve f), T.sl 3 (List.map (fun x => T.agg (memC x)) (Fm.ms f)), u8 (Frm.Lvs.l0 (Fm.lv f)), u8 (Frm.Lvs.l1 (Fm.lv f)), u8 (Frm.Lvs.l2 (Fm.lv f)), u8 (Frm.Lvs.l3 (Fm.lv f)), u8 (Frm.Lvs.l4 (Fm.lv f)), u8 (Frm.Lvs.l5 (Fm.lv f)), u8 (Frm.Lvs.l6 (Fm.lv f)), u8 (Frm.Lvs.l7 (Fm.lv f)), T.sl 8 (List.map (fun x => T.agg (entC x)) (Fm.es f))])], gl := fun x => none })) (by kernel_rfl) ?_
    repeat' (first | exact rfl | exact Nat.le_of_ble_eq_true rfl | refine And.intro ?_ ?_ | intro _ | refine bsplit_mk (fun _ => ?_) (fun _ => ?_))
    all_goals first
      | exact hw
      | exact q1 ‹_›
      | exact q2 ‹_›
      | exact ⟨x, (hx x).2 rfl⟩
      | (obtain rfl := (hx _).1 ‹_›; exact hf)
      | (exfalso; omega)
      | trace_state
end X6
end Go.Proofs.YtaepgceodcdnhaaDoor.Vm
/- Frames by the engine: Decode. -/
namespace Go.Proofs.YtaepgceodcdnhaaDoor.Vm
open Go Go.RowKit
set_option maxRecDepth 100000
namespace X6
open Frm (Fm RS rnum rgo must wrong endE fldR fldsR fm0 hdF hdS letsK bodyR decB decR openE lets hasKind)
open X1 (obsD rdH rdC)
theorem rel_nil0 {M : Pm} {k : Nat} {v : Value} (h : Rel M (.v nilS) v) : Rel M (.sl k []) v := by
  simp only [Rel] at h ⊢
  exact ⟨none, 0, h, ⟨Nat.le_refl _, by omega, fun _ => ⟨rfl, rfl⟩, fun a e => by cases e⟩, by simp [El], by simp⟩
theorem relL_set {M : Pm} {j : Nat} {ts : List T} {xs : List Value} {t t' : T} (hj : ts[j]? = some t) (ht : ∀ v, Rel M t v → Rel M t' v) (h : RelL M ts xs) : RelL M (ts.set j t') xs := by
  obtain ⟨y, h1, h2⟩ := h.get hj
  have h3 := h.set j (ht y h2)
  have e : xs.set j y = xs := by
    obtain ⟨hl, he⟩ := List.getElem?_eq_some_iff.1 h1
    rw [← he, List.set_getElem_self]
  rwa [e] at h3
/-- a cell told in another way -/
theorem Imp.cellR {ts : List T} {ob : Obs} {gl : Glb} {i b j : Nat} {cs : List T} {t t' : T} (hi : ob[i]? = some (b, .cells cs)) (hj : cs[j]? = some t) (ht : ∀ M v, Rel M t v → Rel M t' v) : Imp ts ob gl ts (ob.set i (b, .cells (cs.set j t'))) gl :=
  Imp.ob hi (fun M _ ⟨C, ty, h1, h2, h3⟩ => ⟨C, ty, h1, relL_set hj (ht M) h2, h3⟩) (fun _ h => h)
def rdF (l : List UInt8) : Hint := .call false Nat (fun _ => True) [] false (fun b => .ptr 0 b 0) (fun b => obsD b l 0) (fun _ => none_)
def hdC (k a b : Nat) : List T := [u8 k, u8 a, u8 b, u32 0, u8 0, u32 0, u8 0, u8 0, bool false, str [], bool false, bool false, u8 0, u8 0, u32 0, u32 0, u8 0, u32 0, u8 0, u8 0, u8 0, u32 0, u32 0, u32 0, .v nilS, u8 0, u8 0, u8 0, u8 0, u8 0, u8 0, u8 0, u8 0, .v nilS]
theorem letsK_eq (k : Nat) : letsK k = if 1 ≤ k ∧ k < 17 then lets k else [] := by
  unfold letsK Frm.hasKind
  by_cases h : 1 ≤ k ∧ k < 17
  · rw [if_pos h]; simp [h.1, h.2]
  · rw [if_neg h]; simp; omega
theorem lets_off (k : Nat) (h : ¬ (1 ≤ k ∧ k < 17)) : lets k = [] := by
  unfold Frm.lets
  by_cases h0 : k = 0
  · subst h0; rfl
  · rw [List.getD_eq_getElem?_getD, List.getElem?_eq_none]; rfl
    show 17 ≤ k; omega
theorem dec_any (l : List UInt8) (hl : l.length ≤ 1000000000) (Q : T → Obs → Glb → Prop) (hQ : Q (decT (decR l)) obsF none_) : TCalls Tryd.prog 13 [str l] obsF none_ Q := by
  have ho := open_post l hl
  by_cases he : openE l ≠ 0
  · rw [if_pos he] at ho
    have hQ : Q (.tup [.agg zC, int (openE l)]) obsF none_ := by
      unfold Frm.decR at hQ
      rw [if_pos he] at hQ
      unfold decT at hQ
      rw [if_pos he] at hQ
      exact hQ
    have ht : (openE l != 0) = true := by simpa using he
    generalize openE l = n at *
    unfold obsF at *
    generalize fixF = F at *
    refine TCalls.of Tryd.func13 rfl (CanCall.of Tryd.func13 rfl (by decide)) [0] fun Γ => ?_
    refine run_sound (⟨fun | 1, 1 => told (.tup [str [], int n]) [] [] | _, _ => .no, [((0, 4), ([0, 2], 0))], fun  | _ => none⟩) 400 (B := ∀ (b : Nat), TCalls Tryd.prog 38 [str l] [] none_ (callPost (Hint.call false Unit (fun x => True) [] false (fun x => T.tup [str [], int n]) (fun x => []) fun x => none_)) ∧ ∀ (a : Unit), True → bsplit (n != (0 : Int)) ((34 = nat_lit 34 ∧ List.all zC T.one = true) ∧ b = b ∧ 0 + nat_lit 34 ≤ 34 ∧ b = b ∧ Q (T.tup [T.agg zC, int n]) [(0, Ob.fix F)] fun x => none) (TWk Tryd.prog Γ (fin Tryd.prog Tryd.f13 [0] Q) [It.code (sub (bd Tryd.f13) [1, 1, 1])] { fr := frame 72 [(0, str []), (2, T.ptr 1 b 0)], ob := [], gl := fun x => none })) (by kernel_rfl) ?_
    repeat' (first | exact rfl | exact Nat.le_of_ble_eq_true rfl | refine And.intro ?_ ?_ | intro _ | refine bsplit_mk (fun _ => ?_) (fun _ => ?_))
    all_goals first
      | exact ho
      | exact hQ
      | (exfalso; rename_i h; rw [ht] at h; cases h)
      | trace_state
  · have he : openE l = 0 := Classical.not_not.1 he
    have hQ : Q (decT (decB (l.take (l.length - 4)))) obsF none_ := by
      unfold Frm.decR at hQ
      rw [if_neg (fun h => h he)] at hQ
      exact hQ
    rw [he, if_neg (fun h => h rfl)] at ho
    have hb : (l.take (l.length - 4)).length ≤ 1000000000 := by rw [List.length_take]; omega
    generalize l.take (l.length - 4) = body at *
    have h0 : (RS.mk body 0 false).Ok := ⟨hb, .inl rfl⟩
    have hd : hdF body = ⟨rnum 1 ⟨body, 0, false⟩, rnum 1 (rgo 1 ⟨body, 0, false⟩), rnum 1 (rgo 1 (rgo 1 ⟨body, 0, false⟩)), 0, 0, 0, 0, 0, false, [], false, false, 0, 0, 0, 0, 0, 0, ⟨0, 0, 0, 0, 0⟩, 0, [], ⟨0, 0, 0, 0, 0, 0, 0, 0⟩, []⟩ := rfl
    have lp : ∀ (Γ : Ctx) (b1 rb fb b4 c : Nat), TWk Tryd.prog Γ (fin Tryd.prog Tryd.f13 [0] Q) [.code (sub (bd Tryd.f13) [1, 1, 1, 1, 1, 1, 1, 0, 1, 0]), .blk 0, .code (sub (bd Tryd.f13) [1, 1, 1, 1, 1, 1, 1, 1])] ⟨frame 72 [(2, .ptr 1 b1 0), (5, .ptr 3 fb 0), (6, .ptr 4 b4 0), (43, .ptr 5 c 0)], obsX b1 rb fb b4 (hdS body) (hdF body) ++ [(c, .siter ⟨(letS (letsK (hdF body).kind)).toArray⟩ 0)], none_⟩ := by
      intro Γ b1 rb fb b4 c
      have hS : (hdS body).Ok := by unfold Frm.hdS; exact (((h0.go 1).go 1).go 1).must _
      have := dec_loop Γ b1 rb fb b4 c (hdF body).kind Q (lets (hdF body).kind) [] (hdS body) (hdF body) hS rfl
      have e : letsK (hdF body).kind = lets (hdF body).kind := by
        rw [letsK_eq]
        split
        · rfl
        · rw [lets_off _ ‹_›]
      rw [e]
      refine this ?_
      rw [show bodyT (fldsR (lets (hdF body).kind) (hdS body) (hdF body)).1 (fldsR (lets (hdF body).kind) (hdS body) (hdF body)).2 = decB body from by
        unfold bodyT Frm.decB Frm.bodyR
        rw [e]]
      exact hQ
    have hr : TCalls Tryd.prog 39 [str body] [] none_ (callPost (rdF body)) := X1.read_any body _ fun b => ⟨b, trivial, rfl, rfl, Nat.zero_le _, fun h => by cases h⟩
    have s1 := fun rb fb => rsm_post rb fb ⟨body, 0, false⟩ h0
    have s2 := fun rb fb => rsm_post rb fb (rgo 1 ⟨body, 0, false⟩) (h0.go 1)
    have s3 := fun rb fb => rsm_post rb fb (rgo 1 (rgo 1 ⟨body, 0, false⟩)) ((h0.go 1).go 1)
    have s4 := fun rb fb => rmu_post rb fb (rgo 1 (rgo 1 (rgo 1 ⟨body, 0, false⟩))) (((h0.go 1).go 1).go 1) (hasKind (hdF body).kind)
    have hof : TCalls Tryd.prog 27 [u8 (hdF body).kind] obsF none_ (callPost (told (.tup [str (letS (letsK (hdF body).kind)), bool (hasKind (hdF body).kind)]) [0] obsF)) := by
      by_cases g : 1 ≤ (hdF body).kind ∧ (hdF body).kind < 17
      · rw [letsK_eq, if_pos g, show hasKind (hdF body).kind = true from by unfold Frm.hasKind; simp [g.1, g.2]]
        exact of_yes _ g
      · rw [letsK_eq, if_neg g, show hasKind (hdF body).kind = false from by unfold Frm.hasKind; simp; omega]
        exact of_no _ (Frm.rnum1_lt _) g
    have lp' : ∀ (Γ : Ctx) (b1 rb fb b4 c : Nat), TWk Tryd.prog Γ (fin Tryd.prog Tryd.f13 [0] Q) [.code (sub (bd Tryd.f13) [1, 1, 1, 1, 1, 1, 1, 0, 1, 0]), .blk 0, .code (sub (bd Tryd.f13) [1, 1, 1, 1, 1, 1, 1, 1])] ⟨frame 72 [(2, .ptr 1 b1 0), (5, .ptr 3 fb 0), (6, .ptr 4 b4 0), (43, .ptr 5 c 0)], [(0, .fix fixF), (b1, .cells zC), (rb, .cells [str (hdS body).l, int (hdS body).e]), (fb, .cells [.ptr 2 rb 0, bool (hdS body).bad]), (b4, .cells (hdC (rnum 1 ⟨body, 0, false⟩) (rnum 1 (rgo 1 ⟨body, 0, false⟩)) (rnum 1 (rgo 1 (rgo 1 ⟨body, 0, false⟩))))), (c, .siter ⟨(letS (letsK (hdF body).kind)).toArray⟩ 0)], none_⟩ := fun Γ b1 rb fb b4 c => by
      have w1 := TWk.imp (s := ⟨frame 72 [(2, .ptr 1 b1 0), (5, .ptr 3 fb 0), (6, .ptr 4 b4 0), (43, .ptr 5 c 0)], [(0, .fix fixF), (b1, .cells zC), (rb, .cells [str (hdS body).l, int (hdS body).e]), (fb, .cells [.ptr 2 rb 0, bool (hdS body).bad]), (b4, .cells ((hdC (rnum 1 ⟨body, 0, false⟩) (rnum 1 (rgo 1 ⟨body, 0, false⟩)) (rnum 1 (rgo 1 (rgo 1 ⟨body, 0, false⟩)))).set 24 (.sl 3 []))), (c, .siter ⟨(letS (letsK (hdF body).kind)).toArray⟩ 0)], none_⟩) (lp Γ b1 rb fb b4 c) (Imp.cellR (ob := [(0, .fix fixF), (b1, .cells zC), (rb, .cells [str (hdS body).l, int (hdS body).e]), (fb, .cells [.ptr 2 rb 0, bool (hdS body).bad]), (b4, .cells ((hdC (rnum 1 ⟨body, 0, false⟩) (rnum 1 (rgo 1 ⟨body, 0, false⟩)) (rnum 1 (rgo 1 (rgo 1 ⟨body, 0, false⟩)))).set 24 (.sl 3 []))), (c, .siter ⟨(letS (letsK (hdF body).kind)).toArray⟩ 0)]) (i := 4) (j := 33) (t := .v nilS) (t' := .sl 8 []) rfl rfl fun _ _ h => rel_nil0 h)
      exact TWk.imp w1 (Imp.cellR (ob := [(0, .fix fixF), (b1, .cells zC), (rb, .cells [str (hdS body).l, int (hdS body).e]), (fb, .cells [.ptr 2 rb 0, bool (hdS body).bad]), (b4, .cells (hdC (rnum 1 ⟨body, 0, false⟩) (rnum 1 (rgo 1 ⟨body, 0, false⟩)) (rnum 1 (rgo 1 (rgo 1 ⟨body, 0, false⟩))))), (c, .siter ⟨(letS (letsK (hdF body).kind)).toArray⟩ 0)]) (i := 4) (j := 24) (t := .v nilS) (t' := .sl 3 []) rfl rfl fun _ _ h => rel_nil0 h)
    clear lp
    have eS : hdS body = must (hasKind (hdF body).kind) (rgo 1 (rgo 1 (rgo 1 ⟨body, 0, false⟩))) := rfl
    rw [eS] at lp'
    have eK : (hdF body).kind = rnum 1 ⟨body, 0, false⟩ := rfl
    rw [eK] at lp' s4 hof
    clear hd eS eK
    generalize must (hasKind (rnum 1 ⟨body, 0, false⟩)) (rgo 1 (rgo 1 (rgo 1 ⟨body, 0, false⟩))) = z4 at *
    generalize letS (letsK (rnum 1 ⟨body, 0, false⟩)) = ls at *
    generalize hasKind (rnum 1 ⟨body, 0, false⟩) = hk at *
    generalize rnum 1 (rgo 1 (rgo 1 ⟨body, 0, false⟩)) = n3 at *
    generalize rgo 1 (rgo 1 (rgo 1 ⟨body, 0, false⟩)) = z3 at *
    generalize rnum 1 (rgo 1 ⟨body, 0, false⟩) = n2 at *
    generalize rgo 1 (rgo 1 ⟨body, 0, false⟩) = z2 at *
    generalize rnum 1 ⟨body, 0, false⟩ = n1 at *
    generalize rgo 1 ⟨body, 0, false⟩ = z1 at *
    unfold obsF at *
    generalize fixF = F at *
    refine TCalls.of Tryd.func13 rfl (CanCall.of Tryd.func13 rfl (by decide)) [0] fun Γ => ?_
    refine run_sound (⟨fun | 1, 1 => told (.tup [str body, int 0]) [] [] | 4, 1 => rdF body | 5, 1 => rsH 2 3 z1 (u8 n1) | 5, 3 => rsH 2 3 z2 (u8 n2) | 5, 5 => rsH 2 3 z3 (u8 n3) | 6, 3 => told (.tup [str ls, bool hk]) [0] [(0, .fix F)] | 7, 2 => rsH 2 3 z4 (.tup []) | _, _ => .no, [((2, 9), ([2, 5, 6, 43], 6))], fun  | _ => none⟩) 400 (B := ∀ (b : Nat), TCalls Tryd.prog 38 [str l] [] none_ (callPost (Hint.call false Unit (fun x => True) [] false (fun x => T.tup [str body, int 0]) (fun x => []) fun x => none_)) ∧ ∀ (a : Unit), True → TCalls Tryd.prog 39 [str body] [] none_ (callPost (Hint.call false Nat (fun x => True) [] false (fun b => T.ptr 0 b 0) (fun b => obsD b body (0 : Int)) fun x => none_)) ∧ ∀ (a : Nat), True → ∀ (b_1 : Nat), TCalls Tryd.prog 40 [T.ptr 1 b_1 0] [(a, Ob.cells [str body, int 0]), (b_1, Ob.cells [T.ptr 0 a 0, bool false])] none_ (callPost (Hint.call false Unit (fun x => True) [2, 3] false (fun x => u8 (↑n1 : Int)) (fun x => obsR a b_1 z1) fun x => none_)) ∧ ∀ (a_1 : Unit), True → TCalls Tryd.prog 40 [T.ptr 1 b_1 0] [(a, Ob.cells [str (RS.l z1), int (RS.e z1)]), (b_1, Ob.cells [T.ptr 0 a 0, bool (RS.bad z1)])] none_ (callPost (Hint.call false Unit (fun x => True) [2, 3] false (fun x => u8 (↑n2 : Int)) (fun x => obsR a b_1 z2) fun x => none_)) ∧ ∀ (a_2 : Unit), True → TCalls Tryd.prog 40 [T.ptr 1 b_1 0] [(a, Ob.cells [str (RS.l z2), int (RS.e z2)]), (b_1, Ob.cells [T.ptr 0 a 0, bool (RS.bad z2)])] none_ (callPost (Hint.call false Unit (fun x => True) [2, 3] false (fun x => u8 (↑n3 : Int)) (fun x => obsR a b_1 z3) fun x => none_)) ∧ ∀ (a_3 : Unit), True → ∀ (b_2 : Nat), (34 = nat_lit 34 ∧ List.all [u8 n1, u8 n2, u8 n3, u32 0, u8 0, u32 0, u8 0, u8 0, bool false, str [], bool false, bool false, u8 0, u8 0, u32 0, u32 0, u8 0, u32 0, u8 0, u8 0, u8 0, u32 0, u32 0, u32 0, T.v nilS, u8 0, u8 0, u8 0, u8 0, u8 0, u8 0, u8 0, u8 0, T.v nilS] T.one = true) ∧ b_2 = b_2 ∧ 0 + nat_lit 34 ≤ 34 ∧ b_2 = b_2 ∧ TCalls Tryd.prog 27 [u8 n1] [(0, Ob.fix F)] none_ (callPost (Hint.call false Unit (fun x => True) [0] false (fun x => T.tup [str ls, bool hk]) (fun x => [(0, Ob.fix F)]) fun x => none_)) ∧ ∀ (a_4 : Unit), True → TCalls Tryd.prog 41 [T.ptr 1 b_1 0, bool hk] [(a, Ob.cells [str (RS.l z3), int (RS.e z3)]), (b_1, Ob.cells [T.ptr 0 a 0, bool (RS.bad z3)])] none_ (callPost (Hint.call false Unit (fun x => True) [2, 3] false (fun x => T.tup []) (fun x => obsR a b_1 z4) fun x => none_)) ∧ ∀ (a_5 : Unit), True → ∀ (c : Nat), TWk Tryd.prog Γ (fin Tryd.prog Tryd.f13 [0] Q) [It.code (sub (bd Tryd.f13) [1, 1, 1, 1, 1, 1, 1, 0, 1, 0]), It.blk 0, It.code (sub (bd Tryd.f13) [1, 1, 1, 1, 1, 1, 1, 1])] { fr := frame 72 [(2, T.ptr 1 b 0), (5, T.ptr 3 b_1 0), (6, T.ptr 4 b_2 0), (43, T.ptr 5 c 0)], ob := [(0, Ob.fix F), (b, Ob.cells zC), (a, Ob.cells [str (RS.l z4), int (RS.e z4)]), (b_1, Ob.cells [T.ptr 2 a 0, bool (RS.bad z4)]), (b_2, Ob.cells [u8 n1, u8 n2, u8 n3, u32 0, u8 0, u32 0, u8 0, u8 0, bool false, str [], bool false, bool false, u8 0, u8 0, u32 0, u32 0, u8 0, u32 0, u8 0, u8 0, u8 0, u32 0, u32 0, u32 0, T.v nilS, u8 0, u8 0, u8 0, u8 0, u8 0, u8 0, u8 0, u8 0, T.v nilS]), (c, Ob.siter (ByteArray.mk (List.toArray ls)) 0)], gl := fun x => none }) (by kernel_rfl) ?_
    repeat' (first | exact rfl | exact Nat.le_of_ble_eq_true rfl | refine And.intro ?_ ?_ | intro _ | refine bsplit_mk (fun _ => ?_) (fun _ => ?_))
    all_goals first
      | exact ho
      | exact hr _ _
      | exact hr
      | exact s1 _ _
      | exact s2 _ _
      | exact s3 _ _
      | exact s4 _ _
      | exact hof
      | exact lp' _ _ _ _ _ _
      | trace_state
end X6
end Go.Proofs.YtaepgceodcdnhaaDoor.Vm
/- Frames by the engine: Same of views and frames. -/
namespace Go.Proofs.YtaepgceodcdnhaaDoor.Vm
open Go Go.RowKit
set_option maxRecDepth 100000
namespace X6
open Frm (Cmd Mem Ent Lvs Fm)
theorem eqm_loop (Γ : Ctx) (l m : List Mem) (hlen : l.length = m.length) (hl : l.length ≤ 100) (Q : T → Obs → Glb → Prop) (hQ : ∀ r, r = bool (decide (l = m)) → Q r [] none_) : ∀ (r r' d : List Mem) (k : Int), l = d ++ r → m = d ++ r' → k = d.length →
    TWk Tryd.prog Γ (fin Tryd.prog Tryd.f50 [] Q) [.code (sub (bd Tryd.f50) [1, 1, 0, 1, 0]), .blk 0, .code (sub (bd Tryd.f50) [1, 1, 1])] ⟨frame 26 [(0, .sl 3 (Row.aggs memC l)), (1, .sl 3 (Row.aggs memC m)), (12, int l.length), (13, int k)], [], none_⟩ := by
  intro r
  induction r with
  | nil =>
    intro r' d k h1 h2 hk
    have hm : r' = [] := by cases r' with
      | nil => rfl
      | cons a r' => exact absurd hlen (by rw [h1, h2]; simp)
    have hlk : (l.length : Int) = k := by rw [h1, hk]; simp
    have hQ := hQ (bool true) (by rw [h1, h2, hm, decide_eq_true rfl])
    clear h1 h2
    generalize Row.aggs memC l = L at *
    generalize Row.aggs memC m = M at *
    generalize (l.length : Int) = n at *
    subst hlk
    refine run_sound (⟨fun | 6, 2 => .res (.agg (memC ⟨0, 0, false⟩)) | 6, 6 => .res (.agg (memC ⟨0, 0, false⟩)) | _, _ => .no, [((2, 4), ([0, 1, 12, 13], 0))], fun  | _ => none⟩) 400 (B := bsplit (decide (n < n)) ((0 : Int) ≤ n ∧ L[Int.toNat n]? = some (T.agg [u8 (Mem.n { n := 0, l := 0, r := false }), u8 (Mem.l { n := 0, l := 0, r := false }), bool false]) ∧ (0 : Int) ≤ n ∧ M[Int.toNat n]? = some (T.agg [u8 (Mem.n { n := 0, l := 0, r := false }), u8 (Mem.l { n := 0, l := 0, r := false }), bool false]) ∧ TWk Tryd.prog Γ (fin Tryd.prog Tryd.f50 [] Q) [It.code (sub (bd Tryd.f50) [1, 1, 0, 1, 0]), It.blk 0, It.code (sub (bd Tryd.f50) [1, 1, 1])] { fr := frame 26 [(0, T.sl 3 L), (1, T.sl 3 M), (12, int n), (13, int (IntKind.wrap IntKind.i64 (n + (1 : Int))))], ob := [], gl := fun x => none }) (Q (bool true) [] fun x => none)) (by kernel_rfl) ?_
    repeat' (first | exact rfl | exact Nat.le_of_ble_eq_true rfl | refine And.intro ?_ ?_ | intro _ | refine bsplit_mk (fun _ => ?_) (fun _ => ?_))
    all_goals first
      | exact hQ
      | (exfalso; simp at *; done)
      | trace_state
  | cons a r ih =>
    intro r' d k h1 h2 hk
    cases r' with
    | nil => exact absurd hlen (by rw [h1, h2]; simp)
    | cons a' r' =>
      have hlk : k < (l.length : Int) := by rw [h1, hk]; simp; omega
      have hk0 : 0 ≤ k := by omega
      have hw : IntKind.wrap .i64 (k + 1) = k + 1 := wrap_i64 (by omega) (by omega)
      have e1 : (Row.aggs memC l)[k.toNat]? = some (.agg (memC a)) := Row.aggs_at (by rw [h1, hk]; simp)
      have e2 : (Row.aggs memC m)[k.toNat]? = some (.agg (memC a')) := Row.aggs_at (by rw [h2, hk]; simp)
      have l1 : (Row.aggs memC l).length = l.length := Row.aggs_len l
      have l2 : (Row.aggs memC m).length = l.length := by rw [Row.aggs_len, hlen]
      have nx : a = a' → TWk Tryd.prog Γ (fin Tryd.prog Tryd.f50 [] Q) [.code (sub (bd Tryd.f50) [1, 1, 0, 1, 0]), .blk 0, .code (sub (bd Tryd.f50) [1, 1, 1])] ⟨frame 26 [(0, .sl 3 (Row.aggs memC l)), (1, .sl 3 (Row.aggs memC m)), (12, int l.length), (13, int (k + 1))], [], none_⟩ := fun e => ih r' (d ++ [a]) (k + 1) (by simp [h1]) (by simp [h2, e]) (by simp [hk])
      have no : a ≠ a' → Q (bool false) [] none_ := fun e => hQ _ (by
        rw [decide_eq_false]
        intro g
        rw [h1, h2] at g
        have g2 := List.append_cancel_left g
        injection g2 with g3 g4
        exact e g3)
      clear ih hQ h1 h2
      generalize Row.aggs memC l = L at *
      generalize Row.aggs memC m = M at *
      generalize (l.length : Int) = n at *
      obtain ⟨an, al, ar⟩ := a
      obtain ⟨bn, bl, br⟩ := a'
      simp only [Mem.mk.injEq, ne_eq] at nx no
      refine run_sound (⟨fun | 6, 2 => .res (.agg (memC ⟨an, al, ar⟩)) | 6, 6 => .res (.agg (memC ⟨bn, bl, br⟩)) | 8, 0 => .res (int (k + 1)) | _, _ => .no, [((2, 4), ([0, 1, 12, 13], 0))], fun  | _ => none⟩) 400 (B := bsplit (decide (k < n)) ((0 : Int) ≤ k ∧ L[Int.toNat k]? = some (T.agg [u8 (Mem.n { n := an, l := al, r := ar }), u8 (Mem.l { n := an, l := al, r := ar }), bool (Mem.r { n := an, l := al, r := ar })]) ∧ (0 : Int) ≤ k ∧ M[Int.toNat k]? = some (T.agg [u8 (Mem.n { n := bn, l := bl, r := br }), u8 (Mem.l { n := bn, l := bl, r := br }), bool (Mem.r { n := bn, l := bl, r := br })]) ∧ bsplit (!((↑(Mem.n { n := an, l := al, r := ar }) : Int) == (↑(Mem.n { n := bn, l := bl, r := br }) : Int) && ((↑(Mem.l { n := an, l := al, r := ar }) : Int) == (↑(Mem.l { n := bn, l := bl, r := br }) : Int) && (Mem.r { n := an, l := al, r := ar } == Mem.r { n := bn, l := bl, r := br } && true)))) (Q (bool false) [] fun x => none) (int (IntKind.wrap IntKind.i64 (k + (1 : Int))) = int (k + (1 : Int)) ∧ TWk Tryd.prog Γ (fin Tryd.prog Tryd.f50 [] Q) [It.code (sub (bd Tryd.f50) [1, 1, 0, 1, 0]), It.blk 0, It.code (sub (bd Tryd.f50) [1, 1, 1])] { fr := frame 26 [(0, T.sl 3 L), (1, T.sl 3 M), (12, int n), (13, int (k + (1 : Int)))], ob := [], gl := fun x => none })) (Q (bool true) [] fun x => none)) (by kernel_rfl) ?_
      repeat' (first | exact rfl | exact Nat.le_of_ble_eq_true rfl | refine And.intro ?_ ?_ | intro _ | refine bsplit_mk (fun _ => ?_) (fun _ => ?_))
      all_goals first
        | exact e1
        | exact e2
        | exact congrArg int hw
        | (exfalso; rename_i h; have := of_decide_eq_false h; omega)
        | omega
        | (refine no ?_; rintro ⟨rfl, rfl, rfl⟩; simp at *; done)
        | (refine nx ?_; rename_i h; simp at h; exact ⟨by omega, by omega, h.2.2⟩)
        | trace_state
theorem eqm_any (l m : List Mem) (hl : l.length ≤ 100) (Q : T → Obs → Glb → Prop) (hQ : ∀ r, r = bool (decide (l = m)) → Q r [] none_) : TCalls Tryd.prog 50 [.sl 3 (Row.aggs memC l), .sl 3 (Row.aggs memC m)] [] none_ Q := by
  have l1 : (Row.aggs memC l).length = l.length := Row.aggs_len l
  have l2 : (Row.aggs memC m).length = m.length := Row.aggs_len m
  by_cases he : l.length = m.length
  · have lp := fun Γ => eqm_loop Γ l m he hl Q hQ l m [] 0 (by simp) (by simp) rfl
    clear hQ
    rw [he] at lp l1
    rw [← l1] at lp
    generalize Row.aggs memC l = L at *
    generalize Row.aggs memC m = M at *
    refine TCalls.of Tryd.func50 rfl (CanCall.of Tryd.func50 rfl (by decide)) [] fun Γ => ?_
    refine run_sound (⟨fun _ _ => .no, [((2, 4), ([0, 1, 12, 13], 0))], fun _ => none⟩) 400 (B := bsplit ((↑(List.length L) : Int) != (↑(List.length M) : Int)) (Q (bool false) [] fun x => none) (TWk Tryd.prog Γ (fin Tryd.prog Tryd.f50 [] Q) [It.code (sub (bd Tryd.f50) [1, 1, 0, 1, 0]), It.blk 0, It.code (sub (bd Tryd.f50) [1, 1, 1])] { fr := frame 26 [(0, T.sl 3 L), (1, T.sl 3 M), (12, int (List.length L)), (13, int (0 : Int))], ob := [], gl := fun x => none })) (by kernel_rfl) ?_
    repeat' (first | exact rfl | exact Nat.le_of_ble_eq_true rfl | refine And.intro ?_ ?_ | intro _ | refine bsplit_mk (fun _ => ?_) (fun _ => ?_))
    all_goals first
      | exact lp _
      | (exfalso; rename_i h; rw [l1, l2] at h; simp at h; done)
      | trace_state
  · have hQ := hQ (bool false) (by rw [decide_eq_false]; intro e; exact he (by rw [e]))
    generalize Row.aggs memC l = L at *
    generalize Row.aggs memC m = M at *
    refine TCalls.of Tryd.func50 rfl (CanCall.of Tryd.func50 rfl (by decide)) [] fun Γ => ?_
    refine run_sound (⟨fun _ _ => .no, [((2, 4), ([0, 1, 12, 13], 0))], fun _ => none⟩) 400 (B := bsplit ((↑(List.length L) : Int) != (↑(List.length M) : Int)) (Q (bool false) [] fun x => none) (TWk Tryd.prog Γ (fin Tryd.prog Tryd.f50 [] Q) [It.code (sub (bd Tryd.f50) [1, 1, 0, 1, 0]), It.blk 0, It.code (sub (bd Tryd.f50) [1, 1, 1])] { fr := frame 26 [(0, T.sl 3 L), (1, T.sl 3 M), (12, int (List.length L)), (13, int (0 : Int))], ob := [], gl := fun x => none })) (by kernel_rfl) ?_
    repeat' (first | exact rfl | exact Nat.le_of_ble_eq_true rfl | refine And.intro ?_ ?_ | intro _ | refine bsplit_mk (fun _ => ?_) (fun _ => ?_))
    all_goals first
      | exact hQ
      | (exfalso; rename_i h; rw [l1, l2] at h; simp at h; omega)
      | trace_state
theorem eqe_loop (Γ : Ctx) (l m : List Ent) (hlen : l.length = m.length) (hl : l.length ≤ 100) (Q : T → Obs → Glb → Prop) (hQ : ∀ r, r = bool (decide (l = m)) → Q r [] none_) : ∀ (r r' d : List Ent) (k : Int), l = d ++ r → m = d ++ r' → k = d.length →
    TWk Tryd.prog Γ (fin Tryd.prog Tryd.f48 [] Q) [.code (sub (bd Tryd.f48) [1, 1, 0, 1, 0]), .blk 0, .code (sub (bd Tryd.f48) [1, 1, 1])] ⟨frame 26 [(0, .sl 8 (Row.aggs entC l)), (1, .sl 8 (Row.aggs entC m)), (12, int l.length), (13, int k)], [], none_⟩ := by
  intro r
  induction r with
  | nil =>
    intro r' d k h1 h2 hk
    have hm : r' = [] := by cases r' with
      | nil => rfl
      | cons a r' => exact absurd hlen (by rw [h1, h2]; simp)
    have hlk : (l.length : Int) = k := by rw [h1, hk]; simp
    have hQ := hQ (bool true) (by rw [h1, h2, hm, decide_eq_true rfl])
    clear h1 h2
    generalize Row.aggs entC l = L at *
    generalize Row.aggs entC m = M at *
    generalize (l.length : Int) = n at *
    subst hlk
    refine run_sound (⟨fun | 6, 2 => .res (.agg (entC ⟨0, 0, 0, ⟨0, 0, 0, 0, 0⟩⟩)) | 6, 6 => .res (.agg (entC ⟨0, 0, 0, ⟨0, 0, 0, 0, 0⟩⟩)) | _, _ => .no, [((2, 4), ([0, 1, 12, 13], 0))], fun  | _ => none⟩) 400 (B := bsplit (decide (n < n)) ((0 : Int) ≤ n ∧ L[Int.toNat n]? = some (T.agg [u32 (Ent.s { s := 0, n := 0, b := 0, c := { k := 0, n := 0, l := 0, e := 0, q := 0 } }), u32 (Ent.n { s := 0, n := 0, b := 0, c := { k := 0, n := 0, l := 0, e := 0, q := 0 } }), u8 (Ent.b { s := 0, n := 0, b := 0, c := { k := 0, n := 0, l := 0, e := 0, q := 0 } }), u8 (Cmd.k (Ent.c { s := 0, n := 0, b := 0, c := { k := 0, n := 0, l := 0, e := 0, q := 0 } })), u8 (Cmd.n (Ent.c { s := 0, n := 0, b := 0, c := { k := 0, n := 0, l := 0, e := 0, q := 0 } })), u8 (Cmd.l (Ent.c { s := 0, n := 0, b := 0, c := { k := 0, n := 0, l := 0, e := 0, q := 0 } })), u32 (Cmd.e (Ent.c { s := 0, n := 0, b := 0, c := { k := 0, n := 0, l := 0, e := 0, q := 0 } })), u32 (Cmd.q (Ent.c { s := 0, n := 0, b := 0, c := { k := 0, n := 0, l := 0, e := 0, q := 0 } }))]) ∧ (0 : Int) ≤ n ∧ M[Int.toNat n]? = some (T.agg [u32 (Ent.s { s := 0, n := 0, b := 0, c := { k := 0, n := 0, l := 0, e := 0, q := 0 } }), u32 (Ent.n { s := 0, n := 0, b := 0, c := { k := 0, n := 0, l := 0, e := 0, q := 0 } }), u8 (Ent.b { s := 0, n := 0, b := 0, c := { k := 0, n := 0, l := 0, e := 0, q := 0 } }), u8 (Cmd.k (Ent.c { s := 0, n := 0, b := 0, c := { k := 0, n := 0, l := 0, e := 0, q := 0 } })), u8 (Cmd.n (Ent.c { s := 0, n := 0, b := 0, c := { k := 0, n := 0, l := 0, e := 0, q := 0 } })), u8 (Cmd.l (Ent.c { s := 0, n := 0, b := 0, c := { k := 0, n := 0, l := 0, e := 0, q := 0 } })), u32 (Cmd.e (Ent.c { s := 0, n := 0, b := 0, c := { k := 0, n := 0, l := 0, e := 0, q := 0 } })), u32 (Cmd.q (Ent.c { s := 0, n := 0, b := 0, c := { k := 0, n := 0, l := 0, e := 0, q := 0 } }))]) ∧ TWk Tryd.prog Γ (fin Tryd.prog Tryd.f48 [] Q) [It.code (sub (bd Tryd.f48) [1, 1, 0, 1, 0]), It.blk 0, It.code (sub (bd Tryd.f48) [1, 1, 1])] { fr := frame 26 [(0, T.sl 8 L), (1, T.sl 8 M), (12, int n), (13, int (IntKind.wrap IntKind.i64 (n + (1 : Int))))], ob := [], gl := fun x => none }) (Q (bool true) [] fun x => none)) (by kernel_rfl) ?_
    repeat' (first | exact rfl | exact Nat.le_of_ble_eq_true rfl | refine And.intro ?_ ?_ | intro _ | refine bsplit_mk (fun _ => ?_) (fun _ => ?_))
    all_goals first
      | exact hQ
      | (exfalso; simp at *; done)
      | trace_state
  | cons a r ih =>
    intro r' d k h1 h2 hk
    cases r' with
    | nil => exact absurd hlen (by rw [h1, h2]; simp)
    | cons a' r' =>
      have hlk : k < (l.length : Int) := by rw [h1, hk]; simp; omega
      have hk0 : 0 ≤ k := by omega
      have hw : IntKind.wrap .i64 (k + 1) = k + 1 := wrap_i64 (by omega) (by omega)
      have e1 : (Row.aggs entC l)[k.toNat]? = some (.agg (entC a)) := Row.aggs_at (by rw [h1, hk]; simp)
      have e2 : (Row.aggs entC m)[k.toNat]? = some (.agg (entC a')) := Row.aggs_at (by rw [h2, hk]; simp)
      have l1 : (Row.aggs entC l).length = l.length := Row.aggs_len l
      have l2 : (Row.aggs entC m).length = l.length := by rw [Row.aggs_len, hlen]
      have nx : a = a' → TWk Tryd.prog Γ (fin Tryd.prog Tryd.f48 [] Q) [.code (sub (bd Tryd.f48) [1, 1, 0, 1, 0]), .blk 0, .code (sub (bd Tryd.f48) [1, 1, 1])] ⟨frame 26 [(0, .sl 8 (Row.aggs entC l)), (1, .sl 8 (Row.aggs entC m)), (12, int l.length), (13, int (k + 1))], [], none_⟩ := fun e => ih r' (d ++ [a]) (k + 1) (by simp [h1]) (by simp [h2, e]) (by simp [hk])
      have no : a ≠ a' → Q (bool false) [] none_ := fun e => hQ _ (by
        rw [decide_eq_false]
        intro g
        rw [h1, h2] at g
        have g2 := List.append_cancel_left g
        injection g2 with g3 g4
        exact e g3)
      clear ih hQ h1 h2
      generalize Row.aggs entC l = L at *
      generalize Row.aggs entC m = M at *
      generalize (l.length : Int) = n at *
      obtain ⟨as_, an, ab, ⟨ack, acn, acl, ace, acq⟩⟩ := a
      obtain ⟨bs, bn, bb, ⟨bck, bcn, bcl, bce, bcq⟩⟩ := a'
      simp only [Ent.mk.injEq, Cmd.mk.injEq, ne_eq] at nx no
      refine run_sound (⟨fun | 6, 2 => .res (.agg (entC ⟨as_, an, ab, ⟨ack, acn, acl, ace, acq⟩⟩)) | 6, 6 => .res (.agg (entC ⟨bs, bn, bb, ⟨bck, bcn, bcl, bce, bcq⟩⟩)) | 8, 0 => .res (int (k + 1)) | _, _ => .no, [((2, 4), ([0, 1, 12, 13], 0))], fun  | _ => none⟩) 400 (B := bsplit (decide (k < n)) ((0 : Int) ≤ k ∧ L[Int.toNat k]? = some (T.agg [u32 (Ent.s { s := as_, n := an, b := ab, c := { k := ack, n := acn, l := acl, e := ace, q := acq } }), u32 (Ent.n { s := as_, n := an, b := ab, c := { k := ack, n := acn, l := acl, e := ace, q := acq } }), u8 (Ent.b { s := as_, n := an, b := ab, c := { k := ack, n := acn, l := acl, e := ace, q := acq } }), u8 (Cmd.k (Ent.c { s := as_, n := an, b := ab, c := { k := ack, n := acn, l := acl, e := ace, q := acq } })), u8 (Cmd.n (Ent.c { s := as_, n := an, b := ab, c := { k := ack, n := acn, l := acl, e := ace, q := acq } })), u8 (Cmd.l (Ent.c { s := as_, n := an, b := ab, c := { k := ack, n := acn, l := acl, e := ace, q := acq } })), u32 (Cmd.e (Ent.c { s := as_, n := an, b := ab, c := { k := ack, n := acn, l := acl, e := ace, q := acq } })), u32 (Cmd.q (Ent.c { s := as_, n := an, b := ab, c := { k := ack, n := acn, l := acl, e := ace, q := acq } }))]) ∧ (0 : Int) ≤ k ∧ M[Int.toNat k]? = some (T.agg [u32 (Ent.s { s := bs, n := bn, b := bb, c := { k := bck, n := bcn, l := bcl, e := bce, q := bcq } }), u32 (Ent.n { s := bs, n := bn, b := bb, c := { k := bck, n := bcn, l := bcl, e := bce, q := bcq } }), u8 (Ent.b { s := bs, n := bn, b := bb, c := { k := bck, n := bcn, l := bcl, e := bce, q := bcq } }), u8 (Cmd.k (Ent.c { s := bs, n := bn, b := bb, c := { k := bck, n := bcn, l := bcl, e := bce, q := bcq } })), u8 (Cmd.n (Ent.c { s := bs, n := bn, b := bb, c := { k := bck, n := bcn, l := bcl, e := bce, q := bcq } })), u8 (Cmd.l (Ent.c { s := bs, n := bn, b := bb, c := { k := bck, n := bcn, l := bcl, e := bce, q := bcq } })), u32 (Cmd.e (Ent.c { s := bs, n := bn, b := bb, c := { k := bck, n := bcn, l := bcl, e := bce, q := bcq } })), u32 (Cmd.q (Ent.c { s := bs, n := bn, b := bb, c := { k := bck, n := bcn, l := bcl, e := bce, q := bcq } }))]) ∧ bsplit (!((↑(Ent.s { s := as_, n := an, b := ab, c := { k := ack, n := acn, l := acl, e := ace, q := acq } }) : Int) == (↑(Ent.s { s := bs, n := bn, b := bb, c := { k := bck, n := bcn, l := bcl, e := bce, q := bcq } }) : Int) && ((↑(Ent.n { s := as_, n := an, b := ab, c := { k := ack, n := acn, l := acl, e := ace, q := acq } }) : Int) == (↑(Ent.n { s := bs, n := bn, b := bb, c := { k := bck, n := bcn, l := bcl, e := bce, q := bcq } }) : Int) && ((↑(Ent.b { s := as_, n := an, b := ab, c := { k := ack, n := acn, l := acl, e := ace, q := acq } }) : Int) == (↑(Ent.b { s := bs, n := bn, b := bb, c := { k := bck, n := bcn, l := bcl, e := bce, q := bcq } }) : Int) && true) && true && ((↑(Cmd.k (Ent.c { s := as_, n := an, b := ab, c := { k := ack, n := acn, l := acl, e := ace, q := acq } })) : Int) == (↑(Cmd.k (Ent.c { s := bs, n := bn, b := bb, c := { k := bck, n := bcn, l := bcl, e := bce, q := bcq } })) : Int) && ((↑(Cmd.n (Ent.c { s := as_, n := an, b := ab, c := { k := ack, n := acn, l := acl, e := ace, q := acq } })) : Int) == (↑(Cmd.n (Ent.c { s := bs, n := bn, b := bb, c := { k := bck, n := bcn, l := bcl, e := bce, q := bcq } })) : Int) && ((↑(Cmd.l (Ent.c { s := as_, n := an, b := ab, c := { k := ack, n := acn, l := acl, e := ace, q := acq } })) : Int) == (↑(Cmd.l (Ent.c { s := bs, n := bn, b := bb, c := { k := bck, n := bcn, l := bcl, e := bce, q := bcq } })) : Int) && ((↑(Cmd.e (Ent.c { s := as_, n := an, b := ab, c := { k := ack, n := acn, l := acl, e := ace, q := acq } })) : Int) == (↑(Cmd.e (Ent.c { s := bs, n := bn, b := bb, c := { k := bck, n := bcn, l := bcl, e := bce, q := bcq } })) : Int) && ((↑(Cmd.q (Ent.c { s := as_, n := an, b := ab, c := { k := ack, n := acn, l := acl, e := ace, q := acq } })) : Int) == (↑(Cmd.q (Ent.c { s := bs, n := bn, b := bb, c := { k := bck, n := bcn, l := bcl, e := bce, q := bcq } })) : Int) && true)))) && true)))) (Q (bool false) [] fun x => none) (int (IntKind.wrap IntKind.i64 (k + (1 : Int))) = int (k + (1 : Int)) ∧ TWk Tryd.prog Γ (fin Tryd.prog Tryd.f48 [] Q) [It.code (sub (bd Tryd.f48) [1, 1, 0, 1, 0]), It.blk 0, It.code (sub (bd Tryd.f48) [1, 1, 1])] { fr := frame 26 [(0, T.sl 8 L), (1, T.sl 8 M), (12, int n), (13, int (k + (1 : Int)))], ob := [], gl := fun x => none })) (Q (bool true) [] fun x => none)) (by kernel_rfl) ?_
      repeat' (first | exact rfl | exact Nat.le_of_ble_eq_true rfl | refine And.intro ?_ ?_ | intro _ | refine bsplit_mk (fun _ => ?_) (fun _ => ?_))
      all_goals first
        | exact e1
        | exact e2
        | exact congrArg int hw
        | (exfalso; rename_i h; have := of_decide_eq_false h; omega)
        | omega
        | (refine no ?_; rintro ⟨rfl, rfl, rfl, rfl, rfl, rfl, rfl, rfl⟩; simp at *; done)
        | (refine nx ?_; rename_i h; simp at h; exact ⟨by omega, by omega, by omega, by omega, by omega, by omega, by omega, by omega⟩)
        | trace_state
theorem eqe_any (l m : List Ent) (hl : l.length ≤ 100) (Q : T → Obs → Glb → Prop) (hQ : ∀ r, r = bool (decide (l = m)) → Q r [] none_) : TCalls Tryd.prog 48 [.sl 8 (Row.aggs entC l), .sl 8 (Row.aggs entC m)] [] none_ Q := by
  have l1 : (Row.aggs entC l).length = l.length := Row.aggs_len l
  have l2 : (Row.aggs entC m).length = m.length := Row.aggs_len m
  by_cases he : l.length = m.length
  · have lp := fun Γ => eqe_loop Γ l m he hl Q hQ l m [] 0 (by simp) (by simp) rfl
    clear hQ
    rw [he] at lp l1
    rw [← l1] at lp
    generalize Row.aggs entC l = L at *
    generalize Row.aggs entC m = M at *
    refine TCalls.of Tryd.func48 rfl (CanCall.of Tryd.func48 rfl (by decide)) [] fun Γ => ?_
    refine run_sound (⟨fun _ _ => .no, [((2, 4), ([0, 1, 12, 13], 0))], fun _ => none⟩) 400 (B := bsplit ((↑(List.length L) : Int) != (↑(List.length M) : Int)) (Q (bool false) [] fun x => none) (TWk Tryd.prog Γ (fin Tryd.prog Tryd.f48 [] Q) [It.code (sub (bd Tryd.f48) [1, 1, 0, 1, 0]), It.blk 0, It.code (sub (bd Tryd.f48) [1, 1, 1])] { fr := frame 26 [(0, T.sl 8 L), (1, T.sl 8 M), (12, int (List.length L)), (13, int (0 : Int))], ob := [], gl := fun x => none })) (by kernel_rfl) ?_
    repeat' (first | exact rfl | exact Nat.le_of_ble_eq_true rfl | refine And.intro ?_ ?_ | intro _ | refine bsplit_mk (fun _ => ?_) (fun _ => ?_))
    all_goals first
      | exact lp _
      | (exfalso; rename_i h; rw [l1, l2] at h; simp at h; done)
      | trace_state
  · have hQ := hQ (bool false) (by rw [decide_eq_false]; intro e; exact he (by rw [e]))
    generalize Row.aggs entC l = L at *
    generalize Row.aggs entC m = M at *
    refine TCalls.of Tryd.func48 rfl (CanCall.of Tryd.func48 rfl (by decide)) [] fun Γ => ?_
    refine run_sound (⟨fun _ _ => .no, [((2, 4), ([0, 1, 12, 13], 0))], fun _ => none⟩) 400 (B := bsplit ((↑(List.length L) : Int) != (↑(List.length M) : Int)) (Q (bool false) [] fun x => none) (TWk Tryd.prog Γ (fin Tryd.prog Tryd.f48 [] Q) [It.code (sub (bd Tryd.f48) [1, 1, 0, 1, 0]), It.blk 0, It.code (sub (bd Tryd.f48) [1, 1, 1])] { fr := frame 26 [(0, T.sl 8 L), (1, T.sl 8 M), (12, int (List.length L)), (13, int (0 : Int))], ob := [], gl := fun x => none })) (by kernel_rfl) ?_
    repeat' (first | exact rfl | exact Nat.le_of_ble_eq_true rfl | refine And.intro ?_ ?_ | intro _ | refine bsplit_mk (fun _ => ?_) (fun _ => ?_))
    all_goals first
      | exact hQ
      | (exfalso; rename_i h; rw [l1, l2] at h; simp at h; omega)
      | trace_state
theorem vsame_any (e e' : Nat) (ms ms' : List Mem) (v v' : Lvs) (hl : ms.length ≤ 100) : TCalls Tryd.prog 18 [.agg (vwC e ms v), .agg (vwC e' ms' v')] [] none_ (callPost (told (bool (decide (e = e' ∧ ms = ms' ∧ v = v'))) [] [])) := by
  have hQ : ∀ y, y = bool (decide (e = e' ∧ ms = ms' ∧ v = v')) → callPost (told (bool (decide (e = e' ∧ ms = ms' ∧ v = v'))) [] []) y [] none_ := fun y h => told_post h
  generalize callPost (told (bool (decide (e = e' ∧ ms = ms' ∧ v = v'))) [] []) = Q at *
  have he := eqm_any ms ms' hl _ (fun r h => told_post (sel := []) (ob := []) h)
  have hd : decide (ms = ms') = true ↔ ms = ms' := by simp
  generalize decide (ms = ms') = z at *
  obtain ⟨a0, a1, a2, a3, a4, a5, a6, a7⟩ := v
  obtain ⟨b0, b1, b2, b3, b4, b5, b6, b7⟩ := v'
  simp only [Lvs.mk.injEq] at hQ
  have hT : ∀ w, (w = true ↔ (e = e' ∧ z = true ∧ a0 = b0 ∧ a1 = b1 ∧ a2 = b2 ∧ a3 = b3 ∧ a4 = b4 ∧ a5 = b5 ∧ a6 = b6 ∧ a7 = b7)) → Q (bool w) [] none_ := fun w h => hQ _ (congrArg bool (by
    rw [Bool.eq_iff_iff, h, decide_eq_true_eq, hd]))
  clear hQ hd
  unfold vwC
  dsimp only
  generalize Row.aggs memC ms = L at *
  generalize Row.aggs memC ms' = L' at *
  refine TCalls.of Tryd.func18 rfl (CanCall.of Tryd.func18 rfl (by decide)) [] fun Γ => ?_
  refine run_sound (⟨fun | 1, 17 => told (bool z) [] [] | _, _ => .no, [], fun  | _ => none⟩) 400 (B := ∀ (b b_1 : Nat), b = b ∧ b_1 = b_1 ∧ bsplit ((↑e : Int) == (↑e' : Int)) (b = b ∧ b_1 = b_1 ∧ bsplit ((↑a0 : Int) == (↑b0 : Int) && ((↑a1 : Int) == (↑b1 : Int) && ((↑a2 : Int) == (↑b2 : Int) && ((↑a3 : Int) == (↑b3 : Int) && ((↑a4 : Int) == (↑b4 : Int) && ((↑a5 : Int) == (↑b5 : Int) && ((↑a6 : Int) == (↑b6 : Int) && ((↑a7 : Int) == (↑b7 : Int) && true)))))))) (b = b ∧ b_1 = b_1 ∧ TCalls Tryd.prog 50 [T.sl 3 L, T.sl 3 L'] [] none_ (callPost (Hint.call false Unit (fun x => True) [] false (fun x => bool z) (fun x => []) fun x => none_)) ∧ ∀ (a : Unit), True → Q (bool z) [] fun x => none) (Q (bool false) [] fun x => none)) (Q (bool false) [] fun x => none)) (by kernel_rfl) ?_
  repeat' (first | exact rfl | exact Nat.le_of_ble_eq_true rfl | refine And.intro ?_ ?_ | intro _ | refine bsplit_mk (fun _ => ?_) (fun _ => ?_))
  all_goals first
    | exact he
    | (refine hT z ?_; simp only [Bool.and_eq_true, Bool.and_true, beq_iff_eq, Int.natCast_inj] at *; exact ⟨fun g => ⟨by omega, g, by omega, by omega, by omega, by omega, by omega, by omega, by omega, by omega⟩, fun g => g.2.1⟩)
    | (refine hT false ?_; simp only [Bool.and_eq_true, beq_iff_eq, Bool.and_true, Int.natCast_inj, Bool.and_eq_false_iff, beq_eq_false_iff_ne, ne_eq, Bool.true_eq_false, or_false] at *; simp only [Bool.false_eq_true, false_iff]; omega)
    | trace_state
theorem cmd_ext (a b : Cmd) : a = b ↔ (a.k = b.k ∧ a.n = b.n ∧ a.l = b.l ∧ a.e = b.e ∧ a.q = b.q) := by
  obtain ⟨k, n, l, e, q⟩ := a
  obtain ⟨k', n', l', e', q'⟩ := b
  simp only [Cmd.mk.injEq]
def restB (f g : Fm) : Bool := decide (f.dir = g.dir ∧ f.life = g.life ∧ f.req = g.req ∧ f.bn = g.bn ∧ f.bb = g.bb ∧ f.slot = g.slot ∧ f.c = g.c)
theorem fsame_end (Γ : Ctx) (b2 b3 : Nat) (f g : Fm) (x y : Bool) (Q : T → Obs → Glb → Prop) (hQ : Q (bool (x && y && restB f g)) [] none_) :
    TWk Tryd.prog Γ (fin Tryd.prog Tryd.f15 [] Q) [.code (sub (bd Tryd.f15) [1, 1, 1])] ⟨frame 112 [(2, .ptr 0 b2 0), (3, .ptr 1 b3 0), (5, bool x), (6, bool y)], [(b2, .cells (frC f)), (b3, .cells (frC g))], none_⟩ := by
  have hT : ∀ w, (w = true ↔ (x = true ∧ y = true ∧ f.dir = g.dir ∧ f.life = g.life ∧ f.req = g.req ∧ f.bn = g.bn ∧ f.bb = g.bb ∧ f.slot = g.slot ∧ f.c.k = g.c.k ∧ f.c.n = g.c.n ∧ f.c.l = g.c.l ∧ f.c.e = g.c.e ∧ f.c.q = g.c.q)) → Q (bool w) [] none_ := fun w h => by
    have e : (x && y && restB f g) = w := by
      rw [Bool.eq_iff_iff, h, Bool.and_eq_true, Bool.and_eq_true, restB, decide_eq_true_eq]
      rw [cmd_ext f.c g.c]
      simp only [and_assoc]
    rw [← e]; exact hQ
  clear hQ
  unfold frC
  generalize Row.aggs memC f.ms = L at *
  generalize Row.aggs memC g.ms = L' at *
  generalize Row.aggs entC f.es = E at *
  generalize Row.aggs entC g.es = E' at *
  refine run_sound (⟨fun _ _ => .no, [], fun _ => none⟩) 400 (B := bsplit x (bsplit y (b2 = b2 ∧ b3 = b3 ∧ bsplit ((↑(Fm.dir f) : Int) == (↑(Fm.dir g) : Int)) (b2 = b2 ∧ b3 = b3 ∧ bsplit ((↑(Fm.life f) : Int) == (↑(Fm.life g) : Int)) (b2 = b2 ∧ b3 = b3 ∧ bsplit ((↑(Fm.req f) : Int) == (↑(Fm.req g) : Int)) (b2 = b2 ∧ b3 = b3 ∧ bsplit ((↑(Fm.bn f) : Int) == (↑(Fm.bn g) : Int) && ((↑(Fm.bb f) : Int) == (↑(Fm.bb g) : Int) && true) && true) (b2 = b2 ∧ b3 = b3 ∧ bsplit ((↑(Fm.slot f) : Int) == (↑(Fm.slot g) : Int)) (b2 = b2 ∧ b3 = b3 ∧ Q (bool ((↑(Cmd.k (Fm.c f)) : Int) == (↑(Cmd.k (Fm.c g)) : Int) && ((↑(Cmd.n (Fm.c f)) : Int) == (↑(Cmd.n (Fm.c g)) : Int) && ((↑(Cmd.l (Fm.c f)) : Int) == (↑(Cmd.l (Fm.c g)) : Int) && ((↑(Cmd.e (Fm.c f)) : Int) == (↑(Cmd.e (Fm.c g)) : Int) && ((↑(Cmd.q (Fm.c f)) : Int) == (↑(Cmd.q (Fm.c g)) : Int) && true)))))) [] fun x => none) (Q (bool false) [] fun x => none)) (Q (bool false) [] fun x => none)) (Q (bool false) [] fun x => none)) (Q (bool false) [] fun x => none)) (Q (bool false) [] fun x => none)) (Q (bool false) [] fun x => none)) (Q (bool false) [] fun x => none)) (by kernel_rfl) ?_
  repeat' (first | exact rfl | exact Nat.le_of_ble_eq_true rfl | refine And.intro ?_ ?_ | intro _ | refine bsplit_mk (fun _ => ?_) (fun _ => ?_))
  all_goals first
    | (refine hT false ⟨fun h => (by cases h), ?_⟩; rintro ⟨h1, h2, h3, h4, h5, h6, h7, h8, h9, h10, h11, h12, h13⟩; rename_i h0; simp [h1, h2, h3, h4, h5, h6, h7, h8, h9, h10, h11, h12, h13] at h0; done)
    | (refine hT _ ?_; simp only [Bool.and_true, beq_iff_eq, Int.natCast_inj, Bool.and_eq_true] at *; simp_all; done)
    | trace_state
def midB (f g : Fm) : Bool := decide (f.kind = g.kind ∧ f.frm = g.frm ∧ f.to = g.to ∧ f.ep = g.ep ∧ f.key = g.key ∧ f.sn = g.sn ∧ f.sb = g.sb ∧ f.sl = g.sl ∧ f.has = g.has ∧ f.x = g.x ∧ f.rmw = g.rmw ∧ f.flag = g.flag)
theorem fsame_mid (Γ : Ctx) (b2 b3 : Nat) (f g : Fm) (x : Bool) (Q : T → Obs → Glb → Prop) (hQ : Q (bool (x && midB f g && restB f g)) [] none_) :
    TWk Tryd.prog Γ (fin Tryd.prog Tryd.f15 [] Q) [.code (sub (bd Tryd.f15) [1, 1])] ⟨frame 112 [(2, .ptr 0 b2 0), (3, .ptr 1 b3 0), (5, bool x)], [(b2, .cells (frC f)), (b3, .cells (frC g))], none_⟩ := by
  have hT : ∀ w, (w = true ↔ (f.kind = g.kind ∧ f.frm = g.frm ∧ f.to = g.to ∧ f.ep = g.ep ∧ f.key = g.key ∧ f.sn = g.sn ∧ f.sb = g.sb ∧ f.sl = g.sl ∧ f.has = g.has ∧ f.x = g.x ∧ f.rmw = g.rmw ∧ f.flag = g.flag)) → TWk Tryd.prog Γ (fin Tryd.prog Tryd.f15 [] Q) [.code (sub (bd Tryd.f15) [1, 1, 1])] ⟨frame 112 [(2, .ptr 0 b2 0), (3, .ptr 1 b3 0), (5, bool x), (6, bool w)], [(b2, .cells (frC f)), (b3, .cells (frC g))], none_⟩ := fun w h => by
    have e : midB f g = w := by
      rw [Bool.eq_iff_iff, h, midB, decide_eq_true_eq]
    rw [e] at hQ
    exact fsame_end Γ b2 b3 f g x w Q hQ
  clear hQ
  unfold frC at *
  generalize Row.aggs memC f.ms = L at *
  generalize Row.aggs memC g.ms = L' at *
  generalize Row.aggs entC f.es = E at *
  generalize Row.aggs entC g.es = E' at *
  refine run_sound (⟨fun _ _ => .no, [((0, 3), ([2, 3, 5, 6], 4))], fun _ => none⟩) 400 (B := b2 = b2 ∧ b3 = b3 ∧ bsplit ((↑(Fm.kind f) : Int) == (↑(Fm.kind g) : Int) && ((↑(Fm.frm f) : Int) == (↑(Fm.frm g) : Int) && ((↑(Fm.to f) : Int) == (↑(Fm.to g) : Int) && true))) (b2 = b2 ∧ b3 = b3 ∧ bsplit ((↑(Fm.ep f) : Int) == (↑(Fm.ep g) : Int)) (b2 = b2 ∧ b3 = b3 ∧ bsplit ((↑(Fm.key f) : Int) == (↑(Fm.key g) : Int)) (b2 = b2 ∧ b3 = b3 ∧ bsplit ((↑(Fm.sn f) : Int) == (↑(Fm.sn g) : Int) && ((↑(Fm.sb f) : Int) == (↑(Fm.sb g) : Int) && true) && ((↑(Fm.sl f) : Int) == (↑(Fm.sl g) : Int) && true)) (b2 = b2 ∧ b3 = b3 ∧ bsplit (Fm.has f == Fm.has g && (ByteArray.toList (ByteArray.mk (List.toArray (Fm.x f))) == ByteArray.toList (ByteArray.mk (List.toArray (Fm.x g))) && true)) (b2 = b2 ∧ b3 = b3 ∧ bsplit (Fm.rmw f == Fm.rmw g) (b2 = b2 ∧ b3 = b3 ∧ TWk Tryd.prog Γ (fin Tryd.prog Tryd.f15 [] Q) [It.code (sub (bd Tryd.f15) [1, 1, 1])] { fr := frame 112 [(2, T.ptr 0 b2 0), (3, T.ptr 1 b3 0), (5, bool x), (6, bool (Fm.flag f == Fm.flag g))], ob := [(b2, Ob.cells [u8 (Fm.kind f), u8 (Fm.frm f), u8 (Fm.to f), u32 (Fm.ep f), u8 (Fm.key f), u32 (Fm.sn f), u8 (Fm.sb f), u8 (Fm.sl f), bool (Fm.has f), str (Fm.x f), bool (Fm.rmw f), bool (Fm.flag f), u8 (Fm.dir f), u8 (Fm.life f), u32 (Fm.req f), u32 (Fm.bn f), u8 (Fm.bb f), u32 (Fm.slot f), u8 (Cmd.k (Fm.c f)), u8 (Cmd.n (Fm.c f)), u8 (Cmd.l (Fm.c f)), u32 (Cmd.e (Fm.c f)), u32 (Cmd.q (Fm.c f)), u32 (Fm.ve f), T.sl 3 L, u8 (Lvs.l0 (Fm.lv f)), u8 (Lvs.l1 (Fm.lv f)), u8 (Lvs.l2 (Fm.lv f)), u8 (Lvs.l3 (Fm.lv f)), u8 (Lvs.l4 (Fm.lv f)), u8 (Lvs.l5 (Fm.lv f)), u8 (Lvs.l6 (Fm.lv f)), u8 (Lvs.l7 (Fm.lv f)), T.sl 8 E]), (b3, Ob.cells [u8 (Fm.kind g), u8 (Fm.frm g), u8 (Fm.to g), u32 (Fm.ep g), u8 (Fm.key g), u32 (Fm.sn g), u8 (Fm.sb g), u8 (Fm.sl g), bool (Fm.has g), str (Fm.x g), bool (Fm.rmw g), bool (Fm.flag g), u8 (Fm.dir g), u8 (Fm.life g), u32 (Fm.req g), u32 (Fm.bn g), u8 (Fm.bb g), u32 (Fm.slot g), u8 (Cmd.k (Fm.c g)), u8 (Cmd.n (Fm.c g)), u8 (Cmd.l (Fm.c g)), u32 (Cmd.e (Fm.c g)), u32 (Cmd.q (Fm.c g)), u32 (Fm.ve g), T.sl 3 L', u8 (Lvs.l0 (Fm.lv g)), u8 (Lvs.l1 (Fm.lv g)), u8 (Lvs.l2 (Fm.lv g)), u8 (Lvs.l3 (Fm.lv g)), u8 (Lvs.l4 (Fm.lv g)), u8 (Lvs.l5 (Fm.lv g)), u8 (Lvs.l6 (Fm.lv g)), u8 (Lvs.l7 (Fm.lv g)), T.sl 8 E'])], gl := fun x => none }) (TWk Tryd.prog Γ (fin Tryd.prog Tryd.f15 [] Q) [It.code (sub (bd Tryd.f15) [1, 1, 1])] { fr := frame 112 [(2, T.ptr 0 b2 0), (3, T.ptr 1 b3 0), (5, bool x), (6, bool false)], ob := [(b2, Ob.cells [u8 (Fm.kind f), u8 (Fm.frm f), u8 (Fm.to f), u32 (Fm.ep f), u8 (Fm.key f), u32 (Fm.sn f), u8 (Fm.sb f), u8 (Fm.sl f), bool (Fm.has f), str (Fm.x f), bool (Fm.rmw f), bool (Fm.flag f), u8 (Fm.dir f), u8 (Fm.life f), u32 (Fm.req f), u32 (Fm.bn f), u8 (Fm.bb f), u32 (Fm.slot f), u8 (Cmd.k (Fm.c f)), u8 (Cmd.n (Fm.c f)), u8 (Cmd.l (Fm.c f)), u32 (Cmd.e (Fm.c f)), u32 (Cmd.q (Fm.c f)), u32 (Fm.ve f), T.sl 3 L, u8 (Lvs.l0 (Fm.lv f)), u8 (Lvs.l1 (Fm.lv f)), u8 (Lvs.l2 (Fm.lv f)), u8 (Lvs.l3 (Fm.lv f)), u8 (Lvs.l4 (Fm.lv f)), u8 (Lvs.l5 (Fm.lv f)), u8 (Lvs.l6 (Fm.lv f)), u8 (Lvs.l7 (Fm.lv f)), T.sl 8 E]), (b3, Ob.cells [u8 (Fm.kind g), u8 (Fm.frm g), u8 (Fm.to g), u32 (Fm.ep g), u8 (Fm.key g), u32 (Fm.sn g), u8 (Fm.sb g), u8 (Fm.sl g), bool (Fm.has g), str (Fm.x g), bool (Fm.rmw g), bool (Fm.flag g), u8 (Fm.dir g), u8 (Fm.life g), u32 (Fm.req g), u32 (Fm.bn g), u8 (Fm.bb g), u32 (Fm.slot g), u8 (Cmd.k (Fm.c g)), u8 (Cmd.n (Fm.c g)), u8 (Cmd.l (Fm.c g)), u32 (Cmd.e (Fm.c g)), u32 (Cmd.q (Fm.c g)), u32 (Fm.ve g), T.sl 3 L', u8 (Lvs.l0 (Fm.lv g)), u8 (Lvs.l1 (Fm.lv g)), u8 (Lvs.l2 (Fm.lv g)), u8 (Lvs.l3 (Fm.lv g)), u8 (Lvs.l4 (Fm.lv g)), u8 (Lvs.l5 (Fm.lv g)), u8 (Lvs.l6 (Fm.lv g)), u8 (Lvs.l7 (Fm.lv g)), T.sl 8 E'])], gl := fun x => none })) (TWk Tryd.prog Γ (fin Tryd.prog Tryd.f15 [] Q) [It.code (sub (bd Tryd.f15) [1, 1, 1])] { fr := frame 112 [(2, T.ptr 0 b2 0), (3, T.ptr 1 b3 0), (5, bool x), (6, bool false)], ob := [(b2, Ob.cells [u8 (Fm.kind f), u8 (Fm.frm f), u8 (Fm.to f), u32 (Fm.ep f), u8 (Fm.key f), u32 (Fm.sn f), u8 (Fm.sb f), u8 (Fm.sl f), bool (Fm.has f), str (Fm.x f), bool (Fm.rmw f), bool (Fm.flag f), u8 (Fm.dir f), u8 (Fm.life f), u32 (Fm.req f), u32 (Fm.bn f), u8 (Fm.bb f), u32 (Fm.slot f), u8 (Cmd.k (Fm.c f)), u8 (Cmd.n (Fm.c f)), u8 (Cmd.l (Fm.c f)), u32 (Cmd.e (Fm.c f)), u32 (Cmd.q (Fm.c f)), u32 (Fm.ve f), T.sl 3 L, u8 (Lvs.l0 (Fm.lv f)), u8 (Lvs.l1 (Fm.lv f)), u8 (Lvs.l2 (Fm.lv f)), u8 (Lvs.l3 (Fm.lv f)), u8 (Lvs.l4 (Fm.lv f)), u8 (Lvs.l5 (Fm.lv f)), u8 (Lvs.l6 (Fm.lv f)), u8 (Lvs.l7 (Fm.lv f)), T.sl 8 E]), (b3, Ob.cells [u8 (Fm.kind g), u8 (Fm.frm g), u8 (Fm.to g), u32 (Fm.ep g), u8 (Fm.key g), u32 (Fm.sn g), u8 (Fm.sb g), u8 (Fm.sl g), bool (Fm.has g), str (Fm.x g), bool (Fm.rmw g), bool (Fm.flag g), u8 (Fm.dir g), u8 (Fm.life g), u32 (Fm.req g), u32 (Fm.bn g), u8 (Fm.bb g), u32 (Fm.slot g), u8 (Cmd.k (Fm.c g)), u8 (Cmd.n (Fm.c g)), u8 (Cmd.l (Fm.c g)), u32 (Cmd.e (Fm.c g)), u32 (Cmd.q (Fm.c g)), u32 (Fm.ve g), T.sl 3 L', u8 (Lvs.l0 (Fm.lv g)), u8 (Lvs.l1 (Fm.lv g)), u8 (Lvs.l2 (Fm.lv g)), u8 (Lvs.l3 (Fm.lv g)), u8 (Lvs.l4 (Fm.lv g)), u8 (Lvs.l5 (Fm.lv g)), u8 (Lvs.l6 (Fm.lv g)), u8 (Lvs.l7 (Fm.lv g)), T.sl 8 E'])], gl := fun x => none })) (TWk Tryd.prog Γ (fin Tryd.prog Tryd.f15 [] Q) [It.code (sub (bd Tryd.f15) [1, 1, 1])] { fr := frame 112 [(2, T.ptr 0 b2 0), (3, T.ptr 1 b3 0), (5, bool x), (6, bool false)], ob := [(b2, Ob.cells [u8 (Fm.kind f), u8 (Fm.frm f), u8 (Fm.to f), u32 (Fm.ep f), u8 (Fm.key f), u32 (Fm.sn f), u8 (Fm.sb f), u8 (Fm.sl f), bool (Fm.has f), str (Fm.x f), bool (Fm.rmw f), bool (Fm.flag f), u8 (Fm.dir f), u8 (Fm.life f), u32 (Fm.req f), u32 (Fm.bn f), u8 (Fm.bb f), u32 (Fm.slot f), u8 (Cmd.k (Fm.c f)), u8 (Cmd.n (Fm.c f)), u8 (Cmd.l (Fm.c f)), u32 (Cmd.e (Fm.c f)), u32 (Cmd.q (Fm.c f)), u32 (Fm.ve f), T.sl 3 L, u8 (Lvs.l0 (Fm.lv f)), u8 (Lvs.l1 (Fm.lv f)), u8 (Lvs.l2 (Fm.lv f)), u8 (Lvs.l3 (Fm.lv f)), u8 (Lvs.l4 (Fm.lv f)), u8 (Lvs.l5 (Fm.lv f)), u8 (Lvs.l6 (Fm.lv f)), u8 (Lvs.l7 (Fm.lv f)), T.sl 8 E]), (b3, Ob.cells [u8 (Fm.kind g), u8 (Fm.frm g), u8 (Fm.to g), u32 (Fm.ep g), u8 (Fm.key g), u32 (Fm.sn g), u8 (Fm.sb g), u8 (Fm.sl g), bool (Fm.has g), str (Fm.x g), bool (Fm.rmw g), bool (Fm.flag g), u8 (Fm.dir g), u8 (Fm.life g), u32 (Fm.req g), u32 (Fm.bn g), u8 (Fm.bb g), u32 (Fm.slot g), u8 (Cmd.k (Fm.c g)), u8 (Cmd.n (Fm.c g)), u8 (Cmd.l (Fm.c g)), u32 (Cmd.e (Fm.c g)), u32 (Cmd.q (Fm.c g)), u32 (Fm.ve g), T.sl 3 L', u8 (Lvs.l0 (Fm.lv g)), u8 (Lvs.l1 (Fm.lv g)), u8 (Lvs.l2 (Fm.lv g)), u8 (Lvs.l3 (Fm.lv g)), u8 (Lvs.l4 (Fm.lv g)), u8 (Lvs.l5 (Fm.lv g)), u8 (Lvs.l6 (Fm.lv g)), u8 (Lvs.l7 (Fm.lv g)), T.sl 8 E'])], gl := fun x => none })) (TWk Tryd.prog Γ (fin Tryd.prog Tryd.f15 [] Q) [It.code (sub (bd Tryd.f15) [1, 1, 1])] { fr := frame 112 [(2, T.ptr 0 b2 0), (3, T.ptr 1 b3 0), (5, bool x), (6, bool false)], ob := [(b2, Ob.cells [u8 (Fm.kind f), u8 (Fm.frm f), u8 (Fm.to f), u32 (Fm.ep f), u8 (Fm.key f), u32 (Fm.sn f), u8 (Fm.sb f), u8 (Fm.sl f), bool (Fm.has f), str (Fm.x f), bool (Fm.rmw f), bool (Fm.flag f), u8 (Fm.dir f), u8 (Fm.life f), u32 (Fm.req f), u32 (Fm.bn f), u8 (Fm.bb f), u32 (Fm.slot f), u8 (Cmd.k (Fm.c f)), u8 (Cmd.n (Fm.c f)), u8 (Cmd.l (Fm.c f)), u32 (Cmd.e (Fm.c f)), u32 (Cmd.q (Fm.c f)), u32 (Fm.ve f), T.sl 3 L, u8 (Lvs.l0 (Fm.lv f)), u8 (Lvs.l1 (Fm.lv f)), u8 (Lvs.l2 (Fm.lv f)), u8 (Lvs.l3 (Fm.lv f)), u8 (Lvs.l4 (Fm.lv f)), u8 (Lvs.l5 (Fm.lv f)), u8 (Lvs.l6 (Fm.lv f)), u8 (Lvs.l7 (Fm.lv f)), T.sl 8 E]), (b3, Ob.cells [u8 (Fm.kind g), u8 (Fm.frm g), u8 (Fm.to g), u32 (Fm.ep g), u8 (Fm.key g), u32 (Fm.sn g), u8 (Fm.sb g), u8 (Fm.sl g), bool (Fm.has g), str (Fm.x g), bool (Fm.rmw g), bool (Fm.flag g), u8 (Fm.dir g), u8 (Fm.life g), u32 (Fm.req g), u32 (Fm.bn g), u8 (Fm.bb g), u32 (Fm.slot g), u8 (Cmd.k (Fm.c g)), u8 (Cmd.n (Fm.c g)), u8 (Cmd.l (Fm.c g)), u32 (Cmd.e (Fm.c g)), u32 (Cmd.q (Fm.c g)), u32 (Fm.ve g), T.sl 3 L', u8 (Lvs.l0 (Fm.lv g)), u8 (Lvs.l1 (Fm.lv g)), u8 (Lvs.l2 (Fm.lv g)), u8 (Lvs.l3 (Fm.lv g)), u8 (Lvs.l4 (Fm.lv g)), u8 (Lvs.l5 (Fm.lv g)), u8 (Lvs.l6 (Fm.lv g)), u8 (Lvs.l7 (Fm.lv g)), T.sl 8 E'])], gl := fun x => none })) (TWk Tryd.prog Γ (fin Tryd.prog Tryd.f15 [] Q) [It.code (sub (bd Tryd.f15) [1, 1, 1])] { fr := frame 112 [(2, T.ptr 0 b2 0), (3, T.ptr 1 b3 0), (5, bool x), (6, bool false)], ob := [(b2, Ob.cells [u8 (Fm.kind f), u8 (Fm.frm f), u8 (Fm.to f), u32 (Fm.ep f), u8 (Fm.key f), u32 (Fm.sn f), u8 (Fm.sb f), u8 (Fm.sl f), bool (Fm.has f), str (Fm.x f), bool (Fm.rmw f), bool (Fm.flag f), u8 (Fm.dir f), u8 (Fm.life f), u32 (Fm.req f), u32 (Fm.bn f), u8 (Fm.bb f), u32 (Fm.slot f), u8 (Cmd.k (Fm.c f)), u8 (Cmd.n (Fm.c f)), u8 (Cmd.l (Fm.c f)), u32 (Cmd.e (Fm.c f)), u32 (Cmd.q (Fm.c f)), u32 (Fm.ve f), T.sl 3 L, u8 (Lvs.l0 (Fm.lv f)), u8 (Lvs.l1 (Fm.lv f)), u8 (Lvs.l2 (Fm.lv f)), u8 (Lvs.l3 (Fm.lv f)), u8 (Lvs.l4 (Fm.lv f)), u8 (Lvs.l5 (Fm.lv f)), u8 (Lvs.l6 (Fm.lv f)), u8 (Lvs.l7 (Fm.lv f)), T.sl 8 E]), (b3, Ob.cells [u8 (Fm.kind g), u8 (Fm.frm g), u8 (Fm.to g), u32 (Fm.ep g), u8 (Fm.key g), u32 (Fm.sn g), u8 (Fm.sb g), u8 (Fm.sl g), bool (Fm.has g), str (Fm.x g), bool (Fm.rmw g), bool (Fm.flag g), u8 (Fm.dir g), u8 (Fm.life g), u32 (Fm.req g), u32 (Fm.bn g), u8 (Fm.bb g), u32 (Fm.slot g), u8 (Cmd.k (Fm.c g)), u8 (Cmd.n (Fm.c g)), u8 (Cmd.l (Fm.c g)), u32 (Cmd.e (Fm.c g)), u32 (Cmd.q (Fm.c g)), u32 (Fm.ve g), T.sl 3 L', u8 (Lvs.l0 (Fm.lv g)), u8 (Lvs.l1 (Fm.lv g)), u8 (Lvs.l2 (Fm.lv g)), u8 (Lvs.l3 (Fm.lv g)), u8 (Lvs.l4 (Fm.lv g)), u8 (Lvs.l5 (Fm.lv g)), u8 (Lvs.l6 (Fm.lv g)), u8 (Lvs.l7 (Fm.lv g)), T.sl 8 E'])], gl := fun x => none })) (TWk Tryd.prog Γ (fin Tryd.prog Tryd.f15 [] Q) [It.code (sub (bd Tryd.f15) [1, 1, 1])] { fr := frame 112 [(2, T.ptr 0 b2 0), (3, T.ptr 1 b3 0), (5, bool x), (6, bool false)], ob := [(b2, Ob.cells [u8 (Fm.kind f), u8 (Fm.frm f), u8 (Fm.to f), u32 (Fm.ep f), u8 (Fm.key f), u32 (Fm.sn f), u8 (Fm.sb f), u8 (Fm.sl f), bool (Fm.has f), str (Fm.x f), bool (Fm.rmw f), bool (Fm.flag f), u8 (Fm.dir f), u8 (Fm.life f), u32 (Fm.req f), u32 (Fm.bn f), u8 (Fm.bb f), u32 (Fm.slot f), u8 (Cmd.k (Fm.c f)), u8 (Cmd.n (Fm.c f)), u8 (Cmd.l (Fm.c f)), u32 (Cmd.e (Fm.c f)), u32 (Cmd.q (Fm.c f)), u32 (Fm.ve f), T.sl 3 L, u8 (Lvs.l0 (Fm.lv f)), u8 (Lvs.l1 (Fm.lv f)), u8 (Lvs.l2 (Fm.lv f)), u8 (Lvs.l3 (Fm.lv f)), u8 (Lvs.l4 (Fm.lv f)), u8 (Lvs.l5 (Fm.lv f)), u8 (Lvs.l6 (Fm.lv f)), u8 (Lvs.l7 (Fm.lv f)), T.sl 8 E]), (b3, Ob.cells [u8 (Fm.kind g), u8 (Fm.frm g), u8 (Fm.to g), u32 (Fm.ep g), u8 (Fm.key g), u32 (Fm.sn g), u8 (Fm.sb g), u8 (Fm.sl g), bool (Fm.has g), str (Fm.x g), bool (Fm.rmw g), bool (Fm.flag g), u8 (Fm.dir g), u8 (Fm.life g), u32 (Fm.req g), u32 (Fm.bn g), u8 (Fm.bb g), u32 (Fm.slot g), u8 (Cmd.k (Fm.c g)), u8 (Cmd.n (Fm.c g)), u8 (Cmd.l (Fm.c g)), u32 (Cmd.e (Fm.c g)), u32 (Cmd.q (Fm.c g)), u32 (Fm.ve g), T.sl 3 L', u8 (Lvs.l0 (Fm.lv g)), u8 (Lvs.l1 (Fm.lv g)), u8 (Lvs.l2 (Fm.lv g)), u8 (Lvs.l3 (Fm.lv g)), u8 (Lvs.l4 (Fm.lv g)), u8 (Lvs.l5 (Fm.lv g)), u8 (Lvs.l6 (Fm.lv g)), u8 (Lvs.l7 (Fm.lv g)), T.sl 8 E'])], gl := fun x => none })) (by kernel_rfl) ?_
  repeat' (first | exact rfl | exact Nat.le_of_ble_eq_true rfl | refine And.intro ?_ ?_ | intro _ | refine bsplit_mk (fun _ => ?_) (fun _ => ?_))
  all_goals first
    | (refine hT false ⟨fun h => (by cases h), ?_⟩; rintro ⟨h1, h2, h3, h4, h5, h6, h7, h8, h9, h10, h11, h12⟩; rename_i h0; simp [h1, h2, h3, h4, h5, h6, h7, h8, h9, h10, h11, h12] at h0; done)
    | (rename_i k1 k2 k3 k4 k5 k6; refine hT (f.flag == g.flag) ?_; simp at k1 k2 k3 k4 k5 k6; rw [beq_iff_eq]; exact ⟨fun h => ⟨by omega, by omega, by omega, by omega, by omega, by omega, by omega, by omega, k5.1, k5.2, k6, h⟩, fun h => h.2.2.2.2.2.2.2.2.2.2.2⟩)
    | trace_state
theorem fm_ext (f g : Fm) : f = g ↔ ((f.ve = g.ve ∧ f.ms = g.ms ∧ f.lv = g.lv) ∧ f.es = g.es) ∧ (midB f g = true ∧ restB f g = true) := by
  unfold midB restB
  simp only [decide_eq_true_eq]
  obtain ⟨a1, a2, a3, a4, a5, a6, a7, a8, a9, a10, a11, a12, a13, a14, a15, a16, a17, a18, a19, a20, a21, a22, a23⟩ := f
  obtain ⟨b1, b2, b3, b4, b5, b6, b7, b8, b9, b10, b11, b12, b13, b14, b15, b16, b17, b18, b19, b20, b21, b22, b23⟩ := g
  simp only [Fm.mk.injEq]
  constructor
  · rintro ⟨h1, h2, h3, h4, h5, h6, h7, h8, h9, h10, h11, h12, h13, h14, h15, h16, h17, h18, h19, h20, h21, h22, h23⟩
    exact ⟨⟨⟨h20, h21, h22⟩, h23⟩, ⟨h1, h2, h3, h4, h5, h6, h7, h8, h9, h10, h11, h12⟩, h13, h14, h15, h16, h17, h18, h19⟩
  · rintro ⟨⟨⟨h20, h21, h22⟩, h23⟩, ⟨h1, h2, h3, h4, h5, h6, h7, h8, h9, h10, h11, h12⟩, h13, h14, h15, h16, h17, h18, h19⟩
    exact ⟨h1, h2, h3, h4, h5, h6, h7, h8, h9, h10, h11, h12, h13, h14, h15, h16, h17, h18, h19, h20, h21, h22, h23⟩
theorem fsame_any (f g : Fm) (h1 : f.ms.length ≤ 100) (h2 : f.es.length ≤ 100) : TCalls Tryd.prog 15 [.agg (frC f), .agg (frC g)] [] none_ (callPost (told (bool (decide (f = g))) [] [])) := by
  have hQ : ∀ y, y = bool (decide (f = g)) → callPost (told (bool (decide (f = g))) [] []) y [] none_ := fun y h => told_post h
  generalize callPost (told (bool (decide (f = g))) [] []) = Q at *
  have c1 := vsame_any f.ve g.ve f.ms g.ms f.lv g.lv h1
  have c2 := eqe_any f.es g.es h2 _ (fun r h => told_post (sel := []) (ob := []) h)
  have hT : ∀ (Γ : Ctx) (b2 b3 : Nat) (x : Bool), (x = true ↔ (decide (f.ve = g.ve ∧ f.ms = g.ms ∧ f.lv = g.lv) = true ∧ decide (f.es = g.es) = true)) → TWk Tryd.prog Γ (fin Tryd.prog Tryd.f15 [] Q) [.code (sub (bd Tryd.f15) [1, 1])] ⟨frame 112 [(2, .ptr 0 b2 0), (3, .ptr 1 b3 0), (5, bool x)], [(b2, .cells (frC f)), (b3, .cells (frC g))], none_⟩ := fun Γ b2 b3 x h => fsame_mid Γ b2 b3 f g x Q (hQ _ (congrArg bool (by
    rw [Bool.eq_iff_iff, decide_eq_true_eq, fm_ext, Bool.and_eq_true, Bool.and_eq_true, h, decide_eq_true_eq, decide_eq_true_eq, and_assoc])))
  clear hQ
  unfold vwC at *
  unfold frC at *
  generalize decide (f.ve = g.ve ∧ f.ms = g.ms ∧ f.lv = g.lv) = u at *
  generalize decide (f.es = g.es) = w at *
  generalize Row.aggs memC f.ms = L at *
  generalize Row.aggs memC g.ms = L' at *
  generalize Row.aggs entC f.es = E at *
  generalize Row.aggs entC g.es = E' at *
  refine TCalls.of Tryd.func15 rfl (CanCall.of Tryd.func15 rfl (by decide)) [] fun Γ => ?_
  refine run_sound (⟨fun | 1, 4 => told (bool u) [] [] | 1, 10 => told (bool w) [] [] | _, _ => .no, [((0, 2), ([2, 3, 5], 3))], fun  | _ => none⟩) 400 (B := ∀ (b b_1 : Nat), b = b ∧ b_1 = b_1 ∧ TCalls Tryd.prog 18 [T.agg [u32 (Fm.ve f), T.sl 3 L, u8 (Lvs.l0 (Fm.lv f)), u8 (Lvs.l1 (Fm.lv f)), u8 (Lvs.l2 (Fm.lv f)), u8 (Lvs.l3 (Fm.lv f)), u8 (Lvs.l4 (Fm.lv f)), u8 (Lvs.l5 (Fm.lv f)), u8 (Lvs.l6 (Fm.lv f)), u8 (Lvs.l7 (Fm.lv f))], T.agg [u32 (Fm.ve g), T.sl 3 L', u8 (Lvs.l0 (Fm.lv g)), u8 (Lvs.l1 (Fm.lv g)), u8 (Lvs.l2 (Fm.lv g)), u8 (Lvs.l3 (Fm.lv g)), u8 (Lvs.l4 (Fm.lv g)), u8 (Lvs.l5 (Fm.lv g)), u8 (Lvs.l6 (Fm.lv g)), u8 (Lvs.l7 (Fm.lv g))]] [] none_ (callPost (Hint.call false Unit (fun x => True) [] false (fun x => bool u) (fun x => []) fun x => none_)) ∧ ∀ (a : Unit), True → bsplit u (b = b ∧ b_1 = b_1 ∧ TCalls Tryd.prog 48 [T.sl 8 E, T.sl 8 E'] [] none_ (callPost (Hint.call false Unit (fun x => True) [] false (fun x => bool w) (fun x => []) fun x => none_)) ∧ ∀ (a : Unit), True → TWk Tryd.prog Γ (fin Tryd.prog Tryd.f15 [] Q) [It.code (sub (bd Tryd.f15) [1, 1])] { fr := frame 112 [(2, T.ptr 0 b 0), (3, T.ptr 1 b_1 0), (5, bool w)], ob := [(b, Ob.cells [u8 (Fm.kind f), u8 (Fm.frm f), u8 (Fm.to f), u32 (Fm.ep f), u8 (Fm.key f), u32 (Fm.sn f), u8 (Fm.sb f), u8 (Fm.sl f), bool (Fm.has f), str (Fm.x f), bool (Fm.rmw f), bool (Fm.flag f), u8 (Fm.dir f), u8 (Fm.life f), u32 (Fm.req f), u32 (Fm.bn f), u8 (Fm.bb f), u32 (Fm.slot f), u8 (Cmd.k (Fm.c f)), u8 (Cmd.n (Fm.c f)), u8 (Cmd.l (Fm.c f)), u32 (Cmd.e (Fm.c f)), u32 (Cmd.q (Fm.c f)), u32 (Fm.ve f), T.sl 3 L, u8 (Lvs.l0 (Fm.lv f)), u8 (Lvs.l1 (Fm.lv f)), u8 (Lvs.l2 (Fm.lv f)), u8 (Lvs.l3 (Fm.lv f)), u8 (Lvs.l4 (Fm.lv f)), u8 (Lvs.l5 (Fm.lv f)), u8 (Lvs.l6 (Fm.lv f)), u8 (Lvs.l7 (Fm.lv f)), T.sl 8 E]), (b_1, Ob.cells [u8 (Fm.kind g), u8 (Fm.frm g), u8 (Fm.to g), u32 (Fm.ep g), u8 (Fm.key g), u32 (Fm.sn g), u8 (Fm.sb g), u8 (Fm.sl g), bool (Fm.has g), str (Fm.x g), bool (Fm.rmw g), bool (Fm.flag g), u8 (Fm.dir g), u8 (Fm.life g), u32 (Fm.req g), u32 (Fm.bn g), u8 (Fm.bb g), u32 (Fm.slot g), u8 (Cmd.k (Fm.c g)), u8 (Cmd.n (Fm.c g)), u8 (Cmd.l (Fm.c g)), u32 (Cmd.e (Fm.c g)), u32 (Cmd.q (Fm.c g)), u32 (Fm.ve g), T.sl 3 L', u8 (Lvs.l0 (Fm.lv g)), u8 (Lvs.l1 (Fm.lv g)), u8 (Lvs.l2 (Fm.lv g)), u8 (Lvs.l3 (Fm.lv g)), u8 (Lvs.l4 (Fm.lv g)), u8 (Lvs.l5 (Fm.lv g)), u8 (Lvs.l6 (Fm.lv g)), u8 (Lvs.l7 (Fm.lv g)), T.sl 8 E'])], gl := fun x => none }) (TWk Tryd.prog Γ (fin Tryd.prog Tryd.f15 [] Q) [It.code (sub (bd Tryd.f15) [1, 1])] { fr := frame 112 [(2, T.ptr 0 b 0), (3, T.ptr 1 b_1 0), (5, bool false)], ob := [(b, Ob.cells [u8 (Fm.kind f), u8 (Fm.frm f), u8 (Fm.to f), u32 (Fm.ep f), u8 (Fm.key f), u32 (Fm.sn f), u8 (Fm.sb f), u8 (Fm.sl f), bool (Fm.has f), str (Fm.x f), bool (Fm.rmw f), bool (Fm.flag f), u8 (Fm.dir f), u8 (Fm.life f), u32 (Fm.req f), u32 (Fm.bn f), u8 (Fm.bb f), u32 (Fm.slot f), u8 (Cmd.k (Fm.c f)), u8 (Cmd.n (Fm.c f)), u8 (Cmd.l (Fm.c f)), u32 (Cmd.e (Fm.c f)), u32 (Cmd.q (Fm.c f)), u32 (Fm.ve f), T.sl 3 L, u8 (Lvs.l0 (Fm.lv f)), u8 (Lvs.l1 (Fm.lv f)), u8 (Lvs.l2 (Fm.lv f)), u8 (Lvs.l3 (Fm.lv f)), u8 (Lvs.l4 (Fm.lv f)), u8 (Lvs.l5 (Fm.lv f)), u8 (Lvs.l6 (Fm.lv f)), u8 (Lvs.l7 (Fm.lv f)), T.sl 8 E]), (b_1, Ob.cells [u8 (Fm.kind g), u8 (Fm.frm g), u8 (Fm.to g), u32 (Fm.ep g), u8 (Fm.key g), u32 (Fm.sn g), u8 (Fm.sb g), u8 (Fm.sl g), bool (Fm.has g), str (Fm.x g), bool (Fm.rmw g), bool (Fm.flag g), u8 (Fm.dir g), u8 (Fm.life g), u32 (Fm.req g), u32 (Fm.bn g), u8 (Fm.bb g), u32 (Fm.slot g), u8 (Cmd.k (Fm.c g)), u8 (Cmd.n (Fm.c g)), u8 (Cmd.l (Fm.c g)), u32 (Cmd.e (Fm.c g)), u32 (Cmd.q (Fm.c g)), u32 (Fm.ve g), T.sl 3 L', u8 (Lvs.l0 (Fm.lv g)), u8 (Lvs.l1 (Fm.lv g)), u8 (Lvs.l2 (Fm.lv g)), u8 (Lvs.l3 (Fm.lv g)), u8 (Lvs.l4 (Fm.lv g)), u8 (Lvs.l5 (Fm.lv g)), u8 (Lvs.l6 (Fm.lv g)), u8 (Lvs.l7 (Fm.lv g)), T.sl 8 E'])], gl := fun x => none })) (by kernel_rfl) ?_
  repeat' (first | exact rfl | exact Nat.le_of_ble_eq_true rfl | refine And.intro ?_ ?_ | intro _ | refine bsplit_mk (fun _ => ?_) (fun _ => ?_))
  all_goals first
    | exact c1
    | exact c2
    | exact hT _ _ _ _ (by simp_all)
    | trace_state
end X6
end Go.Proofs.YtaepgceodcdnhaaDoor.Vm
/- Frames by the engine: the law's told. -/
namespace Go.Proofs.YtaepgceodcdnhaaDoor.Vm
open Go Go.RowKit
set_option maxRecDepth 100000
namespace X6
open Frm (Cmd Mem Ent Lvs Fm)
/-- a frame's cells with these slices -/
def frS (f : Fm) (m e : T) : List T := [u8 f.kind, u8 f.frm, u8 f.to, u32 f.ep, u8 f.key, u32 f.sn, u8 f.sb, u8 f.sl, bool f.has, str f.x, bool f.rmw, bool f.flag, u8 f.dir, u8 f.life, u32 f.req, u32 f.bn, u8 f.bb, u32 f.slot,
  u8 f.c.k, u8 f.c.n, u8 f.c.l, u32 f.c.e, u32 f.c.q, u32 f.ve, m, u8 f.lv.l0, u8 f.lv.l1, u8 f.lv.l2, u8 f.lv.l3, u8 f.lv.l4, u8 f.lv.l5, u8 f.lv.l6, u8 f.lv.l7, e]
def cutF (x : Fm) : Fm := { x with ms := x.ms.take 10, es := x.es.take 18 }
theorem frC_cut (x : Fm) : frC (cutF x) = frS x (.sl 3 (Row.aggs memC (x.ms.take 10))) (.sl 8 (Row.aggs entC (x.es.take 18))) := rfl
def rmA (M : List T) (h : Value) : Nat × Ob := (0, .room 3 97 M.length h)
def rmB (M : List T) (h : Value) : Nat × Ob := (0, .room 3 99 M.length h)
def reA (M : List T) (h : Value) : Nat × Ob := (0, .room 8 103 M.length h)
def reB (M : List T) (h : Value) : Nat × Ob := (0, .room 8 105 M.length h)
/-- in the first loop -/
def obsT1 (b1 b2 b3 b4 b5 : Nat) (x : Fm) (M : List T) (h1 h2 : Value) : Obs := [(b1, .cells (frC x)), (b2, .cells zC), (b3, .cells zC), (b4, .cells (frS x (.slx 3 5 M h1) (.v nilS))), (b5, .cells (frS x (.slx 3 6 M h2) (.v nilS))), rmA M h1, rmB M h2]
def obsT2 (b1 b2 b3 b4 b5 : Nat) (x : Fm) (M E : List T) (h1 h2 h3 h4 : Value) : Obs := [(b1, .cells (frC x)), (b2, .cells zC), (b3, .cells zC), (b4, .cells (frS x (.slx 3 5 M h1) (.slx 8 7 E h3))), (b5, .cells (frS x (.slx 3 6 M h2) (.slx 8 8 E h4))), rmA M h1, rmB M h2, reA E h3, reB E h4]
section
variable (Γ : Ctx) (b1 b2 b3 b4 b5 : Nat) (x : Fm) (Q : T → Obs → Glb → Prop)
theorem told_end (M E : List T) (h1 h2 h3 h4 : Value) (hQ : Q (.tup [.agg (frS x (.sl 3 M) (.sl 8 E)), .agg (frS x (.sl 3 M) (.sl 8 E))]) [] none_) :
    TWk Tryd.prog Γ (fin Tryd.prog Tryd.f10 [] Q) [.code (sub (bd Tryd.f10) [1, 1, 1, 1, 1])] ⟨frame 183 [(2, .ptr 1 b2 0), (3, .ptr 2 b3 0), (4, .ptr 3 b4 0), (5, .ptr 4 b5 0)], obsT2 b1 b2 b3 b4 b5 x M E h1 h2 h3 h4, none_⟩ := by
  unfold obsT2 frC frS at *
  generalize Row.aggs memC x.ms = XM at *
  generalize Row.aggs entC x.es = XE at *
  refine run_sound (⟨fun  | _, _ => .no, [], fun | 6 => some ⟨[], [18, 21, 23], .take true [0,1,2,3,4,5,6,7,10,11,12,13,14,15,16] (.two 8 17 (.two 9 17 (.take false [19,20] (.one 17 (.one 18 (.one 21 (.take false [22] (.one 23 .done)))))) (.one 9 (.take false [19,20] (.one 18 (.one 21 (.take false [22] (.one 23 .done))))))) (.one 8 (.one 9 (.take false [19,20] (.one 18 (.one 21 (.take false [22] (.one 23 .done))))))))⟩ | 13 => some ⟨[3, 4], [3], .take true [0,1] (.one 2 (.one 3 .done))⟩ | _ => none⟩) 400 (B := b4 = b4 ∧ b5 = b5 ∧ (34 = nat_lit 34 ∧ List.all (frS x (T.slx 3 5 M h1) (T.slx 8 7 E h3)) T.one = true) ∧ b2 = b2 ∧ 0 + nat_lit 34 ≤ 34 ∧ (34 = nat_lit 34 ∧ List.all (frS x (T.slx 3 6 M h2) (T.slx 8 8 E h4)) T.one = true) ∧ b3 = b3 ∧ 0 + nat_lit 34 ≤ 34 ∧ b2 = b2 ∧ b3 = b3 ∧ Q (T.tup [T.agg (frS x (T.sl 3 M) (T.sl 8 E)), T.agg (frS x (T.sl 3 M) (T.sl 8 E))]) [] fun x => none) (by kernel_rfl) ?_
  repeat' (first | exact rfl | exact Nat.le_of_ble_eq_true rfl | refine And.intro ?_ ?_ | intro _ | refine bsplit_mk (fun _ => ?_) (fun _ => ?_))
  all_goals first
    | exact hQ
    | trace_state
theorem told_l2 (M : List T) (h1 h2 : Value) (hQ : Q (.tup [.agg (frS x (.sl 3 M) (.sl 8 (Row.aggs entC (x.es.take 18)))), .agg (frS x (.sl 3 M) (.sl 8 (Row.aggs entC (x.es.take 18))))]) [] none_) : ∀ (r d : List Ent) (h3 h4 : Value), x.es = d ++ r → d.length ≤ 18 →
    TWk Tryd.prog Γ (fin Tryd.prog Tryd.f10 [] Q) [.code (sub (bd Tryd.f10) [1, 1, 1, 1, 0, 1, 0]), .blk 2, .code (sub (bd Tryd.f10) [1, 1, 1, 1, 1])] ⟨frame 183 [(1, .ptr 0 b1 0), (2, .ptr 1 b2 0), (3, .ptr 2 b3 0), (4, .ptr 3 b4 0), (5, .ptr 4 b5 0), (7, int d.length)], obsT2 b1 b2 b3 b4 b5 x M (Row.aggs entC d) h1 h2 h3 h4, none_⟩ := by
  intro r
  induction r with
  | nil =>
    intro d h3 h4 h hd
    have en := told_end Γ b1 b2 b3 b4 b5 x Q M (Row.aggs entC d) h1 h2 h3 h4 (by
      have e : x.es.take 18 = d := by rw [h, List.append_nil, List.take_of_length_le hd]
      rw [e] at hQ; exact hQ)
    have hlen : (Row.aggs entC x.es).length = d.length := by rw [Row.aggs_len, h, List.append_nil]
    clear hQ
    unfold obsT2 frC frS rmA rmB reA reB at *
    generalize Row.aggs memC x.ms = XM at *
    generalize Row.aggs entC x.es = XE at *
    generalize Row.aggs entC d = D at *
    generalize (d.length : Nat) = n at *
    refine run_sound (⟨fun | 10, 3 => .res (.agg (entC ⟨0, 0, 0, ⟨0, 0, 0, 0, 0⟩⟩)) | _, _ => .no, [((2, 8), ([1, 2, 3, 4, 5, 7], 9)), ((0, 13), ([2, 3, 4, 5], 9))], fun | 6 => some ⟨[], [18, 21, 23], .take true [0,1,2,3,4,5,6,7,10,11,12,13,14,15,16] (.two 8 17 (.two 9 17 (.take false [19,20] (.one 17 (.one 18 (.one 21 (.take false [22] (.one 23 .done)))))) (.one 9 (.take false [19,20] (.one 18 (.one 21 (.take false [22] (.one 23 .done))))))) (.one 8 (.one 9 (.take false [19,20] (.one 18 (.one 21 (.take false [22] (.one 23 .done))))))))⟩ | 13 => some ⟨[], [3], .take true [0,1] (.one 2 (.one 3 .done))⟩ | _ => none⟩) 400 (B := b1 = b1 ∧ bsplit (decide ((↑n : Int) < (↑(List.length XE) : Int))) (bsplit (decide ((↑n : Int) < (18 : Int))) (b1 = b1 ∧ (0 : Int) ≤ (↑n : Int) ∧ XE[Int.toNat (↑n : Int)]? = some (T.agg [u32 (Ent.s { s := 0, n := 0, b := 0, c := { k := 0, n := 0, l := 0, e := 0, q := 0 } }), u32 (Ent.n { s := 0, n := 0, b := 0, c := { k := 0, n := 0, l := 0, e := 0, q := 0 } }), u8 (Ent.b { s := 0, n := 0, b := 0, c := { k := 0, n := 0, l := 0, e := 0, q := 0 } }), u8 (Cmd.k (Ent.c { s := 0, n := 0, b := 0, c := { k := 0, n := 0, l := 0, e := 0, q := 0 } })), u8 (Cmd.n (Ent.c { s := 0, n := 0, b := 0, c := { k := 0, n := 0, l := 0, e := 0, q := 0 } })), u8 (Cmd.l (Ent.c { s := 0, n := 0, b := 0, c := { k := 0, n := 0, l := 0, e := 0, q := 0 } })), u32 (Cmd.e (Ent.c { s := 0, n := 0, b := 0, c := { k := 0, n := 0, l := 0, e := 0, q := 0 } })), u32 (Cmd.q (Ent.c { s := 0, n := 0, b := 0, c := { k := 0, n := 0, l := 0, e := 0, q := 0 } }))]) ∧ ∀ (b : Nat), (8 = nat_lit 8 ∧ List.all [u32 (Ent.s { s := 0, n := 0, b := 0, c := { k := 0, n := 0, l := 0, e := 0, q := 0 } }), u32 (Ent.n { s := 0, n := 0, b := 0, c := { k := 0, n := 0, l := 0, e := 0, q := 0 } }), u8 (Ent.b { s := 0, n := 0, b := 0, c := { k := 0, n := 0, l := 0, e := 0, q := 0 } }), u8 (Cmd.k (Ent.c { s := 0, n := 0, b := 0, c := { k := 0, n := 0, l := 0, e := 0, q := 0 } })), u8 (Cmd.n (Ent.c { s := 0, n := 0, b := 0, c := { k := 0, n := 0, l := 0, e := 0, q := 0 } })), u8 (Cmd.l (Ent.c { s := 0, n := 0, b := 0, c := { k := 0, n := 0, l := 0, e := 0, q := 0 } })), u32 (Cmd.e (Ent.c { s := 0, n := 0, b := 0, c := { k := 0, n := 0, l := 0, e := 0, q := 0 } })), u32 (Cmd.q (Ent.c { s := 0, n := 0, b := 0, c := { k := 0, n := 0, l := 0, e := 0, q := 0 } }))] T.one = true) ∧ b = b ∧ 0 + nat_lit 8 ≤ 8 ∧ b4 = b4 ∧ b = b ∧ b = b ∧ b = b ∧ b = b ∧ (h3 = h3 ∧ List.length D = List.length D) ∧ Fits (List.length D + 1) (nat_lit 24) ∧ ∀ (x_1 : Value), (1 = nat_lit 1 ∧ List.all [T.slx 8 7 (D ++ [T.agg [u32 (Ent.s { s := 0, n := 0, b := 0, c := { k := 0, n := 0, l := 0, e := 0, q := 0 } }), u32 (Ent.n { s := 0, n := 0, b := 0, c := { k := 0, n := 0, l := 0, e := 0, q := 0 } }), u8 (Ent.b { s := 0, n := 0, b := 0, c := { k := 0, n := 0, l := 0, e := 0, q := 0 } }), u8 (Cmd.k (Ent.c { s := 0, n := 0, b := 0, c := { k := 0, n := 0, l := 0, e := 0, q := 0 } })), u8 (Cmd.n (Ent.c { s := 0, n := 0, b := 0, c := { k := 0, n := 0, l := 0, e := 0, q := 0 } })), u8 (Cmd.l (Ent.c { s := 0, n := 0, b := 0, c := { k := 0, n := 0, l := 0, e := 0, q := 0 } })), u32 (Cmd.e (Ent.c { s := 0, n := 0, b := 0, c := { k := 0, n := 0, l := 0, e := 0, q := 0 } })), u32 (Cmd.q (Ent.c { s := 0, n := 0, b := 0, c := { k := 0, n := 0, l := 0, e := 0, q := 0 } }))]]) x_1] T.one = true) ∧ b4 = b4 ∧ 33 + nat_lit 1 ≤ 34 ∧ b5 = b5 ∧ b = b ∧ b = b ∧ b = b ∧ b = b ∧ (h4 = h4 ∧ List.length D = List.length D) ∧ Fits (List.length D + 1) (nat_lit 24) ∧ ∀ (x_2 : Value), (1 = nat_lit 1 ∧ List.all [T.slx 8 8 (D ++ [T.agg [u32 (Ent.s { s := 0, n := 0, b := 0, c := { k := 0, n := 0, l := 0, e := 0, q := 0 } }), u32 (Ent.n { s := 0, n := 0, b := 0, c := { k := 0, n := 0, l := 0, e := 0, q := 0 } }), u8 (Ent.b { s := 0, n := 0, b := 0, c := { k := 0, n := 0, l := 0, e := 0, q := 0 } }), u8 (Cmd.k (Ent.c { s := 0, n := 0, b := 0, c := { k := 0, n := 0, l := 0, e := 0, q := 0 } })), u8 (Cmd.n (Ent.c { s := 0, n := 0, b := 0, c := { k := 0, n := 0, l := 0, e := 0, q := 0 } })), u8 (Cmd.l (Ent.c { s := 0, n := 0, b := 0, c := { k := 0, n := 0, l := 0, e := 0, q := 0 } })), u32 (Cmd.e (Ent.c { s := 0, n := 0, b := 0, c := { k := 0, n := 0, l := 0, e := 0, q := 0 } })), u32 (Cmd.q (Ent.c { s := 0, n := 0, b := 0, c := { k := 0, n := 0, l := 0, e := 0, q := 0 } }))]]) x_2] T.one = true) ∧ b5 = b5 ∧ 33 + nat_lit 1 ≤ 34 ∧ TWk Tryd.prog Γ (fin Tryd.prog Tryd.f10 [] Q) [It.code (sub (bd Tryd.f10) [1, 1, 1, 1, 0, 1, 0]), It.blk 2, It.code (sub (bd Tryd.f10) [1, 1, 1, 1, 1])] { fr := frame 183 [(1, T.ptr 0 b1 0), (2, T.ptr 1 b2 0), (3, T.ptr 2 b3 0), (4, T.ptr 3 b4 0), (5, T.ptr 4 b5 0), (7, int (IntKind.wrap IntKind.i64 ((↑n : Int) + (1 : Int))))], ob := [(b1, Ob.cells (frS x (T.sl 3 XM) (T.sl 8 XE))), (b2, Ob.cells zC), (b3, Ob.cells zC), (b4, Ob.cells (frS x (T.slx 3 5 M h1) (T.slx 8 7 (D ++ [T.agg [u32 (Ent.s { s := 0, n := 0, b := 0, c := { k := 0, n := 0, l := 0, e := 0, q := 0 } }), u32 (Ent.n { s := 0, n := 0, b := 0, c := { k := 0, n := 0, l := 0, e := 0, q := 0 } }), u8 (Ent.b { s := 0, n := 0, b := 0, c := { k := 0, n := 0, l := 0, e := 0, q := 0 } }), u8 (Cmd.k (Ent.c { s := 0, n := 0, b := 0, c := { k := 0, n := 0, l := 0, e := 0, q := 0 } })), u8 (Cmd.n (Ent.c { s := 0, n := 0, b := 0, c := { k := 0, n := 0, l := 0, e := 0, q := 0 } })), u8 (Cmd.l (Ent.c { s := 0, n := 0, b := 0, c := { k := 0, n := 0, l := 0, e := 0, q := 0 } })), u32 (Cmd.e (Ent.c { s := 0, n := 0, b := 0, c := { k := 0, n := 0, l := 0, e := 0, q := 0 } })), u32 (Cmd.q (Ent.c { s := 0, n := 0, b := 0, c := { k := 0, n := 0, l := 0, e := 0, q := 0 } }))]]) x_1))), (b5, Ob.cells (frS x (T.slx 3 6 M h2) (T.slx 8 8 (D ++ [T.agg [u32 (Ent.s { s := 0, n := 0, b := 0, c := { k := 0, n := 0, l := 0, e := 0, q := 0 } }), u32 (Ent.n { s := 0, n := 0, b := 0, c := { k := 0, n := 0, l := 0, e := 0, q := 0 } }), u8 (Ent.b { s := 0, n := 0, b := 0, c := { k := 0, n := 0, l := 0, e := 0, q := 0 } }), u8 (Cmd.k (Ent.c { s := 0, n := 0, b := 0, c := { k := 0, n := 0, l := 0, e := 0, q := 0 } })), u8 (Cmd.n (Ent.c { s := 0, n := 0, b := 0, c := { k := 0, n := 0, l := 0, e := 0, q := 0 } })), u8 (Cmd.l (Ent.c { s := 0, n := 0, b := 0, c := { k := 0, n := 0, l := 0, e := 0, q := 0 } })), u32 (Cmd.e (Ent.c { s := 0, n := 0, b := 0, c := { k := 0, n := 0, l := 0, e := 0, q := 0 } })), u32 (Cmd.q (Ent.c { s := 0, n := 0, b := 0, c := { k := 0, n := 0, l := 0, e := 0, q := 0 } }))]]) x_2))), (0, Ob.room 3 97 (List.length M) h1), (0, Ob.room 3 99 (List.length M) h2), (0, Ob.room 8 103 (List.length (D ++ [T.agg [u32 (Ent.s { s := 0, n := 0, b := 0, c := { k := 0, n := 0, l := 0, e := 0, q := 0 } }), u32 (Ent.n { s := 0, n := 0, b := 0, c := { k := 0, n := 0, l := 0, e := 0, q := 0 } }), u8 (Ent.b { s := 0, n := 0, b := 0, c := { k := 0, n := 0, l := 0, e := 0, q := 0 } }), u8 (Cmd.k (Ent.c { s := 0, n := 0, b := 0, c := { k := 0, n := 0, l := 0, e := 0, q := 0 } })), u8 (Cmd.n (Ent.c { s := 0, n := 0, b := 0, c := { k := 0, n := 0, l := 0, e := 0, q := 0 } })), u8 (Cmd.l (Ent.c { s := 0, n := 0, b := 0, c := { k := 0, n := 0, l := 0, e := 0, q := 0 } })), u32 (Cmd.e (Ent.c { s := 0, n := 0, b := 0, c := { k := 0, n := 0, l := 0, e := 0, q := 0 } })), u32 (Cmd.q (Ent.c { s := 0, n := 0, b := 0, c := { k := 0, n := 0, l := 0, e := 0, q := 0 } }))]])) x_1), (0, Ob.room 8 105 (List.length (D ++ [T.agg [u32 (Ent.s { s := 0, n := 0, b := 0, c := { k := 0, n := 0, l := 0, e := 0, q := 0 } }), u32 (Ent.n { s := 0, n := 0, b := 0, c := { k := 0, n := 0, l := 0, e := 0, q := 0 } }), u8 (Ent.b { s := 0, n := 0, b := 0, c := { k := 0, n := 0, l := 0, e := 0, q := 0 } }), u8 (Cmd.k (Ent.c { s := 0, n := 0, b := 0, c := { k := 0, n := 0, l := 0, e := 0, q := 0 } })), u8 (Cmd.n (Ent.c { s := 0, n := 0, b := 0, c := { k := 0, n := 0, l := 0, e := 0, q := 0 } })), u8 (Cmd.l (Ent.c { s := 0, n := 0, b := 0, c := { k := 0, n := 0, l := 0, e := 0, q := 0 } })), u32 (Cmd.e (Ent.c { s := 0, n := 0, b := 0, c := { k := 0, n := 0, l := 0, e := 0, q := 0 } })), u32 (Cmd.q (Ent.c { s := 0, n := 0, b := 0, c := { k := 0, n := 0, l := 0, e := 0, q := 0 } }))]])) x_2)], gl := fun x => none }) (TWk Tryd.prog Γ (fin Tryd.prog Tryd.f10 [] Q) [It.code (sub (bd Tryd.f10) [1, 1, 1, 1, 1])] { fr := frame 183 [(2, T.ptr 1 b2 0), (3, T.ptr 2 b3 0), (4, T.ptr 3 b4 0), (5, T.ptr 4 b5 0)], ob := [(b1, Ob.cells (frS x (T.sl 3 XM) (T.sl 8 XE))), (b2, Ob.cells zC), (b3, Ob.cells zC), (b4, Ob.cells (frS x (T.slx 3 5 M h1) (T.slx 8 7 D h3))), (b5, Ob.cells (frS x (T.slx 3 6 M h2) (T.slx 8 8 D h4))), (0, Ob.room 3 97 (List.length M) h1), (0, Ob.room 3 99 (List.length M) h2), (0, Ob.room 8 103 (List.length D) h3), (0, Ob.room 8 105 (List.length D) h4)], gl := fun x => none })) (TWk Tryd.prog Γ (fin Tryd.prog Tryd.f10 [] Q) [It.code (sub (bd Tryd.f10) [1, 1, 1, 1, 1])] { fr := frame 183 [(2, T.ptr 1 b2 0), (3, T.ptr 2 b3 0), (4, T.ptr 3 b4 0), (5, T.ptr 4 b5 0)], ob := [(b1, Ob.cells (frS x (T.sl 3 XM) (T.sl 8 XE))), (b2, Ob.cells zC), (b3, Ob.cells zC), (b4, Ob.cells (frS x (T.slx 3 5 M h1) (T.slx 8 7 D h3))), (b5, Ob.cells (frS x (T.slx 3 6 M h2) (T.slx 8 8 D h4))), (0, Ob.room 3 97 (List.length M) h1), (0, Ob.room 3 99 (List.length M) h2), (0, Ob.room 8 103 (List.length D) h3), (0, Ob.room 8 105 (List.length D) h4)], gl := fun x => none })) (by kernel_rfl) ?_
    repeat' (first | exact rfl | exact Nat.le_of_ble_eq_true rfl | refine And.intro ?_ ?_ | intro _ | refine bsplit_mk (fun _ => ?_) (fun _ => ?_))
    all_goals first
      | exact en
      | (exfalso; have := of_decide_eq_true ‹decide ((n : Int) < (XE.length : Int)) = true›; omega)
      | trace_state
  | cons a r ih =>
    intro d h3 h4 h hd
    have hlen : d.length < (Row.aggs entC x.es).length := by rw [Row.aggs_len, h]; simp
    have hdl : (Row.aggs entC d).length = d.length := Row.aggs_len d
    have hat : (Row.aggs entC x.es)[(d.length : Int).toNat]? = some (.agg (entC a)) := Row.aggs_at (by rw [h]; simp)
    have en : ¬ d.length < 18 → _ := fun g => told_end Γ b1 b2 b3 b4 b5 x Q M (Row.aggs entC d) h1 h2 h3 h4 (by
      have e : x.es.take 18 = d := by rw [h, show 18 = d.length by omega, List.take_left]
      rw [e] at hQ; exact hQ)
    have nx : d.length < 18 → ∀ h3 h4, TWk Tryd.prog Γ (fin Tryd.prog Tryd.f10 [] Q) [.code (sub (bd Tryd.f10) [1, 1, 1, 1, 0, 1, 0]), .blk 2, .code (sub (bd Tryd.f10) [1, 1, 1, 1, 1])] ⟨frame 183 [(1, .ptr 0 b1 0), (2, .ptr 1 b2 0), (3, .ptr 2 b3 0), (4, .ptr 3 b4 0), (5, .ptr 4 b5 0), (7, int ((d.length : Int) + 1))], obsT2 b1 b2 b3 b4 b5 x M (Row.aggs entC d ++ [.agg (entC a)]) h1 h2 h3 h4, none_⟩ := fun g h3 h4 => by
      have := ih (d ++ [a]) h3 h4 (by rw [h]; simp) (by simp; omega)
      rw [Row.aggs_snoc, show ((d ++ [a]).length : Int) = (d.length : Int) + 1 by simp] at this
      exact this
    have hw : T.v (.int .i64 (IntKind.wrap .i64 ((d.length : Int) + 1))) = int ((d.length : Int) + 1) := congrArg int (wrap_i64 (by omega) (by omega))
    clear hQ ih
    unfold obsT2 frC frS rmA rmB reA reB entC at *
    generalize Row.aggs memC x.ms = XM at *
    generalize Row.aggs _ x.es = XE at *
    generalize Row.aggs _ d = D at *
    generalize d.length = n at *
    refine run_sound (⟨fun | 10, 3 => .res (.agg [u32 a.s, u32 a.n, u8 a.b, u8 a.c.k, u8 a.c.n, u8 a.c.l, u32 a.c.e, u32 a.c.q]) | 9, 1 => .res (int ((n : Int) + 1)) | _, _ => .no, [((2, 8), ([1, 2, 3, 4, 5, 7], 9)), ((0, 13), ([2, 3, 4, 5], 9))], fun | 6 => some ⟨[], [18, 21, 23], .take true [0,1,2,3,4,5,6,7,10,11,12,13,14,15,16] (.two 8 17 (.two 9 17 (.take false [19,20] (.one 17 (.one 18 (.one 21 (.take false [22] (.one 23 .done)))))) (.one 9 (.take false [19,20] (.one 18 (.one 21 (.take false [22] (.one 23 .done))))))) (.one 8 (.one 9 (.take false [19,20] (.one 18 (.one 21 (.take false [22] (.one 23 .done))))))))⟩ | 13 => some ⟨[], [3], .take true [0,1] (.one 2 (.one 3 .done))⟩ | _ => none⟩) 400 (B := b1 = b1 ∧ bsplit (decide ((↑n : Int) < (↑(List.length XE) : Int))) (bsplit (decide ((↑n : Int) < (18 : Int))) (b1 = b1 ∧ (0 : Int) ≤ (↑n : Int) ∧ XE[Int.toNat (↑n : Int)]? = some (T.agg [u32 (Ent.s a), u32 (Ent.n a), u8 (Ent.b a), u8 (Cmd.k (Ent.c a)), u8 (Cmd.n (Ent.c a)), u8 (Cmd.l (Ent.c a)), u32 (Cmd.e (Ent.c a)), u32 (Cmd.q (Ent.c a))]) ∧ ∀ (b : Nat), (8 = nat_lit 8 ∧ List.all [u32 (Ent.s a), u32 (Ent.n a), u8 (Ent.b a), u8 (Cmd.k (Ent.c a)), u8 (Cmd.n (Ent.c a)), u8 (Cmd.l (Ent.c a)), u32 (Cmd.e (Ent.c a)), u32 (Cmd.q (Ent.c a))] T.one = true) ∧ b = b ∧ 0 + nat_lit 8 ≤ 8 ∧ b4 = b4 ∧ b = b ∧ b = b ∧ b = b ∧ b = b ∧ (h3 = h3 ∧ List.length D = List.length D) ∧ Fits (List.length D + 1) (nat_lit 24) ∧ ∀ (x_1 : Value), (1 = nat_lit 1 ∧ List.all [T.slx 8 7 (D ++ [T.agg [u32 (Ent.s a), u32 (Ent.n a), u8 (Ent.b a), u8 (Cmd.k (Ent.c a)), u8 (Cmd.n (Ent.c a)), u8 (Cmd.l (Ent.c a)), u32 (Cmd.e (Ent.c a)), u32 (Cmd.q (Ent.c a))]]) x_1] T.one = true) ∧ b4 = b4 ∧ 33 + nat_lit 1 ≤ 34 ∧ b5 = b5 ∧ b = b ∧ b = b ∧ b = b ∧ b = b ∧ (h4 = h4 ∧ List.length D = List.length D) ∧ Fits (List.length D + 1) (nat_lit 24) ∧ ∀ (x_2 : Value), (1 = nat_lit 1 ∧ List.all [T.slx 8 8 (D ++ [T.agg [u32 (Ent.s a), u32 (Ent.n a), u8 (Ent.b a), u8 (Cmd.k (Ent.c a)), u8 (Cmd.n (Ent.c a)), u8 (Cmd.l (Ent.c a)), u32 (Cmd.e (Ent.c a)), u32 (Cmd.q (Ent.c a))]]) x_2] T.one = true) ∧ b5 = b5 ∧ 33 + nat_lit 1 ≤ 34 ∧ int (IntKind.wrap IntKind.i64 ((↑n : Int) + (1 : Int))) = int ((↑n : Int) + (1 : Int)) ∧ TWk Tryd.prog Γ (fin Tryd.prog Tryd.f10 [] Q) [It.code (sub (bd Tryd.f10) [1, 1, 1, 1, 0, 1, 0]), It.blk 2, It.code (sub (bd Tryd.f10) [1, 1, 1, 1, 1])] { fr := frame 183 [(1, T.ptr 0 b1 0), (2, T.ptr 1 b2 0), (3, T.ptr 2 b3 0), (4, T.ptr 3 b4 0), (5, T.ptr 4 b5 0), (7, int ((↑n : Int) + (1 : Int)))], ob := [(b1, Ob.cells (frS x (T.sl 3 XM) (T.sl 8 XE))), (b2, Ob.cells zC), (b3, Ob.cells zC), (b4, Ob.cells (frS x (T.slx 3 5 M h1) (T.slx 8 7 (D ++ [T.agg [u32 (Ent.s a), u32 (Ent.n a), u8 (Ent.b a), u8 (Cmd.k (Ent.c a)), u8 (Cmd.n (Ent.c a)), u8 (Cmd.l (Ent.c a)), u32 (Cmd.e (Ent.c a)), u32 (Cmd.q (Ent.c a))]]) x_1))), (b5, Ob.cells (frS x (T.slx 3 6 M h2) (T.slx 8 8 (D ++ [T.agg [u32 (Ent.s a), u32 (Ent.n a), u8 (Ent.b a), u8 (Cmd.k (Ent.c a)), u8 (Cmd.n (Ent.c a)), u8 (Cmd.l (Ent.c a)), u32 (Cmd.e (Ent.c a)), u32 (Cmd.q (Ent.c a))]]) x_2))), (0, Ob.room 3 97 (List.length M) h1), (0, Ob.room 3 99 (List.length M) h2), (0, Ob.room 8 103 (List.length (D ++ [T.agg [u32 (Ent.s a), u32 (Ent.n a), u8 (Ent.b a), u8 (Cmd.k (Ent.c a)), u8 (Cmd.n (Ent.c a)), u8 (Cmd.l (Ent.c a)), u32 (Cmd.e (Ent.c a)), u32 (Cmd.q (Ent.c a))]])) x_1), (0, Ob.room 8 105 (List.length (D ++ [T.agg [u32 (Ent.s a), u32 (Ent.n a), u8 (Ent.b a), u8 (Cmd.k (Ent.c a)), u8 (Cmd.n (Ent.c a)), u8 (Cmd.l (Ent.c a)), u32 (Cmd.e (Ent.c a)), u32 (Cmd.q (Ent.c a))]])) x_2)], gl := fun x => none }) (TWk Tryd.prog Γ (fin Tryd.prog Tryd.f10 [] Q) [It.code (sub (bd Tryd.f10) [1, 1, 1, 1, 1])] { fr := frame 183 [(2, T.ptr 1 b2 0), (3, T.ptr 2 b3 0), (4, T.ptr 3 b4 0), (5, T.ptr 4 b5 0)], ob := [(b1, Ob.cells (frS x (T.sl 3 XM) (T.sl 8 XE))), (b2, Ob.cells zC), (b3, Ob.cells zC), (b4, Ob.cells (frS x (T.slx 3 5 M h1) (T.slx 8 7 D h3))), (b5, Ob.cells (frS x (T.slx 3 6 M h2) (T.slx 8 8 D h4))), (0, Ob.room 3 97 (List.length M) h1), (0, Ob.room 3 99 (List.length M) h2), (0, Ob.room 8 103 (List.length D) h3), (0, Ob.room 8 105 (List.length D) h4)], gl := fun x => none })) (TWk Tryd.prog Γ (fin Tryd.prog Tryd.f10 [] Q) [It.code (sub (bd Tryd.f10) [1, 1, 1, 1, 1])] { fr := frame 183 [(2, T.ptr 1 b2 0), (3, T.ptr 2 b3 0), (4, T.ptr 3 b4 0), (5, T.ptr 4 b5 0)], ob := [(b1, Ob.cells (frS x (T.sl 3 XM) (T.sl 8 XE))), (b2, Ob.cells zC), (b3, Ob.cells zC), (b4, Ob.cells (frS x (T.slx 3 5 M h1) (T.slx 8 7 D h3))), (b5, Ob.cells (frS x (T.slx 3 6 M h2) (T.slx 8 8 D h4))), (0, Ob.room 3 97 (List.length M) h1), (0, Ob.room 3 99 (List.length M) h2), (0, Ob.room 8 103 (List.length D) h3), (0, Ob.room 8 105 (List.length D) h4)], gl := fun x => none })) (by kernel_rfl) ?_
    repeat' (first | exact rfl | exact Nat.le_of_ble_eq_true rfl | refine And.intro ?_ ?_ | intro _ | refine bsplit_mk (fun _ => ?_) (fun _ => ?_))
    all_goals first
      | exact hat
      | exact hw
      | (exfalso; have := of_decide_eq_false ‹decide ((n : Int) < (XE.length : Int)) = false›; omega)
      | exact nx (by have := of_decide_eq_true ‹decide ((n : Int) < 18) = true›; omega) _ _
      | exact en (by have := of_decide_eq_false ‹decide ((n : Int) < 18) = false›; omega)
      | (simp [maxLen]; omega)
      | omega
      | trace_state
theorem told_l1 (hQ : Q (.tup [.agg (frS x (.sl 3 (Row.aggs memC (x.ms.take 10))) (.sl 8 (Row.aggs entC (x.es.take 18)))), .agg (frS x (.sl 3 (Row.aggs memC (x.ms.take 10))) (.sl 8 (Row.aggs entC (x.es.take 18))))]) [] none_) : ∀ (r d : List Mem) (h1 h2 : Value), x.ms = d ++ r → d.length ≤ 10 →
    TWk Tryd.prog Γ (fin Tryd.prog Tryd.f10 [] Q) [.code (sub (bd Tryd.f10) [1, 1, 1, 0, 1, 0]), .blk 0, .code (sub (bd Tryd.f10) [1, 1, 1, 1])] ⟨frame 183 [(1, .ptr 0 b1 0), (2, .ptr 1 b2 0), (3, .ptr 2 b3 0), (4, .ptr 3 b4 0), (5, .ptr 4 b5 0), (6, int d.length)], obsT1 b1 b2 b3 b4 b5 x (Row.aggs memC d) h1 h2, none_⟩ := by
  have go : ∀ (D : List T) (h1 h2 : Value), D = Row.aggs memC (x.ms.take 10) → TWk Tryd.prog Γ (fin Tryd.prog Tryd.f10 [] Q) [.code (sub (bd Tryd.f10) [1, 1, 1, 1, 0, 1, 0]), .blk 2, .code (sub (bd Tryd.f10) [1, 1, 1, 1, 1])] ⟨frame 183 [(1, .ptr 0 b1 0), (2, .ptr 1 b2 0), (3, .ptr 2 b3 0), (4, .ptr 3 b4 0), (5, .ptr 4 b5 0), (7, int 0)], obsT1 b1 b2 b3 b4 b5 x D h1 h2, none_⟩ := fun D h1 h2 e => by
    subst e
    have l2 := told_l2 Γ b1 b2 b3 b4 b5 x Q (Row.aggs memC (x.ms.take 10)) h1 h2 hQ x.es [] nilS nilS rfl (by simp)
    generalize Row.aggs memC (x.ms.take 10) = D at *
    have l2 := TWk.imp (s := ⟨frame 183 [(1, .ptr 0 b1 0), (2, .ptr 1 b2 0), (3, .ptr 2 b3 0), (4, .ptr 3 b4 0), (5, .ptr 4 b5 0), (7, int 0)], obsT1 b1 b2 b3 b4 b5 x D h1 h2 ++ [reA [] nilS], none_⟩) l2
      ((Imp.room (ob := [(b1, .cells (frC x)), (b2, .cells zC), (b3, .cells zC), (b4, .cells (frS x (.slx 3 5 D h1) (.v nilS))), (b5, .cells (frS x (.slx 3 6 D h2) (.v nilS))), rmA D h1, rmB D h2, reA [] nilS]) 8 105).trans
      ((Imp.cell 8 7 (ob := [(b1, .cells (frC x)), (b2, .cells zC), (b3, .cells zC), (b4, .cells (frS x (.slx 3 5 D h1) (.v nilS))), (b5, .cells (frS x (.slx 3 6 D h2) (.v nilS))), rmA D h1, rmB D h2, reA [] nilS, reB [] nilS]) (i := 3) (j := 33) (b := b4) (cs := frS x (.slx 3 5 D h1) (.v nilS)) rfl rfl).trans
        (Imp.cell 8 8 (ob := [(b1, .cells (frC x)), (b2, .cells zC), (b3, .cells zC), (b4, .cells (frS x (.slx 3 5 D h1) (.slx 8 7 [] nilS))), (b5, .cells (frS x (.slx 3 6 D h2) (.v nilS))), rmA D h1, rmB D h2, reA [] nilS, reB [] nilS]) (i := 4) (j := 33) (b := b5) (cs := frS x (.slx 3 6 D h2) (.v nilS)) rfl rfl)))
    exact TWk.imp l2 (Imp.room (ob := obsT1 b1 b2 b3 b4 b5 x D h1 h2) 8 103)
  clear hQ
  intro r
  induction r with
  | nil =>
    intro d h1 h2 h hd
    have en := go (Row.aggs memC d) h1 h2 (by rw [h, List.append_nil, List.take_of_length_le hd])
    have hlen : (Row.aggs memC x.ms).length = d.length := by rw [Row.aggs_len, h, List.append_nil]
    clear go
    unfold obsT1 frC frS rmA rmB at *
    generalize Row.aggs memC x.ms = XM at *
    generalize Row.aggs entC x.es = XE at *
    generalize Row.aggs memC d = D at *
    generalize (d.length : Nat) = n at *
    refine run_sound (⟨fun | 6, 6 => .res (.agg (memC ⟨0, 0, false⟩)) | 6, 15 => .res (.agg (memC ⟨0, 0, false⟩)) | _, _ => .no, [((2, 4), ([1, 2, 3, 4, 5, 6], 7)), ((2, 8), ([1, 2, 3, 4, 5, 7], 7))], fun | 6 => some ⟨[0, 3, 4], [18, 21, 23], .take true [0,1,2,3,4,5,6,7,10,11,12,13,14,15,16] (.two 8 17 (.two 9 17 (.take false [19,20] (.one 17 (.one 18 (.one 21 (.take false [22] (.one 23 .done)))))) (.one 9 (.take false [19,20] (.one 18 (.one 21 (.take false [22] (.one 23 .done))))))) (.one 8 (.one 9 (.take false [19,20] (.one 18 (.one 21 (.take false [22] (.one 23 .done))))))))⟩ | 13 => some ⟨[], [3], .take true [0,1] (.one 2 (.one 3 .done))⟩ | _ => none⟩) 400 (B := b1 = b1 ∧ bsplit (decide ((↑n : Int) < (↑(List.length XM) : Int))) (bsplit (decide ((↑n : Int) < (10 : Int))) (b4 = b4 ∧ b1 = b1 ∧ (0 : Int) ≤ (↑n : Int) ∧ XM[Int.toNat (↑n : Int)]? = some (T.agg [u8 (Mem.n { n := 0, l := 0, r := false }), u8 (Mem.l { n := 0, l := 0, r := false }), bool false]) ∧ b5 = b5 ∧ b1 = b1 ∧ (0 : Int) ≤ (↑n : Int) ∧ XM[Int.toNat (↑n : Int)]? = some (T.agg [u8 (Mem.n { n := 0, l := 0, r := false }), u8 (Mem.l { n := 0, l := 0, r := false }), bool false]) ∧ (((h1 = h1 ∧ List.length D = List.length D) ∧ Fits (List.length D + 1) (nat_lit 3) ∧ ∀ (x_1 : Value), (h2 = h2 ∧ List.length D = List.length D) ∧ Fits (List.length D + 1) (nat_lit 3) ∧ ∀ (x_2 : Value), (1 = nat_lit 1 ∧ List.all [T.slx 3 5 (D ++ [T.agg [u8 (Mem.n { n := 0, l := 0, r := false }), u8 (Mem.l { n := 0, l := 0, r := false }), bool false]]) x_1] T.one = true) ∧ b4 = b4 ∧ 24 + nat_lit 1 ≤ 34 ∧ (1 = nat_lit 1 ∧ List.all [T.slx 3 6 (D ++ [T.agg [u8 (Mem.n { n := 0, l := 0, r := false }), u8 (Mem.l { n := 0, l := 0, r := false }), bool false]]) x_2] T.one = true) ∧ b5 = b5 ∧ 24 + nat_lit 1 ≤ 34 ∧ TWk Tryd.prog Γ (fin Tryd.prog Tryd.f10 [] Q) [It.code (sub (bd Tryd.f10) [1, 1, 1, 0, 1, 0]), It.blk 0, It.code (sub (bd Tryd.f10) [1, 1, 1, 1])] { fr := frame 183 [(1, T.ptr 0 b1 0), (2, T.ptr 1 b2 0), (3, T.ptr 2 b3 0), (4, T.ptr 3 b4 0), (5, T.ptr 4 b5 0), (6, int (IntKind.wrap IntKind.i64 ((↑n : Int) + (1 : Int))))], ob := [(b1, Ob.cells (frS x (T.sl 3 XM) (T.sl 8 XE))), (b2, Ob.cells zC), (b3, Ob.cells zC), (b4, Ob.cells (frS x (T.slx 3 5 (D ++ [T.agg [u8 (Mem.n { n := 0, l := 0, r := false }), u8 (Mem.l { n := 0, l := 0, r := false }), bool false]]) x_1) (T.v nilS))), (b5, Ob.cells (frS x (T.slx 3 6 (D ++ [T.agg [u8 (Mem.n { n := 0, l := 0, r := false }), u8 (Mem.l { n := 0, l := 0, r := false }), bool false]]) x_2) (T.v nilS))), (0, Ob.room 3 97 (List.length (D ++ [T.agg [u8 (Mem.n { n := 0, l := 0, r := false }), u8 (Mem.l { n := 0, l := 0, r := false }), bool false]])) x_1), (0, Ob.room 3 99 (List.length (D ++ [T.agg [u8 (Mem.n { n := 0, l := 0, r := false }), u8 (Mem.l { n := 0, l := 0, r := false }), bool false]])) x_2)], gl := fun x => none }) ∧ (h1 = h1 ∧ List.length D = List.length D) ∧ Fits (List.length D + 1) (nat_lit 3) ∧ ∀ (x_1 : Value), (h2 = h2 ∧ List.length D = List.length D) ∧ Fits (List.length D + 1) (nat_lit 3) ∧ ∀ (x_2 : Value), (1 = nat_lit 1 ∧ List.all [T.slx 3 5 (D ++ [T.agg [u8 (Mem.n { n := 0, l := 0, r := false }), u8 (Mem.l { n := 0, l := 0, r := false }), bool false]]) x_1] T.one = true) ∧ b4 = b4 ∧ 24 + nat_lit 1 ≤ 34 ∧ (1 = nat_lit 1 ∧ List.all [T.slx 3 6 (D ++ [T.agg [u8 (Mem.n { n := 0, l := 0, r := false }), u8 (Mem.l { n := 0, l := 0, r := false }), bool false]]) x_2] T.one = true) ∧ b5 = b5 ∧ 24 + nat_lit 1 ≤ 34 ∧ TWk Tryd.prog Γ (fin Tryd.prog Tryd.f10 [] Q) [It.code (sub (bd Tryd.f10) [1, 1, 1, 0, 1, 0]), It.blk 0, It.code (sub (bd Tryd.f10) [1, 1, 1, 1])] { fr := frame 183 [(1, T.ptr 0 b1 0), (2, T.ptr 1 b2 0), (3, T.ptr 2 b3 0), (4, T.ptr 3 b4 0), (5, T.ptr 4 b5 0), (6, int (IntKind.wrap IntKind.i64 ((↑n : Int) + (1 : Int))))], ob := [(b1, Ob.cells (frS x (T.sl 3 XM) (T.sl 8 XE))), (b2, Ob.cells zC), (b3, Ob.cells zC), (b4, Ob.cells (frS x (T.slx 3 5 (D ++ [T.agg [u8 (Mem.n { n := 0, l := 0, r := false }), u8 (Mem.l { n := 0, l := 0, r := false }), bool false]]) x_1) (T.v nilS))), (b5, Ob.cells (frS x (T.slx 3 6 (D ++ [T.agg [u8 (Mem.n { n := 0, l := 0, r := false }), u8 (Mem.l { n := 0, l := 0, r := false }), bool false]]) x_2) (T.v nilS))), (0, Ob.room 3 97 (List.length (D ++ [T.agg [u8 (Mem.n { n := 0, l := 0, r := false }), u8 (Mem.l { n := 0, l := 0, r := false }), bool false]])) x_1), (0, Ob.room 3 99 (List.length (D ++ [T.agg [u8 (Mem.n { n := 0, l := 0, r := false }), u8 (Mem.l { n := 0, l := 0, r := false }), bool false]])) x_2)], gl := fun x => none }) ∧ (h1 = h1 ∧ List.length D = List.length D) ∧ Fits (List.length D + 1) (nat_lit 3) ∧ ∀ (x_1 : Value), (h2 = h2 ∧ List.length D = List.length D) ∧ Fits (List.length D + 1) (nat_lit 3) ∧ ∀ (x_2 : Value), (1 = nat_lit 1 ∧ List.all [T.slx 3 5 (D ++ [T.agg [u8 (Mem.n { n := 0, l := 0, r := false }), u8 (Mem.l { n := 0, l := 0, r := false }), bool false]]) x_1] T.one = true) ∧ b4 = b4 ∧ 24 + nat_lit 1 ≤ 34 ∧ (1 = nat_lit 1 ∧ List.all [T.slx 3 6 (D ++ [T.agg [u8 (Mem.n { n := 0, l := 0, r := false }), u8 (Mem.l { n := 0, l := 0, r := false }), bool false]]) x_2] T.one = true) ∧ b5 = b5 ∧ 24 + nat_lit 1 ≤ 34 ∧ TWk Tryd.prog Γ (fin Tryd.prog Tryd.f10 [] Q) [It.code (sub (bd Tryd.f10) [1, 1, 1, 0, 1, 0]), It.blk 0, It.code (sub (bd Tryd.f10) [1, 1, 1, 1])] { fr := frame 183 [(1, T.ptr 0 b1 0), (2, T.ptr 1 b2 0), (3, T.ptr 2 b3 0), (4, T.ptr 3 b4 0), (5, T.ptr 4 b5 0), (6, int (IntKind.wrap IntKind.i64 ((↑n : Int) + (1 : Int))))], ob := [(b1, Ob.cells (frS x (T.sl 3 XM) (T.sl 8 XE))), (b2, Ob.cells zC), (b3, Ob.cells zC), (b4, Ob.cells (frS x (T.slx 3 5 (D ++ [T.agg [u8 (Mem.n { n := 0, l := 0, r := false }), u8 (Mem.l { n := 0, l := 0, r := false }), bool false]]) x_1) (T.v nilS))), (b5, Ob.cells (frS x (T.slx 3 6 (D ++ [T.agg [u8 (Mem.n { n := 0, l := 0, r := false }), u8 (Mem.l { n := 0, l := 0, r := false }), bool false]]) x_2) (T.v nilS))), (0, Ob.room 3 97 (List.length (D ++ [T.agg [u8 (Mem.n { n := 0, l := 0, r := false }), u8 (Mem.l { n := 0, l := 0, r := false }), bool false]])) x_1), (0, Ob.room 3 99 (List.length (D ++ [T.agg [u8 (Mem.n { n := 0, l := 0, r := false }), u8 (Mem.l { n := 0, l := 0, r := false }), bool false]])) x_2)], gl := fun x => none }) (TWk Tryd.prog Γ (fin Tryd.prog Tryd.f10 [] Q) [It.code (sub (bd Tryd.f10) [1, 1, 1, 1, 0, 1, 0]), It.blk 2, It.code (sub (bd Tryd.f10) [1, 1, 1, 1, 1])] { fr := frame 183 [(1, T.ptr 0 b1 0), (2, T.ptr 1 b2 0), (3, T.ptr 2 b3 0), (4, T.ptr 3 b4 0), (5, T.ptr 4 b5 0), (7, int 0)], ob := [(b1, Ob.cells (frS x (T.sl 3 XM) (T.sl 8 XE))), (b2, Ob.cells zC), (b3, Ob.cells zC), (b4, Ob.cells (frS x (T.slx 3 5 D h1) (T.v nilS))), (b5, Ob.cells (frS x (T.slx 3 6 D h2) (T.v nilS))), (0, Ob.room 3 97 (List.length D) h1), (0, Ob.room 3 99 (List.length D) h2)], gl := fun x => none })) (TWk Tryd.prog Γ (fin Tryd.prog Tryd.f10 [] Q) [It.code (sub (bd Tryd.f10) [1, 1, 1, 1, 0, 1, 0]), It.blk 2, It.code (sub (bd Tryd.f10) [1, 1, 1, 1, 1])] { fr := frame 183 [(1, T.ptr 0 b1 0), (2, T.ptr 1 b2 0), (3, T.ptr 2 b3 0), (4, T.ptr 3 b4 0), (5, T.ptr 4 b5 0), (7, int 0)], ob := [(b1, Ob.cells (frS x (T.sl 3 XM) (T.sl 8 XE))), (b2, Ob.cells zC), (b3, Ob.cells zC), (b4, Ob.cells (frS x (T.slx 3 5 D h1) (T.v nilS))), (b5, Ob.cells (frS x (T.slx 3 6 D h2) (T.v nilS))), (0, Ob.room 3 97 (List.length D) h1), (0, Ob.room 3 99 (List.length D) h2)], gl := fun x => none })) (by kernel_rfl) ?_
    repeat' (first | exact rfl | exact Nat.le_of_ble_eq_true rfl | refine And.intro ?_ ?_ | intro _ | refine bsplit_mk (fun _ => ?_) (fun _ => ?_))
    all_goals first
      | exact en
      | (exfalso; have := of_decide_eq_true ‹decide ((n : Int) < (XM.length : Int)) = true›; omega)
      | trace_state
  | cons a r ih =>
    intro d h1 h2 h hd
    have hlen : d.length < (Row.aggs memC x.ms).length := by rw [Row.aggs_len, h]; simp
    have hdl : (Row.aggs memC d).length = d.length := Row.aggs_len d
    have hat : (Row.aggs memC x.ms)[(d.length : Int).toNat]? = some (.agg (memC a)) := Row.aggs_at (by rw [h]; simp)
    have en : ¬ d.length < 10 → _ := fun g => go (Row.aggs memC d) h1 h2 (by rw [h, show 10 = d.length by omega, List.take_left])
    have nx : d.length < 10 → ∀ h1 h2, TWk Tryd.prog Γ (fin Tryd.prog Tryd.f10 [] Q) [.code (sub (bd Tryd.f10) [1, 1, 1, 0, 1, 0]), .blk 0, .code (sub (bd Tryd.f10) [1, 1, 1, 1])] ⟨frame 183 [(1, .ptr 0 b1 0), (2, .ptr 1 b2 0), (3, .ptr 2 b3 0), (4, .ptr 3 b4 0), (5, .ptr 4 b5 0), (6, int ((d.length : Int) + 1))], obsT1 b1 b2 b3 b4 b5 x (Row.aggs memC d ++ [.agg (memC a)]) h1 h2, none_⟩ := fun g h1 h2 => by
      have := ih (d ++ [a]) h1 h2 (by rw [h]; simp) (by simp; omega)
      rw [Row.aggs_snoc, show ((d ++ [a]).length : Int) = (d.length : Int) + 1 by simp] at this
      exact this
    have hw : T.v (.int .i64 (IntKind.wrap .i64 ((d.length : Int) + 1))) = int ((d.length : Int) + 1) := congrArg int (wrap_i64 (by omega) (by omega))
    clear go ih
    unfold obsT1 frC frS rmA rmB memC at *
    generalize Row.aggs entC x.es = XE at *
    generalize Row.aggs _ x.ms = XM at *
    generalize Row.aggs _ d = D at *
    generalize d.length = n at *
    refine run_sound (⟨fun | 6, 6 => .res (.agg [u8 a.n, u8 a.l, bool a.r]) | 6, 15 => .res (.agg [u8 a.n, u8 a.l, bool a.r]) | 5, 1 => .res (int ((n : Int) + 1)) | _, _ => .no, [((2, 4), ([1, 2, 3, 4, 5, 6], 7)), ((2, 8), ([1, 2, 3, 4, 5, 7], 7))], fun | 6 => some ⟨[0, 3, 4], [18, 21, 23], .take true [0,1,2,3,4,5,6,7,10,11,12,13,14,15,16] (.two 8 17 (.two 9 17 (.take false [19,20] (.one 17 (.one 18 (.one 21 (.take false [22] (.one 23 .done)))))) (.one 9 (.take false [19,20] (.one 18 (.one 21 (.take false [22] (.one 23 .done))))))) (.one 8 (.one 9 (.take false [19,20] (.one 18 (.one 21 (.take false [22] (.one 23 .done))))))))⟩ | 13 => some ⟨[], [3], .take true [0,1] (.one 2 (.one 3 .done))⟩ | _ => none⟩) 400 (B := b1 = b1 ∧ bsplit (decide ((↑n : Int) < (↑(List.length XM) : Int))) (bsplit (decide ((↑n : Int) < (10 : Int))) (b4 = b4 ∧ b1 = b1 ∧ (0 : Int) ≤ (↑n : Int) ∧ XM[Int.toNat (↑n : Int)]? = some (T.agg [u8 (Mem.n a), u8 (Mem.l a), bool (Mem.r a)]) ∧ b5 = b5 ∧ b1 = b1 ∧ (0 : Int) ≤ (↑n : Int) ∧ XM[Int.toNat (↑n : Int)]? = some (T.agg [u8 (Mem.n a), u8 (Mem.l a), bool (Mem.r a)]) ∧ (((h1 = h1 ∧ List.length D = List.length D) ∧ Fits (List.length D + 1) (nat_lit 3) ∧ ∀ (x_1 : Value), (h2 = h2 ∧ List.length D = List.length D) ∧ Fits (List.length D + 1) (nat_lit 3) ∧ ∀ (x_2 : Value), (1 = nat_lit 1 ∧ List.all [T.slx 3 5 (D ++ [T.agg [u8 (Mem.n a), u8 (Mem.l a), bool (Mem.r a)]]) x_1] T.one = true) ∧ b4 = b4 ∧ 24 + nat_lit 1 ≤ 34 ∧ (1 = nat_lit 1 ∧ List.all [T.slx 3 6 (D ++ [T.agg [u8 (Mem.n a), u8 (Mem.l a), bool (Mem.r a)]]) x_2] T.one = true) ∧ b5 = b5 ∧ 24 + nat_lit 1 ≤ 34 ∧ int (IntKind.wrap IntKind.i64 ((↑n : Int) + (1 : Int))) = int ((↑n : Int) + (1 : Int)) ∧ TWk Tryd.prog Γ (fin Tryd.prog Tryd.f10 [] Q) [It.code (sub (bd Tryd.f10) [1, 1, 1, 0, 1, 0]), It.blk 0, It.code (sub (bd Tryd.f10) [1, 1, 1, 1])] { fr := frame 183 [(1, T.ptr 0 b1 0), (2, T.ptr 1 b2 0), (3, T.ptr 2 b3 0), (4, T.ptr 3 b4 0), (5, T.ptr 4 b5 0), (6, int ((↑n : Int) + (1 : Int)))], ob := [(b1, Ob.cells (frS x (T.sl 3 XM) (T.sl 8 XE))), (b2, Ob.cells zC), (b3, Ob.cells zC), (b4, Ob.cells (frS x (T.slx 3 5 (D ++ [T.agg [u8 (Mem.n a), u8 (Mem.l a), bool (Mem.r a)]]) x_1) (T.v nilS))), (b5, Ob.cells (frS x (T.slx 3 6 (D ++ [T.agg [u8 (Mem.n a), u8 (Mem.l a), bool (Mem.r a)]]) x_2) (T.v nilS))), (0, Ob.room 3 97 (List.length (D ++ [T.agg [u8 (Mem.n a), u8 (Mem.l a), bool (Mem.r a)]])) x_1), (0, Ob.room 3 99 (List.length (D ++ [T.agg [u8 (Mem.n a), u8 (Mem.l a), bool (Mem.r a)]])) x_2)], gl := fun x => none }) ∧ (h1 = h1 ∧ List.length D = List.length D) ∧ Fits (List.length D + 1) (nat_lit 3) ∧ ∀ (x_1 : Value), (h2 = h2 ∧ List.length D = List.length D) ∧ Fits (List.length D + 1) (nat_lit 3) ∧ ∀ (x_2 : Value), (1 = nat_lit 1 ∧ List.all [T.slx 3 5 (D ++ [T.agg [u8 (Mem.n a), u8 (Mem.l a), bool (Mem.r a)]]) x_1] T.one = true) ∧ b4 = b4 ∧ 24 + nat_lit 1 ≤ 34 ∧ (1 = nat_lit 1 ∧ List.all [T.slx 3 6 (D ++ [T.agg [u8 (Mem.n a), u8 (Mem.l a), bool (Mem.r a)]]) x_2] T.one = true) ∧ b5 = b5 ∧ 24 + nat_lit 1 ≤ 34 ∧ int (IntKind.wrap IntKind.i64 ((↑n : Int) + (1 : Int))) = int ((↑n : Int) + (1 : Int)) ∧ TWk Tryd.prog Γ (fin Tryd.prog Tryd.f10 [] Q) [It.code (sub (bd Tryd.f10) [1, 1, 1, 0, 1, 0]), It.blk 0, It.code (sub (bd Tryd.f10) [1, 1, 1, 1])] { fr := frame 183 [(1, T.ptr 0 b1 0), (2, T.ptr 1 b2 0), (3, T.ptr 2 b3 0), (4, T.ptr 3 b4 0), (5, T.ptr 4 b5 0), (6, int ((↑n : Int) + (1 : Int)))], ob := [(b1, Ob.cells (frS x (T.sl 3 XM) (T.sl 8 XE))), (b2, Ob.cells zC), (b3, Ob.cells zC), (b4, Ob.cells (frS x (T.slx 3 5 (D ++ [T.agg [u8 (Mem.n a), u8 (Mem.l a), bool (Mem.r a)]]) x_1) (T.v nilS))), (b5, Ob.cells (frS x (T.slx 3 6 (D ++ [T.agg [u8 (Mem.n a), u8 (Mem.l a), bool (Mem.r a)]]) x_2) (T.v nilS))), (0, Ob.room 3 97 (List.length (D ++ [T.agg [u8 (Mem.n a), u8 (Mem.l a), bool (Mem.r a)]])) x_1), (0, Ob.room 3 99 (List.length (D ++ [T.agg [u8 (Mem.n a), u8 (Mem.l a), bool (Mem.r a)]])) x_2)], gl := fun x => none }) ∧ (h1 = h1 ∧ List.length D = List.length D) ∧ Fits (List.length D + 1) (nat_lit 3) ∧ ∀ (x_1 : Value), (h2 = h2 ∧ List.length D = List.length D) ∧ Fits (List.length D + 1) (nat_lit 3) ∧ ∀ (x_2 : Value), (1 = nat_lit 1 ∧ List.all [T.slx 3 5 (D ++ [T.agg [u8 (Mem.n a), u8 (Mem.l a), bool (Mem.r a)]]) x_1] T.one = true) ∧ b4 = b4 ∧ 24 + nat_lit 1 ≤ 34 ∧ (1 = nat_lit 1 ∧ List.all [T.slx 3 6 (D ++ [T.agg [u8 (Mem.n a), u8 (Mem.l a), bool (Mem.r a)]]) x_2] T.one = true) ∧ b5 = b5 ∧ 24 + nat_lit 1 ≤ 34 ∧ int (IntKind.wrap IntKind.i64 ((↑n : Int) + (1 : Int))) = int ((↑n : Int) + (1 : Int)) ∧ TWk Tryd.prog Γ (fin Tryd.prog Tryd.f10 [] Q) [It.code (sub (bd Tryd.f10) [1, 1, 1, 0, 1, 0]), It.blk 0, It.code (sub (bd Tryd.f10) [1, 1, 1, 1])] { fr := frame 183 [(1, T.ptr 0 b1 0), (2, T.ptr 1 b2 0), (3, T.ptr 2 b3 0), (4, T.ptr 3 b4 0), (5, T.ptr 4 b5 0), (6, int ((↑n : Int) + (1 : Int)))], ob := [(b1, Ob.cells (frS x (T.sl 3 XM) (T.sl 8 XE))), (b2, Ob.cells zC), (b3, Ob.cells zC), (b4, Ob.cells (frS x (T.slx 3 5 (D ++ [T.agg [u8 (Mem.n a), u8 (Mem.l a), bool (Mem.r a)]]) x_1) (T.v nilS))), (b5, Ob.cells (frS x (T.slx 3 6 (D ++ [T.agg [u8 (Mem.n a), u8 (Mem.l a), bool (Mem.r a)]]) x_2) (T.v nilS))), (0, Ob.room 3 97 (List.length (D ++ [T.agg [u8 (Mem.n a), u8 (Mem.l a), bool (Mem.r a)]])) x_1), (0, Ob.room 3 99 (List.length (D ++ [T.agg [u8 (Mem.n a), u8 (Mem.l a), bool (Mem.r a)]])) x_2)], gl := fun x => none }) (TWk Tryd.prog Γ (fin Tryd.prog Tryd.f10 [] Q) [It.code (sub (bd Tryd.f10) [1, 1, 1, 1, 0, 1, 0]), It.blk 2, It.code (sub (bd Tryd.f10) [1, 1, 1, 1, 1])] { fr := frame 183 [(1, T.ptr 0 b1 0), (2, T.ptr 1 b2 0), (3, T.ptr 2 b3 0), (4, T.ptr 3 b4 0), (5, T.ptr 4 b5 0), (7, int 0)], ob := [(b1, Ob.cells (frS x (T.sl 3 XM) (T.sl 8 XE))), (b2, Ob.cells zC), (b3, Ob.cells zC), (b4, Ob.cells (frS x (T.slx 3 5 D h1) (T.v nilS))), (b5, Ob.cells (frS x (T.slx 3 6 D h2) (T.v nilS))), (0, Ob.room 3 97 (List.length D) h1), (0, Ob.room 3 99 (List.length D) h2)], gl := fun x => none })) (TWk Tryd.prog Γ (fin Tryd.prog Tryd.f10 [] Q) [It.code (sub (bd Tryd.f10) [1, 1, 1, 1, 0, 1, 0]), It.blk 2, It.code (sub (bd Tryd.f10) [1, 1, 1, 1, 1])] { fr := frame 183 [(1, T.ptr 0 b1 0), (2, T.ptr 1 b2 0), (3, T.ptr 2 b3 0), (4, T.ptr 3 b4 0), (5, T.ptr 4 b5 0), (7, int 0)], ob := [(b1, Ob.cells (frS x (T.sl 3 XM) (T.sl 8 XE))), (b2, Ob.cells zC), (b3, Ob.cells zC), (b4, Ob.cells (frS x (T.slx 3 5 D h1) (T.v nilS))), (b5, Ob.cells (frS x (T.slx 3 6 D h2) (T.v nilS))), (0, Ob.room 3 97 (List.length D) h1), (0, Ob.room 3 99 (List.length D) h2)], gl := fun x => none })) (by kernel_rfl) ?_
    repeat' (first | exact rfl | exact Nat.le_of_ble_eq_true rfl | refine And.intro ?_ ?_ | intro _ | refine bsplit_mk (fun _ => ?_) (fun _ => ?_))
    all_goals first
      | exact hat
      | exact hw
      | (exfalso; have := of_decide_eq_false ‹decide ((n : Int) < (XM.length : Int)) = false›; omega)
      | exact nx (by have := of_decide_eq_true ‹decide ((n : Int) < 10) = true›; omega) _ _
      | exact en (by have := of_decide_eq_false ‹decide ((n : Int) < 10) = false›; omega)
      | (simp [maxLen]; omega)
      | omega
      | trace_state
end
end X6
end Go.Proofs.YtaepgceodcdnhaaDoor.Vm
/- Frames by the engine: the law's told, speaks. -/
namespace Go.Proofs.YtaepgceodcdnhaaDoor.Vm
open Go Go.RowKit
set_option maxRecDepth 100000
namespace X6
open Frm (Cmd Mem Ent Lvs Fm)
theorem told_any (x : Fm) : TCalls Tryd.prog 10 [.agg (frC x)] [] none_ (callPost (told (.tup [.agg (frC (cutF x)), .agg (frC (cutF x))]) [] [])) := by
  have hQ : callPost (told (.tup [.agg (frC (cutF x)), .agg (frC (cutF x))]) [] []) (.tup [.agg (frS x (.sl 3 (Row.aggs memC (x.ms.take 10))) (.sl 8 (Row.aggs entC (x.es.take 18)))), .agg (frS x (.sl 3 (Row.aggs memC (x.ms.take 10))) (.sl 8 (Row.aggs entC (x.es.take 18))))]) [] none_ := told_post (by rw [frC_cut])
  generalize callPost (told (.tup [.agg (frC (cutF x)), .agg (frC (cutF x))]) [] []) = Q at *
  have lp : ∀ (Γ : Ctx) (b1 b2 b3 b4 b5 : Nat), TWk Tryd.prog Γ (fin Tryd.prog Tryd.f10 [] Q) [.code (sub (bd Tryd.f10) [1, 1, 1, 0, 1, 0]), .blk 0, .code (sub (bd Tryd.f10) [1, 1, 1, 1])] ⟨frame 183 [(1, .ptr 0 b1 0), (2, .ptr 1 b2 0), (3, .ptr 2 b3 0), (4, .ptr 3 b4 0), (5, .ptr 4 b5 0), (6, int 0)], [(b1, .cells (frC x)), (b2, .cells zC), (b3, .cells zC), (b4, .cells (frS x (.v nilS) (.v nilS))), (b5, .cells (frS x (.v nilS) (.v nilS)))], none_⟩ := fun Γ b1 b2 b3 b4 b5 => by
    have l1 := told_l1 Γ b1 b2 b3 b4 b5 x Q hQ x.ms [] nilS nilS rfl (by simp)
    have l1 := TWk.imp (s := ⟨frame 183 [(1, .ptr 0 b1 0), (2, .ptr 1 b2 0), (3, .ptr 2 b3 0), (4, .ptr 3 b4 0), (5, .ptr 4 b5 0), (6, int 0)], [(b1, .cells (frC x)), (b2, .cells zC), (b3, .cells zC), (b4, .cells (frS x (.v nilS) (.v nilS))), (b5, .cells (frS x (.v nilS) (.v nilS)))] ++ [rmA [] nilS], none_⟩) l1
      ((Imp.room (ob := [(b1, .cells (frC x)), (b2, .cells zC), (b3, .cells zC), (b4, .cells (frS x (.v nilS) (.v nilS))), (b5, .cells (frS x (.v nilS) (.v nilS))), rmA [] nilS]) 3 99).trans
      ((Imp.cell 3 5 (ob := [(b1, .cells (frC x)), (b2, .cells zC), (b3, .cells zC), (b4, .cells (frS x (.v nilS) (.v nilS))), (b5, .cells (frS x (.v nilS) (.v nilS))), rmA [] nilS, rmB [] nilS]) (i := 3) (j := 24) (b := b4) (cs := frS x (.v nilS) (.v nilS)) rfl rfl).trans
        (Imp.cell 3 6 (ob := [(b1, .cells (frC x)), (b2, .cells zC), (b3, .cells zC), (b4, .cells (frS x (.slx 3 5 [] nilS) (.v nilS))), (b5, .cells (frS x (.v nilS) (.v nilS))), rmA [] nilS, rmB [] nilS]) (i := 4) (j := 24) (b := b5) (cs := frS x (.v nilS) (.v nilS)) rfl rfl)))
    exact TWk.imp l1 (Imp.room (ob := [(b1, .cells (frC x)), (b2, .cells zC), (b3, .cells zC), (b4, .cells (frS x (.v nilS) (.v nilS))), (b5, .cells (frS x (.v nilS) (.v nilS)))]) 3 97)
  clear hQ
  unfold frC frS at *
  generalize Row.aggs memC x.ms = XM at *
  generalize Row.aggs entC x.es = XE at *
  refine TCalls.of Tryd.func10 rfl (CanCall.of Tryd.func10 rfl (by decide)) [] fun Γ => ?_
  refine run_sound (⟨fun  | _, _ => .no, [((2, 4), ([1, 2, 3, 4, 5, 6], 5))], fun | 6 => some ⟨[], [18, 21, 23], .take true [0,1,2,3,4,5,6,7,10,11,12,13,14,15,16] (.two 8 17 (.two 9 17 (.take false [19,20] (.one 17 (.one 18 (.one 21 (.take false [22] (.one 23 .done)))))) (.one 9 (.take false [19,20] (.one 18 (.one 21 (.take false [22] (.one 23 .done))))))) (.one 8 (.one 9 (.take false [19,20] (.one 18 (.one 21 (.take false [22] (.one 23 .done))))))))⟩ | 13 => some ⟨[], [3], .take true [0,1] (.one 2 (.one 3 .done))⟩ | _ => none⟩) 400 (B := ∀ (b b_1 b_2 : Nat), b = b ∧ b = b ∧ b = b ∧ b = b ∧ b = b ∧ b = b ∧ b = b ∧ b = b ∧ b = b ∧ b = b ∧ b = b ∧ b = b ∧ b = b ∧ b = b ∧ b = b ∧ b = b ∧ b = b ∧ b = b ∧ b = b ∧ b = b ∧ b = b ∧ ∀ (b_3 : Nat), (34 = nat_lit 34 ∧ List.all (frS x (T.v nilS) (T.v nilS)) T.one = true) ∧ b_3 = b_3 ∧ 0 + nat_lit 34 ≤ 34 ∧ b = b ∧ b = b ∧ b = b ∧ b = b ∧ b = b ∧ b = b ∧ b = b ∧ b = b ∧ b = b ∧ b = b ∧ b = b ∧ b = b ∧ b = b ∧ b = b ∧ b = b ∧ b = b ∧ b = b ∧ b = b ∧ b = b ∧ b = b ∧ b = b ∧ ∀ (b_4 : Nat), (34 = nat_lit 34 ∧ List.all (frS x (T.v nilS) (T.v nilS)) T.one = true) ∧ b_4 = b_4 ∧ 0 + nat_lit 34 ≤ 34 ∧ TWk Tryd.prog Γ (fin Tryd.prog Tryd.f10 [] Q) [It.code (sub (bd Tryd.f10) [1, 1, 1, 0, 1, 0]), It.blk 0, It.code (sub (bd Tryd.f10) [1, 1, 1, 1])] { fr := frame 183 [(1, T.ptr 0 b 0), (2, T.ptr 1 b_1 0), (3, T.ptr 2 b_2 0), (4, T.ptr 3 b_3 0), (5, T.ptr 4 b_4 0), (6, int 0)], ob := [(b, Ob.cells (frS x (T.sl 3 XM) (T.sl 8 XE))), (b_1, Ob.cells zC), (b_2, Ob.cells zC), (b_3, Ob.cells (frS x (T.v nilS) (T.v nilS))), (b_4, Ob.cells (frS x (T.v nilS) (T.v nilS)))], gl := fun x => none }) (by kernel_rfl) ?_
  repeat' (first | exact rfl | exact Nat.le_of_ble_eq_true rfl | refine And.intro ?_ ?_ | intro _ | refine bsplit_mk (fun _ => ?_) (fun _ => ?_))
  all_goals first
    | exact lp _ _ _ _ _ _
    | trace_state
end X6
end Go.Proofs.YtaepgceodcdnhaaDoor.Vm
/- Frames by the engine: the law's speaks. -/
namespace Go.Proofs.YtaepgceodcdnhaaDoor.Vm
open Go Go.RowKit
set_option maxRecDepth 100000
namespace X6
open Frm (Cmd Mem Ent Lvs Fm decR)
theorem rel_agg_set {M : Pm} {cs : List T} {j : Nat} {t t' : T} {v : Value} (hj : cs[j]? = some t) (h : ∀ v, Rel M t v → Rel M t' v) (r : Rel M (.agg cs) v) : Rel M (.agg (cs.set j t')) v := by
  simp only [Rel] at r ⊢
  obtain ⟨ys, rfl, r⟩ := r
  obtain ⟨y, h1, h2⟩ := r.get hj
  have h3 := r.set j (h y h2)
  have e : ys.toList.set j y = ys.toList := by
    obtain ⟨hl, he⟩ := List.getElem?_eq_some_iff.1 h1
    rw [← he, List.set_getElem_self]
  rw [e] at h3
  exact ⟨ys, rfl, h3⟩
def nd : Fm := ⟨4, 1, 2, 3, 4, 0, 0, 0, false, [], false, false, 0, 0, 0, 0, 0, 0, ⟨0, 0, 0, 0, 0⟩, 0, [], ⟨0, 0, 0, 0, 0, 0, 0, 0⟩, []⟩
def ndS : List UInt8 := [4, 1, 2, 0, 0, 0, 3, 4, 246, 236, 151, 38]
theorem nd_ok : nd.Ok := by
  constructor <;> first | decide | (intro x hx; cases hx) | (constructor <;> decide)
theorem nd_enc : nd.enc = (ndS, 0) := of_decide_eq_true (by kernel_rfl)
theorem nd_dec : decR ndS = (nd, 0) := of_decide_eq_true (by kernel_rfl)
/-- a frame with slices that are nil -/
theorem enc_nil (f : Fm) (hf : f.Ok) (hm : f.ms = []) (he : f.es = []) : TCalls Tryd.prog 11 [.agg (frS f (.v nilS) (.v nilS))] obsF none_ (callPost (told (encT f) [0] obsF)) := by
  have h := enc_any f hf
  have e : frC f = frS f (.sl 3 []) (.sl 8 []) := by unfold frC frS; rw [hm, he]; rfl
  rw [e] at h
  have h1 : TCalls Tryd.prog 11 [.agg (frS f (.v nilS) (.sl 8 []))] obsF none_ (callPost (told (encT f) [0] obsF)) :=
    h.pre (Imp.slotR (ts := [.agg (frS f (.v nilS) (.sl 8 []))]) (j := 0) (t' := .agg (frS f (.sl 3 []) (.sl 8 []))) rfl (fun M v r => rel_agg_set (cs := frS f (.v nilS) (.sl 8 [])) (j := 24) (t := .v nilS) (t' := .sl 3 []) rfl (fun v r => rel_nil0 r) r))
  exact h1.pre (Imp.slotR (ts := [.agg (frS f (.v nilS) (.v nilS))]) (j := 0) (t' := .agg (frS f (.v nilS) (.sl 8 []))) rfl (fun M v r => rel_agg_set (cs := frS f (.v nilS) (.v nilS)) (j := 33) (t := .v nilS) (t' := .sl 8 []) rfl (fun v r => rel_nil0 r) r))
theorem dec_post (l : List UInt8) (hl : l.length ≤ 1000000000) : TCalls Tryd.prog 13 [str l] obsF none_ (callPost (told (decT (decR l)) [0] obsF)) := dec_any l hl _ (told_post rfl)
theorem speaks_any : TCalls Tryd.prog 9 [] obsF none_ (callPost (told (bool true) [0] obsF)) := by
  have hQ : ∀ y, y = bool true → callPost (told (bool true) [0] obsF) y obsF none_ := fun y h => told_post h
  generalize callPost (told (bool true) [0] obsF) = Q at *
  have c1 := enc_nil nd nd_ok rfl rfl
  have c2 := dec_post ndS (by decide)
  rw [nd_dec] at c2
  rw [show encT nd = .tup [str ndS, int 0] from by unfold encT; rw [nd_enc]] at c1
  have hd : decT (nd, 0) = .tup [.agg (frS nd (.sl 3 []) (.sl 8 [])), int 0] := rfl
  rw [hd] at c2
  clear hd
  unfold frS nd at *
  dsimp only at *
  unfold obsF at *
  generalize fixF = F at *
  refine TCalls.of Tryd.func9 rfl (CanCall.of Tryd.func9 rfl (by decide)) [0] fun Γ => ?_
  refine run_sound (⟨fun | 1, 2 => told (.tup [str ndS, int 0]) [0] [(0, .fix F)] | 2, 1 => told (.tup [.agg [u8 4, u8 1, u8 2, u32 3, u8 4, u32 0, u8 0, u8 0, bool false, str [], bool false, bool false, u8 0, u8 0, u32 0, u32 0, u8 0, u32 0, u8 0, u8 0, u8 0, u32 0, u32 0, u32 0, .sl 3 [], u8 0, u8 0, u8 0, u8 0, u8 0, u8 0, u8 0, u8 0, .sl 8 []], int 0]) [0] [(0, .fix F)] | _, _ => .no, [], fun  | _ => none⟩) 400 (B := TCalls Tryd.prog 11 [T.agg [u8 4, u8 1, u8 2, u32 3, u8 4, u32 0, u8 0, u8 0, bool false, str [], bool false, bool false, u8 0, u8 0, u32 0, u32 0, u8 0, u32 0, u8 0, u8 0, u8 0, u32 0, u32 0, u32 0, T.v nilS, u8 0, u8 0, u8 0, u8 0, u8 0, u8 0, u8 0, u8 0, T.v nilS]] [(0, Ob.fix F)] none_ (callPost (Hint.call false Unit (fun x => True) [0] false (fun x => T.tup [str ndS, int 0]) (fun x => [(0, Ob.fix F)]) fun x => none_)) ∧ ∀ (a : Unit), True → TCalls Tryd.prog 13 [str ndS] [(0, Ob.fix F)] none_ (callPost (Hint.call false Unit (fun x => True) [0] false (fun x => T.tup [T.agg (let y := let y := let y := [u8 0, u8 0, u8 0, u8 0, T.sl 8 []]; u8 0 :: u8 0 :: u8 0 :: u8 0 :: y; let y := u32 0 :: u32 0 :: u32 0 :: T.sl 3 [] :: y; u32 0 :: u8 0 :: u8 0 :: u8 0 :: y; let y := let y := u8 0 :: u8 0 :: u32 0 :: u32 0 :: u8 0 :: y; bool false :: str [] :: bool false :: bool false :: y; let y := u8 4 :: u32 0 :: u8 0 :: u8 0 :: y; u8 4 :: u8 1 :: u8 2 :: u32 3 :: y), int 0]) (fun x => [(0, Ob.fix F)]) fun x => none_)) ∧ ∀ (a : Unit), True → ∀ (b : Nat), (34 = nat_lit 34 ∧ List.all [u8 4, u8 1, u8 2, u32 3, u8 4, u32 0, u8 0, u8 0, bool false, str [], bool false, bool false, u8 0, u8 0, u32 0, u32 0, u8 0, u32 0, u8 0, u8 0, u8 0, u32 0, u32 0, u32 0, T.sl 3 [], u8 0, u8 0, u8 0, u8 0, u8 0, u8 0, u8 0, u8 0, T.sl 8 []] T.one = true) ∧ b = b ∧ 0 + nat_lit 34 ≤ 34 ∧ ((0 : Int) ≤ (↑(0 : Nat) : Int) ∧ (↑(0 : Nat) : Int) ≤ Prod.snd (IntKind.i64, (8 : Int)) ∧ Prod.snd (IntKind.i64, (8 : Int)) ≤ (↑(ByteArray.size (ByteArray.mk (List.toArray ndS))) : Int)) ∧ b = b ∧ b = b ∧ b = b ∧ Q (bool true) [(0, Ob.fix F)] fun x => none) (by kernel_rfl) ?_
  repeat' (first | exact rfl | exact Nat.le_of_ble_eq_true rfl | refine And.intro ?_ ?_ | intro _ | refine bsplit_mk (fun _ => ?_) (fun _ => ?_))
  all_goals first
    | exact c1
    | exact c2
    | exact hQ _ rfl
    | exact Int.le_refl _
    | (show (0 : Int) ≤ 8; decide)
    | (show (8 : Int) ≤ 12; decide)
    | trace_state
end X6
end Go.Proofs.YtaepgceodcdnhaaDoor.Vm
/-
  The variable frame.fields as start-up laid it: its cells are promised. No condition of its own.
-/
namespace Go.Proofs.YtaepgceodcdnhaaDoor.Vm
open Go Go.RowKit Go.ChangeShapes Go.WideShapes Go.ChangeAt
namespace X6
def laidF : List (String × DataW Unit) := [("talaria/frame.fields", Rows.laid_talaria_frame_fields)]
theorem gF : Tryd.prog.globalNamed "talaria/frame.fields" = some 0 := by kernel_rfl
theorem tF : (Tryd.prog.globals[0]?).map (·.type) = some 145 := by kernel_rfl
theorem uF : Tryd.prog.underlying 145 = some (.array 17 9) := by kernel_rfl
theorem uS : Tryd.prog.underlying 9 = some .string := by kernel_rfl
theorem sizeS : Tryd.prog.cellsOf 9 = 1 := by kernel_rfl
def lsF : List (List UInt8) := Frm.fields.map letS
theorem fixF_ls : fixF = lsF.map str := by unfold fixF lsF; rw [List.map_map]; rfl
theorem rel_fix {W : World} {g : Nat} {cs : List Value} (hc : ∀ i, W.cell? ⟨g, i, none⟩ = cs[i]?) : ∀ (ls : List (List UInt8)) (o : Nat), (∀ i l, ls[i]? = some l → cs[o + i]? = some (.string ⟨l.toArray⟩)) → RelA (promOf W) g (ls.map str) o
  | [], _, _ => trivial
  | l :: ls, o, h => by
    refine ⟨⟨.string ⟨l.toArray⟩, promOf_some ((hc o).trans (by have := h 0 l rfl; simpa using this)) rfl, rfl⟩, rel_fix hc ls (o + 1) fun i l' hl => ?_⟩
    have := h (i + 1) l' (by simpa using hl)
    rwa [show o + (i + 1) = o + 1 + i by omega] at this
theorem laid_fix {W : World} (h : laidMetH Tryd.prog laidF W) : ∀ x ∈ obsF, ObRel (promOf W) W x := by
  rw [MakeChecks.laidMetH_plain _ _ _ (by kernel_rfl)] at h
  obtain ⟨ps, ⟨g0, t0, cs0, f0, p0, q0, hg0, ht0, hv0, hd0, _⟩, _⟩ := h
  obtain rfl := Option.some.inj (gF.symm.trans hg0)
  obtain rfl := Option.some.inj (tF.symm.trans ht0)
  obtain ⟨xs, m1, rfl, hx1, hlen, hn, hel⟩ := DataW.trod_array uF hd0
  rw [sizeS] at hel
  have hx2 : xs.map (·.1) = lsF.map fun l => DataW.lit (.string l) := by
    have := congrArg Prod.fst hx1
    exact DataW.agg.inj (this.symm.trans (show Rows.laid_talaria_frame_fields = DataW.agg (lsF.map fun l => DataW.lit (.string l)) from rfl))
  have hcell : ∀ i, W.cell? ⟨0, i, none⟩ = cs0.toList[i]? := fun i => by
    rw [World.var?_cell hg0 hv0 i, Array.getElem?_toList]
  intro x hx
  obtain rfl := List.mem_singleton.1 hx
  rw [fixF_ls]
  refine rel_fix hcell lsF 0 fun i l hl => ?_
  have hi : i < 17 := (List.getElem?_eq_some_iff.1 hl).1
  have h1 := hel i hi
  have hxi : (xs.map (·.1))[i]? = some (DataW.lit (.string l)) := by rw [hx2, List.getElem?_map, hl]; rfl
  rw [List.getElem?_map] at hxi
  obtain ⟨y, hy, hy1⟩ := Option.map_eq_some_iff.1 hxi
  rw [hy] at h1
  obtain ⟨s, e1, e2, _⟩ := DataW.trod_string uS h1
  have e3 : (DataW.lit (.string l) : DataW Unit) = .lit (.string s.data.toList) := by rw [← hy1, e2]
  have e4 : l = s.data.toList := by
    generalize s.data.toList = r at e3
    exact Lit.string.inj (DataW.lit.inj e3)
  have e5 : cs0.toList[i]? = some (.string s) := by
    have := congrArg (fun z => z[0]?) e1
    simpa using this
  rw [Nat.zero_add, e5, e4]
end X6
end Go.Proofs.YtaepgceodcdnhaaDoor.Vm
