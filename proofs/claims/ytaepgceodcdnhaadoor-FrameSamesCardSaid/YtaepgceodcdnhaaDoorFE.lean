/- Frames by the engine: the reader of a frame. -/
import Derived.Test.YtaepgceodcdnhaaDoorFD
import Derived.Test.YtaepgceodcdnhaaDoorFrm2
namespace Go.Proofs.YtaepgceodcdnhaaDoor.Vm
open Go Go.RowKit
set_option maxRecDepth 100000
namespace X6
open Frm (Cmd Mem Ent Lvs Fm RS rnum rgo must wrong endE flagB flagS markS cmdR cmdS cntS cntN txtN txtX txtS valR)
open Oct (getN takeL)
open X1 (obsD rdH rdC)
theorem end_any (b : Nat) (l : List UInt8) (e : Int) (x : Bool) : TCalls Tryd.prog 44 [.ptr 0 b 0] (obsD b l e) none_ (callPost (told (int (endE ⟨l, e, x⟩)) [0] (obsD b l e))) := by
  have hQ : ∀ y, y = int (endE ⟨l, e, x⟩) → callPost (told (int (endE ⟨l, e, x⟩)) [0] (obsD b l e)) y (obsD b l e) none_ := fun y h => told_post h
  generalize callPost (told (int (endE ⟨l, e, x⟩)) [0] (obsD b l e)) = Q at *
  unfold Frm.endE at hQ
  by_cases he : e = 0
  · subst he
    rw [if_neg (show ¬ (0 : Int) ≠ 0 by decide)] at hQ
    by_cases hl : l = []
    · subst hl
      refine TCalls.of Tryd.func44 rfl (CanCall.of Tryd.func44 rfl (by decide)) [0] fun Γ => ?_
      refine run_sound (⟨fun _ _ => .no, [], fun _ => none⟩) 400 (B := b = b ∧ b = b ∧ Q (T.v (Value.int IntKind.i64 (0 : Int))) [(b, Ob.cells [T.v (Value.string (ByteArray.mk (#[]))), T.v (Value.int IntKind.i64 (0 : Int))])] fun x => none) (by kernel_rfl) ?_
      repeat' (first | exact rfl | exact Nat.le_of_ble_eq_true rfl | refine And.intro ?_ ?_ | intro _ | refine bsplit_mk (fun _ => ?_) (fun _ => ?_))
      all_goals first
        | exact hQ _ rfl
        | trace_state
    · rw [if_pos hl] at hQ
      have hne : decide ((⟨l.toArray⟩ : ByteArray) = ByteArray.mk #[]) = false := decide_eq_false (fun h => hl (by injection h with h; simpa using h))
      refine TCalls.of Tryd.func44 rfl (CanCall.of Tryd.func44 rfl (by decide)) [0] fun Γ => ?_
      refine run_sound (⟨fun _ _ => .no, [], fun _ => none⟩) 400 (B := b = b ∧ b = b ∧ bsplit (!decide ((ByteArray.mk (List.toArray l)) = (ByteArray.mk (#[])))) (Q (T.v (Value.int IntKind.i64 (3 : Int))) [(b, Ob.cells [T.v (Value.string (ByteArray.mk (List.toArray l))), T.v (Value.int IntKind.i64 (0 : Int))])] fun x => none) (Q (T.v (Value.int IntKind.i64 (0 : Int))) [(b, Ob.cells [T.v (Value.string (ByteArray.mk (List.toArray l))), T.v (Value.int IntKind.i64 (0 : Int))])] fun x => none)) (by kernel_rfl) ?_
      repeat' (first | exact rfl | exact Nat.le_of_ble_eq_true rfl | refine And.intro ?_ ?_ | intro _ | refine bsplit_mk (fun _ => ?_) (fun _ => ?_))
      all_goals first
        | exact hQ _ rfl
        | (exfalso; rename_i h; rw [hne] at h; cases h)
        | trace_state
  · rw [if_pos he] at hQ
    have hne : (e != 0) = true := by simpa using he
    refine TCalls.of Tryd.func44 rfl (CanCall.of Tryd.func44 rfl (by decide)) [0] fun Γ => ?_
    refine run_sound (⟨fun _ _ => .no, [((0, 5), ([0], 1))], fun _ => none⟩) 400 (B := b = b ∧ bsplit (e != (0 : Int)) (b = b ∧ Q (T.v (Value.int IntKind.i64 e)) [(b, Ob.cells [T.v (Value.string (ByteArray.mk (List.toArray l))), T.v (Value.int IntKind.i64 e)])] fun x => none) (TWk Tryd.prog Γ (fin Tryd.prog Tryd.f44 [(0 : Nat)] Q) [It.code (sub (bd Tryd.f44) [(1 : Nat), (0 : Nat), (0 : Nat), (1 : Nat), (1 : Nat), (1 : Nat), (1 : Nat)]), It.blk (0 : Nat), It.code (sub (bd Tryd.f44) [(1 : Nat), (1 : Nat)])] { fr := [T.ptr (0 : Nat) b (0 : Nat), T.und, T.und, T.und, T.und, T.und, T.und, T.und, T.und, T.und, T.und, T.und, T.und, T.und, T.und, T.und, T.und, T.und, T.und, T.und, T.und, T.und], ob := [(b, Ob.cells [T.v (Value.string (ByteArray.mk (List.toArray l))), T.v (Value.int IntKind.i64 e)])], gl := fun x => none })) (by kernel_rfl) ?_
    repeat' (first | exact rfl | exact Nat.le_of_ble_eq_true rfl | refine And.intro ?_ ?_ | intro _ | refine bsplit_mk (fun _ => ?_) (fun _ => ?_))
    all_goals first
      | exact hQ _ rfl
      | (exfalso; rename_i h; rw [hne] at h; cases h)
      | trace_state
def obsR (rb fb : Nat) (s : RS) : Obs := [(rb, .cells [str s.l, int s.e]), (fb, .cells [.ptr 0 rb 0, bool s.bad])]
/-- a reader's method, as a call tells it -/
def rsH (i j : Nat) (s : RS) (x : T) : Hint := .withB fun B => told x [i, j] (obsR (B.getD i 0) (B.getD j 0) s)
theorem rs_post {rb fb : Nat} {s : RS} {x y : T} {gl : Glb} (h : y = x) : callPost (told x [0, 1] (obsR rb fb s)) y (obsR rb fb s) gl := ⟨(), trivial, h, rfl, Nat.le_of_ble_eq_true rfl, fun h => by cases h⟩
section
variable (rb fb : Nat) (s : RS) (hs : s.Ok)
include hs
theorem nm_post (k : Nat) (hk : 1 ≤ k ∧ k ≤ 8) : TCalls Tryd.prog 68 [.ptr 0 rb 0, int k] (obsD rb s.l s.e) none_ (callPost (told (u64 (rnum k s)) [0] (obsD rb (rgo k s).l (rgo k s).e))) :=
  X1.rdnum_any rb s.l hs.l s.e k hk _ fun x hx => ⟨(), trivial, hx, rfl, Nat.le_of_ble_eq_true rfl, fun h => by cases h⟩
theorem rsm_post : TCalls Tryd.prog 40 [.ptr 1 fb 0] (obsR rb fb s) none_ (callPost (told (u8 (rnum 1 s)) [0, 1] (obsR rb fb (rgo 1 s)))) := by
  have h1 := nm_post rb s hs 1 (by decide)
  have hl := Frm.rnum1_lt s
  have hQ : callPost (told (u8 (rnum 1 s)) [0, 1] (obsR rb fb (rgo 1 s))) (u8 (rnum 1 s)) [(rb, .cells [str (rgo 1 s).l, int (rgo 1 s).e]), (fb, .cells [.ptr 0 rb 0, bool s.bad])] none_ := rs_post rfl
  generalize callPost (told (u8 (rnum 1 s)) [0, 1] (obsR rb fb (rgo 1 s))) = Q at *
  generalize (rgo 1 s).l = l' at *
  generalize (rgo 1 s).e = e' at *
  generalize rnum 1 s = n at *
  have hw : T.v (.int .u8 (IntKind.wrap .u8 (n : Int))) = u8 n := congrArg u8 (IntWalk.u8_in _ (by omega))
  refine TCalls.of Tryd.func40 rfl (CanCall.of Tryd.func40 rfl (by decide)) [0, 1] fun Γ => ?_
  refine run_sound (⟨fun | 1, 4 => rdH 0 l' e' (u64 n) | 1, 5 => .res (u8 n) | _, _ => .no, [], fun  | _ => none⟩) 400 (B := fb = fb ∧ TCalls Tryd.prog (68 : Nat) [T.ptr (0 : Nat) rb (0 : Nat), T.v (Value.int IntKind.i64 (1 : Int))] [(rb, Ob.cells [T.v (Value.string (ByteArray.mk (List.toArray (RS.l s)))), T.v (Value.int IntKind.i64 (RS.e s))])] (fun x => none) (callPost (Hint.call false Unit (fun x => True) [(0 : Nat)] false (fun x => u64 (↑n : Int)) (fun x => obsD rb l' e') fun x => none_)) ∧ ∀ (a : Unit), True → T.v (Value.int IntKind.u8 (IntKind.wrap IntKind.u8 (↑n : Int))) = T.v (Value.int IntKind.u8 (↑n : Int)) ∧ Q (T.v (Value.int IntKind.u8 (↑n : Int))) [(rb, Ob.cells [T.v (Value.string (ByteArray.mk (List.toArray l'))), T.v (Value.int IntKind.i64 e')]), (fb, Ob.cells [T.ptr (0 : Nat) rb (0 : Nat), T.v (Value.bool (RS.bad s))])] fun x => none) (by kernel_rfl) ?_
  repeat' (first | exact rfl | exact Nat.le_of_ble_eq_true rfl | refine And.intro ?_ ?_ | intro _ | refine bsplit_mk (fun _ => ?_) (fun _ => ?_))
  all_goals first
    | exact h1
    | exact hw
    | exact hQ
    | trace_state
theorem rwd_post : TCalls Tryd.prog 69 [.ptr 1 fb 0] (obsR rb fb s) none_ (callPost (told (u32 (rnum 4 s)) [0, 1] (obsR rb fb (rgo 4 s)))) := by
  have h1 := nm_post rb s hs 4 (by decide)
  have hl := Frm.rnum4_lt s
  have hQ : callPost (told (u32 (rnum 4 s)) [0, 1] (obsR rb fb (rgo 4 s))) (u32 (rnum 4 s)) [(rb, .cells [str (rgo 4 s).l, int (rgo 4 s).e]), (fb, .cells [.ptr 0 rb 0, bool s.bad])] none_ := rs_post rfl
  generalize callPost (told (u32 (rnum 4 s)) [0, 1] (obsR rb fb (rgo 4 s))) = Q at *
  generalize (rgo 4 s).l = l' at *
  generalize (rgo 4 s).e = e' at *
  generalize rnum 4 s = n at *
  have hw : T.v (.int .u32 (IntKind.wrap .u32 (n : Int))) = u32 n := congrArg u32 (IntWalk.u32_in _ (by omega))
  refine TCalls.of Tryd.func69 rfl (CanCall.of Tryd.func69 rfl (by decide)) [0, 1] fun Γ => ?_
  refine run_sound (⟨fun | 1, 4 => rdH 0 l' e' (u64 n) | 1, 5 => .res (u32 n) | _, _ => .no, [], fun  | _ => none⟩) 400 (B := fb = fb ∧ TCalls Tryd.prog (68 : Nat) [T.ptr (0 : Nat) rb (0 : Nat), T.v (Value.int IntKind.i64 (4 : Int))] [(rb, Ob.cells [T.v (Value.string (ByteArray.mk (List.toArray (RS.l s)))), T.v (Value.int IntKind.i64 (RS.e s))])] (fun x => none) (callPost (Hint.call false Unit (fun x => True) [(0 : Nat)] false (fun x => u64 (↑n : Int)) (fun x => obsD rb l' e') fun x => none_)) ∧ ∀ (a : Unit), True → T.v (Value.int IntKind.u32 (IntKind.wrap IntKind.u32 (↑n : Int))) = T.v (Value.int IntKind.u32 (↑n : Int)) ∧ Q (T.v (Value.int IntKind.u32 (↑n : Int))) [(rb, Ob.cells [T.v (Value.string (ByteArray.mk (List.toArray l'))), T.v (Value.int IntKind.i64 e')]), (fb, Ob.cells [T.ptr (0 : Nat) rb (0 : Nat), T.v (Value.bool (RS.bad s))])] fun x => none) (by kernel_rfl) ?_
  repeat' (first | exact rfl | exact Nat.le_of_ble_eq_true rfl | refine And.intro ?_ ?_ | intro _ | refine bsplit_mk (fun _ => ?_) (fun _ => ?_))
  all_goals first
    | exact h1
    | exact hw
    | exact hQ
    | trace_state
theorem endE_two : endE s = 2 ↔ s.e = 2 := by
  have := hs.e
  unfold Frm.endE
  by_cases h : s.e = 0
  · rw [if_neg (fun g => g h)]
    constructor
    · intro g; split at g <;> omega
    · intro g; omega
  · rw [if_pos h]
theorem rmu_post (ok : Bool) : TCalls Tryd.prog 41 [.ptr 1 fb 0, bool ok] (obsR rb fb s) none_ (callPost (told (.tup []) [0, 1] (obsR rb fb (must ok s)))) := by
  have hE := end_any rb s.l s.e s.bad
  have h2 := endE_two s hs
  have hQ : callPost (told (.tup []) [0, 1] (obsR rb fb (must ok s))) (.tup []) (obsR rb fb (must ok s)) none_ := rs_post rfl
  generalize callPost (told (.tup []) [0, 1] (obsR rb fb (must ok s))) = Q at *
  have hE : TCalls Tryd.prog 44 [.ptr 0 rb 0] (obsD rb s.l s.e) none_ (callPost (told (int (endE s)) [0] (obsD rb s.l s.e))) := hE
  generalize endE s = n at *
  unfold Frm.must at hQ
  cases ok with
  | true =>
    rw [if_neg (by simp)] at hQ
    refine TCalls.of Tryd.func41 rfl (CanCall.of Tryd.func41 rfl (by decide)) [0, 1] fun Γ => ?_
    refine run_sound (⟨fun _ _ => .no, [], fun _ => none⟩) 400 (B := Q (T.tup []) [(rb, Ob.cells [T.v (Value.string (ByteArray.mk (List.toArray (RS.l s)))), T.v (Value.int IntKind.i64 (RS.e s))]), (fb, Ob.cells [T.ptr (0 : Nat) rb (0 : Nat), T.v (Value.bool (RS.bad s))])] fun x => none) (by kernel_rfl) ?_
    repeat' (first | exact rfl | exact Nat.le_of_ble_eq_true rfl | refine And.intro ?_ ?_ | intro _ | refine bsplit_mk (fun _ => ?_) (fun _ => ?_))
    all_goals first
      | exact hQ
      | trace_state
  | false =>
    by_cases he : s.e = 2
    · rw [if_neg (by simp [he])] at hQ
      have hn := h2.2 he
      subst hn
      refine TCalls.of Tryd.func41 rfl (CanCall.of Tryd.func41 rfl (by decide)) [0, 1] fun Γ => ?_
      refine run_sound (⟨fun | 0, 7 => rdH 0 s.l s.e (int 2) | _, _ => .no, [], fun  | _ => none⟩) 400 (B := fb = fb ∧ TCalls Tryd.prog (44 : Nat) [T.ptr (0 : Nat) rb (0 : Nat)] [(rb, Ob.cells [T.v (Value.string (ByteArray.mk (List.toArray (RS.l s)))), T.v (Value.int IntKind.i64 (RS.e s))])] (fun x => none) (callPost (Hint.call false Unit (fun x => True) [(0 : Nat)] false (fun x => int (2 : Int)) (fun x => obsD rb (RS.l s) (RS.e s)) fun x => none_)) ∧ ∀ (a : Unit), True → Q (T.tup []) [(rb, Ob.cells [T.v (Value.string (ByteArray.mk (List.toArray (RS.l s)))), T.v (Value.int IntKind.i64 (RS.e s))]), (fb, Ob.cells [T.ptr (0 : Nat) rb (0 : Nat), T.v (Value.bool (RS.bad s))])] fun x => none) (by kernel_rfl) ?_
      repeat' (first | exact rfl | exact Nat.le_of_ble_eq_true rfl | refine And.intro ?_ ?_ | intro _ | refine bsplit_mk (fun _ => ?_) (fun _ => ?_))
      all_goals first
        | exact hE
        | exact hQ
        | trace_state
    · rw [if_pos ⟨rfl, he⟩] at hQ
      have hn : (n != 2) = true := by simpa using fun h => he (h2.1 h)
      refine TCalls.of Tryd.func41 rfl (CanCall.of Tryd.func41 rfl (by decide)) [0, 1] fun Γ => ?_
      refine run_sound (⟨fun | 0, 7 => rdH 0 s.l s.e (int n) | _, _ => .no, [], fun  | _ => none⟩) 400 (B := fb = fb ∧ TCalls Tryd.prog (44 : Nat) [T.ptr (0 : Nat) rb (0 : Nat)] [(rb, Ob.cells [T.v (Value.string (ByteArray.mk (List.toArray (RS.l s)))), T.v (Value.int IntKind.i64 (RS.e s))])] (fun x => none) (callPost (Hint.call false Unit (fun x => True) [(0 : Nat)] false (fun x => int n) (fun x => obsD rb (RS.l s) (RS.e s)) fun x => none_)) ∧ ∀ (a : Unit), True → bsplit (n != (2 : Int)) (((1 : Nat) = nat_lit 1 ∧ List.all (List.map T.v (Array.toList #[Value.bool true])) T.one = true) ∧ fb = fb ∧ (1 : Nat) + nat_lit 1 ≤ (2 : Nat) ∧ Q (T.tup []) [(rb, Ob.cells [T.v (Value.string (ByteArray.mk (List.toArray (RS.l s)))), T.v (Value.int IntKind.i64 (RS.e s))]), (fb, Ob.cells [T.ptr (0 : Nat) rb (0 : Nat), T.v (Value.bool true)])] fun x => none) (Q (T.tup []) [(rb, Ob.cells [T.v (Value.string (ByteArray.mk (List.toArray (RS.l s)))), T.v (Value.int IntKind.i64 (RS.e s))]), (fb, Ob.cells [T.ptr (0 : Nat) rb (0 : Nat), T.v (Value.bool (RS.bad s))])] fun x => none)) (by kernel_rfl) ?_
      repeat' (first | exact rfl | exact Nat.le_of_ble_eq_true rfl | refine And.intro ?_ ?_ | intro _ | refine bsplit_mk (fun _ => ?_) (fun _ => ?_))
      all_goals first
        | exact hE
        | exact hQ
        | (exfalso; rename_i h; rw [hn] at h; cases h)
        | trace_state
theorem rwr_post : TCalls Tryd.prog 42 [.ptr 1 fb 0] (obsR rb fb s) none_ (callPost (told (bool (wrong s)) [0, 1] (obsR rb fb s))) := by
  have hE := end_any rb s.l s.e s.bad
  have h2 := endE_two s hs
  have hQ : ∀ y, y = bool (wrong s) → callPost (told (bool (wrong s)) [0, 1] (obsR rb fb s)) y (obsR rb fb s) none_ := fun y h => rs_post h
  generalize callPost (told (bool (wrong s)) [0, 1] (obsR rb fb s)) = Q at *
  have hE : TCalls Tryd.prog 44 [.ptr 0 rb 0] (obsD rb s.l s.e) none_ (callPost (told (int (endE s)) [0] (obsD rb s.l s.e))) := hE
  generalize endE s = n at *
  unfold Frm.wrong at hQ
  have hb : bool (n == 2) = bool (decide (s.e = 2)) := congrArg bool (by rw [Bool.eq_iff_iff, beq_iff_eq, decide_eq_true_eq]; exact h2)
  cases hbad : s.bad with
  | true =>
    rw [hbad] at hQ
    unfold obsR at *
    rw [hbad] at hQ
    rw [hbad]
    refine TCalls.of Tryd.func42 rfl (CanCall.of Tryd.func42 rfl (by decide)) [0, 1] fun Γ => ?_
    refine run_sound (⟨fun _ _ => .no, [], fun _ => none⟩) 400 (B := fb = fb ∧ Q (T.v (Value.bool true)) [(rb, Ob.cells [T.v (Value.string (ByteArray.mk (List.toArray (RS.l s)))), T.v (Value.int IntKind.i64 (RS.e s))]), (fb, Ob.cells [T.ptr (0 : Nat) rb (0 : Nat), T.v (Value.bool true)])] fun x => none) (by kernel_rfl) ?_
    repeat' (first | exact rfl | exact Nat.le_of_ble_eq_true rfl | refine And.intro ?_ ?_ | intro _ | refine bsplit_mk (fun _ => ?_) (fun _ => ?_))
    all_goals first
      | exact hQ _ rfl
      | trace_state
  | false =>
    rw [hbad, Bool.false_or] at hQ
    unfold obsR at *
    rw [hbad] at hQ
    rw [hbad]
    refine TCalls.of Tryd.func42 rfl (CanCall.of Tryd.func42 rfl (by decide)) [0, 1] fun Γ => ?_
    refine run_sound (⟨fun | 1, 9 => rdH 0 s.l s.e (int n) | _, _ => .no, [], fun  | _ => none⟩) 400 (B := fb = fb ∧ fb = fb ∧ TCalls Tryd.prog (44 : Nat) [T.ptr (0 : Nat) rb (0 : Nat)] [(rb, Ob.cells [T.v (Value.string (ByteArray.mk (List.toArray (RS.l s)))), T.v (Value.int IntKind.i64 (RS.e s))])] (fun x => none) (callPost (Hint.call false Unit (fun x => True) [(0 : Nat)] false (fun x => int n) (fun x => obsD rb (RS.l s) (RS.e s)) fun x => none_)) ∧ ∀ (a : Unit), True → Q (T.v (Value.bool (n == (2 : Int)))) [(rb, Ob.cells [T.v (Value.string (ByteArray.mk (List.toArray (RS.l s)))), T.v (Value.int IntKind.i64 (RS.e s))]), (fb, Ob.cells [T.ptr (0 : Nat) rb (0 : Nat), T.v (Value.bool false)])] fun x => none) (by kernel_rfl) ?_
    repeat' (first | exact rfl | exact Nat.le_of_ble_eq_true rfl | refine And.intro ?_ ?_ | intro _ | refine bsplit_mk (fun _ => ?_) (fun _ => ?_))
    all_goals first
      | exact hE
      | exact hQ _ hb
      | trace_state
theorem rfl_post : TCalls Tryd.prog 72 [.ptr 1 fb 0] (obsR rb fb s) none_ (callPost (told (bool (flagB s)) [0, 1] (obsR rb fb (flagS s)))) := by
  have h1 := rsm_post rb fb s hs
  have h2 := rmu_post rb fb (rgo 1 s) (hs.go 1) (decide (rnum 1 s ≤ 1))
  have hQ : callPost (told (bool (flagB s)) [0, 1] (obsR rb fb (flagS s))) (bool (flagB s)) (obsR rb fb (flagS s)) none_ := rs_post rfl
  generalize callPost (told (bool (flagB s)) [0, 1] (obsR rb fb (flagS s))) = Q at *
  have h2 : TCalls Tryd.prog 41 [.ptr 1 fb 0, bool (decide (rnum 1 s ≤ 1))] (obsR rb fb (rgo 1 s)) none_ (callPost (told (.tup []) [0, 1] (obsR rb fb (flagS s)))) := h2
  have e1 : bool (decide ((rnum 1 s : Int) ≤ 1)) = bool (decide (rnum 1 s ≤ 1)) := congrArg bool (by rw [Bool.eq_iff_iff, decide_eq_true_eq, decide_eq_true_eq]; omega)
  have e2 : bool ((rnum 1 s : Int) == 1) = bool (flagB s) := congrArg bool (by unfold Frm.flagB; rw [Bool.eq_iff_iff, beq_iff_eq, decide_eq_true_eq]; omega)
  generalize flagB s = b at *
  generalize flagS s = s2 at *
  generalize decide (rnum 1 s ≤ 1) = c at *
  generalize rnum 1 s = n at *
  generalize rgo 1 s = s1 at *
  refine TCalls.of Tryd.func72 rfl (CanCall.of Tryd.func72 rfl (by decide)) [0, 1] fun Γ => ?_
  refine run_sound (⟨fun | 1, 1 => rsH 0 1 s1 (u8 n) | 2, 2 => .res (bool c) | 2, 3 => rsH 0 1 s2 (.tup []) | 3, 1 => .res (bool b) | _, _ => .no, [], fun  | _ => none⟩) 400 (B := TCalls Tryd.prog (40 : Nat) [T.ptr (1 : Nat) fb (0 : Nat)] [(rb, Ob.cells [T.v (Value.string (ByteArray.mk (List.toArray (RS.l s)))), T.v (Value.int IntKind.i64 (RS.e s))]), (fb, Ob.cells [T.ptr (0 : Nat) rb (0 : Nat), T.v (Value.bool (RS.bad s))])] (fun x => none) (callPost (Hint.call false Unit (fun x => True) [(0 : Nat), (1 : Nat)] false (fun x => u8 (↑n : Int)) (fun x => obsR rb fb s1) fun x => none_)) ∧ ∀ (a : Unit), True → T.v (Value.bool (decide ((↑n : Int) ≤ (1 : Int)))) = T.v (Value.bool c) ∧ TCalls Tryd.prog (41 : Nat) [T.ptr (1 : Nat) fb (0 : Nat), T.v (Value.bool c)] [(rb, Ob.cells [T.v (Value.string (ByteArray.mk (List.toArray (RS.l s1)))), T.v (Value.int IntKind.i64 (RS.e s1))]), (fb, Ob.cells [T.ptr (0 : Nat) rb (0 : Nat), T.v (Value.bool (RS.bad s1))])] (fun x => none) (callPost (Hint.call false Unit (fun x => True) [(0 : Nat), (1 : Nat)] false (fun x => T.tup []) (fun x => obsR rb fb s2) fun x => none_)) ∧ ∀ (a : Unit), True → T.v (Value.bool ((↑n : Int) == (1 : Int))) = T.v (Value.bool b) ∧ Q (T.v (Value.bool b)) [(rb, Ob.cells [T.v (Value.string (ByteArray.mk (List.toArray (RS.l s2)))), T.v (Value.int IntKind.i64 (RS.e s2))]), (fb, Ob.cells [T.ptr (0 : Nat) rb (0 : Nat), T.v (Value.bool (RS.bad s2))])] fun x => none) (by kernel_rfl) ?_
  repeat' (first | exact rfl | exact Nat.le_of_ble_eq_true rfl | refine And.intro ?_ ?_ | intro _ | refine bsplit_mk (fun _ => ?_) (fun _ => ?_))
  all_goals first
    | exact h1
    | exact h2
    | exact e1
    | exact e2
    | exact hQ
    | trace_state
theorem rmk_post : TCalls Tryd.prog 70 [.ptr 1 fb 0] (obsR rb fb s) none_ (callPost (told (.agg (markC (rnum 4 s) (rnum 1 (rgo 4 s)))) [0, 1] (obsR rb fb (markS s)))) := by
  have h1 := rwd_post rb fb s hs
  have h2 := rsm_post rb fb (rgo 4 s) (hs.go 4)
  have hQ : callPost (told (.agg (markC (rnum 4 s) (rnum 1 (rgo 4 s)))) [0, 1] (obsR rb fb (markS s))) (.agg (markC (rnum 4 s) (rnum 1 (rgo 4 s)))) (obsR rb fb (markS s)) none_ := rs_post rfl
  generalize callPost (told (.agg (markC (rnum 4 s) (rnum 1 (rgo 4 s)))) [0, 1] (obsR rb fb (markS s))) = Q at *
  have h2 : TCalls Tryd.prog 40 [.ptr 1 fb 0] (obsR rb fb (rgo 4 s)) none_ (callPost (told (u8 (rnum 1 (rgo 4 s))) [0, 1] (obsR rb fb (markS s)))) := h2
  generalize markS s = s2 at *
  generalize rnum 1 (rgo 4 s) = m at *
  generalize rnum 4 s = n at *
  generalize rgo 4 s = s1 at *
  refine TCalls.of Tryd.func70 rfl (CanCall.of Tryd.func70 rfl (by decide)) [0, 1] fun Γ => ?_
  refine run_sound (⟨fun | 1, 1 => rsH 0 1 s1 (u32 n) | 1, 3 => rsH 0 1 s2 (u8 m) | _, _ => .no, [], fun  | _ => none⟩) 400 (B := ∀ (b : Nat), TCalls Tryd.prog (69 : Nat) [T.ptr (1 : Nat) fb (0 : Nat)] [(rb, Ob.cells [T.v (Value.string (ByteArray.mk (List.toArray (RS.l s)))), T.v (Value.int IntKind.i64 (RS.e s))]), (fb, Ob.cells [T.ptr (0 : Nat) rb (0 : Nat), T.v (Value.bool (RS.bad s))])] (fun x => none) (callPost (Hint.call false Unit (fun x => True) [(0 : Nat), (1 : Nat)] false (fun x => u32 (↑n : Int)) (fun x => obsR rb fb s1) fun x => none_)) ∧ ∀ (a : Unit), True → TCalls Tryd.prog (40 : Nat) [T.ptr (1 : Nat) fb (0 : Nat)] [(rb, Ob.cells [T.v (Value.string (ByteArray.mk (List.toArray (RS.l s1)))), T.v (Value.int IntKind.i64 (RS.e s1))]), (fb, Ob.cells [T.ptr (0 : Nat) rb (0 : Nat), T.v (Value.bool (RS.bad s1))])] (fun x => none) (callPost (Hint.call false Unit (fun x => True) [(0 : Nat), (1 : Nat)] false (fun x => u8 (↑m : Int)) (fun x => obsR rb fb s2) fun x => none_)) ∧ ∀ (a : Unit), True → ((2 : Nat) = nat_lit 2 ∧ List.all [T.v (Value.int IntKind.u32 (↑n : Int)), T.v (Value.int IntKind.u8 (↑m : Int))] T.one = true) ∧ b = b ∧ (0 : Nat) + nat_lit 2 ≤ (2 : Nat) ∧ b = b ∧ Q (T.agg [T.v (Value.int IntKind.u32 (↑n : Int)), T.v (Value.int IntKind.u8 (↑m : Int))]) [(rb, Ob.cells [T.v (Value.string (ByteArray.mk (List.toArray (RS.l s2)))), T.v (Value.int IntKind.i64 (RS.e s2))]), (fb, Ob.cells [T.ptr (0 : Nat) rb (0 : Nat), T.v (Value.bool (RS.bad s2))])] fun x => none) (by kernel_rfl) ?_
  repeat' (first | exact rfl | exact Nat.le_of_ble_eq_true rfl | refine And.intro ?_ ?_ | intro _ | refine bsplit_mk (fun _ => ?_) (fun _ => ?_))
  all_goals first
    | exact h1
    | exact h2
    | exact hQ
    | trace_state
theorem rcm_post : TCalls Tryd.prog 73 [.ptr 1 fb 0] (obsR rb fb s) none_ (callPost (told (.agg (cmdC (cmdR s))) [0, 1] (obsR rb fb (cmdS s)))) := by
  have h1 := rsm_post rb fb s hs
  have h2 := rsm_post rb fb (rgo 1 s) (hs.go 1)
  have h3 := rsm_post rb fb (rgo 1 (rgo 1 s)) ((hs.go 1).go 1)
  have h4 := rwd_post rb fb (rgo 1 (rgo 1 (rgo 1 s))) (((hs.go 1).go 1).go 1)
  have h5 := rwd_post rb fb (rgo 4 (rgo 1 (rgo 1 (rgo 1 s)))) ((((hs.go 1).go 1).go 1).go 4)
  have hQ : callPost (told (.agg (cmdC (cmdR s))) [0, 1] (obsR rb fb (cmdS s))) (.agg (cmdC (cmdR s))) (obsR rb fb (cmdS s)) none_ := rs_post rfl
  generalize callPost (told (.agg (cmdC (cmdR s))) [0, 1] (obsR rb fb (cmdS s))) = Q at *
  unfold Frm.cmdR Frm.cmdS at *
  generalize rgo 4 (rgo 4 (rgo 1 (rgo 1 (rgo 1 s)))) = s5 at *
  generalize rnum 4 (rgo 4 (rgo 1 (rgo 1 (rgo 1 s)))) = n5 at *
  generalize rgo 4 (rgo 1 (rgo 1 (rgo 1 s))) = s4 at *
  generalize rnum 4 (rgo 1 (rgo 1 (rgo 1 s))) = n4 at *
  generalize rgo 1 (rgo 1 (rgo 1 s)) = s3 at *
  generalize rnum 1 (rgo 1 (rgo 1 s)) = n3 at *
  generalize rgo 1 (rgo 1 s) = s2 at *
  generalize rnum 1 (rgo 1 s) = n2 at *
  generalize rgo 1 s = s1 at *
  generalize rnum 1 s = n1 at *
  refine TCalls.of Tryd.func73 rfl (CanCall.of Tryd.func73 rfl (by decide)) [0, 1] fun Γ => ?_
  refine run_sound (⟨fun | 1, 1 => rsH 0 1 s1 (u8 n1) | 1, 3 => rsH 0 1 s2 (u8 n2) | 1, 5 => rsH 0 1 s3 (u8 n3) | 1, 7 => rsH 0 1 s4 (u32 n4) | 1, 9 => rsH 0 1 s5 (u32 n5) | _, _ => .no, [], fun  | _ => none⟩) 400 (B := ∀ (b : Nat), TCalls Tryd.prog (40 : Nat) [T.ptr (1 : Nat) fb (0 : Nat)] [(rb, Ob.cells [T.v (Value.string (ByteArray.mk (List.toArray (RS.l s)))), T.v (Value.int IntKind.i64 (RS.e s))]), (fb, Ob.cells [T.ptr (0 : Nat) rb (0 : Nat), T.v (Value.bool (RS.bad s))])] (fun x => none) (callPost (Hint.call false Unit (fun x => True) [(0 : Nat), (1 : Nat)] false (fun x => u8 (↑n1 : Int)) (fun x => obsR rb fb s1) fun x => none_)) ∧ ∀ (a : Unit), True → TCalls Tryd.prog (40 : Nat) [T.ptr (1 : Nat) fb (0 : Nat)] [(rb, Ob.cells [T.v (Value.string (ByteArray.mk (List.toArray (RS.l s1)))), T.v (Value.int IntKind.i64 (RS.e s1))]), (fb, Ob.cells [T.ptr (0 : Nat) rb (0 : Nat), T.v (Value.bool (RS.bad s1))])] (fun x => none) (callPost (Hint.call false Unit (fun x => True) [(0 : Nat), (1 : Nat)] false (fun x => u8 (↑n2 : Int)) (fun x => obsR rb fb s2) fun x => none_)) ∧ ∀ (a : Unit), True → TCalls Tryd.prog (40 : Nat) [T.ptr (1 : Nat) fb (0 : Nat)] [(rb, Ob.cells [T.v (Value.string (ByteArray.mk (List.toArray (RS.l s2)))), T.v (Value.int IntKind.i64 (RS.e s2))]), (fb, Ob.cells [T.ptr (0 : Nat) rb (0 : Nat), T.v (Value.bool (RS.bad s2))])] (fun x => none) (callPost (Hint.call false Unit (fun x => True) [(0 : Nat), (1 : Nat)] false (fun x => u8 (↑n3 : Int)) (fun x => obsR rb fb s3) fun x => none_)) ∧ ∀ (a : Unit), True → TCalls Tryd.prog (69 : Nat) [T.ptr (1 : Nat) fb (0 : Nat)] [(rb, Ob.cells [T.v (Value.string (ByteArray.mk (List.toArray (RS.l s3)))), T.v (Value.int IntKind.i64 (RS.e s3))]), (fb, Ob.cells [T.ptr (0 : Nat) rb (0 : Nat), T.v (Value.bool (RS.bad s3))])] (fun x => none) (callPost (Hint.call false Unit (fun x => True) [(0 : Nat), (1 : Nat)] false (fun x => u32 (↑n4 : Int)) (fun x => obsR rb fb s4) fun x => none_)) ∧ ∀ (a : Unit), True → TCalls Tryd.prog (69 : Nat) [T.ptr (1 : Nat) fb (0 : Nat)] [(rb, Ob.cells [T.v (Value.string (ByteArray.mk (List.toArray (RS.l s4)))), T.v (Value.int IntKind.i64 (RS.e s4))]), (fb, Ob.cells [T.ptr (0 : Nat) rb (0 : Nat), T.v (Value.bool (RS.bad s4))])] (fun x => none) (callPost (Hint.call false Unit (fun x => True) [(0 : Nat), (1 : Nat)] false (fun x => u32 (↑n5 : Int)) (fun x => obsR rb fb s5) fun x => none_)) ∧ ∀ (a : Unit), True → ((5 : Nat) = nat_lit 5 ∧ List.all [T.v (Value.int IntKind.u8 (↑n1 : Int)), T.v (Value.int IntKind.u8 (↑n2 : Int)), T.v (Value.int IntKind.u8 (↑n3 : Int)), T.v (Value.int IntKind.u32 (↑n4 : Int)), T.v (Value.int IntKind.u32 (↑n5 : Int))] T.one = true) ∧ b = b ∧ (0 : Nat) + nat_lit 5 ≤ (5 : Nat) ∧ b = b ∧ Q (T.agg [T.v (Value.int IntKind.u8 (↑n1 : Int)), T.v (Value.int IntKind.u8 (↑n2 : Int)), T.v (Value.int IntKind.u8 (↑n3 : Int)), T.v (Value.int IntKind.u32 (↑n4 : Int)), T.v (Value.int IntKind.u32 (↑n5 : Int))]) [(rb, Ob.cells [T.v (Value.string (ByteArray.mk (List.toArray (RS.l s5)))), T.v (Value.int IntKind.i64 (RS.e s5))]), (fb, Ob.cells [T.ptr (0 : Nat) rb (0 : Nat), T.v (Value.bool (RS.bad s5))])] fun x => none) (by kernel_rfl) ?_
  repeat' (first | exact rfl | exact Nat.le_of_ble_eq_true rfl | refine And.intro ?_ ?_ | intro _ | refine bsplit_mk (fun _ => ?_) (fun _ => ?_))
  all_goals first
    | exact h1
    | exact h2
    | exact h3
    | exact h4
    | exact h5
    | exact hQ
    | trace_state
theorem rct_post (most : Nat) : TCalls Tryd.prog 88 [.ptr 1 fb 0, int most] (obsR rb fb s) none_ (callPost (told (int (cntN most s)) [0, 1] (obsR rb fb (cntS most s)))) := by
  have h1 := rsm_post rb fb s hs
  have h2 := rmu_post rb fb (rgo 1 s) (hs.go 1) (decide (rnum 1 s ≤ most))
  have h3 := rwr_post rb fb (cntS most s) (hs.cnt most)
  have hQ : ∀ y, y = int (cntN most s) → callPost (told (int (cntN most s)) [0, 1] (obsR rb fb (cntS most s))) y (obsR rb fb (cntS most s)) none_ := fun y h => rs_post h
  generalize callPost (told (int (cntN most s)) [0, 1] (obsR rb fb (cntS most s))) = Q at *
  have h2 : TCalls Tryd.prog 41 [.ptr 1 fb 0, bool (decide (rnum 1 s ≤ most))] (obsR rb fb (rgo 1 s)) none_ (callPost (told (.tup []) [0, 1] (obsR rb fb (cntS most s)))) := h2
  have q1 : wrong (cntS most s) = true → Q (int 0) (obsR rb fb (cntS most s)) none_ := fun h => hQ _ (by unfold Frm.cntN; rw [if_pos h]; rfl)
  have q2 : wrong (cntS most s) = false → Q (int (rnum 1 s)) (obsR rb fb (cntS most s)) none_ := fun h => hQ _ (by unfold Frm.cntN; rw [if_neg (by rw [h]; decide)])
  clear hQ
  have hlt := Frm.rnum1_lt s
  have e0 : T.v (.int .i64 (IntKind.wrap .i64 (rnum 1 s : Int))) = int (rnum 1 s) := congrArg int (wrap_i64 (by omega) (by omega))
  have e1 : bool (decide ((rnum 1 s : Int) ≤ most)) = bool (decide (rnum 1 s ≤ most)) := congrArg bool (by rw [Bool.eq_iff_iff, decide_eq_true_eq, decide_eq_true_eq]; omega)
  generalize wrong (cntS most s) = b at *
  generalize cntS most s = s2 at *
  generalize decide (rnum 1 s ≤ most) = c at *
  generalize rnum 1 s = n at *
  generalize rgo 1 s = s1 at *
  refine TCalls.of Tryd.func88 rfl (CanCall.of Tryd.func88 rfl (by decide)) [0, 1] fun Γ => ?_
  refine run_sound (⟨fun | 1, 1 => rsH 0 1 s1 (u8 n) | 1, 2 => .res (int n) | 2, 3 => .res (bool c) | 2, 4 => rsH 0 1 s2 (.tup []) | 3, 1 => rsH 0 1 s2 (bool b) | _, _ => .no, [], fun  | _ => none⟩) 400 (B := TCalls Tryd.prog (40 : Nat) [T.ptr (1 : Nat) fb (0 : Nat)] [(rb, Ob.cells [T.v (Value.string (ByteArray.mk (List.toArray (RS.l s)))), T.v (Value.int IntKind.i64 (RS.e s))]), (fb, Ob.cells [T.ptr (0 : Nat) rb (0 : Nat), T.v (Value.bool (RS.bad s))])] (fun x => none) (callPost (Hint.call false Unit (fun x => True) [(0 : Nat), (1 : Nat)] false (fun x => u8 (↑n : Int)) (fun x => obsR rb fb s1) fun x => none_)) ∧ ∀ (a : Unit), True → T.v (Value.int IntKind.i64 (IntKind.wrap IntKind.i64 (↑n : Int))) = T.v (Value.int IntKind.i64 (↑n : Int)) ∧ T.v (Value.bool (decide ((↑n : Int) ≤ (↑most : Int)))) = T.v (Value.bool c) ∧ TCalls Tryd.prog (41 : Nat) [T.ptr (1 : Nat) fb (0 : Nat), T.v (Value.bool c)] [(rb, Ob.cells [T.v (Value.string (ByteArray.mk (List.toArray (RS.l s1)))), T.v (Value.int IntKind.i64 (RS.e s1))]), (fb, Ob.cells [T.ptr (0 : Nat) rb (0 : Nat), T.v (Value.bool (RS.bad s1))])] (fun x => none) (callPost (Hint.call false Unit (fun x => True) [(0 : Nat), (1 : Nat)] false (fun x => T.tup []) (fun x => obsR rb fb s2) fun x => none_)) ∧ ∀ (a : Unit), True → TCalls Tryd.prog (42 : Nat) [T.ptr (1 : Nat) fb (0 : Nat)] [(rb, Ob.cells [T.v (Value.string (ByteArray.mk (List.toArray (RS.l s2)))), T.v (Value.int IntKind.i64 (RS.e s2))]), (fb, Ob.cells [T.ptr (0 : Nat) rb (0 : Nat), T.v (Value.bool (RS.bad s2))])] (fun x => none) (callPost (Hint.call false Unit (fun x => True) [(0 : Nat), (1 : Nat)] false (fun x => bool b) (fun x => obsR rb fb s2) fun x => none_)) ∧ ∀ (a : Unit), True → bsplit b (Q (T.v (Value.int IntKind.i64 (0 : Int))) [(rb, Ob.cells [T.v (Value.string (ByteArray.mk (List.toArray (RS.l s2)))), T.v (Value.int IntKind.i64 (RS.e s2))]), (fb, Ob.cells [T.ptr (0 : Nat) rb (0 : Nat), T.v (Value.bool (RS.bad s2))])] fun x => none) (Q (T.v (Value.int IntKind.i64 (↑n : Int))) [(rb, Ob.cells [T.v (Value.string (ByteArray.mk (List.toArray (RS.l s2)))), T.v (Value.int IntKind.i64 (RS.e s2))]), (fb, Ob.cells [T.ptr (0 : Nat) rb (0 : Nat), T.v (Value.bool (RS.bad s2))])] fun x => none)) (by kernel_rfl) ?_
  repeat' (first | exact rfl | exact Nat.le_of_ble_eq_true rfl | refine And.intro ?_ ?_ | intro _ | refine bsplit_mk (fun _ => ?_) (fun _ => ?_))
  all_goals first
    | exact h1
    | exact h2
    | exact h3
    | exact e0
    | exact e1
    | exact q1 ‹_›
    | exact q2 ‹_›
    | trace_state
theorem rtx_post : TCalls Tryd.prog 87 [.ptr 0 rb 0] (obsD rb s.l s.e) none_ (callPost (told (str (txtX s)) [0] (obsD rb (txtS s).l (txtS s).e))) := by
  refine X1.text_any rb s.l hs.l s.e _ (fun h x hx => ?_) (fun c r h x hx => ?_)
  · have e : txtN s.l = (0, 1) := by rw [h]; rfl
    unfold Frm.txtX Frm.txtS
    rw [e]
    exact ⟨(), trivial, hx, rfl, Nat.le_of_ble_eq_true rfl, fun h => by cases h⟩
  · have e : txtN s.l = (1, c.toNat) := by rw [h]; rfl
    unfold Frm.txtX Frm.txtS
    rw [e]
    exact ⟨(), trivial, hx, rfl, Nat.le_of_ble_eq_true rfl, fun h => by cases h⟩
def valT (v : Bool × List UInt8) : T := .agg [bool v.1, str v.2]
theorem rvl_post : TCalls Tryd.prog 71 [.ptr 1 fb 0] (obsR rb fb s) none_ (callPost (told (valT (valR s).1) [0, 1] (obsR rb fb (valR s).2))) := by
  have h1 := rfl_post rb fb s hs
  have h2 := rwr_post rb fb (flagS s) hs.flag
  have h3 := rtx_post rb (flagS s) hs.flag
  have h4 := value_post (flagB s) (txtX (flagS s))
  have h5 := rmu_post rb fb (txtS (flagS s)) hs.flag.txt (Frm.valOk (flagB s) (txtX (flagS s)))
  have hb : (txtS (flagS s)).bad = (flagS s).bad := rfl
  have hQ : ∀ y s', y = valT (valR s).1 → s' = (valR s).2 → callPost (told (valT (valR s).1) [0, 1] (obsR rb fb (valR s).2)) y (obsR rb fb s') none_ := fun y s' h h' => by subst h'; exact rs_post h
  generalize callPost (told (valT (valR s).1) [0, 1] (obsR rb fb (valR s).2)) = Q at *
  have q1 : wrong (flagS s) = true → Q (.agg [bool false, str []]) (obsR rb fb (flagS s)) none_ := fun h => hQ _ _ (by unfold Frm.valR; rw [if_pos h]; rfl) (by unfold Frm.valR; rw [if_pos h])
  have q2 : wrong (flagS s) = false → Q (.agg [bool (flagB s), str (txtX (flagS s))]) (obsR rb fb (must (Frm.valOk (flagB s) (txtX (flagS s))) (txtS (flagS s)))) none_ := fun h => hQ _ _ (by unfold Frm.valR; rw [if_neg (by rw [h]; decide)]; rfl) (by unfold Frm.valR; rw [if_neg (by rw [h]; decide)])
  clear hQ
  generalize must (Frm.valOk (flagB s) (txtX (flagS s))) (txtS (flagS s)) = s4 at *
  generalize Frm.valOk (flagB s) (txtX (flagS s)) = c at *
  generalize txtX (flagS s) = x at *
  generalize txtS (flagS s) = s3 at *
  generalize flagB s = b at *
  generalize wrong (flagS s) = w at *
  generalize flagS s = s2 at *
  have h5 : TCalls Tryd.prog 41 [.ptr 1 fb 0, bool c] [(rb, .cells [str s3.l, int s3.e]), (fb, .cells [.ptr 0 rb 0, bool s2.bad])] none_ (callPost (told (.tup []) [0, 1] (obsR rb fb s4))) := by rw [← hb]; exact h5
  refine TCalls.of Tryd.func71 rfl (CanCall.of Tryd.func71 rfl (by decide)) [0, 1] fun Γ => ?_
  refine run_sound (⟨fun | 1, 1 => rsH 0 1 s2 (bool b) | 2, 1 => rsH 0 1 s2 (bool w) | 4, 5 => rdH 0 s3.l s3.e (str x) | 5, 2 => told (bool c) [] [] | 5, 3 => rsH 0 1 s4 (.tup []) | _, _ => .no, [], fun  | _ => none⟩) 400 (B := ∀ (b_1 : Nat), TCalls Tryd.prog (72 : Nat) [T.ptr (1 : Nat) fb (0 : Nat)] [(rb, Ob.cells [T.v (Value.string (ByteArray.mk (List.toArray (RS.l s)))), T.v (Value.int IntKind.i64 (RS.e s))]), (fb, Ob.cells [T.ptr (0 : Nat) rb (0 : Nat), T.v (Value.bool (RS.bad s))])] (fun x => none) (callPost (Hint.call false Unit (fun x => True) [(0 : Nat), (1 : Nat)] false (fun x => bool b) (fun x => obsR rb fb s2) fun x => none_)) ∧ ∀ (a : Unit), True → TCalls Tryd.prog (42 : Nat) [T.ptr (1 : Nat) fb (0 : Nat)] [(rb, Ob.cells [T.v (Value.string (ByteArray.mk (List.toArray (RS.l s2)))), T.v (Value.int IntKind.i64 (RS.e s2))]), (fb, Ob.cells [T.ptr (0 : Nat) rb (0 : Nat), T.v (Value.bool (RS.bad s2))])] (fun x => none) (callPost (Hint.call false Unit (fun x => True) [(0 : Nat), (1 : Nat)] false (fun x => bool w) (fun x => obsR rb fb s2) fun x => none_)) ∧ ∀ (a : Unit), True → bsplit w (((2 : Nat) = nat_lit 2 ∧ List.all [T.v (Value.bool false), T.v (Value.string (ByteArray.mk (#[])))] T.one = true) ∧ b_1 = b_1 ∧ (0 : Nat) + nat_lit 2 ≤ (2 : Nat) ∧ b_1 = b_1 ∧ Q (T.agg [T.v (Value.bool false), T.v (Value.string (ByteArray.mk (#[])))]) [(rb, Ob.cells [T.v (Value.string (ByteArray.mk (List.toArray (RS.l s2)))), T.v (Value.int IntKind.i64 (RS.e s2))]), (fb, Ob.cells [T.ptr (0 : Nat) rb (0 : Nat), T.v (Value.bool (RS.bad s2))])] fun x => none) (fb = fb ∧ TCalls Tryd.prog (87 : Nat) [T.ptr (0 : Nat) rb (0 : Nat)] [(rb, Ob.cells [T.v (Value.string (ByteArray.mk (List.toArray (RS.l s2)))), T.v (Value.int IntKind.i64 (RS.e s2))])] (fun x => none) (callPost (Hint.call false Unit (fun x => True) [(0 : Nat)] false (fun x_3 => str x) (fun x => obsD rb (RS.l s3) (RS.e s3)) fun x => none_)) ∧ ∀ (a : Unit), True → ∀ (b_2 : Nat), ((2 : Nat) = nat_lit 2 ∧ List.all [T.v (Value.bool b), T.v (Value.string (ByteArray.mk (List.toArray x)))] T.one = true) ∧ b_2 = b_2 ∧ (0 : Nat) + nat_lit 2 ≤ (2 : Nat) ∧ b_2 = b_2 ∧ TCalls Tryd.prog (57 : Nat) [T.agg [T.v (Value.bool b), T.v (Value.string (ByteArray.mk (List.toArray x)))]] [] (fun x => none) (callPost (Hint.call false Unit (fun x => True) [] false (fun x => bool c) (fun x => []) fun x => none_)) ∧ ∀ (a : Unit), True → TCalls Tryd.prog (41 : Nat) [T.ptr (1 : Nat) fb (0 : Nat), T.v (Value.bool c)] [(rb, Ob.cells [T.v (Value.string (ByteArray.mk (List.toArray (RS.l s3)))), T.v (Value.int IntKind.i64 (RS.e s3))]), (fb, Ob.cells [T.ptr (0 : Nat) rb (0 : Nat), T.v (Value.bool (RS.bad s2))])] (fun x => none) (callPost (Hint.call false Unit (fun x => True) [(0 : Nat), (1 : Nat)] false (fun x => T.tup []) (fun x => obsR rb fb s4) fun x => none_)) ∧ ∀ (a : Unit), True → b_2 = b_2 ∧ ((2 : Nat) = nat_lit 2 ∧ List.all [T.v (Value.bool b), T.v (Value.string (ByteArray.mk (List.toArray x)))] T.one = true) ∧ b_1 = b_1 ∧ (0 : Nat) + nat_lit 2 ≤ (2 : Nat) ∧ b_1 = b_1 ∧ Q (T.agg [T.v (Value.bool b), T.v (Value.string (ByteArray.mk (List.toArray x)))]) [(rb, Ob.cells [T.v (Value.string (ByteArray.mk (List.toArray (RS.l s4)))), T.v (Value.int IntKind.i64 (RS.e s4))]), (fb, Ob.cells [T.ptr (0 : Nat) rb (0 : Nat), T.v (Value.bool (RS.bad s4))])] fun x => none)) (by kernel_rfl) ?_
  repeat' (first | exact rfl | exact Nat.le_of_ble_eq_true rfl | refine And.intro ?_ ?_ | intro _ | refine bsplit_mk (fun _ => ?_) (fun _ => ?_))
  all_goals first
    | exact h1
    | exact h2
    | exact h3
    | exact h4
    | exact h5
    | exact q1 ‹_›
    | exact q2 ‹_›
    | trace_state
end
end X6
end Go.Proofs.YtaepgceodcdnhaaDoor.Vm
