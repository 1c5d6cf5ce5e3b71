/- Frames by the engine: a view and entries out of bytes. -/
import Derived.Test.YtaepgceodcdnhaaDoorFE
namespace Go.Proofs.YtaepgceodcdnhaaDoor.Vm
open Go Go.RowKit
set_option maxRecDepth 100000
namespace X6
open Frm (Cmd Mem Ent Lvs Fm RS rnum rgo must wrong flagB flagS markS cmdR cmdS cntS cntN memR memS memsR viewR entR entS entsR lvsOf)
open Oct (getN takeL)
open X1 (obsD rdH rdC)
def rawX (s : RS) : List UInt8 := (takeL s.l s.e 0 8).1
def rawS (s : RS) : RS := ⟨(takeL s.l s.e 0 8).2.1, (takeL s.l s.e 0 8).2.2, s.bad⟩
theorem rw_post (rb : Nat) (s : RS) (hs : s.Ok) : TCalls Tryd.prog 89 [.ptr 0 rb 0, int 8] (obsD rb s.l s.e) none_ (callPost (told (str (rawX s)) [0] (obsD rb (rawS s).l (rawS s).e))) :=
  X1.raw_any rb s.l hs.l s.e 8 (by decide) _ fun x hx => ⟨(), trivial, hx, rfl, Nat.le_of_ble_eq_true rfl, fun h => by cases h⟩
theorem rawX_len (s : RS) : rawX s = [] ∨ ∃ c0 c1 c2 c3 c4 c5 c6 c7, rawX s = [c0, c1, c2, c3, c4, c5, c6, c7] := by
  unfold rawX Oct.takeL
  split
  · exact .inl rfl
  · split
    · exact .inl rfl
    · split
      · exact .inl rfl
      · rename_i h1 h2 h3
        right
        have hl : ((s.l.take ((0 : Int) + 8).toNat).drop (0 : Int).toNat).length = 8 := by
          rw [List.length_drop, List.length_take]
          show min 8 s.l.length - 0 = 8
          omega
        show ∃ c0 c1 c2 c3 c4 c5 c6 c7, (s.l.take ((0 : Int) + 8).toNat).drop (0 : Int).toNat = [c0, c1, c2, c3, c4, c5, c6, c7]
        generalize (s.l.take ((0 : Int) + 8).toNat).drop (0 : Int).toNat = t at *
        match t, hl with
        | [c0, c1, c2, c3, c4, c5, c6, c7], _ => exact ⟨c0, c1, c2, c3, c4, c5, c6, c7, rfl⟩
def lvC (lv : Lvs) : List T := [u8 lv.l0, u8 lv.l1, u8 lv.l2, u8 lv.l3, u8 lv.l4, u8 lv.l5, u8 lv.l6, u8 lv.l7]
def vw0 : List T := [u32 0, .v nilS, u8 0, u8 0, u8 0, u8 0, u8 0, u8 0, u8 0, u8 0]
def obsV (rb fb b2 b3 : Nat) (s : RS) (ve : Nat) (M : List T) (hd : Value) : Obs :=
  [(rb, .cells [str s.l, int s.e]), (fb, .cells [.ptr 0 rb 0, bool s.bad]), (b2, .cells vw0), (b3, .cells [u32 ve, .slx 3 4 M hd, u8 0, u8 0, u8 0, u8 0, u8 0, u8 0, u8 0, u8 0]), (0, .room 3 97 M.length hd)]
section
variable (Γ : Ctx) (rb fb b2 b3 : Nat)
theorem rvw_end (s : RS) (hs : s.Ok) (ve : Nat) (ms : List Mem) (hd : Value) (Q : T → Obs → Glb → Prop)
    (h1 : wrong s = true → Q (.agg (vwC ve ms (lvsOf []))) (obsR rb fb s) none_)
    (h2 : wrong s = false → Q (.agg (vwC ve ms (lvsOf (rawX s)))) (obsR rb fb (rawS s)) none_) :
    TWk Tryd.prog Γ (fin Tryd.prog Tryd.f74 [0, 1] Q) [.code (sub (bd Tryd.f74) [1, 1, 1])] ⟨frame 43 [(0, .ptr 1 fb 0), (2, .ptr 2 b2 0), (3, .ptr 3 b3 0)], obsV rb fb b2 b3 s ve (Row.aggs memC ms) hd, none_⟩ := by
  have hw := rwr_post rb fb s hs
  have hr := rw_post rb s hs
  have hb : (rawS s).bad = s.bad := rfl
  rcases rawX_len s with hx | ⟨c0, c1, c2, c3, c4, c5, c6, c7, hx⟩
  · rw [hx] at h2 hr
    unfold vwC at h1 h2
    have h2 : wrong s = false → Q (.agg [u32 ve, .sl 3 (Row.aggs memC ms), u8 0, u8 0, u8 0, u8 0, u8 0, u8 0, u8 0, u8 0]) [(rb, .cells [str (rawS s).l, int (rawS s).e]), (fb, .cells [.ptr 0 rb 0, bool s.bad])] none_ := h2
    have h1 : wrong s = true → Q (.agg [u32 ve, .sl 3 (Row.aggs memC ms), u8 0, u8 0, u8 0, u8 0, u8 0, u8 0, u8 0, u8 0]) (obsR rb fb s) none_ := h1
    generalize Row.aggs memC ms = MS at *
    generalize wrong s = w at *
    generalize (rawS s).l = l' at *
    generalize (rawS s).e = e' at *
    refine run_sound (⟨fun | 6, 1 => rsH 0 1 s (bool w) | 7, 6 => rdH 0 l' e' (str []) | _, _ => .no, [], fun | 5 => some ⟨[], [10, 12], .take true [0,1,2,4,6] (.one 3 (.one 5 (.one 7 (.take true [8] (.one 9 (.one 10 (.take false [11] (.one 12 .done))))))))⟩ | 7 => some ⟨[1], [6, 7], .take false [0,1,2,3,4] (.take true [5] (.one 6 (.one 7 .done)))⟩ | _ => none⟩) 400 (B := TCalls Tryd.prog (42 : Nat) [T.ptr (1 : Nat) fb (0 : Nat)] [(rb, Ob.cells [T.v (Value.string (ByteArray.mk (List.toArray (RS.l s)))), T.v (Value.int IntKind.i64 (RS.e s))]), (fb, Ob.cells [T.ptr (0 : Nat) rb (0 : Nat), T.v (Value.bool (RS.bad s))])] (fun x => none) (callPost (Hint.call false Unit (fun x => True) [(0 : Nat), (1 : Nat)] false (fun x => bool w) (fun x => obsR rb fb s) fun x => none_)) ∧ ∀ (a : Unit), True → bsplit (!w) (fb = fb ∧ TCalls Tryd.prog (89 : Nat) [T.ptr (0 : Nat) rb (0 : Nat), T.v (Value.int IntKind.i64 (8 : Int))] [(rb, Ob.cells [T.v (Value.string (ByteArray.mk (List.toArray (RS.l s)))), T.v (Value.int IntKind.i64 (RS.e s))])] (fun x => none) (callPost (Hint.call false Unit (fun x => True) [(0 : Nat)] false (fun x => str []) (fun x => obsD rb l' e') fun x => none_)) ∧ ∀ (a : Unit), True → b3 = b3 ∧ (ByteArray.size (ByteArray.mk (#[])) ≤ (8 : Nat) ∧ (2 : Nat) + ByteArray.size (ByteArray.mk (#[])) ≤ (10 : Nat)) ∧ b3 = b3 ∧ ((10 : Nat) = nat_lit 10 ∧ List.all [T.v (Value.int IntKind.u32 (↑ve : Int)), T.slx (3 : Nat) (4 : Nat) MS hd, T.v (Value.int IntKind.u8 (0 : Int)), T.v (Value.int IntKind.u8 (0 : Int)), T.v (Value.int IntKind.u8 (0 : Int)), T.v (Value.int IntKind.u8 (0 : Int)), T.v (Value.int IntKind.u8 (0 : Int)), T.v (Value.int IntKind.u8 (0 : Int)), T.v (Value.int IntKind.u8 (0 : Int)), T.v (Value.int IntKind.u8 (0 : Int))] T.one = true) ∧ b2 = b2 ∧ (0 : Nat) + nat_lit 10 ≤ (10 : Nat) ∧ b2 = b2 ∧ Q (T.agg [T.v (Value.int IntKind.u32 (↑ve : Int)), T.sl (3 : Nat) MS, T.v (Value.int IntKind.u8 (0 : Int)), T.v (Value.int IntKind.u8 (0 : Int)), T.v (Value.int IntKind.u8 (0 : Int)), T.v (Value.int IntKind.u8 (0 : Int)), T.v (Value.int IntKind.u8 (0 : Int)), T.v (Value.int IntKind.u8 (0 : Int)), T.v (Value.int IntKind.u8 (0 : Int)), T.v (Value.int IntKind.u8 (0 : Int))]) [(rb, Ob.cells [T.v (Value.string (ByteArray.mk (List.toArray l'))), T.v (Value.int IntKind.i64 e')]), (fb, Ob.cells [T.ptr (0 : Nat) rb (0 : Nat), T.v (Value.bool (RS.bad s))])] fun x => none) (b3 = b3 ∧ ((10 : Nat) = nat_lit 10 ∧ List.all [T.v (Value.int IntKind.u32 (↑ve : Int)), T.slx (3 : Nat) (4 : Nat) MS hd, T.v (Value.int IntKind.u8 (0 : Int)), T.v (Value.int IntKind.u8 (0 : Int)), T.v (Value.int IntKind.u8 (0 : Int)), T.v (Value.int IntKind.u8 (0 : Int)), T.v (Value.int IntKind.u8 (0 : Int)), T.v (Value.int IntKind.u8 (0 : Int)), T.v (Value.int IntKind.u8 (0 : Int)), T.v (Value.int IntKind.u8 (0 : Int))] T.one = true) ∧ b2 = b2 ∧ (0 : Nat) + nat_lit 10 ≤ (10 : Nat) ∧ b2 = b2 ∧ Q (T.agg [T.v (Value.int IntKind.u32 (↑ve : Int)), T.sl (3 : Nat) MS, T.v (Value.int IntKind.u8 (0 : Int)), T.v (Value.int IntKind.u8 (0 : Int)), T.v (Value.int IntKind.u8 (0 : Int)), T.v (Value.int IntKind.u8 (0 : Int)), T.v (Value.int IntKind.u8 (0 : Int)), T.v (Value.int IntKind.u8 (0 : Int)), T.v (Value.int IntKind.u8 (0 : Int)), T.v (Value.int IntKind.u8 (0 : Int))]) [(rb, Ob.cells [T.v (Value.string (ByteArray.mk (List.toArray (RS.l s)))), T.v (Value.int IntKind.i64 (RS.e s))]), (fb, Ob.cells [T.ptr (0 : Nat) rb (0 : Nat), T.v (Value.bool (RS.bad s))])] fun x => none)) (by kernel_rfl) ?_
    repeat' (first | exact rfl | exact Nat.le_of_ble_eq_true rfl | refine And.intro ?_ ?_ | intro _ | refine bsplit_mk (fun _ => ?_) (fun _ => ?_))
    all_goals first
      | exact hw
      | exact hr
      | exact h1 (bnF ‹_›)
      | exact h2 (bnT ‹_›)
      | trace_state
  · rw [hx] at h2 hr
    unfold vwC at h1 h2
    have h2 : wrong s = false → Q (.agg [u32 ve, .sl 3 (Row.aggs memC ms), u8 c0.toNat, u8 c1.toNat, u8 c2.toNat, u8 c3.toNat, u8 c4.toNat, u8 c5.toNat, u8 c6.toNat, u8 c7.toNat]) [(rb, .cells [str (rawS s).l, int (rawS s).e]), (fb, .cells [.ptr 0 rb 0, bool s.bad])] none_ := h2
    have h1 : wrong s = true → Q (.agg [u32 ve, .sl 3 (Row.aggs memC ms), u8 0, u8 0, u8 0, u8 0, u8 0, u8 0, u8 0, u8 0]) (obsR rb fb s) none_ := h1
    generalize Row.aggs memC ms = MS at *
    generalize wrong s = w at *
    generalize (rawS s).l = l' at *
    generalize (rawS s).e = e' at *
    refine run_sound (⟨fun | 6, 1 => rsH 0 1 s (bool w) | 7, 6 => rdH 0 l' e' (str [c0, c1, c2, c3, c4, c5, c6, c7]) | 7, 7 => .obj [u32 ve, .slx 3 4 MS hd, u8 c0.toNat, u8 c1.toNat, u8 c2.toNat, u8 c3.toNat, u8 c4.toNat, u8 c5.toNat, u8 c6.toNat, u8 c7.toNat] | _, _ => .no, [], fun | 5 => some ⟨[], [10, 12], .take true [0,1,2,4,6] (.one 3 (.one 5 (.one 7 (.take true [8] (.one 9 (.one 10 (.take false [11] (.one 12 .done))))))))⟩ | 7 => some ⟨[1], [6, 7], .take false [0,1,2,3,4] (.take true [5] (.one 6 (.one 7 .done)))⟩ | _ => none⟩) 400 (B := TCalls Tryd.prog (42 : Nat) [T.ptr (1 : Nat) fb (0 : Nat)] [(rb, Ob.cells [T.v (Value.string (ByteArray.mk (List.toArray (RS.l s)))), T.v (Value.int IntKind.i64 (RS.e s))]), (fb, Ob.cells [T.ptr (0 : Nat) rb (0 : Nat), T.v (Value.bool (RS.bad s))])] (fun x => none) (callPost (Hint.call false Unit (fun x => True) [(0 : Nat), (1 : Nat)] false (fun x => bool w) (fun x => obsR rb fb s) fun x => none_)) ∧ ∀ (a : Unit), True → bsplit (!w) (fb = fb ∧ TCalls Tryd.prog (89 : Nat) [T.ptr (0 : Nat) rb (0 : Nat), T.v (Value.int IntKind.i64 (8 : Int))] [(rb, Ob.cells [T.v (Value.string (ByteArray.mk (List.toArray (RS.l s)))), T.v (Value.int IntKind.i64 (RS.e s))])] (fun x => none) (callPost (Hint.call false Unit (fun x => True) [(0 : Nat)] false (fun x => str [c0, c1, c2, c3, c4, c5, c6, c7]) (fun x => obsD rb l' e') fun x => none_)) ∧ ∀ (a : Unit), True → b3 = b3 ∧ (ByteArray.size (ByteArray.mk (#[c0, c1, c2, c3, c4, c5, c6, c7])) ≤ (8 : Nat) ∧ (2 : Nat) + ByteArray.size (ByteArray.mk (#[c0, c1, c2, c3, c4, c5, c6, c7])) ≤ (10 : Nat)) ∧ [T.v (Value.int IntKind.u32 (↑ve : Int)), T.slx (3 : Nat) (4 : Nat) MS hd, T.v (Value.int IntKind.u8 (↑(UInt8.toNat c0) : Int)), T.v (Value.int IntKind.u8 (↑(UInt8.toNat c1) : Int)), T.v (Value.int IntKind.u8 (↑(UInt8.toNat c2) : Int)), T.v (Value.int IntKind.u8 (↑(UInt8.toNat c3) : Int)), T.v (Value.int IntKind.u8 (↑(UInt8.toNat c4) : Int)), T.v (Value.int IntKind.u8 (↑(UInt8.toNat c5) : Int)), T.v (Value.int IntKind.u8 (↑(UInt8.toNat c6) : Int)), T.v (Value.int IntKind.u8 (↑(UInt8.toNat c7) : Int))] = [T.v (Value.int IntKind.u32 (↑ve : Int)), T.slx (3 : Nat) (4 : Nat) MS hd, T.v (Value.int IntKind.u8 (↑(UInt8.toNat c0) : Int)), T.v (Value.int IntKind.u8 (↑(UInt8.toNat c1) : Int)), T.v (Value.int IntKind.u8 (↑(UInt8.toNat c2) : Int)), T.v (Value.int IntKind.u8 (↑(UInt8.toNat c3) : Int)), T.v (Value.int IntKind.u8 (↑(UInt8.toNat c4) : Int)), T.v (Value.int IntKind.u8 (↑(UInt8.toNat c5) : Int)), T.v (Value.int IntKind.u8 (↑(UInt8.toNat c6) : Int)), T.v (Value.int IntKind.u8 (↑(UInt8.toNat c7) : Int))] ∧ b3 = b3 ∧ ((10 : Nat) = nat_lit 10 ∧ List.all [T.v (Value.int IntKind.u32 (↑ve : Int)), T.slx (3 : Nat) (4 : Nat) MS hd, T.v (Value.int IntKind.u8 (↑(UInt8.toNat c0) : Int)), T.v (Value.int IntKind.u8 (↑(UInt8.toNat c1) : Int)), T.v (Value.int IntKind.u8 (↑(UInt8.toNat c2) : Int)), T.v (Value.int IntKind.u8 (↑(UInt8.toNat c3) : Int)), T.v (Value.int IntKind.u8 (↑(UInt8.toNat c4) : Int)), T.v (Value.int IntKind.u8 (↑(UInt8.toNat c5) : Int)), T.v (Value.int IntKind.u8 (↑(UInt8.toNat c6) : Int)), T.v (Value.int IntKind.u8 (↑(UInt8.toNat c7) : Int))] T.one = true) ∧ b2 = b2 ∧ (0 : Nat) + nat_lit 10 ≤ (10 : Nat) ∧ b2 = b2 ∧ Q (T.agg [T.v (Value.int IntKind.u32 (↑ve : Int)), T.sl (3 : Nat) MS, T.v (Value.int IntKind.u8 (↑(UInt8.toNat c0) : Int)), T.v (Value.int IntKind.u8 (↑(UInt8.toNat c1) : Int)), T.v (Value.int IntKind.u8 (↑(UInt8.toNat c2) : Int)), T.v (Value.int IntKind.u8 (↑(UInt8.toNat c3) : Int)), T.v (Value.int IntKind.u8 (↑(UInt8.toNat c4) : Int)), T.v (Value.int IntKind.u8 (↑(UInt8.toNat c5) : Int)), T.v (Value.int IntKind.u8 (↑(UInt8.toNat c6) : Int)), T.v (Value.int IntKind.u8 (↑(UInt8.toNat c7) : Int))]) [(rb, Ob.cells [T.v (Value.string (ByteArray.mk (List.toArray l'))), T.v (Value.int IntKind.i64 e')]), (fb, Ob.cells [T.ptr (0 : Nat) rb (0 : Nat), T.v (Value.bool (RS.bad s))])] fun x => none) (b3 = b3 ∧ ((10 : Nat) = nat_lit 10 ∧ List.all [T.v (Value.int IntKind.u32 (↑ve : Int)), T.slx (3 : Nat) (4 : Nat) MS hd, T.v (Value.int IntKind.u8 (0 : Int)), T.v (Value.int IntKind.u8 (0 : Int)), T.v (Value.int IntKind.u8 (0 : Int)), T.v (Value.int IntKind.u8 (0 : Int)), T.v (Value.int IntKind.u8 (0 : Int)), T.v (Value.int IntKind.u8 (0 : Int)), T.v (Value.int IntKind.u8 (0 : Int)), T.v (Value.int IntKind.u8 (0 : Int))] T.one = true) ∧ b2 = b2 ∧ (0 : Nat) + nat_lit 10 ≤ (10 : Nat) ∧ b2 = b2 ∧ Q (T.agg [T.v (Value.int IntKind.u32 (↑ve : Int)), T.sl (3 : Nat) MS, T.v (Value.int IntKind.u8 (0 : Int)), T.v (Value.int IntKind.u8 (0 : Int)), T.v (Value.int IntKind.u8 (0 : Int)), T.v (Value.int IntKind.u8 (0 : Int)), T.v (Value.int IntKind.u8 (0 : Int)), T.v (Value.int IntKind.u8 (0 : Int)), T.v (Value.int IntKind.u8 (0 : Int)), T.v (Value.int IntKind.u8 (0 : Int))]) [(rb, Ob.cells [T.v (Value.string (ByteArray.mk (List.toArray (RS.l s)))), T.v (Value.int IntKind.i64 (RS.e s))]), (fb, Ob.cells [T.ptr (0 : Nat) rb (0 : Nat), T.v (Value.bool (RS.bad s))])] fun x => none)) (by kernel_rfl) ?_
    repeat' (first | exact rfl | exact Nat.le_of_ble_eq_true rfl | refine And.intro ?_ ?_ | intro _ | refine bsplit_mk (fun _ => ?_) (fun _ => ?_))
    all_goals first
      | exact hw
      | exact hr
      | exact h1 (bnF ‹_›)
      | exact h2 (bnT ‹_›)
      | trace_state
theorem rvw_loop (ve : Nat) (Q : T → Obs → Glb → Prop) : ∀ (n : Nat) (s : RS) (d : List Mem) (hd : Value), s.Ok → n + d.length ≤ 1000 →
    (∀ hd, TWk Tryd.prog Γ (fin Tryd.prog Tryd.f74 [0, 1] Q) [.code (sub (bd Tryd.f74) [1, 1, 1])] ⟨frame 43 [(0, .ptr 1 fb 0), (2, .ptr 2 b2 0), (3, .ptr 3 b3 0)], obsV rb fb b2 b3 (memsR n s).2 ve (Row.aggs memC (d ++ (memsR n s).1)) hd, none_⟩) →
    TWk Tryd.prog Γ (fin Tryd.prog Tryd.f74 [0, 1] Q) [.code (sub (bd Tryd.f74) [1, 1, 0, 1, 0]), .blk 0, .code (sub (bd Tryd.f74) [1, 1, 1])] ⟨frame 43 [(0, .ptr 1 fb 0), (2, .ptr 2 b2 0), (3, .ptr 3 b3 0), (4, int n)], obsV rb fb b2 b3 s ve (Row.aggs memC d) hd, none_⟩ := by
  intro n
  induction n with
  | zero =>
    intro s d hd hs hn hQ
    have hQ := hQ hd
    have hQ : TWk Tryd.prog Γ (fin Tryd.prog Tryd.f74 [0, 1] Q) [.code (sub (bd Tryd.f74) [1, 1, 1])] ⟨frame 43 [(0, .ptr 1 fb 0), (2, .ptr 2 b2 0), (3, .ptr 3 b3 0)], obsV rb fb b2 b3 s ve (Row.aggs memC d) hd, none_⟩ := by
      have e : d ++ (memsR 0 s).1 = d := List.append_nil d
      rw [e] at hQ; exact hQ
    generalize Row.aggs memC d = MS at *
    refine run_sound (⟨fun  | _, _ => .no, [((2, 3), ([0, 2, 3, 4], 5)), ((0, 6), ([0, 2, 3], 5))], fun | 5 => some ⟨[], [10, 12], .take true [0,1,2,4,6] (.one 3 (.one 5 (.one 7 (.take true [8] (.one 9 (.one 10 (.take false [11] (.one 12 .done))))))))⟩ | 7 => some ⟨[], [6, 7], .take false [0,1,2,3,4] (.take true [5] (.one 6 (.one 7 .done)))⟩ | _ => none⟩) 400 (B := TWk Tryd.prog Γ (fin Tryd.prog Tryd.f74 [(0 : Nat), (1 : Nat)] Q) [It.code (sub (bd Tryd.f74) [(1 : Nat), (1 : Nat), (1 : Nat)])] { fr := [T.ptr (1 : Nat) fb (0 : Nat), T.und, T.ptr (2 : Nat) b2 (0 : Nat), T.ptr (3 : Nat) b3 (0 : Nat), T.und, T.und, T.und, T.und, T.und, T.und, T.und, T.und, T.und, T.und, T.und, T.und, T.und, T.und, T.und, T.und, T.und, T.und, T.und, T.und, T.und, T.und, T.und, T.und, T.und, T.und, T.und, T.und, T.und, T.und, T.und, T.und, T.und, T.und, T.und, T.und, T.und, T.und, T.und], ob := [(rb, Ob.cells [T.v (Value.string (ByteArray.mk (List.toArray (RS.l s)))), T.v (Value.int IntKind.i64 (RS.e s))]), (fb, Ob.cells [T.ptr (0 : Nat) rb (0 : Nat), T.v (Value.bool (RS.bad s))]), (b2, Ob.cells [T.v (Value.int IntKind.u32 (0 : Int)), T.v (Value.slice none (0 : Nat) (0 : Nat)), T.v (Value.int IntKind.u8 (0 : Int)), T.v (Value.int IntKind.u8 (0 : Int)), T.v (Value.int IntKind.u8 (0 : Int)), T.v (Value.int IntKind.u8 (0 : Int)), T.v (Value.int IntKind.u8 (0 : Int)), T.v (Value.int IntKind.u8 (0 : Int)), T.v (Value.int IntKind.u8 (0 : Int)), T.v (Value.int IntKind.u8 (0 : Int))]), (b3, Ob.cells [T.v (Value.int IntKind.u32 (↑ve : Int)), T.slx (3 : Nat) (4 : Nat) MS hd, T.v (Value.int IntKind.u8 (0 : Int)), T.v (Value.int IntKind.u8 (0 : Int)), T.v (Value.int IntKind.u8 (0 : Int)), T.v (Value.int IntKind.u8 (0 : Int)), T.v (Value.int IntKind.u8 (0 : Int)), T.v (Value.int IntKind.u8 (0 : Int)), T.v (Value.int IntKind.u8 (0 : Int)), T.v (Value.int IntKind.u8 (0 : Int))]), ((0 : Nat), Ob.room (3 : Nat) (97 : Nat) (List.length MS) hd)], gl := fun x => none }) (by kernel_rfl) ?_
    repeat' (first | exact rfl | exact Nat.le_of_ble_eq_true rfl | refine And.intro ?_ ?_ | intro _ | refine bsplit_mk (fun _ => ?_) (fun _ => ?_))
    all_goals first
      | exact hQ
      | trace_state
  | succ n ih =>
    intro s d hd hs hn hQ
    have hw := rwr_post rb fb s hs
    have k1 := rsm_post rb fb s hs
    have k2 := rsm_post rb fb (rgo 1 s) (hs.go 1)
    have k3 := rfl_post rb fb (rgo 1 (rgo 1 s)) ((hs.go 1).go 1)
    have q1 : wrong s = true → TWk Tryd.prog Γ (fin Tryd.prog Tryd.f74 [0, 1] Q) [.code (sub (bd Tryd.f74) [1, 1, 1])] ⟨frame 43 [(0, .ptr 1 fb 0), (2, .ptr 2 b2 0), (3, .ptr 3 b3 0)], obsV rb fb b2 b3 s ve (Row.aggs memC d) hd, none_⟩ := fun h => by
      have hQ := hQ hd
      unfold Frm.memsR at hQ
      rw [if_pos h] at hQ
      have e : d ++ [] = d := List.append_nil d
      rw [e] at hQ; exact hQ
    have q2 : wrong s = false → ∀ hd, TWk Tryd.prog Γ (fin Tryd.prog Tryd.f74 [0, 1] Q) [.code (sub (bd Tryd.f74) [1, 1, 0, 1, 0]), .blk 0, .code (sub (bd Tryd.f74) [1, 1, 1])] ⟨frame 43 [(0, .ptr 1 fb 0), (2, .ptr 2 b2 0), (3, .ptr 3 b3 0), (4, int n)], obsV rb fb b2 b3 (memS s) ve (Row.aggs memC d ++ [.agg (memC (memR s))]) hd, none_⟩ := fun h hd => by
      rw [← Row.aggs_snoc]
      refine ih (memS s) (d ++ [memR s]) hd hs.mem (by simp; omega) (fun hd => ?_)
      have hQ := hQ hd
      unfold Frm.memsR at hQ
      rw [if_neg (by rw [h]; decide)] at hQ
      have e : d ++ (memR s :: (memsR n (memS s)).1) = d ++ [memR s] ++ (memsR n (memS s)).1 := by simp
      rw [e] at hQ; exact hQ
    have k3 : TCalls Tryd.prog 72 [.ptr 1 fb 0] (obsR rb fb (rgo 1 (rgo 1 s))) none_ (callPost (told (bool (flagB (rgo 1 (rgo 1 s)))) [0, 1] (obsR rb fb (memS s)))) := k3
    have hml : (Row.aggs memC d).length = d.length := Row.aggs_len d
    have hwn : T.v (.int .i64 (IntKind.wrap .i64 (((n + 1 : Nat) : Int) - 1))) = int n := congrArg int (by rw [wrap_i64 (by omega) (by omega)]; omega)
    have hm1 : (memR s).n = rnum 1 s := rfl
    have q2 : wrong s = false → ∀ hd, TWk Tryd.prog Γ (fin Tryd.prog Tryd.f74 [0, 1] Q) [.code (sub (bd Tryd.f74) [1, 1, 0, 1, 0]), .blk 0, .code (sub (bd Tryd.f74) [1, 1, 1])] ⟨frame 43 [(0, .ptr 1 fb 0), (2, .ptr 2 b2 0), (3, .ptr 3 b3 0), (4, int n)], obsV rb fb b2 b3 (memS s) ve (Row.aggs memC d ++ [.agg [u8 (rnum 1 s), u8 (rnum 1 (rgo 1 s)), bool (flagB (rgo 1 (rgo 1 s)))]]) hd, none_⟩ := q2
    clear ih hQ hm1
    generalize Row.aggs memC d = MS at *
    generalize memS s = s3 at *
    generalize flagB (rgo 1 (rgo 1 s)) = x3 at *
    generalize rgo 1 (rgo 1 s) = s2 at *
    generalize rnum 1 (rgo 1 s) = x2 at *
    generalize rgo 1 s = s1 at *
    generalize rnum 1 s = x1 at *
    generalize hwv : wrong s = w at *
    refine run_sound (⟨fun | 3, 4 => rsH 0 1 s (bool w) | 5, 3 => rsH 0 1 s1 (u8 x1) | 5, 5 => rsH 0 1 s2 (u8 x2) | 5, 7 => rsH 0 1 s3 (bool x3) | 4, 1 => .res (int n) | _, _ => .no, [((2, 3), ([0, 2, 3, 4], 5)), ((0, 6), ([0, 2, 3], 5))], fun | 5 => some ⟨[3], [10, 12], .take true [0,1,2,4,6] (.one 3 (.one 5 (.one 7 (.take true [8] (.one 9 (.one 10 (.take false [11] (.one 12 .done))))))))⟩ | 7 => some ⟨[], [6, 7], .take false [0,1,2,3,4] (.take true [5] (.one 6 (.one 7 .done)))⟩ | _ => none⟩) 400 (B := bsplit (decide ((↑(n + (1 : Nat)) : Int) > (0 : Int))) (TCalls Tryd.prog (42 : Nat) [T.ptr (1 : Nat) fb (0 : Nat)] [(rb, Ob.cells [T.v (Value.string (ByteArray.mk (List.toArray (RS.l s)))), T.v (Value.int IntKind.i64 (RS.e s))]), (fb, Ob.cells [T.ptr (0 : Nat) rb (0 : Nat), T.v (Value.bool (RS.bad s))])] (fun x => none) (callPost (Hint.call false Unit (fun x => True) [(0 : Nat), (1 : Nat)] false (fun x => bool w) (fun x => obsR rb fb s) fun x => none_)) ∧ ∀ (a : Unit), True → bsplit (!w) (b3 = b3 ∧ TCalls Tryd.prog (40 : Nat) [T.ptr (1 : Nat) fb (0 : Nat)] [(rb, Ob.cells [T.v (Value.string (ByteArray.mk (List.toArray (RS.l s)))), T.v (Value.int IntKind.i64 (RS.e s))]), (fb, Ob.cells [T.ptr (0 : Nat) rb (0 : Nat), T.v (Value.bool (RS.bad s))])] (fun x => none) (callPost (Hint.call false Unit (fun x => True) [(0 : Nat), (1 : Nat)] false (fun x => u8 (↑x1 : Int)) (fun x => obsR rb fb s1) fun x => none_)) ∧ ∀ (a : Unit), True → TCalls Tryd.prog (40 : Nat) [T.ptr (1 : Nat) fb (0 : Nat)] [(rb, Ob.cells [T.v (Value.string (ByteArray.mk (List.toArray (RS.l s1)))), T.v (Value.int IntKind.i64 (RS.e s1))]), (fb, Ob.cells [T.ptr (0 : Nat) rb (0 : Nat), T.v (Value.bool (RS.bad s1))])] (fun x => none) (callPost (Hint.call false Unit (fun x => True) [(0 : Nat), (1 : Nat)] false (fun x => u8 (↑x2 : Int)) (fun x => obsR rb fb s2) fun x => none_)) ∧ ∀ (a : Unit), True → TCalls Tryd.prog (72 : Nat) [T.ptr (1 : Nat) fb (0 : Nat)] [(rb, Ob.cells [T.v (Value.string (ByteArray.mk (List.toArray (RS.l s2)))), T.v (Value.int IntKind.i64 (RS.e s2))]), (fb, Ob.cells [T.ptr (0 : Nat) rb (0 : Nat), T.v (Value.bool (RS.bad s2))])] (fun x => none) (callPost (Hint.call false Unit (fun x => True) [(0 : Nat), (1 : Nat)] false (fun x => bool x3) (fun x => obsR rb fb s3) fun x => none_)) ∧ ∀ (a : Unit), True → (hd = hd ∧ List.length MS = List.length MS) ∧ Fits (List.length MS + (1 : Nat)) (nat_lit 3) ∧ ∀ (x : Value), ((1 : Nat) = nat_lit 1 ∧ List.all [T.slx (3 : Nat) (4 : Nat) (MS ++ [T.agg [T.v (Value.int IntKind.u8 (↑x1 : Int)), T.v (Value.int IntKind.u8 (↑x2 : Int)), T.v (Value.bool x3)]]) x] T.one = true) ∧ b3 = b3 ∧ (1 : Nat) + nat_lit 1 ≤ (10 : Nat) ∧ T.v (Value.int IntKind.i64 (IntKind.wrap IntKind.i64 ((↑(n + (1 : Nat)) : Int) - (1 : Int)))) = T.v (Value.int IntKind.i64 (↑n : Int)) ∧ TWk Tryd.prog Γ (fin Tryd.prog Tryd.f74 [(0 : Nat), (1 : Nat)] Q) [It.code (sub (bd Tryd.f74) [(1 : Nat), (1 : Nat), (0 : Nat), (1 : Nat), (0 : Nat)]), It.blk (0 : Nat), It.code (sub (bd Tryd.f74) [(1 : Nat), (1 : Nat), (1 : Nat)])] { fr := [T.ptr (1 : Nat) fb (0 : Nat), T.und, T.ptr (2 : Nat) b2 (0 : Nat), T.ptr (3 : Nat) b3 (0 : Nat), T.v (Value.int IntKind.i64 (↑n : Int)), T.und, T.und, T.und, T.und, T.und, T.und, T.und, T.und, T.und, T.und, T.und, T.und, T.und, T.und, T.und, T.und, T.und, T.und, T.und, T.und, T.und, T.und, T.und, T.und, T.und, T.und, T.und, T.und, T.und, T.und, T.und, T.und, T.und, T.und, T.und, T.und, T.und, T.und], ob := [(rb, Ob.cells [T.v (Value.string (ByteArray.mk (List.toArray (RS.l s3)))), T.v (Value.int IntKind.i64 (RS.e s3))]), (fb, Ob.cells [T.ptr (0 : Nat) rb (0 : Nat), T.v (Value.bool (RS.bad s3))]), (b2, Ob.cells [T.v (Value.int IntKind.u32 (0 : Int)), T.v (Value.slice none (0 : Nat) (0 : Nat)), T.v (Value.int IntKind.u8 (0 : Int)), T.v (Value.int IntKind.u8 (0 : Int)), T.v (Value.int IntKind.u8 (0 : Int)), T.v (Value.int IntKind.u8 (0 : Int)), T.v (Value.int IntKind.u8 (0 : Int)), T.v (Value.int IntKind.u8 (0 : Int)), T.v (Value.int IntKind.u8 (0 : Int)), T.v (Value.int IntKind.u8 (0 : Int))]), (b3, Ob.cells [T.v (Value.int IntKind.u32 (↑ve : Int)), T.slx (3 : Nat) (4 : Nat) (MS ++ [T.agg [T.v (Value.int IntKind.u8 (↑x1 : Int)), T.v (Value.int IntKind.u8 (↑x2 : Int)), T.v (Value.bool x3)]]) x, T.v (Value.int IntKind.u8 (0 : Int)), T.v (Value.int IntKind.u8 (0 : Int)), T.v (Value.int IntKind.u8 (0 : Int)), T.v (Value.int IntKind.u8 (0 : Int)), T.v (Value.int IntKind.u8 (0 : Int)), T.v (Value.int IntKind.u8 (0 : Int)), T.v (Value.int IntKind.u8 (0 : Int)), T.v (Value.int IntKind.u8 (0 : Int))]), ((0 : Nat), Ob.room (3 : Nat) (97 : Nat) (List.length (MS ++ [T.agg [T.v (Value.int IntKind.u8 (↑x1 : Int)), T.v (Value.int IntKind.u8 (↑x2 : Int)), T.v (Value.bool x3)]])) x)], gl := fun x => none }) (TWk Tryd.prog Γ (fin Tryd.prog Tryd.f74 [(0 : Nat), (1 : Nat)] Q) [It.code (sub (bd Tryd.f74) [(1 : Nat), (1 : Nat), (1 : Nat)])] { fr := [T.ptr (1 : Nat) fb (0 : Nat), T.und, T.ptr (2 : Nat) b2 (0 : Nat), T.ptr (3 : Nat) b3 (0 : Nat), T.und, T.und, T.und, T.und, T.und, T.und, T.und, T.und, T.und, T.und, T.und, T.und, T.und, T.und, T.und, T.und, T.und, T.und, T.und, T.und, T.und, T.und, T.und, T.und, T.und, T.und, T.und, T.und, T.und, T.und, T.und, T.und, T.und, T.und, T.und, T.und, T.und, T.und, T.und], ob := [(rb, Ob.cells [T.v (Value.string (ByteArray.mk (List.toArray (RS.l s)))), T.v (Value.int IntKind.i64 (RS.e s))]), (fb, Ob.cells [T.ptr (0 : Nat) rb (0 : Nat), T.v (Value.bool (RS.bad s))]), (b2, Ob.cells [T.v (Value.int IntKind.u32 (0 : Int)), T.v (Value.slice none (0 : Nat) (0 : Nat)), T.v (Value.int IntKind.u8 (0 : Int)), T.v (Value.int IntKind.u8 (0 : Int)), T.v (Value.int IntKind.u8 (0 : Int)), T.v (Value.int IntKind.u8 (0 : Int)), T.v (Value.int IntKind.u8 (0 : Int)), T.v (Value.int IntKind.u8 (0 : Int)), T.v (Value.int IntKind.u8 (0 : Int)), T.v (Value.int IntKind.u8 (0 : Int))]), (b3, Ob.cells [T.v (Value.int IntKind.u32 (↑ve : Int)), T.slx (3 : Nat) (4 : Nat) MS hd, T.v (Value.int IntKind.u8 (0 : Int)), T.v (Value.int IntKind.u8 (0 : Int)), T.v (Value.int IntKind.u8 (0 : Int)), T.v (Value.int IntKind.u8 (0 : Int)), T.v (Value.int IntKind.u8 (0 : Int)), T.v (Value.int IntKind.u8 (0 : Int)), T.v (Value.int IntKind.u8 (0 : Int)), T.v (Value.int IntKind.u8 (0 : Int))]), ((0 : Nat), Ob.room (3 : Nat) (97 : Nat) (List.length MS) hd)], gl := fun x => none })) (TWk Tryd.prog Γ (fin Tryd.prog Tryd.f74 [(0 : Nat), (1 : Nat)] Q) [It.code (sub (bd Tryd.f74) [(1 : Nat), (1 : Nat), (1 : Nat)])] { fr := [T.ptr (1 : Nat) fb (0 : Nat), T.und, T.ptr (2 : Nat) b2 (0 : Nat), T.ptr (3 : Nat) b3 (0 : Nat), T.und, T.und, T.und, T.und, T.und, T.und, T.und, T.und, T.und, T.und, T.und, T.und, T.und, T.und, T.und, T.und, T.und, T.und, T.und, T.und, T.und, T.und, T.und, T.und, T.und, T.und, T.und, T.und, T.und, T.und, T.und, T.und, T.und, T.und, T.und, T.und, T.und, T.und, T.und], ob := [(rb, Ob.cells [T.v (Value.string (ByteArray.mk (List.toArray (RS.l s)))), T.v (Value.int IntKind.i64 (RS.e s))]), (fb, Ob.cells [T.ptr (0 : Nat) rb (0 : Nat), T.v (Value.bool (RS.bad s))]), (b2, Ob.cells [T.v (Value.int IntKind.u32 (0 : Int)), T.v (Value.slice none (0 : Nat) (0 : Nat)), T.v (Value.int IntKind.u8 (0 : Int)), T.v (Value.int IntKind.u8 (0 : Int)), T.v (Value.int IntKind.u8 (0 : Int)), T.v (Value.int IntKind.u8 (0 : Int)), T.v (Value.int IntKind.u8 (0 : Int)), T.v (Value.int IntKind.u8 (0 : Int)), T.v (Value.int IntKind.u8 (0 : Int)), T.v (Value.int IntKind.u8 (0 : Int))]), (b3, Ob.cells [T.v (Value.int IntKind.u32 (↑ve : Int)), T.slx (3 : Nat) (4 : Nat) MS hd, T.v (Value.int IntKind.u8 (0 : Int)), T.v (Value.int IntKind.u8 (0 : Int)), T.v (Value.int IntKind.u8 (0 : Int)), T.v (Value.int IntKind.u8 (0 : Int)), T.v (Value.int IntKind.u8 (0 : Int)), T.v (Value.int IntKind.u8 (0 : Int)), T.v (Value.int IntKind.u8 (0 : Int)), T.v (Value.int IntKind.u8 (0 : Int))]), ((0 : Nat), Ob.room (3 : Nat) (97 : Nat) (List.length MS) hd)], gl := fun x => none })) (by kernel_rfl) ?_
    repeat' (first | exact rfl | exact Nat.le_of_ble_eq_true rfl | refine And.intro ?_ ?_ | intro _ | refine bsplit_mk (fun _ => ?_) (fun _ => ?_))
    all_goals first
      | exact hw
      | exact k1
      | exact k2
      | exact k3
      | exact hwn
      | exact q1 (bnF ‹_›)
      | exact q2 (bnT ‹_›) _
      | (exfalso; have := of_decide_eq_false ‹decide ((((n + 1 : Nat)) : Int) > 0) = false›; omega)
      | (simp [maxLen]; omega)
      | trace_state
end
section
variable (rb fb : Nat) (s : RS) (hs : s.Ok)
include hs
theorem rvw_post : TCalls Tryd.prog 74 [.ptr 1 fb 0] (obsR rb fb s) none_ (callPost (told (.agg (vwC (viewR s).1.1 (viewR s).1.2.1 (viewR s).1.2.2)) [0, 1] (obsR rb fb (viewR s).2))) := by
  have k1 := rwd_post rb fb s hs
  have k2 := rct_post rb fb (rgo 4 s) (hs.go 4) 8
  have hs2 := (hs.go 4).cnt 8
  have hQ : ∀ y s', y = .agg (vwC (viewR s).1.1 (viewR s).1.2.1 (viewR s).1.2.2) → s' = (viewR s).2 → callPost (told (.agg (vwC (viewR s).1.1 (viewR s).1.2.1 (viewR s).1.2.2)) [0, 1] (obsR rb fb (viewR s).2)) y (obsR rb fb s') none_ := fun y s' h h' => by subst h'; exact rs_post h
  generalize callPost (told (.agg (vwC (viewR s).1.1 (viewR s).1.2.1 (viewR s).1.2.2)) [0, 1] (obsR rb fb (viewR s).2)) = Q at *
  have hc8 : cntN 8 (rgo 4 s) ≤ 256 := by
    unfold Frm.cntN
    split
    · omega
    · have := Frm.rnum1_lt (rgo 4 s); omega
  have lp : ∀ Γ b2 b3, TWk Tryd.prog Γ (fin Tryd.prog Tryd.f74 [0, 1] Q) [.code (sub (bd Tryd.f74) [1, 1, 0, 1, 0]), .blk 0, .code (sub (bd Tryd.f74) [1, 1, 1])] ⟨frame 43 [(0, .ptr 1 fb 0), (2, .ptr 2 b2 0), (3, .ptr 3 b3 0), (4, int (cntN 8 (rgo 4 s)))], obsV rb fb b2 b3 (cntS 8 (rgo 4 s)) (rnum 4 s) [] nilS, none_⟩ := fun Γ b2 b3 =>
    rvw_loop Γ rb fb b2 b3 (rnum 4 s) Q (cntN 8 (rgo 4 s)) (cntS 8 (rgo 4 s)) [] nilS hs2 (by simp; omega) (fun hd => by
      have hq := Frm.RS.Ok.mems (cntN 8 (rgo 4 s)) hs2
      rw [List.nil_append]
      refine rvw_end Γ rb fb b2 b3 _ hq (rnum 4 s) _ hd Q (fun h => hQ _ _ ?_ ?_) (fun h => hQ _ _ ?_ ?_)
      · unfold Frm.viewR; dsimp only; rw [if_pos h]
      · unfold Frm.viewR; dsimp only; rw [if_pos h]
      · unfold Frm.viewR; dsimp only; rw [if_neg (by rw [h]; decide)]; rfl
      · unfold Frm.viewR; dsimp only; rw [if_neg (by rw [h]; decide)]; rfl)
  clear hQ
  generalize cntN 8 (rgo 4 s) = n at *
  generalize cntS 8 (rgo 4 s) = s2 at *
  generalize rgo 4 s = s1 at *
  generalize rnum 4 s = ve at *
  have lp := fun Γ b2 b3 => TWk.imp (s := ⟨frame 43 [(0, .ptr 1 fb 0), (2, .ptr 2 b2 0), (3, .ptr 3 b3 0), (4, int n)], [(rb, .cells [str s2.l, int s2.e]), (fb, .cells [.ptr 0 rb 0, bool s2.bad]), (b2, .cells vw0), (b3, .cells [u32 ve, .v nilS, u8 0, u8 0, u8 0, u8 0, u8 0, u8 0, u8 0, u8 0])], none_⟩) (lp Γ b2 b3)
    ((Imp.room 3 97).trans (Imp.cell 3 4 (i := 3) (j := 1) (b := b3) (cs := [u32 ve, .v nilS, u8 0, u8 0, u8 0, u8 0, u8 0, u8 0, u8 0, u8 0]) rfl rfl))
  refine TCalls.of Tryd.func74 rfl (CanCall.of Tryd.func74 rfl (by decide)) [0, 1] fun Γ => ?_
  refine run_sound (⟨fun | 1, 1 => rsH 0 1 s1 (u32 ve) | 2, 1 => rsH 0 1 s2 (int n) | _, _ => .no, [((2, 3), ([0, 2, 3, 4], 4))], fun | 5 => some ⟨[], [10, 12], .take true [0,1,2,4,6] (.one 3 (.one 5 (.one 7 (.take true [8] (.one 9 (.one 10 (.take false [11] (.one 12 .done))))))))⟩ | 7 => some ⟨[], [6, 7], .take false [0,1,2,3,4] (.take true [5] (.one 6 (.one 7 .done)))⟩ | _ => none⟩) 400 (B := ∀ (b : Nat), TCalls Tryd.prog (69 : Nat) [T.ptr (1 : Nat) fb (0 : Nat)] [(rb, Ob.cells [T.v (Value.string (ByteArray.mk (List.toArray (RS.l s)))), T.v (Value.int IntKind.i64 (RS.e s))]), (fb, Ob.cells [T.ptr (0 : Nat) rb (0 : Nat), T.v (Value.bool (RS.bad s))])] (fun x => none) (callPost (Hint.call false Unit (fun x => True) [(0 : Nat), (1 : Nat)] false (fun x => u32 (↑ve : Int)) (fun x => obsR rb fb s1) fun x => none_)) ∧ ∀ (a : Unit), True → ∀ (b_1 : Nat), ((10 : Nat) = nat_lit 10 ∧ List.all [T.v (Value.int IntKind.u32 (↑ve : Int)), T.v (Value.slice none (0 : Nat) (0 : Nat)), T.v (Value.int IntKind.u8 (0 : Int)), T.v (Value.int IntKind.u8 (0 : Int)), T.v (Value.int IntKind.u8 (0 : Int)), T.v (Value.int IntKind.u8 (0 : Int)), T.v (Value.int IntKind.u8 (0 : Int)), T.v (Value.int IntKind.u8 (0 : Int)), T.v (Value.int IntKind.u8 (0 : Int)), T.v (Value.int IntKind.u8 (0 : Int))] T.one = true) ∧ b_1 = b_1 ∧ (0 : Nat) + nat_lit 10 ≤ (10 : Nat) ∧ TCalls Tryd.prog (88 : Nat) [T.ptr (1 : Nat) fb (0 : Nat), T.v (Value.int IntKind.i64 (8 : Int))] [(rb, Ob.cells [T.v (Value.string (ByteArray.mk (List.toArray (RS.l s1)))), T.v (Value.int IntKind.i64 (RS.e s1))]), (fb, Ob.cells [T.ptr (0 : Nat) rb (0 : Nat), T.v (Value.bool (RS.bad s1))])] (fun x => none) (callPost (Hint.call false Unit (fun x => True) [(0 : Nat), (1 : Nat)] false (fun x => int (↑n : Int)) (fun x => obsR rb fb s2) fun x => none_)) ∧ ∀ (a : Unit), True → TWk Tryd.prog Γ (fin Tryd.prog Tryd.f74 [(0 : Nat), (1 : Nat)] Q) [It.code (sub (bd Tryd.f74) [(1 : Nat), (1 : Nat), (0 : Nat), (1 : Nat), (0 : Nat)]), It.blk (0 : Nat), It.code (sub (bd Tryd.f74) [(1 : Nat), (1 : Nat), (1 : Nat)])] { fr := [T.ptr (1 : Nat) fb (0 : Nat), T.und, T.ptr (2 : Nat) b (0 : Nat), T.ptr (3 : Nat) b_1 (0 : Nat), T.v (Value.int IntKind.i64 (↑n : Int)), T.und, T.und, T.und, T.und, T.und, T.und, T.und, T.und, T.und, T.und, T.und, T.und, T.und, T.und, T.und, T.und, T.und, T.und, T.und, T.und, T.und, T.und, T.und, T.und, T.und, T.und, T.und, T.und, T.und, T.und, T.und, T.und, T.und, T.und, T.und, T.und, T.und, T.und], ob := [(rb, Ob.cells [T.v (Value.string (ByteArray.mk (List.toArray (RS.l s2)))), T.v (Value.int IntKind.i64 (RS.e s2))]), (fb, Ob.cells [T.ptr (0 : Nat) rb (0 : Nat), T.v (Value.bool (RS.bad s2))]), (b, Ob.cells [T.v (Value.int IntKind.u32 (0 : Int)), T.v (Value.slice none (0 : Nat) (0 : Nat)), T.v (Value.int IntKind.u8 (0 : Int)), T.v (Value.int IntKind.u8 (0 : Int)), T.v (Value.int IntKind.u8 (0 : Int)), T.v (Value.int IntKind.u8 (0 : Int)), T.v (Value.int IntKind.u8 (0 : Int)), T.v (Value.int IntKind.u8 (0 : Int)), T.v (Value.int IntKind.u8 (0 : Int)), T.v (Value.int IntKind.u8 (0 : Int))]), (b_1, Ob.cells [T.v (Value.int IntKind.u32 (↑ve : Int)), T.v (Value.slice none (0 : Nat) (0 : Nat)), T.v (Value.int IntKind.u8 (0 : Int)), T.v (Value.int IntKind.u8 (0 : Int)), T.v (Value.int IntKind.u8 (0 : Int)), T.v (Value.int IntKind.u8 (0 : Int)), T.v (Value.int IntKind.u8 (0 : Int)), T.v (Value.int IntKind.u8 (0 : Int)), T.v (Value.int IntKind.u8 (0 : Int)), T.v (Value.int IntKind.u8 (0 : Int))])], gl := fun x => none }) (by kernel_rfl) ?_
  repeat' (first | exact rfl | exact Nat.le_of_ble_eq_true rfl | refine And.intro ?_ ?_ | intro _ | refine bsplit_mk (fun _ => ?_) (fun _ => ?_))
  all_goals first
    | exact k1
    | exact k2
    | exact lp _ _ _
    | trace_state
end
def obsE (rb fb : Nat) (s : RS) (M : List T) (hd : Value) : Obs := [(rb, .cells [str s.l, int s.e]), (fb, .cells [.ptr 0 rb 0, bool s.bad]), (0, .room 8 103 M.length hd)]
section
variable (Γ : Ctx) (rb fb : Nat)
theorem ren_loop (Q : T → Obs → Glb → Prop) : ∀ (n : Nat) (s : RS) (d : List Ent) (hd : Value), s.Ok → n + d.length ≤ 1000 →
    (Q (.sl 8 (Row.aggs entC (d ++ (entsR n s).1))) (obsR rb fb (entsR n s).2) none_) →
    TWk Tryd.prog Γ (fin Tryd.prog Tryd.f75 [0, 1] Q) [.code (sub (bd Tryd.f75) [1, 1, 0, 1, 0]), .blk 0, .code (sub (bd Tryd.f75) [1, 1, 1])] ⟨frame 28 [(0, .ptr 1 fb 0), (3, .slx 8 2 (Row.aggs entC d) hd), (4, int n)], obsE rb fb s (Row.aggs entC d) hd, none_⟩ := by
  intro n
  induction n with
  | zero =>
    intro s d hd hs hn hQ
    have hQ : Q (.sl 8 (Row.aggs entC d)) (obsR rb fb s) none_ := by
      have e : d ++ (entsR 0 s).1 = d := List.append_nil d
      rw [e] at hQ; exact hQ
    generalize Row.aggs entC d = MS at *
    refine run_sound (⟨fun _ _ => .no, [((2, 3), ([0, 3, 4], 3))], fun _ => none⟩) 400 (B := Q (T.sl (8 : Nat) MS) [(rb, Ob.cells [T.v (Value.string (ByteArray.mk (List.toArray (RS.l s)))), T.v (Value.int IntKind.i64 (RS.e s))]), (fb, Ob.cells [T.ptr (0 : Nat) rb (0 : Nat), T.v (Value.bool (RS.bad s))])] fun x => none) (by kernel_rfl) ?_
    repeat' (first | exact rfl | exact Nat.le_of_ble_eq_true rfl | refine And.intro ?_ ?_ | intro _ | refine bsplit_mk (fun _ => ?_) (fun _ => ?_))
    all_goals first
      | exact hQ
      | trace_state
  | succ n ih =>
    intro s d hd hs hn hQ
    have hw := rwr_post rb fb s hs
    have k1 := rwd_post rb fb s hs
    have k2 := rmk_post rb fb (rgo 4 s) (hs.go 4)
    have k3 := rcm_post rb fb (markS (rgo 4 s)) (hs.go 4).mark
    have q1 : wrong s = true → Q (.sl 8 (Row.aggs entC d)) (obsR rb fb s) none_ := fun h => by
      unfold Frm.entsR at hQ
      rw [if_pos h] at hQ
      have e : d ++ [] = d := List.append_nil d
      rw [e] at hQ; exact hQ
    have q2 : wrong s = false → ∀ hd, TWk Tryd.prog Γ (fin Tryd.prog Tryd.f75 [0, 1] Q) [.code (sub (bd Tryd.f75) [1, 1, 0, 1, 0]), .blk 0, .code (sub (bd Tryd.f75) [1, 1, 1])] ⟨frame 28 [(0, .ptr 1 fb 0), (3, .slx 8 2 (Row.aggs entC d ++ [.agg (entC (entR s))]) hd), (4, int n)], obsE rb fb (entS s) (Row.aggs entC d ++ [.agg (entC (entR s))]) hd, none_⟩ := fun h hd => by
      rw [← Row.aggs_snoc]
      refine ih (entS s) (d ++ [entR s]) hd hs.ent (by simp; omega) ?_
      unfold Frm.entsR at hQ
      rw [if_neg (by rw [h]; decide)] at hQ
      have e : d ++ (entR s :: (entsR n (entS s)).1) = d ++ [entR s] ++ (entsR n (entS s)).1 := by simp
      rw [e] at hQ; exact hQ
    have hml : (Row.aggs entC d).length = d.length := Row.aggs_len d
    have hwn : T.v (.int .i64 (IntKind.wrap .i64 (((n + 1 : Nat) : Int) - 1))) = int n := congrArg int (by rw [wrap_i64 (by omega) (by omega)]; omega)
    have q2 : wrong s = false → ∀ hd, TWk Tryd.prog Γ (fin Tryd.prog Tryd.f75 [0, 1] Q) [.code (sub (bd Tryd.f75) [1, 1, 0, 1, 0]), .blk 0, .code (sub (bd Tryd.f75) [1, 1, 1])] ⟨frame 28 [(0, .ptr 1 fb 0), (3, .slx 8 2 (Row.aggs entC d ++ [.agg [u32 (rnum 4 s), u32 (rnum 4 (rgo 4 s)), u8 (rnum 1 (rgo 4 (rgo 4 s))), u8 (cmdR (markS (rgo 4 s))).k, u8 (cmdR (markS (rgo 4 s))).n, u8 (cmdR (markS (rgo 4 s))).l, u32 (cmdR (markS (rgo 4 s))).e, u32 (cmdR (markS (rgo 4 s))).q]]) hd), (4, int n)], obsE rb fb (cmdS (markS (rgo 4 s))) (Row.aggs entC d ++ [.agg [u32 (rnum 4 s), u32 (rnum 4 (rgo 4 s)), u8 (rnum 1 (rgo 4 (rgo 4 s))), u8 (cmdR (markS (rgo 4 s))).k, u8 (cmdR (markS (rgo 4 s))).n, u8 (cmdR (markS (rgo 4 s))).l, u32 (cmdR (markS (rgo 4 s))).e, u32 (cmdR (markS (rgo 4 s))).q]]) hd, none_⟩ := q2
    clear ih hQ
    generalize Row.aggs entC d = MS at *
    generalize cmdR (markS (rgo 4 s)) = x4 at *
    generalize cmdS (markS (rgo 4 s)) = s3 at *
    generalize rnum 1 (rgo 4 (rgo 4 s)) = x3 at *
    generalize markS (rgo 4 s) = s2 at *
    generalize rnum 4 (rgo 4 s) = x2 at *
    generalize rgo 4 s = s1 at *
    generalize rnum 4 s = x1 at *
    generalize hwv : wrong s = w at *
    refine run_sound (⟨fun | 3, 4 => rsH 0 1 s (bool w) | 5, 2 => rsH 0 1 s1 (u32 x1) | 5, 4 => rsH 0 1 s2 (.agg (markC x2 x3)) | 5, 7 => rsH 0 1 s3 (.agg (cmdC x4)) | 4, 1 => .res (int n) | _, _ => .no, [((2, 3), ([0, 3, 4], 3))], fun  | _ => none⟩) 400 (B := bsplit (decide ((↑(n + (1 : Nat)) : Int) > (0 : Int))) (TCalls Tryd.prog (42 : Nat) [T.ptr (1 : Nat) fb (0 : Nat)] [(rb, Ob.cells [T.v (Value.string (ByteArray.mk (List.toArray (RS.l s)))), T.v (Value.int IntKind.i64 (RS.e s))]), (fb, Ob.cells [T.ptr (0 : Nat) rb (0 : Nat), T.v (Value.bool (RS.bad s))])] (fun x => none) (callPost (Hint.call false Unit (fun x => True) [(0 : Nat), (1 : Nat)] false (fun x => bool w) (fun x => obsR rb fb s) fun x => none_)) ∧ ∀ (a : Unit), True → bsplit (!w) (TCalls Tryd.prog (69 : Nat) [T.ptr (1 : Nat) fb (0 : Nat)] [(rb, Ob.cells [T.v (Value.string (ByteArray.mk (List.toArray (RS.l s)))), T.v (Value.int IntKind.i64 (RS.e s))]), (fb, Ob.cells [T.ptr (0 : Nat) rb (0 : Nat), T.v (Value.bool (RS.bad s))])] (fun x => none) (callPost (Hint.call false Unit (fun x => True) [(0 : Nat), (1 : Nat)] false (fun x => u32 (↑x1 : Int)) (fun x => obsR rb fb s1) fun x => none_)) ∧ ∀ (a : Unit), True → TCalls Tryd.prog (70 : Nat) [T.ptr (1 : Nat) fb (0 : Nat)] [(rb, Ob.cells [T.v (Value.string (ByteArray.mk (List.toArray (RS.l s1)))), T.v (Value.int IntKind.i64 (RS.e s1))]), (fb, Ob.cells [T.ptr (0 : Nat) rb (0 : Nat), T.v (Value.bool (RS.bad s1))])] (fun x => none) (callPost (Hint.call false Unit (fun x => True) [(0 : Nat), (1 : Nat)] false (fun x => T.agg (markC x2 x3)) (fun x => obsR rb fb s2) fun x => none_)) ∧ ∀ (a : Unit), True → TCalls Tryd.prog (73 : Nat) [T.ptr (1 : Nat) fb (0 : Nat)] [(rb, Ob.cells [T.v (Value.string (ByteArray.mk (List.toArray (RS.l s2)))), T.v (Value.int IntKind.i64 (RS.e s2))]), (fb, Ob.cells [T.ptr (0 : Nat) rb (0 : Nat), T.v (Value.bool (RS.bad s2))])] (fun x => none) (callPost (Hint.call false Unit (fun x => True) [(0 : Nat), (1 : Nat)] false (fun x => T.agg (cmdC x4)) (fun x => obsR rb fb s3) fun x => none_)) ∧ ∀ (a : Unit), True → (hd = hd ∧ List.length MS = List.length MS) ∧ Fits (List.length MS + (1 : Nat)) (nat_lit 24) ∧ ∀ (x : Value), T.v (Value.int IntKind.i64 (IntKind.wrap IntKind.i64 ((↑(n + (1 : Nat)) : Int) - (1 : Int)))) = T.v (Value.int IntKind.i64 (↑n : Int)) ∧ TWk Tryd.prog Γ (fin Tryd.prog Tryd.f75 [(0 : Nat), (1 : Nat)] Q) [It.code (sub (bd Tryd.f75) [(1 : Nat), (1 : Nat), (0 : Nat), (1 : Nat), (0 : Nat)]), It.blk (0 : Nat), It.code (sub (bd Tryd.f75) [(1 : Nat), (1 : Nat), (1 : Nat)])] { fr := [T.ptr (1 : Nat) fb (0 : Nat), T.und, T.und, T.slx (8 : Nat) (2 : Nat) (MS ++ [T.agg [T.v (Value.int IntKind.u32 (↑x1 : Int)), T.v (Value.int IntKind.u32 (↑x2 : Int)), T.v (Value.int IntKind.u8 (↑x3 : Int)), T.v (Value.int IntKind.u8 (↑(Cmd.k x4) : Int)), T.v (Value.int IntKind.u8 (↑(Cmd.n x4) : Int)), T.v (Value.int IntKind.u8 (↑(Cmd.l x4) : Int)), T.v (Value.int IntKind.u32 (↑(Cmd.e x4) : Int)), T.v (Value.int IntKind.u32 (↑(Cmd.q x4) : Int))]]) x, T.v (Value.int IntKind.i64 (↑n : Int)), T.und, T.und, T.und, T.und, T.und, T.und, T.und, T.und, T.und, T.und, T.und, T.und, T.und, T.und, T.und, T.und, T.und, T.und, T.und, T.und, T.und, T.und, T.und], ob := [(rb, Ob.cells [T.v (Value.string (ByteArray.mk (List.toArray (RS.l s3)))), T.v (Value.int IntKind.i64 (RS.e s3))]), (fb, Ob.cells [T.ptr (0 : Nat) rb (0 : Nat), T.v (Value.bool (RS.bad s3))]), ((0 : Nat), Ob.room (8 : Nat) (103 : Nat) (List.length (MS ++ [T.agg [T.v (Value.int IntKind.u32 (↑x1 : Int)), T.v (Value.int IntKind.u32 (↑x2 : Int)), T.v (Value.int IntKind.u8 (↑x3 : Int)), T.v (Value.int IntKind.u8 (↑(Cmd.k x4) : Int)), T.v (Value.int IntKind.u8 (↑(Cmd.n x4) : Int)), T.v (Value.int IntKind.u8 (↑(Cmd.l x4) : Int)), T.v (Value.int IntKind.u32 (↑(Cmd.e x4) : Int)), T.v (Value.int IntKind.u32 (↑(Cmd.q x4) : Int))]])) x)], gl := fun x => none }) (Q (T.sl (8 : Nat) MS) [(rb, Ob.cells [T.v (Value.string (ByteArray.mk (List.toArray (RS.l s)))), T.v (Value.int IntKind.i64 (RS.e s))]), (fb, Ob.cells [T.ptr (0 : Nat) rb (0 : Nat), T.v (Value.bool (RS.bad s))])] fun x => none)) (Q (T.sl (8 : Nat) MS) [(rb, Ob.cells [T.v (Value.string (ByteArray.mk (List.toArray (RS.l s)))), T.v (Value.int IntKind.i64 (RS.e s))]), (fb, Ob.cells [T.ptr (0 : Nat) rb (0 : Nat), T.v (Value.bool (RS.bad s))])] fun x => none)) (by kernel_rfl) ?_
    repeat' (first | exact rfl | exact Nat.le_of_ble_eq_true rfl | refine And.intro ?_ ?_ | intro _ | refine bsplit_mk (fun _ => ?_) (fun _ => ?_))
    all_goals first
      | exact hw
      | exact k1
      | exact k2
      | exact k3
      | exact hwn
      | exact q1 (bnF ‹_›)
      | exact q2 (bnT ‹_›) _
      | (exfalso; have := of_decide_eq_false ‹decide ((((n + 1 : Nat)) : Int) > 0) = false›; omega)
      | (simp [maxLen]; omega)
      | trace_state
end
section
variable (rb fb : Nat) (s : RS) (hs : s.Ok)
include hs
theorem ren_post : TCalls Tryd.prog 75 [.ptr 1 fb 0] (obsR rb fb s) none_ (callPost (told (.sl 8 (Row.aggs entC (entsR (cntN 16 s) (cntS 16 s)).1)) [0, 1] (obsR rb fb (entsR (cntN 16 s) (cntS 16 s)).2))) := by
  have k2 := rct_post rb fb s hs 16
  have hs2 := hs.cnt 16
  have hQ : callPost (told (.sl 8 (Row.aggs entC (entsR (cntN 16 s) (cntS 16 s)).1)) [0, 1] (obsR rb fb (entsR (cntN 16 s) (cntS 16 s)).2)) (.sl 8 (Row.aggs entC (entsR (cntN 16 s) (cntS 16 s)).1)) (obsR rb fb (entsR (cntN 16 s) (cntS 16 s)).2) none_ := rs_post rfl
  generalize callPost (told (.sl 8 (Row.aggs entC (entsR (cntN 16 s) (cntS 16 s)).1)) [0, 1] (obsR rb fb (entsR (cntN 16 s) (cntS 16 s)).2)) = Q at *
  have hc8 : cntN 16 s ≤ 256 := by
    unfold Frm.cntN
    split
    · omega
    · have := Frm.rnum1_lt s; omega
  have lp : ∀ Γ, TWk Tryd.prog Γ (fin Tryd.prog Tryd.f75 [0, 1] Q) [.code (sub (bd Tryd.f75) [1, 1, 0, 1, 0]), .blk 0, .code (sub (bd Tryd.f75) [1, 1, 1])] ⟨frame 28 [(0, .ptr 1 fb 0), (3, .slx 8 2 [] nilS), (4, int (cntN 16 s))], obsE rb fb (cntS 16 s) [] nilS, none_⟩ := fun Γ =>
    ren_loop Γ rb fb Q (cntN 16 s) (cntS 16 s) [] nilS hs2 (by simp; omega) (by rw [List.nil_append]; exact hQ)
  clear hQ
  generalize cntN 16 s = n at *
  generalize cntS 16 s = s2 at *
  have lp := fun Γ => TWk.imp (s := ⟨frame 28 [(0, .ptr 1 fb 0), (3, .v nilS), (4, int n)], [(rb, .cells [str s2.l, int s2.e]), (fb, .cells [.ptr 0 rb 0, bool s2.bad])], none_⟩) (lp Γ)
    ((Imp.room 8 103).trans (Imp.slot 8 2 3 rfl))
  refine TCalls.of Tryd.func75 rfl (CanCall.of Tryd.func75 rfl (by decide)) [0, 1] fun Γ => ?_
  refine run_sound (⟨fun | 2, 1 => rsH 0 1 s2 (int n) | _, _ => .no, [((2, 3), ([0, 3, 4], 2))], fun  | _ => none⟩) 400 (B := TCalls Tryd.prog (88 : Nat) [T.ptr (1 : Nat) fb (0 : Nat), T.v (Value.int IntKind.i64 (16 : Int))] [(rb, Ob.cells [T.v (Value.string (ByteArray.mk (List.toArray (RS.l s)))), T.v (Value.int IntKind.i64 (RS.e s))]), (fb, Ob.cells [T.ptr (0 : Nat) rb (0 : Nat), T.v (Value.bool (RS.bad s))])] (fun x => none) (callPost (Hint.call false Unit (fun x => True) [(0 : Nat), (1 : Nat)] false (fun x => int (↑n : Int)) (fun x => obsR rb fb s2) fun x => none_)) ∧ ∀ (a : Unit), True → TWk Tryd.prog Γ (fin Tryd.prog Tryd.f75 [(0 : Nat), (1 : Nat)] Q) [It.code (sub (bd Tryd.f75) [(1 : Nat), (1 : Nat), (0 : Nat), (1 : Nat), (0 : Nat)]), It.blk (0 : Nat), It.code (sub (bd Tryd.f75) [(1 : Nat), (1 : Nat), (1 : Nat)])] { fr := [T.ptr (1 : Nat) fb (0 : Nat), T.und, T.und, T.v (Value.slice none (0 : Nat) (0 : Nat)), T.v (Value.int IntKind.i64 (↑n : Int)), T.und, T.und, T.und, T.und, T.und, T.und, T.und, T.und, T.und, T.und, T.und, T.und, T.und, T.und, T.und, T.und, T.und, T.und, T.und, T.und, T.und, T.und, T.und], ob := [(rb, Ob.cells [T.v (Value.string (ByteArray.mk (List.toArray (RS.l s2)))), T.v (Value.int IntKind.i64 (RS.e s2))]), (fb, Ob.cells [T.ptr (0 : Nat) rb (0 : Nat), T.v (Value.bool (RS.bad s2))])], gl := fun x => none }) (by kernel_rfl) ?_
  repeat' (first | exact rfl | exact Nat.le_of_ble_eq_true rfl | refine And.intro ?_ ?_ | intro _ | refine bsplit_mk (fun _ => ?_) (fun _ => ?_))
  all_goals first
    | exact k2
    | exact lp _
    | trace_state
end
end X6
end Go.Proofs.YtaepgceodcdnhaaDoor.Vm
