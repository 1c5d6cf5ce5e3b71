/- Texts of this claim: AcY. -/
import Derived.Test.YtcmcmafeaabjmaaMg15
import Derived.Test.YtcmcmafeaabjmaaMg24
namespace Go.Proofs.Ytcmcmafeaabjmaa.Vm
open Go Go.RowKit
set_option maxRecDepth 100000
noncomputable abbrev kAcY0 (l : List Nat) : It := .code (sub (bd Try.f4) l)
noncomputable abbrev wAcY1 (Γ : Ctx) (Q : T → Obs → Glb → Prop) : List It → S → Prop := TWk Try.prog Γ (fin Try.prog Try.f4 [] Q)
def plAcY0 : Nat → Option RPlan := fun | 8 => some ⟨[], [2], .take true [1] (.one 0 (.one 2 (.take false [3] .done)))⟩ | _ => none
namespace X11
open Acp (En AS Rc blw VOk IsE XOk)
open View (VS Mem)
open X5 (viewC mems memC firstM firstL vwT obsF)
open Jrn (Dk)
open X9 (dkC obsK dkH dk_post)
open X10 (strs jC obsJ)
theorem Imp.ix' {ts : List T} {ob : Obs} {gl : Glb} (f : Nat → Nat) {ts' : List T} {ob' : Obs} (h : ts' = ts.map (ix3 f)) (h' : ob' = ob.map (ixOb f)) : Imp ts ob gl ts' ob' gl := by
  rw [h, h']
  exact ⟨fun _ _ h => relL_map ix3_rel h, fun _ _ h => HRel.same (F := ix3 f) ⟨ix3_rel, ixOb_blk, ixOb_rel⟩ h, fun _ h => (dom_same (F := ix3 f) ⟨ix3_rel, ixOb_blk, ixOb_rel⟩).1 h⟩
theorem crash_jd' (l : List (List UInt8)) (k : Int) : Jrn.crashD (Jrn.jd l) k = jo l := by
  unfold Jrn.crashD
  rw [if_neg (show ¬ (Jrn.jd l).off = true from Bool.false_ne_true)]
  have : Jrn.crashN (Jrn.jd l) k = (Jrn.flat l).length := by unfold Jrn.crashN Jrn.jd; dsimp only; omega
  rw [this]
  show (⟨(Jrn.flat l).take (Jrn.flat l).length, (Jrn.flat l).length, true⟩ : Dk) = jo l
  rw [List.take_length]; rfl
theorem f8_loop (Γ : Ctx) (b0 b1 n : Nat) (Q : T → Obs → Glb → Prop) (hn : n ≤ 8) (hQ : ∀ hd, Q (.tup [.agg (vwT 1 (.slx 3 0 (mems (firstM n)) hd) (firstL n)), int 0]) [(0, .room 3 61 (mems (firstM n)).length hd)] none_) : ∀ (c j : Nat) (hd : Value), j + c = n → TWk Try.prog Γ (fin Try.prog Try.f30 [2] Q) [.code (sub (bd Try.f30) [1,1,1,0,1,0]), .blk 0, .code (sub (bd Try.f30) [1,1,1,1])] ⟨frame 32 [(2, .ptr 0 b0 0), (4, .ptr 1 b1 0), (14, int n), (15, int j)], obsF b0 b1 j hd, none_⟩ := by
  intro c
  induction c with
  | zero =>
    intro j hd h
    have e : j = n := by omega
    subst e
    exact f8_end Γ b0 b1 j Q hd (hQ hd)
  | succ c ih =>
    intro j hd h
    exact f8_step Γ b0 b1 n Q hn j (by omega) hd fun hd => ih (j + 1) hd (by omega)
theorem first8 (Q : T → Obs → Glb → Prop) (hQ : ∀ hd, Q (.tup [.agg (vwT 1 (.slx 3 0 (mems (firstM 8)) hd) (firstL 8)), int 0]) [(0, .room 3 61 (mems (firstM 8)).length hd)] none_) : TCalls Try.prog 30 [int 8] [] none_ Q := by
  have lp := fun Γ b0 b1 => TWk.imp (s := ⟨frame 32 [(2, .ptr 0 b0 0), (4, .ptr 1 b1 0), (14, int 8), (15, int 0)], [(b0, .cells [u32 0, .v nilS, u8 0, u8 0, u8 0, u8 0, u8 0, u8 0, u8 0, u8 0]), (b1, .cells (vwT 1 (.v nilS) (firstL 0)))], none_⟩) (f8_loop Γ b0 b1 8 Q (by decide) hQ 8 0 nilS (by decide)) ((Imp.room 3 61).trans (Imp.cell (i := 1) (b := b1) (cs := vwT 1 (.v nilS) (firstL 0)) (j := 1) 3 2 rfl rfl))
  clear hQ
  refine TCalls.of Try.func30 rfl (CanCall.of Try.func30 rfl (by decide)) [2] fun Γ => ?_
  let HH : Nat → Nat → Hint := fun _ _ => .no
  exact run_sound ⟨HH, [((2, 5), ([2,4,14,15], 2))], fun _ => none⟩ 400 (by kernel_rfl) (fun (Z0 : Nat) => (fun (Z1 : Nat) => (Yk 10 Z1 (lp Γ Z0 Z1))))
def firstP (M : List T) (L : Nat → Nat) : Hint := .call false Value (fun _ => True) [] false (fun hd => .tup [.agg (vwT 1 (.slx 3 0 M hd) L), int 0]) (fun hd => [(0, .room 3 61 M.length hd)]) (fun _ => none_)
def viewP (M : List T) (L : Nat → Nat) : Hint := .call false Value (fun _ => True) [] false (fun hd => .agg (vwT 7 (.slx 3 0 M hd) L)) (fun hd => [(0, .room 3 61 M.length hd)]) (fun _ => none_)
theorem viewOf7 : TCalls Try.prog 9 [u32 7] [] none_ (callPost (viewP (mems (firstM 8)) (firstL 8))) := by
  have fi : TCalls Try.prog 30 [int 8] [] none_ (callPost (firstP (mems (firstM 8)) (firstL 8))) := first8 _ fun hd => ⟨hd, trivial, rfl, rfl, Nat.zero_le _, fun h => by cases h⟩
  have hQ : ∀ hd, callPost (viewP (mems (firstM 8)) (firstL 8)) (.agg (vwT 7 (.slx 3 0 (mems (firstM 8)) hd) (firstL 8))) [(0, .room 3 61 (mems (firstM 8)).length hd)] none_ := fun hd => ⟨hd, trivial, rfl, rfl, Nat.zero_le _, fun h => by cases h⟩
  generalize callPost (viewP (mems (firstM 8)) (firstL 8)) = Q at *
  generalize mems (firstM 8) = M at *
  generalize firstL 8 = L at *
  refine TCalls.of Try.func9 rfl (CanCall.of Try.func9 rfl (by decide)) [1] fun Γ => ?_
  let HH : Nat → Nat → Hint := fun | 1, 1 => .res (u32 7) | 1, 2 => .res (int 7) | 1, 3 => .res (int 8) | 1, 4 => firstP M L | _, _ => .no
  exact run_sound ⟨HH, [], fun  | _ => none⟩ 400 (by kernel_rfl) (fun (Z0 : Nat) => (Yb (u32 (7 : Int)) (Yb (int (7 : Int)) (Yb (int (8 : Int)) (Ya fi (fun (Z1 : Value) => (fun (Z2 : True) => (fun (Z3 : Nat) => (Yk 10 Z3 (Yl 1 (Yb Z3 (Ya (Yn (1) (10) rfl) (Yb Z3 (Yk 10 Z0 (Yb Z0 (hQ Z1))))))))))))))))
def wv : VS := ⟨7, firstM 8 ++ [⟨9, 1, false⟩], firstL 8⟩
theorem wv_len : wv.ms.length = 9 := rfl
theorem wv_mems : mems wv.ms = mems (firstM 8) ++ [.agg [u8 9, u8 1, bool false]] := by
  show mems (firstM 8 ++ [⟨9, 1, false⟩]) = _
  unfold mems
  rw [List.map_append]; rfl
section
variable (self other : Nat) (Q : T → Obs → Glb → Prop)
theorem own_start (e : Int) (l : List (List UInt8)) (mk : ∀ db, TCalls Try.prog 8 [.ptr 0 db 0, u8 self, .agg (viewC (vw 2))] (obsK db (Jrn.jd [])) none_ (callPost (told (int e) [0] (obsK db (Jrn.jd l))))) (nx : ∀ Γ db wb, wAcY1 Γ Q [kAcY0 [1,1,1,1,1,1,1]] ⟨frame 214 [(0, u8 self), (1, u8 other), (5, .ptr 0 db 0), (7, int 7), (8, int e), (9, .ptr 1 wb 0)], obsK db (Jrn.jd l) ++ [(wb, .cells (viewC wv))], none_⟩) : TCalls Try.prog 4 [u8 self, u8 other] [] none_ Q := by
  have nx := fun Γ db wb (n : Nat) hd => TWk.imp (s := ⟨frame 214 [(0, u8 self), (1, u8 other), (5, .ptr 0 db 0), (7, int 7), (8, int e), (9, .ptr 2 wb 0)], obsK db (Jrn.jd l) ++ [(0, .room 3 61 n hd), (wb, .cells (vwT 7 (.slx 3 1 (mems (firstM 8) ++ [.agg [u8 9, u8 1, bool false]]) hd) (firstL 8)))], none_⟩) (nx Γ db wb)
    (((Imp.weak (i := 2) (b := wb) (cs := vwT 7 (.slx 3 1 (mems (firstM 8) ++ [.agg [u8 9, u8 1, bool false]]) hd) (firstL 8)) rfl).trans (Imp.sel (ob' := obsK db (Jrn.jd l) ++ [(wb, .cells (vwT 7 (.sl 3 (mems (firstM 8) ++ [.agg [u8 9, u8 1, bool false]])) (firstL 8)))]) [0,2] (by decide) rfl)).trans (Imp.ix' (fun k => [0,0,1].getD k 0) rfl (by rw [show viewC wv = vwT 7 (.sl 3 (mems (firstM 8) ++ [.agg [u8 9, u8 1, bool false]])) (firstL 8) from by rw [← wv_mems]; rfl]; rfl)))
  have sp := fun Q' hq => speaks_any Q' hq
  have op := fun db => open_none db 1 (by decide) (callPost (told (.tup [.v (.pointer none), int 7]) [0] (obsK db (Jrn.jd [])))) (told_post rfl)
  have vo := fun Q' hq => viewOf_any 2 (by decide) Q' hq
  have v7 := viewOf7
  have hM : (mems (firstM 8)).length = 8 := rfl
  have hml : (mems (firstM 8)).length + 1 ≤ maxLen := by rw [hM]; decide
  have hml2 : ((mems (firstM 8)).length + 1) * 3 ≤ 140737488355328 := by rw [hM]; decide
  generalize vw 2 = v at *
  generalize mems (firstM 8) = M at *
  generalize firstL 8 = L at *
  refine TCalls.of Try.func4 rfl (CanCall.of Try.func4 rfl (by decide)) [] fun Γ => ?_
  let HH : Nat → Nat → Hint := fun | 1, 0 => told (bool true) [] [] | 3, 0 => nwH | 4, 1 => dkH 0 (Jrn.jd []) (.tup [.v (.pointer none), int 7]) | 5, 2 => told (.agg (viewC v)) [] [] | 5, 3 => dkH 0 (Jrn.jd l) (int e) | 6, 0 => viewP M L | _, _ => .no
  exact run_sound ⟨HH, [((0, 8), ([0,1,5,7,8,9], 3))], plAcY0⟩ 400 (by kernel_rfl) (Ya (sp (HH 1 0).P (told_post rfl)) (Yu (Ya new_post (fun (Z0 : Nat) => (fun (Z1 : True) => (Ya (op Z0) (Yu (Ya (vo (HH 5 2).P (told_post rfl)) (Yu (Ya (mk Z0) (Yu (Ya v7 (fun (Z2 : Value) => (fun (Z3 : True) => (fun (Z4 : Nat) => (Yk 10 Z4 (Yb Z4 (Ya (Yb Z2 (Ye (List.length M))) (Ya (Ya (show (List.length M + 1) * nat_lit 3 ≤ 140737488355328 by omega) (show List.length M + 1 ≤ maxLen by omega)) (fun (Z5 : Value) => (Yl 1 (Yb Z4 (Ya (Yn (2) (10) rfl) (nx Γ Z0 Z4 (List.length (M ++ [T.agg [u8 (9 : Int), u8 (1 : Int), bool false]])) Z5))))))))))))))))))))))))
section
variable (Γ : Ctx) (db wb : Nat) (l : List (List UInt8))
theorem own_midG (hg : 1 ≤ self ∧ self ≤ 5) (nx : wAcY1 Γ Q [kAcY0 [1,1,1,1,1,1,1,1,1,1]] ⟨frame 214 [(0, u8 self), (1, u8 other), (5, .ptr 0 db 0), (9, .ptr 1 wb 0), (10, bool true)], obsK db (Jrn.jd l) ++ [(wb, .cells (viewC wv))], none_⟩) : wAcY1 Γ Q [kAcY0 [1,1,1,1,1,1,1]] ⟨frame 214 [(0, u8 self), (1, u8 other), (5, .ptr 0 db 0), (7, int 7), (8, int 0), (9, .ptr 1 wb 0)], obsK db (Jrn.jd l) ++ [(wb, .cells (viewC wv))], none_⟩ := by
  have nx := fun nb : Nat => TWk.imp (s := ⟨frame 214 [(0, u8 self), (1, u8 other), (5, .ptr 0 db 0), (9, .ptr 1 wb 0), (10, bool true)], obsK db (Jrn.jd l) ++ [(wb, .cells (viewC wv))] ++ [(nb, .cells (dkC (Jrn.jd [])))], none_⟩) nx (Imp.take 2)
  have mk := fun b => make_wide b (Jrn.jd []) 1 wv (by decide) (by rw [wv_len]; decide) (by rw [wv_len]; decide) (callPost (told (int 1) [0] (obsK b (Jrn.jd [])))) (told_post rfl)
  have c1 : T.v (.bool (decide ((self : Int) ≥ 1))) = bool true := congrArg bool (decide_eq_true (by omega))
  have c2 : T.v (.bool (decide ((self : Int) ≤ 5))) = bool true := congrArg bool (decide_eq_true (by omega))
  generalize wv = v at *
  let HH : Nat → Nat → Hint := fun | 8, 0 => nwH | 8, 2 => dkH 2 (Jrn.jd []) (int 1) | 10, 1 => .res (bool true) | 10, 4 => .res (bool true) | _, _ => .no
  exact run_sound ⟨HH, [((0, 13), ([0,1,5,9,10], 3)), ((0, 12), ([], 3))], fun | 8 => some ⟨[1], [2], .take true [1] (.one 0 (.one 2 (.take false [3] .done)))⟩ | n => plAcY0 n⟩ 400 (by kernel_rfl) (Yb wb (Ya new_post (fun (Z0 : Nat) => (fun (Z1 : True) => (Ya (mk Z0) (Yu (Ya c1 (Ya c2 (nx Z0)))))))))
theorem own_midB1 (hg : self < 1) (nx : wAcY1 Γ Q [kAcY0 [1,1,1,1,1,1,1,1,1,1]] ⟨frame 214 [(0, u8 self), (1, u8 other), (5, .ptr 0 db 0), (9, .ptr 1 wb 0), (10, bool false)], obsK db (Jrn.jd l) ++ [(wb, .cells (viewC wv))], none_⟩) : wAcY1 Γ Q [kAcY0 [1,1,1,1,1,1,1]] ⟨frame 214 [(0, u8 self), (1, u8 other), (5, .ptr 0 db 0), (7, int 7), (8, int 1), (9, .ptr 1 wb 0)], obsK db (Jrn.jd l) ++ [(wb, .cells (viewC wv))], none_⟩ := by
  have nx := fun nb : Nat => TWk.imp (s := ⟨frame 214 [(0, u8 self), (1, u8 other), (5, .ptr 0 db 0), (9, .ptr 1 wb 0), (10, bool false)], obsK db (Jrn.jd l) ++ [(wb, .cells (viewC wv))] ++ [(nb, .cells (dkC (Jrn.jd [])))], none_⟩) nx (Imp.take 2)
  have mk := fun b => make_wide b (Jrn.jd []) 1 wv (by decide) (by rw [wv_len]; decide) (by rw [wv_len]; decide) (callPost (told (int 1) [0] (obsK b (Jrn.jd [])))) (told_post rfl)
  have c1 : T.v (.bool (decide ((self : Int) ≥ 1))) = bool false := congrArg bool (decide_eq_false (by omega))
  have c2 : T.v (.bool (decide ((self : Int) ≤ 5))) = bool true := congrArg bool (decide_eq_true (by omega))
  generalize wv = v at *
  let HH : Nat → Nat → Hint := fun | 8, 0 => nwH | 8, 2 => dkH 2 (Jrn.jd []) (int 1) | 10, 1 => .res (bool false) | _, _ => .no
  exact run_sound ⟨HH, [((0, 13), ([0,1,5,9,10], 3)), ((0, 12), ([], 3))], fun | 8 => some ⟨[1], [2], .take true [1] (.one 0 (.one 2 (.take false [3] .done)))⟩ | n => plAcY0 n⟩ 400 (by kernel_rfl) (Yb wb (Ya new_post (fun (Z0 : Nat) => (fun (Z1 : True) => (Ya (mk Z0) (Yu (Ya c1 (nx Z0))))))))
theorem own_midB2 (hg : 5 < self) (nx : wAcY1 Γ Q [kAcY0 [1,1,1,1,1,1,1,1,1,1]] ⟨frame 214 [(0, u8 self), (1, u8 other), (5, .ptr 0 db 0), (9, .ptr 1 wb 0), (10, bool false)], obsK db (Jrn.jd l) ++ [(wb, .cells (viewC wv))], none_⟩) : wAcY1 Γ Q [kAcY0 [1,1,1,1,1,1,1]] ⟨frame 214 [(0, u8 self), (1, u8 other), (5, .ptr 0 db 0), (7, int 7), (8, int 1), (9, .ptr 1 wb 0)], obsK db (Jrn.jd l) ++ [(wb, .cells (viewC wv))], none_⟩ := by
  have nx := fun nb : Nat => TWk.imp (s := ⟨frame 214 [(0, u8 self), (1, u8 other), (5, .ptr 0 db 0), (9, .ptr 1 wb 0), (10, bool false)], obsK db (Jrn.jd l) ++ [(wb, .cells (viewC wv))] ++ [(nb, .cells (dkC (Jrn.jd [])))], none_⟩) nx (Imp.take 2)
  have mk := fun b => make_wide b (Jrn.jd []) 1 wv (by decide) (by rw [wv_len]; decide) (by rw [wv_len]; decide) (callPost (told (int 1) [0] (obsK b (Jrn.jd [])))) (told_post rfl)
  have c1 : T.v (.bool (decide ((self : Int) ≥ 1))) = bool true := congrArg bool (decide_eq_true (by omega))
  have c2 : T.v (.bool (decide ((self : Int) ≤ 5))) = bool false := congrArg bool (decide_eq_false (by omega))
  generalize wv = v at *
  let HH : Nat → Nat → Hint := fun | 8, 0 => nwH | 8, 2 => dkH 2 (Jrn.jd []) (int 1) | 10, 1 => .res (bool true) | 10, 4 => .res (bool false) | _, _ => .no
  exact run_sound ⟨HH, [((0, 13), ([0,1,5,9,10], 3)), ((0, 12), ([], 3))], fun | 8 => some ⟨[1], [2], .take true [1] (.one 0 (.one 2 (.take false [3] .done)))⟩ | n => plAcY0 n⟩ 400 (by kernel_rfl) (Yb wb (Ya new_post (fun (Z0 : Nat) => (fun (Z1 : True) => (Ya (mk Z0) (Yu (Ya c1 (Ya c2 (nx Z0)))))))))
theorem own_midB (hg : ¬ (1 ≤ self ∧ self ≤ 5)) (nx : wAcY1 Γ Q [kAcY0 [1,1,1,1,1,1,1,1,1,1]] ⟨frame 214 [(0, u8 self), (1, u8 other), (5, .ptr 0 db 0), (9, .ptr 1 wb 0), (10, bool false)], obsK db (Jrn.jd l) ++ [(wb, .cells (viewC wv))], none_⟩) : wAcY1 Γ Q [kAcY0 [1,1,1,1,1,1,1]] ⟨frame 214 [(0, u8 self), (1, u8 other), (5, .ptr 0 db 0), (7, int 7), (8, int 1), (9, .ptr 1 wb 0)], obsK db (Jrn.jd l) ++ [(wb, .cells (viewC wv))], none_⟩ := by
  by_cases h : self < 1
  · exact own_midB1 self other Q Γ db wb l h nx
  · exact own_midB2 self other Q Γ db wb l (by omega) nx
theorem own_A (g : Bool) (ho : ¬ (1 ≤ other ∧ other ≤ 5)) (hQ : Q (bool true) [] none_) : wAcY1 Γ Q [kAcY0 [1,1,1,1,1,1,1,1,1,1]] ⟨frame 214 [(0, u8 self), (1, u8 other), (5, .ptr 0 db 0), (9, .ptr 1 wb 0), (10, bool g)], obsK db (Jrn.jd l) ++ [(wb, .cells (viewC wv))], none_⟩ := by
  have op := fun d => open_bad db d other ho (callPost (told (.tup [.v (.pointer none), int 1]) [0] (obsK db d))) (told_post rfl)
  generalize wv = v at *
  let HH : Nat → Nat → Hint := fun | 13, 2 => dkH 0 (Jrn.jd l) (.tup [.v (.pointer none), int 1]) | _, _ => .no
  exact run_sound ⟨HH, [((0, 16), ([0,1,5,9,10,11,12], 2))], plAcY0⟩ 400 (by kernel_rfl) (Ya (op (Jrn.jd l)) (Yu (Ys (decide ((↑other : Int) < (1 : Int))) (fun Z0 => hQ) (fun Z1 => (Ys (decide ((↑other : Int) > (5 : Int))) (fun Z2 => hQ) (fun Z3 => (show wAcY1 Γ Q [kAcY0 [1,1,1,1,1,1,1,1,1,1,1,1]] (S.mk (frame 214 [(0, u8 self), (1, u8 other), (5, T.ptr 0 db 0), (9, T.ptr 1 wb 0), (10, bool g), (11, T.v (Value.pointer none)), (12, int (1 : Int))]) [(db, Ob.cells [T.v (Value.string (ByteArray.mk (List.toArray (Jrn.jd l).b))), int (Jrn.jd l).n, bool false]), (wb, Ob.cells (viewC v))] fun x => none) by exfalso; simp at *; omega)))))))
theorem own_B (ho : 1 ≤ other ∧ other ≤ 5) (l2 : List (List UInt8)) (mk : TCalls Try.prog 8 [.ptr 0 db 0, u8 other, .agg (viewC (vw 1))] (obsK db (Jrn.jd [])) none_ (callPost (told (int 0) [0] (obsK db (Jrn.jd l2))))) (hv2 : Jrn.Vs l2) (nx : wAcY1 Γ Q [kAcY0 [1,1,1,1,1,1,1,1,1,1,1,1,1,1,1,1,1,1,1,1,1,1]] ⟨frame 214 [(1, u8 other), (5, .ptr 0 db 0), (16, int 10), (17, int 10), (18, int 10)], obsK db (jo l2) ++ [(wb, .cells (viewC wv))], none_⟩) : wAcY1 Γ Q [kAcY0 [1,1,1,1,1,1,1,1,1,1]] ⟨frame 214 [(0, u8 self), (1, u8 other), (5, .ptr 0 db 0), (9, .ptr 1 wb 0), (10, bool false)], obsK db (Jrn.jd []) ++ [(wb, .cells (viewC wv))], none_⟩ := by
  have op := open_none db other ho (callPost (told (.tup [.v (.pointer none), int 7]) [0] (obsK db (Jrn.jd [])))) (told_post rfl)
  have vo := fun Q' hq => viewOf_any 1 (by decide) Q' hq
  have cr : TCalls Try.prog 20 [.ptr 0 db 0, int 0] (obsK db (Jrn.jd l2)) none_ (callPost (told (.tup []) [0] (obsK db (jo l2)))) := X9.crash_any db (Jrn.jd l2) hv2.ok 0 _ (by rw [crash_jd']; exact told_post rfl)
  have of := open_off db other l2 ho (callPost (told (.tup [.v (.pointer none), int 10]) [0] (obsK db (jo l2)))) (told_post rfl)
  have mo := make_off db other (vw 1) l2 ho (vw_ok 1 (by decide)).len (callPost (told (int 10) [0] (obsK db (jo l2)))) (told_post rfl)
  generalize wv = wv at *
  generalize vw 1 = v at *
  let HH : Nat → Nat → Hint := fun | 13, 2 => dkH 0 (Jrn.jd []) (.tup [.v (.pointer none), int 7]) | 23, 2 => told (.agg (viewC v)) [] [] | 23, 3 => dkH 0 (Jrn.jd l2) (int 0) | 26, 1 => dkH 0 (jo l2) (.tup []) | 27, 2 => dkH 0 (jo l2) (.tup [.v (.pointer none), int 10]) | 28, 2 => told (.agg (viewC v)) [] [] | 28, 3 => dkH 0 (jo l2) (int 10) | _, _ => .no
  let z0 := S.mk (frame 214 [(11, T.v (Value.pointer none)), (12, int (7 : Int))]) [(db, Ob.cells [T.v (Value.string (ByteArray.mk (List.toArray (Jrn.jd []).b))), int (Jrn.jd []).n, bool false]), (wb, Ob.cells (viewC wv))] fun x => none
  let z1 := [kAcY0 [1,1,1,1,1,1,1,1,1,1,1,0,1,0], kAcY0 [1,1,1,1,1,1,1,1,1,1,1,1]]
  exact run_sound ⟨HH, [((0, 15), ([11,12], 2)), ((0, 36), ([1,5,16,17,18], 2))], plAcY0⟩ 400 (by kernel_rfl) (Ya op (Yu (Ys (decide ((↑other : Int) < (1 : Int))) (fun Z0 => (show wAcY1 Γ Q z1 z0 by exfalso; simp at *; omega)) (fun Z1 => (Ys (decide ((↑other : Int) > (5 : Int))) (fun Z2 => (show wAcY1 Γ Q z1 z0 by exfalso; simp at *; omega)) (fun Z3 => (Ya (vo (HH 23 2).P (told_post rfl)) (Yu (Ya mk (Yu (Ya cr (Yu (Ya of (Yu (Ya (vo (HH 23 2).P (told_post rfl)) (Yu (Ya mo (Yu nx))))))))))))))))))
theorem own_C (ho : 1 ≤ other ∧ other ≤ 5) (hne : other ≠ self) (op : TCalls Try.prog 10 [.ptr 0 db 0, u8 other] (obsK db (Jrn.jd l)) none_ (callPost (told (.tup [.v (.pointer none), int 4]) [0] (obsK db (Jrn.jd l))))) (mk : TCalls Try.prog 8 [.ptr 0 db 0, u8 other, .agg (viewC (vw 1))] (obsK db (Jrn.jd l)) none_ (callPost (told (int 8) [0] (obsK db (Jrn.jd l))))) (hv : Jrn.Vs l) (nx : wAcY1 Γ Q [kAcY0 [1,1,1,1,1,1,1,1,1,1,1,1,1,1,1,1,1,1,1,1,1,1]] ⟨frame 214 [(1, u8 other), (5, .ptr 0 db 0), (16, int 10), (17, int 10), (18, int 10)], obsK db (jo l) ++ [(wb, .cells (viewC wv))], none_⟩) : wAcY1 Γ Q [kAcY0 [1,1,1,1,1,1,1,1,1,1]] ⟨frame 214 [(0, u8 self), (1, u8 other), (5, .ptr 0 db 0), (9, .ptr 1 wb 0), (10, bool true)], obsK db (Jrn.jd l) ++ [(wb, .cells (viewC wv))], none_⟩ := by
  have vo := fun Q' hq => viewOf_any 1 (by decide) Q' hq
  have cr : TCalls Try.prog 20 [.ptr 0 db 0, int 0] (obsK db (Jrn.jd l)) none_ (callPost (told (.tup []) [0] (obsK db (jo l)))) := X9.crash_any db (Jrn.jd l) hv.ok 0 _ (by rw [crash_jd']; exact told_post rfl)
  have of := open_off db other l ho (callPost (told (.tup [.v (.pointer none), int 10]) [0] (obsK db (jo l)))) (told_post rfl)
  have mo := make_off db other (vw 1) l ho (vw_ok 1 (by decide)).len (callPost (told (int 10) [0] (obsK db (jo l)))) (told_post rfl)
  generalize wv = wv at *
  generalize vw 1 = v at *
  let HH : Nat → Nat → Hint := fun | 13, 2 => dkH 0 (Jrn.jd l) (.tup [.v (.pointer none), int 4]) | 23, 2 => told (.agg (viewC v)) [] [] | 23, 3 => dkH 0 (Jrn.jd l) (int 8) | 26, 1 => dkH 0 (jo l) (.tup []) | 27, 2 => dkH 0 (jo l) (.tup [.v (.pointer none), int 10]) | 28, 2 => told (.agg (viewC v)) [] [] | 28, 3 => dkH 0 (jo l) (int 10) | _, _ => .no
  let z0 := [(db, Ob.cells [T.v (Value.string (ByteArray.mk (List.toArray (Jrn.jd l).b))), int (Jrn.jd l).n, bool false]), (wb, Ob.cells (viewC wv))]
  let z1 := [kAcY0 [1,1,1,1,1,1,1,1,1,1,1,0,1,0], kAcY0 [1,1,1,1,1,1,1,1,1,1,1,1]]
  let z2 := S.mk (frame 214 [(11, T.v (Value.pointer none)), (12, int (4 : Int))]) z0 fun x => none
  let z3 := fin Try.prog Try.f4 [] Q
  exact run_sound ⟨HH, [((0, 15), ([11,12], 2)), ((0, 22), ([], 2)), ((0, 36), ([1,5,16,17,18], 2))], plAcY0⟩ 400 (by kernel_rfl) (Ya op (Yu (Ys (decide ((↑other : Int) < (1 : Int))) (fun Z0 => (show TWk Try.prog Γ z3 z1 z2 by exfalso; simp at *; omega)) (fun Z1 => (Ys (decide ((↑other : Int) > (5 : Int))) (fun Z2 => (show TWk Try.prog Γ z3 z1 z2 by exfalso; simp at *; omega)) (fun Z3 => (Ys ((↑other : Int) != (↑self : Int)) (fun Z4 => (Ya (vo (HH 23 2).P (told_post rfl)) (Yu (Ya mk (Yu (Ya cr (Yu (Ya of (Yu (Ya (vo (HH 23 2).P (told_post rfl)) (Yu (Ya mo (Yu nx))))))))))))) (fun Z5 => (show TWk Try.prog Γ z3 [kAcY0 [1,1,1,1,1,1,1,1,1,1,1,1,1,1,0,1,0], kAcY0 [1,1,1,1,1,1,1,1,1,1,1,1,1,1,1]] (S.mk (frame 214 []) z0 fun x => none) by exfalso; simp at *; omega)))))))))
def acHx (i j r a m : Nat) (y : T) (d : Dk) (l : List (List UInt8)) (x : AS) : Hint := .withB fun B => .call false (Value × Array MapEntry × Nat) (fun _ => True) [i, j, r, a, m] false (fun _ => y) (fun c => obsA (B.getD i 0) (B.getD j 0) (B.getD a 0) (B.getD m 0) d l c.1 true x c.2.1 c.2.2) (fun _ => none_)
theorem own_D (x : AS) (ho : 1 ≤ other ∧ other ≤ 5) (op : TCalls Try.prog 10 [.ptr 0 db 0, u8 other] (obsK db (Jrn.jd l)) none_ (callPost (opnP db l x))) (mk : TCalls Try.prog 8 [.ptr 0 db 0, u8 other, .agg (viewC (vw 1))] (obsK db (Jrn.jd l)) none_ (callPost (told (int 8) [0] (obsK db (Jrn.jd l))))) (hv : Jrn.Vs l)
    (hx : XOk x) (x1 : x.pn = 0) (x2 : x.pb = 0) (x3 : x.low = 0) (hE : IsE x.E 0 []) (nx : wAcY1 Γ Q [kAcY0 [1,1,1,1,1,1,1,1,1,1,1,1,1,1,1,1,1,1,1,1,1,1]] ⟨frame 214 [(1, u8 other), (5, .ptr 0 db 0), (16, int 10), (17, int 10), (18, int 10)], obsK db (jo l) ++ [(wb, .cells (viewC wv))], none_⟩) : wAcY1 Γ Q [kAcY0 [1,1,1,1,1,1,1,1,1,1]] ⟨frame 214 [(0, u8 other), (1, u8 other), (5, .ptr 0 db 0), (9, .ptr 1 wb 0), (10, bool true)], obsK db (Jrn.jd l) ++ [(wb, .cells (viewC wv))], none_⟩ := by
  have nx := fun jb ab mb hd es ck => TWk.imp (s := ⟨frame 214 [(1, u8 other), (5, .ptr 0 db 0), (16, int 10), (17, int 10), (18, int 10)], [(db, .cells (dkC (jo l))), (wb, .cells (viewC wv))] ++ (obsA db jb ab mb (jo l) l hd true x es ck).tail.map (ixOb fun k => [0,2,3,4,5].getD k 0), none_⟩) nx (Imp.take 2)
  have vo := fun Q' hq => viewOf_any 1 (by decide) Q' hq
  have cr : TCalls Try.prog 20 [.ptr 0 db 0, int 0] (obsK db (Jrn.jd l)) none_ (callPost (told (.tup []) [0] (obsK db (jo l)))) := X9.crash_any db (Jrn.jd l) hv.ok 0 _ (by rw [crash_jd']; exact told_post rfl)
  have of := open_off db other l ho (callPost (told (.tup [.v (.pointer none), int 10]) [0] (obsK db (jo l)))) (told_post rfl)
  have mo := make_off db other (vw 1) l ho (vw_ok 1 (by decide)).len (callPost (told (int 10) [0] (obsK db (jo l)))) (told_post rfl)
  have tw := fun jb ab mb hd es ck Q' hq => trunc_wide db jb ab mb l hd x es ck (jo l) 1 wv (by rw [wv_len]; decide) (by rw [wv_len]; decide) Q' hq
  have ac := fun jb ab mb hd es ck Q' hq => acc_off db jb ab mb l hd x es ck hv.2 ⟨0, 1, 1, 1 % 256, 1 / 8 % 256, 1 / 64 % 256, 1, 1 / 2⟩ ⟨by decide, by decide, by decide, by decide, by decide, by decide, by decide, by decide⟩ (by rw [x3]; decide) (by rw [x3]; decide) (by rw [x1, x2]; rfl) Q' hq
  have en := fun jb ab mb hd es ck Q' hq => entries_any db jb ab mb (jo l) l hd true x es ck hx 0 [] hE Q' hq
  have cm := fun Q' hq => lcommand_any 1 Q' hq
  have bl := fun Q' hq => lballot_any 1 1 Q' hq
  generalize wv = wv at *
  generalize vw 1 = v at *
  let HH : Nat → Nat → Hint := fun | 13, 2 => opnH 0 l x | 19, 2 => .res (bool false) | 23, 2 => told (.agg (viewC v)) [] [] | 23, 3 => dkH 0 (Jrn.jd l) (int 8) | 26, 1 => dkH 0 (jo l) (.tup []) | 27, 2 => dkH 0 (jo l) (.tup [.v (.pointer none), int 10]) | 28, 2 => told (.agg (viewC v)) [] [] | 28, 3 => dkH 0 (jo l) (int 10) | 31, 2 => keepH [0,2,3,4,5] (int 1) | 33, 1 => told (.agg [u32 1, u8 1]) [] [] | 33, 2 => told (cmd 1) [] [] | 33, 3 => acHx 0 2 3 4 5 (int 10) (jo l) l x | 34, 1 => keepH [0,2,3,4,5] (.sl 8 []) | _, _ => .no
  let z5 := (db, Ob.cells [T.v (Value.string (ByteArray.mk (List.toArray (jo l).b))), int (jo l).n, bool true])
  let z2 := fun (Z0 : Nat × Nat × Nat × Value × Array MapEntry × Nat) => (Z0.snd.fst, Ob.cells [T.ptr 2 Z0.fst 0, u32 x.pn, u8 x.pb, u32 x.low, u32 x.v.e, T.sl 3 (mems x.v.ms), u8 (x.v.L 0), u8 (x.v.L 1), u8 (x.v.L 2), u8 (x.v.L 3), u8 (x.v.L 4), u8 (x.v.L 5), u8 (x.v.L 6), u8 (x.v.L 7), T.mp 5 Z0.snd.snd.fst])
  let z0 := fun (Z0 : Nat × Nat × Nat × Value × Array MapEntry × Nat) => [z5, (wb, Ob.cells (viewC wv)), (Z0.fst, Ob.cells [T.ptr 0 db 0, T.slx 1 3 (strs l) Z0.snd.snd.snd.fst, bool false]), (0, Ob.room 1 9 (List.length (strs l)) Z0.snd.snd.snd.fst), (z2 Z0), (Z0.snd.snd.fst, Ob.map IntKind.u32 (enF x.E) Z0.snd.snd.snd.snd.fst Z0.snd.snd.snd.snd.snd)]
  let z1 := fun (Z0 : Nat × Nat × Nat × Value × Array MapEntry × Nat) => S.mk (frame 214 [(11, T.ptr 4 Z0.snd.fst 0), (12, int (0 : Int))]) [(db, Ob.cells [T.v (Value.string (ByteArray.mk (List.toArray (Jrn.jd l).b))), int (Jrn.jd l).n, bool false]), (wb, Ob.cells (viewC wv)), (Z0.fst, Ob.cells [T.ptr 0 db 0, T.slx 1 3 (strs l) Z0.snd.snd.snd.fst, bool false]), (0, Ob.room 1 9 (List.length (strs l)) Z0.snd.snd.snd.fst), (z2 Z0), (Z0.snd.snd.fst, Ob.map IntKind.u32 (enF x.E) Z0.snd.snd.snd.snd.fst Z0.snd.snd.snd.snd.snd)] fun x => none
  let z3 := [kAcY0 [1,1,1,1,1,1,1,1,1,1,1,0,1,0], kAcY0 [1,1,1,1,1,1,1,1,1,1,1,1]]
  let z4 := [T.v (Value.pointer none), int (10 : Int)]
  let z6 := fun (Z0 : Nat × Nat × Nat × Value × Array MapEntry × Nat) => List.map (fun x => x.fst) (z0 Z0)
  let z7 := (78, bool (decide ((↑other : Int) < (1 : Int))))
  let z8 := (81, bool (decide ((↑other : Int) > (5 : Int))))
  exact run_sound ⟨HH, [((0, 15), ([11,12], 6)), ((0, 36), ([1,5,16,17,18], 6))], plAcY0⟩ 400 (by kernel_rfl) (Ya op (fun (Z0 : Nat × Nat × Nat × Value × Array MapEntry × Nat) => (fun (Z1 : True) => (Ys (decide ((↑other : Int) < (1 : Int))) (fun Z2 => (show wAcY1 Γ Q z3 (z1 Z0) by exfalso; simp at *; omega)) (fun Z3 => (Ys (decide ((↑other : Int) > (5 : Int))) (fun Z4 => (show wAcY1 Γ Q z3 (z1 Z0) by exfalso; simp at *; omega)) (fun Z5 => (Ya (show bool ((↑other : Int) != (↑other : Int)) = bool false from congrArg bool (by simp)) (Ya (vo (HH 23 2).P (told_post rfl)) (Yu (Ya mk (Yu (Ya cr (Yu (Ya of (Yu (Ya (vo (HH 23 2).P (told_post rfl)) (Yu (Ya mo (Yu (Yb wb (Ya (tw Z0.fst Z0.snd.fst Z0.snd.snd.fst Z0.snd.snd.snd.fst Z0.snd.snd.snd.snd.fst Z0.snd.snd.snd.snd.snd (callPost (Hint.call false Unit (fun x => True) [0,2,3,4,5] false (fun x => int (1 : Int)) (fun x_1 => List.map (fwdO [0,2,3,4,5]) (List.filterMap (fun i => (S.mk (frame 214 [(0, u8 other), (1, u8 other), (5, T.ptr 0 db 0), (9, T.ptr 1 wb 0), (10, bool true), (11, T.ptr 4 Z0.snd.fst 0), (12, int (0 : Int)), (13, int (0 : Int)), (14, int (8 : Int)), (15, T.v (Value.pointer none)), (16, int (10 : Int)), (17, int (10 : Int)), (18, int (10 : Int)), (71, T.tup [T.ptr 4 Z0.snd.fst 0, int (0 : Int)]), (72, T.ptr 0 db 0), (73, u8 other), (74, T.tup [T.ptr 4 Z0.snd.fst 0, int (0 : Int)]), (75, T.ptr 4 Z0.snd.fst 0), (76, int (0 : Int)), (77, u8 other), z7, (79, bool false), (80, u8 other), z8, (82, bool false), (89, bool true), (90, bool false), (91, u8 other), (92, u8 other), (93, bool false), (94, int (0 : Int)), (95, int (0 : Int)), (96, bool false), (97, bool false), (98, int (0 : Int)), (99, bool false), (100, bool false), (101, T.v (Value.tuple #[])), (102, T.v (Value.tuple #[])), (103, bool false), (104, bool false), (105, T.ptr 0 db 0), (106, u8 other), (107, T.agg (viewC v)), (108, int (8 : Int)), (109, bool true), (110, bool true), (111, int (8 : Int)), (112, bool false), (113, bool false), (114, T.ptr 0 db 0), (115, T.tup []), (116, T.tup z4), (117, T.ptr 0 db 0), (118, u8 other), (119, T.tup z4), (120, T.v (Value.pointer none)), (121, int (10 : Int)), (122, T.ptr 0 db 0), (123, u8 other), (124, T.agg (viewC v)), (125, int (10 : Int)), (126, T.ptr 4 Z0.snd.fst 0), (127, bool true), (128, T.ptr 4 Z0.snd.fst 0), (129, T.agg (viewC wv))]) (z0 Z0) fun x => none).ob[i]?) [0,2,3,4,5])) fun x => none_)) (told_post rfl)) (Yu (Ya (bl (HH 33 1).P (told_post rfl)) (Yu (Ya (cm (HH 33 2).P (told_post rfl)) (Yu (Ya (ac Z0.fst Z0.snd.fst Z0.snd.snd.fst Z0.snd.snd.snd.fst Z0.snd.snd.snd.snd.fst Z0.snd.snd.snd.snd.snd (callPost (Hint.call false (Value × Array MapEntry × Nat) (fun x => True) [0,2,3,4,5] false (fun x => int (10 : Int)) (fun c => obsA db Z0.1 Z0.snd.1 Z0.snd.snd.1 (jo l) l c.fst true x c.snd.fst c.snd.snd) fun x => none_)) ⟨(_, _, _), trivial, rfl, rfl, Nat.le_of_ble_eq_true rfl, fun h => by cases h⟩) (fun (Z6 : Value × Array MapEntry × Nat) => (fun (Z7 : True) => (Ya (en (List.getD (z6 Z0) 2 0) Z0.snd.fst (List.getD (z6 Z0) 5 0) Z6.fst Z6.snd.fst Z6.snd.snd (callPost (Hint.call false Unit (fun x => True) [0,2,3,4,5] false (fun x => T.sl 8 []) (fun x_1 => List.map (fwdO [0,2,3,4,5]) (List.filterMap (fun i => (S.mk (frame 214 [(0, u8 other), (1, u8 other), (5, T.ptr 0 db 0), (9, T.ptr 1 wb 0), (10, bool true), (11, T.ptr 4 Z0.snd.fst 0), (12, int (0 : Int)), (13, int (0 : Int)), (14, int (8 : Int)), (15, T.v (Value.pointer none)), (16, int (10 : Int)), (17, int (10 : Int)), (18, int (10 : Int)), (71, T.tup [T.ptr 4 Z0.snd.fst 0, int (0 : Int)]), (72, T.ptr 0 db 0), (73, u8 other), (74, T.tup [T.ptr 4 Z0.snd.fst 0, int (0 : Int)]), (75, T.ptr 4 Z0.snd.fst 0), (76, int (0 : Int)), (77, u8 other), z7, (79, bool false), (80, u8 other), z8, (82, bool false), (89, bool true), (90, bool false), (91, u8 other), (92, u8 other), (93, bool false), (94, int (0 : Int)), (95, int (0 : Int)), (96, bool false), (97, bool false), (98, int (0 : Int)), (99, bool false), (100, bool false), (101, T.v (Value.tuple #[])), (102, T.v (Value.tuple #[])), (103, bool false), (104, bool false), (105, T.ptr 0 db 0), (106, u8 other), (107, T.agg (viewC v)), (108, int (8 : Int)), (109, bool true), (110, bool true), (111, int (8 : Int)), (112, bool false), (113, bool false), (114, T.ptr 0 db 0), (115, T.tup []), (116, T.tup z4), (117, T.ptr 0 db 0), (118, u8 other), (119, T.tup z4), (120, T.v (Value.pointer none)), (121, int (10 : Int)), (122, T.ptr 0 db 0), (123, u8 other), (124, T.agg (viewC v)), (125, int (10 : Int)), (126, T.ptr 4 Z0.snd.fst 0), (127, bool true), (128, T.ptr 4 Z0.snd.fst 0), (129, T.agg (viewC wv)), (130, int (1 : Int)), (131, bool false), (132, T.ptr 4 Z0.snd.fst 0), (133, T.agg [u32 (1 : Int), u8 (1 : Int)]), (134, T.agg [u8 (1 % 256), u8 ((1 / 8 : Nat) % 256), u8 ((1 / 64 : Nat) % 256), u32 1, u32 (1 / 2 : Nat)]), (135, int (10 : Int)), (136, T.ptr 4 Z0.snd.fst 0)]) [z5, (wb, Ob.cells (viewC wv)), (Z0.1, Ob.cells [T.ptr 0 db 0, T.slx 1 3 (strs l) Z6.fst, bool true]), (0, Ob.room 1 9 (List.length (strs l)) Z6.fst), (Z0.snd.1, Ob.cells [T.ptr 2 Z0.1 0, u32 x.pn, u8 x.pb, u32 x.low, u32 x.v.e, T.sl 3 (mems x.v.ms), u8 (x.v.L 0), u8 (x.v.L 1), u8 (x.v.L 2), u8 (x.v.L 3), u8 (x.v.L 4), u8 (x.v.L 5), u8 (x.v.L 6), u8 (x.v.L 7), T.mp 5 Z0.snd.snd.1]), (Z0.snd.snd.1, Ob.map IntKind.u32 (enF x.E) Z6.snd.fst Z6.snd.snd)] fun x => none).ob[i]?) [0,2,3,4,5])) fun x => none_)) (told_post rfl)) (Yu (nx (List.getD (z6 Z0) 2 0) (List.getD (z6 Z0) 4 0) (List.getD (z6 Z0) 5 0) Z6.fst Z6.snd.fst Z6.snd.snd)))))))))))))))))))))))))))))))))
theorem own_end (ho : 1 ≤ other ∧ other ≤ 5) (hQ : Q (bool true) [] none_) : wAcY1 Γ Q [kAcY0 [1,1,1,1,1,1,1,1,1,1,1,1,1,1,1,1,1,1,1,1,1,1]] ⟨frame 214 [(1, u8 other), (5, .ptr 0 db 0), (16, int 10), (17, int 10), (18, int 10)], obsK db (jo l) ++ [(wb, .cells (viewC wv))], none_⟩ := by
  have st : TCalls Try.prog 21 [.ptr 0 db 0] (obsK db (jo l)) none_ (callPost (told (.tup []) [0] (obsK db (Jrn.jd l)))) := X9.start_any db (jo l) _ (told_post rfl)
  have wi := wipe_any db l (callPost (told (.tup []) [0] (obsK db (Jrn.jd [])))) (told_post rfl)
  have op := open_none db other ho (callPost (told (.tup [.v (.pointer none), int 7]) [0] (obsK db (Jrn.jd [])))) (told_post rfl)
  have bl := fun Q' hq => lballot_any 1 1 Q' hq
  have cm := fun Q' hq => lcommand_any 1 Q' hq
  have vo := fun Q' hq => viewOf_any 1 (by decide) Q' hq
  have n1 := fun Q' hq => prep_nil Q' 1 1 0 hq
  have n2 := fun Q' hq => acc_nil Q' 1 1 0 1 hq
  have n3 := fun Q' hq => trunc_nil Q' 1 (vw 1) hq
  have n4 := fun Q' hq => base_nil Q' hq
  have n5 := fun Q' hq => prm_nil Q' hq
  have n6 := fun Q' hq => ent_nil Q' 0 hq
  have n7 := fun Q' hq => none_zero Q' hq
  generalize wv = wv at *
  generalize vw 1 = v at *
  let HH : Nat → Nat → Hint := fun | 36, 1 => dkH 0 (Jrn.jd l) (.tup []) | 37, 1 => dkH 0 (Jrn.jd []) (.tup []) | 38, 2 => dkH 0 (Jrn.jd []) (.tup [.v (.pointer none), int 7]) | 40, 1 => told (.agg [u32 1, u8 1]) [] [] | 40, 2 => told (.tup [.v nilS, int 1]) [] [] | 41, 1 => told (.tup [u32 0, .agg [u32 0, .v nilS, u8 0, u8 0, u8 0, u8 0, u8 0, u8 0, u8 0, u8 0]]) [] [] | 42, 20 => told (.agg [u32 1, u8 1]) [] [] | 42, 21 => told (cmd 1) [] [] | 42, 22 => told (int 1) [] [] | 42, 27 => told (.agg (viewC v)) [] [] | 42, 28 => told (int 1) [] [] | 42, 43 => told (.agg [u32 0, u8 0]) [] [] | 42, 45 => told (bool true) [] [] | 42, 49 => told (.v nilS) [] [] | _, _ => .no
  exact run_sound ⟨HH, [], plAcY0⟩ 400 (by kernel_rfl) (Ya st (Yu (Ya wi (Yu (Ya op (Yu (Ya (bl (HH 40 1).P (told_post rfl)) (Yu (Ya (n1 (HH 40 2).P (told_post rfl)) (Yu (Ya (n4 (HH 41 1).P (told_post rfl)) (Yu (fun (Z0 : Nat) => (Yk 10 Z0 (Ya (bl (HH 40 1).P (told_post rfl)) (Yu (Ya (cm (HH 42 21).P (told_post rfl)) (Yu (Ya (n2 (HH 42 22).P (told_post rfl)) (Yu (Ya (vo (HH 42 27).P (told_post rfl)) (Yu (Ya (n3 (HH 42 22).P (told_post rfl)) (Yu (Yb Z0 (Ya (n5 (HH 42 43).P (told_post rfl)) (Yu (Ya (n7 (HH 42 45).P (told_post rfl)) (Yu (Ya (n6 (HH 42 49).P (told_post rfl)) (Yu hQ)))))))))))))))))))))))))))))))
end
theorem own_any (hs : self < 256) (ht : other < 256) (hQ : Q (bool true) [] none_) : TCalls Try.prog 4 [u8 self, u8 other] [] none_ Q := by
  by_cases hg : 1 ≤ self ∧ self ≤ 5
  · obtain ⟨a1, a2⟩ := vs_one self (by omega) (vw 2) (vw_ok 2 (by decide))
    refine own_start self other Q 0 [(Rc.birth self 0 (vw 2)).b] (fun db => make_new db self (vw 2) hg (vw_ok 2 (by decide)) _ (told_post rfl)) fun Γ db wb => ?_
    refine own_midG self other Q Γ db wb _ hg ?_
    by_cases ho : 1 ≤ other ∧ other ≤ 5
    · have mk := make_state db other (vw 1) [(Rc.birth self 0 (vw 2)).b] a1 (by simp) (by simp) ho (vw_ok 1 (by decide)).len (callPost (told (int 8) [0] (obsK db (Jrn.jd [(Rc.birth self 0 (vw 2)).b])))) (told_post rfl)
      by_cases hne : other = self
      · subst hne
        exact own_D other Q Γ db wb _ (Acp.cut Acp.st0 0 (vw 2)) ho (opn_post db other (vw 2) ho (vw_ok 2 (by decide)) [] (fun _ h => nomatch h) (by decide) _ rfl a1 _ rfl) mk a1 (Acp.xok_zero.cut (by decide) (vw_ok 2 (by decide))) rfl rfl rfl
          ⟨List.Pairwise.nil, fun y => by
            constructor
            · intro h; nomatch h
            · rintro ⟨h, -⟩
              have h : Acp.cutE (fun _ => none) (max 0 0) y.slot = some y := h
              unfold Acp.cutE at h
              split at h <;> cases h⟩ (own_end other Q Γ db wb _ ho hQ)
      · exact own_C self other Q Γ db wb _ ho hne (open_form db other self 0 (vw 2) hs (vw_ok 2 (by decide)) [] (fun e => hne e.symm) a1 (by decide) ho _ (told_post rfl)) mk a1 (own_end other Q Γ db wb _ ho hQ)
    · exact own_A self other Q Γ db wb _ true ho hQ
  · refine own_start self other Q 1 [] (fun db => make_bad db (Jrn.jd []) self (vw 2) hg _ (told_post rfl)) fun Γ db wb => ?_
    refine own_midB self other Q Γ db wb _ hg ?_
    by_cases ho : 1 ≤ other ∧ other ≤ 5
    · obtain ⟨a1, a2⟩ := vs_one other (by omega) (vw 1) (vw_ok 1 (by decide))
      exact own_B self other Q Γ db wb ho _ (make_new db other (vw 1) ho (vw_ok 1 (by decide)) _ (told_post rfl)) a1 (own_end other Q Γ db wb _ ho hQ)
    · exact own_A self other Q Γ db wb _ false ho hQ
end
end X11
end Go.Proofs.Ytcmcmafeaabjmaa.Vm
