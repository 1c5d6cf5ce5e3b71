/- Texts of this claim: AcE, AcH, AcI, AcJ, Srt. -/
import Derived.Test.YtpjkdcbogjigeaaGreatMg15
import Derived.Test.YtpjkdcbogjigeaaGreatMg21
import Derived.Test.YtpjkdcbogjigeaaGreatMg19
import Derived.Shelf.SlSortCmp.WholeK
import Derived.Test.YtpjkdcbogjigeaaGreatProg
import Derived.KernelRfl
namespace Go.Proofs.YtpjkdcbogjigeaaGreat.Vm
open Go Go.RowKit
set_option maxRecDepth 100000
noncomputable abbrev kAcE0 (l : List Nat) : It := .code (sub (bd Tryz.f71) l)
noncomputable abbrev kAcE1 (l : List Nat) : It := .code (sub (bd Tryz.f76) l)
noncomputable abbrev kAcE2 (l : List Nat) : It := .code (sub (bd Tryz.f81) l)
noncomputable abbrev wAcE3 (Γ : Ctx) (Q : T → Obs → Glb → Prop) : List It → S → Prop := TWk Tryz.prog Γ (fin Tryz.prog Tryz.f71 [0, 1, 2, 3, 4] Q)
noncomputable abbrev wAcE4 (Γ : Ctx) (Q : T → Obs → Glb → Prop) : List It → S → Prop := TWk Tryz.prog Γ (fin Tryz.prog Tryz.f76 [0, 1, 2, 3, 4] Q)
def plAcE0 : Nat → Option RPlan := fun | 5 => some ⟨[3, 5], [8], .take true [0,1,2,3,4,5,6,7] (.one 8 (.take false [9] .done))⟩ | 7 => some ⟨[], [8], .take true [0,1,2,3,4,5,6,7] (.one 8 .done)⟩ | _ => none
def plAcE1 : Nat → Option RPlan := fun | 7 => some ⟨[], [8], .take true [0,1,2,3,4,5,6,7] (.one 8 (.take false [9] .done))⟩ | _ => none
namespace X11
open Acp (En AS Rc blw VOk)
open View (VS Mem)
open X5 (viewC mems memC)
open Jrn (Dk)
open X9 (dkC)
open X10 (strs jC)
theorem clone_sl (l : List Mem) (hl : X5.lim l) (Q : T → Obs → Glb → Prop) (hQ : Q (.sl 3 (mems l)) [] none_) : TCalls Tryz.prog 97 [.sl 3 (mems l)] [] none_ Q := by
  by_cases he : l = []
  · subst he
    refine TCalls.post (X5.clone_nil (fun r ob gl => r = .s0 ∧ ob = [] ∧ gl = none_) ⟨rfl, rfl, rfl⟩) ?_
    rintro r ob gl ⟨rfl, rfl, rfl⟩
    refine ⟨.sl 3 [], [], none_, Imp.slotR (ts := [.s0]) (j := 0) (t' := .sl 3 []) rfl (fun M v h => ?_), hQ⟩
    simp only [Rel] at h ⊢
    obtain ⟨A, h⟩ := h
    exact ⟨A, 0, h, ⟨Nat.le_refl _, by omega, fun _ => ⟨rfl, rfl⟩, fun a _ h => absurd h (by omega)⟩, by simp [El], fun _ _ _ => by simp only [RelE]⟩
  · refine TCalls.postM (X5.clone_any l hl (fun r ob gl => ∃ g cap, r = .sa 0 g 0 l.length cap ∧ ob = [(g, .cells (X5.flat l ++ List.replicate ((cap - l.length) * 3) T.und))] ∧ gl = none_) (fun h => absurd h he) (fun h => absurd h he) (fun _ g cap _ _ => ⟨g, cap, rfl, rfl, rfl⟩)) ?_
    rintro r ob gl ⟨g, cap, rfl, rfl, rfl⟩
    refine ⟨.sl 3 (mems l), [], none_, (ImpM.slot (ts := [.sa 0 g 0 l.length cap]) (i := 0) (b := g) true 3 0 (mems l) rfl rfl (fun h => by cases h) (Row.fz_len (C := X5.memC) (fun _ => rfl) rfl rfl) (Row.fz_one (C := X5.memC) (fun _ => rfl) (fun _ => rfl) rfl rfl) (Row.fz_es (C := X5.memC) (fun _ => rfl) rfl rfl)).trans (Imp.toM (Imp.take 0)), hQ⟩
def keepH (sel : List Nat) (x : T) : Hint := .withA fun ob _ => told x sel ((sel.filterMap fun i => ob[i]?).map (fwdO sel))
section
variable (db jb ab mb : Nat) (d : Dk) (l : List (List UInt8)) (hd : Value) (dead : Bool) (x : AS) (es : Array MapEntry) (ck : Nat)
theorem prm_any (Q : T → Obs → Glb → Prop) (hQ : Q (.agg [u32 x.pn, u8 x.pb]) (obsA db jb ab mb d l hd dead x es ck) none_) : TCalls Tryz.prog 73 [.ptr 3 ab 0] (obsA db jb ab mb d l hd dead x es ck) none_ Q := by
  refine TCalls.of Tryz.func73 rfl (CanCall.of Tryz.func73 rfl (by decide)) [0,1,2,3,4] fun Γ => ?_
  let HH : Nat → Nat → Hint := fun _ _ => .no
  exact run_sound ⟨HH, [], fun _ => none⟩ 400 (by kernel_rfl) (fun (Z0 : Nat) => (Yb ab (Yk 2 Z0 (Yb Z0 hQ))))
theorem base_any (hv : x.v.ms.length ≤ 1000000) (Q : T → Obs → Glb → Prop) (hQ : Q (.tup [u32 x.low, .agg (viewC x.v)]) (obsA db jb ab mb d l hd dead x es ck) none_) : TCalls Tryz.prog 42 [.ptr 3 ab 0] (obsA db jb ab mb d l hd dead x es ck) none_ Q := by
  have hc := fun (Q' : T → Obs → Glb → Prop) hq => clone_sl x.v.ms hv Q' hq
  have hQ : Q (.tup [u32 x.low, .agg [u32 x.v.e, .sl 3 (mems x.v.ms), u8 (x.v.L 0), u8 (x.v.L 1), u8 (x.v.L 2), u8 (x.v.L 3), u8 (x.v.L 4), u8 (x.v.L 5), u8 (x.v.L 6), u8 (x.v.L 7)]]) (obsA db jb ab mb d l hd dead x es ck) none_ := hQ
  refine TCalls.of Tryz.func42 rfl (CanCall.of Tryz.func42 rfl (by decide)) [0,1,2,3,4] fun Γ => ?_
  let HH : Nat → Nat → Hint := fun | 4, 2 => told (.sl 3 (mems x.v.ms)) [] [] | _, _ => .no
  exact run_sound ⟨HH, [], fun | 5 => some ⟨[3,6], [7], .take true [0,1,2,3,4,5,6] (.one 7 .done)⟩ | _ => none⟩ 400 (by kernel_rfl) (fun (Z0 : Nat) => (Yb ab (fun (Z1 : Nat) => (Yk 10 Z1 (Yb Z1 (Ya (hc (HH 4 2).P (told_post rfl)) (Yu (Yl 1 (Yb Z1 (Ya (Yn (2) (10) rfl) (Yb ab (Yb Z1 (Yk 10 Z0 (Yb Z0 hQ))))))))))))))
end
section
variable (db jb ab mb : Nat) (l : List (List UInt8)) (hd : Value) (x : AS) (es : Array MapEntry) (ck : Nat)
theorem prep_old (n b frm : Nat) (h : ¬ frm < x.low) (hb : blw n b x.pn x.pb = true) (Q : T → Obs → Glb → Prop) (hQ : Q (.tup [.v nilS, int 8]) (obsA db jb ab mb (Jrn.jd l) l hd false x es ck) none_) : TCalls Tryz.prog 71 [.ptr 3 ab 0, .agg [u32 n, u8 b], u32 frm] (obsA db jb ab mb (Jrn.jd l) l hd false x es ck) none_ Q := by
  have bl := fun Q' hq => below_any n b x.pn x.pb Q' hq
  rw [hb] at bl
  refine TCalls.of Tryz.func71 rfl (CanCall.of Tryz.func71 rfl (by decide)) [0,1,2,3,4] fun Γ => ?_
  let HH : Nat → Nat → Hint := fun | 5, 8 => told (bool true) [] [] | _, _ => .no
  exact run_sound ⟨HH, [((0, 4), ([], 6))], plAcE0⟩ 400 (by kernel_rfl) (fun (Z0 : Nat) => (Yb ab (Ys (decide ((↑frm : Int) < (↑x.low : Int))) (fun Z1 => (show wAcE3 Γ Q [kAcE0 [1,0,0,1,1,1,0], It.blk 0, kAcE0 [1,1]] (S.mk (frame 49 []) [(db, Ob.cells [T.v (Value.string (ByteArray.mk (List.toArray (Jrn.jd l).b))), int (Jrn.jd l).n, bool false]), (jb, Ob.cells [T.ptr 0 db 0, T.slx 1 2 (strs l) hd, bool false]), (0, Ob.room 1 9 (List.length (strs l)) hd), (ab, Ob.cells [T.ptr 1 jb 0, u32 x.pn, u8 x.pb, u32 x.low, u32 x.v.e, T.sl 3 (mems x.v.ms), u8 (x.v.L 0), u8 (x.v.L 1), u8 (x.v.L 2), u8 (x.v.L 3), u8 (x.v.L 4), u8 (x.v.L 5), u8 (x.v.L 6), u8 (x.v.L 7), T.mp 4 mb]), (mb, Ob.map IntKind.u32 (enF x.E) es ck), (Z0, Ob.cells [u32 n, u8 b])] fun x => none) by exfalso; have := of_decide_eq_true Z1; omega)) (fun Z2 => (Yb Z0 (Yb ab (Ya (bl (HH 5 8).P (fun _ h => told_post h)) (Yu hQ))))))))
theorem prep_new (hv : Jrn.Vs l) (h2 : (Jrn.flat l).length + 70 ≤ 1048576) (n b frm : Nat) (hn : n < 4294967296) (hb8 : b < 256) (h : ¬ frm < x.low) (hb : blw n b x.pn x.pb = false) (hb2 : blw x.pn x.pb n b = true) (L : List En) (Q : T → Obs → Glb → Prop)
    (hE : ∀ hd es ck, ∀ Q' : T → Obs → Glb → Prop, Q' (.sl 8 (Row.aggs enC L)) (obsA db jb ab mb (Jrn.jd (l ++ [(Rc.prom n b).b])) (l ++ [(Rc.prom n b).b]) hd false (Acp.promise x n b) es ck) none_ → TCalls Tryz.prog 124 [.ptr 3 ab 0, u32 frm] (obsA db jb ab mb (Jrn.jd (l ++ [(Rc.prom n b).b])) (l ++ [(Rc.prom n b).b]) hd false (Acp.promise x n b) es ck) none_ Q')
    (hQ : ∀ hd es ck, Q (.tup [.sl 8 (Row.aggs enC L), int 0]) (obsA db jb ab mb (Jrn.jd (l ++ [(Rc.prom n b).b])) (l ++ [(Rc.prom n b).b]) hd false (Acp.promise x n b) es ck) none_) : TCalls Tryz.prog 71 [.ptr 3 ab 0, .agg [u32 n, u8 b], u32 frm] (obsA db jb ab mb (Jrn.jd l) l hd false x es ck) none_ Q := by
  have bl := fun Q' hq => below_any n b x.pn x.pb Q' hq
  have bl2 := fun Q' hq => below_any x.pn x.pb n b Q' hq
  rw [hb] at bl
  rw [hb2] at bl2
  have pr := fun Q' hq => promised_any n b hn hb8 Q' hq
  have wr := fun Q' hq => write_any db jb ab mb l hd x es ck hv (.prom n b) ⟨hn, hb8⟩ h2 Q' hq
  rw [show Acp.step x (.prom n b) = Acp.promise x n b from rfl] at wr
  clear hv h2 hn hb8 hb hb2
  generalize Acp.promise x n b = x1 at *
  generalize (Rc.prom n b).b = s at *
  generalize Jrn.jd (l ++ [s]) = d1 at *
  generalize l ++ [s] = l1 at *
  generalize Jrn.jd l = d0 at *
  refine TCalls.of Tryz.func71 rfl (CanCall.of Tryz.func71 rfl (by decide)) [0,1,2,3,4] fun Γ => ?_
  let HH : Nat → Nat → Hint := fun | 5, 8 => told (bool false) [] [] | 7, 8 => told (bool true) [] [] | 8, 2 => told (str s) [] [] | 8, 3 => .call false (Value × Array MapEntry × Nat) (fun _ => True) [0,1,2,3,4] false (fun _ => int 0) (fun a => obsA db jb ab mb d1 l1 a.1 false x1 a.2.1 a.2.2) (fun _ => none_) | 11, 2 => keepH [0,1,2,3,4] (.sl 8 (Row.aggs enC L)) | _, _ => .no
  exact run_sound ⟨HH, [((0, 4), ([], 6)), ((0, 10), ([8], 6))], fun | 7 => some ⟨[3,5], [8], .take true [0,1,2,3,4,5,6,7] (.one 8 .done)⟩ | n => plAcE0 n⟩ 400 (by kernel_rfl) (fun (Z0 : Nat) => (Yb ab (Ys (decide ((↑frm : Int) < (↑x.low : Int))) (fun Z1 => (show wAcE3 Γ Q [kAcE0 [1,0,0,1,1,1,0], It.blk 0, kAcE0 [1,1]] (S.mk (frame 49 []) [(db, Ob.cells [T.v (Value.string (ByteArray.mk (List.toArray d0.b))), int d0.n, bool d0.off]), (jb, Ob.cells [T.ptr 0 db 0, T.slx 1 2 (strs l) hd, bool false]), (0, Ob.room 1 9 (List.length (strs l)) hd), (ab, Ob.cells [T.ptr 1 jb 0, u32 x.pn, u8 x.pb, u32 x.low, u32 x.v.e, T.sl 3 (mems x.v.ms), u8 (x.v.L 0), u8 (x.v.L 1), u8 (x.v.L 2), u8 (x.v.L 3), u8 (x.v.L 4), u8 (x.v.L 5), u8 (x.v.L 6), u8 (x.v.L 7), T.mp 4 mb]), (mb, Ob.map IntKind.u32 (enF x.E) es ck), (Z0, Ob.cells [u32 n, u8 b])] fun x => none) by exfalso; have := of_decide_eq_true Z1; omega)) (fun Z2 => (Yb Z0 (Yb ab (Ya (bl (HH 5 8).P (fun _ h => told_post h)) (Yu (Yb ab (Yb Z0 (Ya (bl2 (HH 7 8).P (fun _ h => told_post h)) (Yu (Yb Z0 (Ya (pr (HH 8 2).P (told_post rfl)) (Yu (Ya (wr (HH 8 3).P fun hd es ck => ⟨(hd, es, ck), trivial, rfl, rfl, Nat.le_of_ble_eq_true rfl, fun h => by cases h⟩) (fun (Z3 : Value × Array MapEntry × Nat) => (fun (Z4 : True) => (Ya (hE Z3.fst Z3.snd.fst Z3.snd.snd (callPost (Hint.call false Unit (fun x => True) [0,1,2,3,4] false (fun x => T.sl 8 (Row.aggs enC L)) (fun x_1 => List.map (fwdO [0,1,2,3,4]) (List.filterMap (fun i => (S.mk (frame 49 [(0, T.ptr 3 ab 0), (1, T.agg [u32 n, u8 b]), (2, u32 frm), (3, T.v (Value.tuple #[])), (4, T.ptr 5 Z0 0), (5, T.v (Value.tuple #[])), (6, T.v (Value.slice none 0 0)), (7, int (0 : Int)), (8, int (0 : Int)), (9, bool false), (10, T.ptr 3 ab 0), (11, bool false), (12, bool false), (13, u32 frm), (14, T.ptr 3 ab 0), (15, T.ptr 3 ab 0), (16, T.ptr 3 ab 1), (17, T.ptr 3 ab 3), (18, u32 x.low), (19, bool (decide ((↑frm : Int) < (↑x.low : Int)))), (20, bool false), (21, T.ptr 5 Z0 0), (22, T.agg [u32 n, u8 b]), (23, T.ptr 3 ab 0), (24, T.ptr 3 ab 0), (25, T.ptr 3 ab 1), (26, T.ptr 3 ab 1), (27, T.ptr 3 ab 1), (28, T.agg [u32 x.pn, u8 x.pb]), (29, bool false), (30, T.ptr 3 ab 0), (31, T.ptr 3 ab 0), (32, T.ptr 3 ab 1), (33, T.ptr 3 ab 1), (34, T.ptr 3 ab 1), (35, T.agg [u32 x.pn, u8 x.pb]), (36, T.ptr 5 Z0 0), (37, T.agg [u32 n, u8 b]), (38, bool true), (39, T.ptr 3 ab 0), (40, T.agg [u32 n, u8 b]), (41, T.v (Value.string (ByteArray.mk (List.toArray s)))), (42, int (0 : Int)), (43, int (0 : Int)), (44, bool false), (45, T.v (Value.tuple #[])), (46, T.ptr 3 ab 0), (47, u32 frm), (48, T.v (Value.tuple #[]))]) [(db, Ob.cells [T.v (Value.string (ByteArray.mk (List.toArray d1.b))), int d1.n, bool d1.off]), (jb, Ob.cells [T.ptr 0 db 0, T.slx 1 2 (strs l1) Z3.fst, bool false]), (0, Ob.room 1 9 (List.length (strs l1)) Z3.fst), (ab, Ob.cells [T.ptr 1 jb 0, u32 x1.pn, u8 x1.pb, u32 x1.low, u32 x1.v.e, T.sl 3 (mems x1.v.ms), u8 (x1.v.L 0), u8 (x1.v.L 1), u8 (x1.v.L 2), u8 (x1.v.L 3), u8 (x1.v.L 4), u8 (x1.v.L 5), u8 (x1.v.L 6), u8 (x1.v.L 7), T.mp 4 mb]), (mb, Ob.map IntKind.u32 (enF x1.E) Z3.snd.fst Z3.snd.snd), (Z0, Ob.cells [u32 n, u8 b])] fun x => none).ob[i]?) [0,1,2,3,4])) fun x => none_)) (told_post rfl)) (Yu (hQ Z3.fst Z3.snd.fst Z3.snd.snd)))))))))))))))))))))
theorem acc_new (hv : Jrn.Vs l) (h2 : (Jrn.flat l).length + 70 ≤ 1048576) (y : En) (hy : y.Ok) (h : ¬ y.slot < x.low) (h16 : y.slot < x.low + 16) (hb : blw y.n y.b x.pn x.pb = false) (Q : T → Obs → Glb → Prop)
    (hQ : ∀ hd es ck, Q (int 0) (obsA db jb ab mb (Jrn.jd (l ++ [(Rc.acc y).b])) (l ++ [(Rc.acc y).b]) hd false (Acp.accept x y) es ck) none_) : TCalls Tryz.prog 76 [.ptr 3 ab 0, .agg [u32 y.n, u8 y.b], u32 y.slot, .agg [u8 y.kind, u8 y.node, u8 y.life, u32 y.ep, u32 y.rq]] (obsA db jb ab mb (Jrn.jd l) l hd false x es ck) none_ Q := by
  have hc : T.v (.int .u32 (IntKind.wrap .u32 ((y.slot : Int) - (x.low : Int)))) = u32 (y.slot - x.low : Nat) := congrArg u32 (by have := hy.slot; rw [IntWalk.u32_in _ (by omega)]; omega)
  have bl := fun Q' hq => below_any y.n y.b x.pn x.pb Q' hq
  rw [hb] at bl
  have pr := fun Q' hq => accepted_any y hy Q' hq
  have wr := fun Q' hq => write_any db jb ab mb l hd x es ck hv (.acc y) hy h2 Q' hq
  rw [show Acp.step x (.acc y) = Acp.accept x y from rfl] at wr
  clear hv h2 hb hy
  generalize Acp.accept x y = x1 at *
  generalize (Rc.acc y).b = s at *
  generalize Jrn.jd (l ++ [s]) = d1 at *
  generalize l ++ [s] = l1 at *
  generalize Jrn.jd l = d0 at *
  refine TCalls.of Tryz.func76 rfl (CanCall.of Tryz.func76 rfl (by decide)) [0,1,2,3,4] fun Γ => ?_
  let HH : Nat → Nat → Hint := fun | 5, 6 => .res (u32 (y.slot - x.low : Nat)) | 7, 8 => told (bool false) [] [] | 9, 5 => told (str s) [] [] | 9, 6 => .call false (Value × Array MapEntry × Nat) (fun _ => True) [0,1,2,3,4] false (fun _ => int 0) (fun a => obsA db jb ab mb d1 l1 a.1 false x1 a.2.1 a.2.2) (fun _ => none_) | _, _ => .no
  let z0 := fun (Z0 : Nat) (Z1 : Nat) => S.mk (frame 46 []) [(db, Ob.cells [T.v (Value.string (ByteArray.mk (List.toArray d0.b))), int d0.n, bool d0.off]), (jb, Ob.cells [T.ptr 0 db 0, T.slx 1 2 (strs l) hd, bool false]), (0, Ob.room 1 9 (List.length (strs l)) hd), (ab, Ob.cells [T.ptr 1 jb 0, u32 x.pn, u8 x.pb, u32 x.low, u32 x.v.e, T.sl 3 (mems x.v.ms), u8 (x.v.L 0), u8 (x.v.L 1), u8 (x.v.L 2), u8 (x.v.L 3), u8 (x.v.L 4), u8 (x.v.L 5), u8 (x.v.L 6), u8 (x.v.L 7), T.mp 4 mb]), (mb, Ob.map IntKind.u32 (enF x.E) es ck), (Z0, Ob.cells [u32 y.n, u8 y.b]), (Z1, Ob.cells [u8 y.kind, u8 y.node, u8 y.life, u32 y.ep, u32 y.rq])] fun x => none
  exact run_sound ⟨HH, [((0, 4), ([], 7)), ((0, 6), ([], 7))], fun | 7 => some ⟨[3,5], [8], .take true [0,1,2,3,4,5,6,7] (.one 8 (.take false [9] .done))⟩ | n => plAcE1 n⟩ 400 (by kernel_rfl) (fun (Z0 : Nat) => (fun (Z1 : Nat) => (Yb ab (Ys (decide ((↑y.slot : Int) < (↑x.low : Int))) (fun Z2 => (show wAcE4 Γ Q [kAcE1 [1,0,0,1,1,1,0], It.blk 0, kAcE1 [1,1]] (z0 Z0 Z1) by exfalso; have := of_decide_eq_true Z2; omega)) (fun Z3 => (Yb ab (Ya hc (Ys (decide ((↑(y.slot - x.low) : Int) ≥ (16 : Int))) (fun Z4 => (show wAcE4 Γ Q [kAcE1 [1,0,0,1,1,1,1,1,0], It.blk 0, kAcE1 [1,1]] (z0 Z0 Z1) by exfalso; have := of_decide_eq_true Z4; omega)) (fun Z5 => (Yb Z0 (Yb ab (Ya (bl (HH 7 8).P (fun _ h => told_post h)) (Yu (Yb Z0 (Yb Z1 (Ya (pr (HH 9 5).P (told_post rfl)) (Yu (Ya (wr (HH 9 6).P fun hd es ck => ⟨(hd, es, ck), trivial, rfl, rfl, Nat.le_of_ble_eq_true rfl, fun h => by cases h⟩) (fun (Z6 : Value × Array MapEntry × Nat) => (fun (Z7 : True) => (hQ Z6.fst Z6.snd.fst Z6.snd.snd)))))))))))))))))))))
end
end X11
end Go.Proofs.YtpjkdcbogjigeaaGreat.Vm
namespace Go.Proofs.YtpjkdcbogjigeaaGreat.Vm
open Go Go.RowKit
set_option maxRecDepth 100000
def plAcH0 : Nat → Option RPlan := fun | 8 => some ⟨[], [5, 6, 7, 8], .take false [0,1] (.take true [4] (.one 2 (.two 3 5 (.one 5 (.one 6 (.one 7 (.one 8 (.take false [9] .done))))) (.one 3 (.one 6 (.one 7 (.one 8 (.take false [9] .done))))))))⟩ | _ => none
namespace X11
open Acp (En AS Rc blw VOk)
open View (VS Mem)
open X5 (viewC mems memC)
open Jrn (Dk)
open X9 (dkC obsK dkH dk_post)
open X10 (strs jC obsJ)
def jo (l : List (List UInt8)) : Dk := ⟨Jrn.flat l, (Jrn.flat l).length, true⟩
theorem op_jd (db : Nat) {l : List (List UInt8)} (hv : Jrn.Vs l) : TCalls Tryz.prog 33 [.ptr 0 db 0] (obsK db (Jrn.jd l)) none_ (callPost (opP db (Jrn.jd l) l)) :=
  op_post db (Jrn.jd l) hv.ok rfl _ _ (by rw [Jrn.rec_jd hv, Jrn.keep_jd]) (by rw [Jrn.rec_jd hv])
theorem op_jo (db : Nat) (l : List (List UInt8)) : TCalls Tryz.prog 33 [.ptr 0 db 0] (obsK db (jo l)) none_ (callPost (told (.tup [.v (.pointer none), int 10]) [0] (obsK db (jo l)))) :=
  X10.jopen_off db _ rfl _ fun _ h => dk_post h
theorem rc_post (db jb : Nat) (d : Dk) (l : List (List UInt8)) (hl : l.length ≤ 100000000) (h : Value) (dead : Bool) : TCalls Tryz.prog 34 [.ptr 1 jb 0] (obsJ db jb d l h dead) none_ (callPost (told (.sl 1 (strs l)) [0,1,2] (obsJ db jb d l h dead))) :=
  X10.recs_any db jb d l hl h dead _ fun x hx => told_post hx
section
variable (db : Nat) (d : Dk) (self : Nat) (v : VS)
theorem make_off (l : List (List UInt8)) (hg : 1 ≤ self ∧ self ≤ 5) (hw : v.ms.length ≤ 8) (Q : T → Obs → Glb → Prop) (hQ : Q (int 10) (obsK db (jo l)) none_) : TCalls Tryz.prog 8 [.ptr 0 db 0, u8 self, .agg (viewC v)] (obsK db (jo l)) none_ Q := by
  have hgd := fun Q' hq => good_any self Q' hq
  rw [decide_eq_true hg] at hgd
  have ho := fun Q' hq => holds_any v (by omega) Q' hq
  rw [decide_eq_true hw] at ho
  have op := op_jo db l
  generalize jo l = d0 at *
  refine TCalls.of Tryz.func8 rfl (CanCall.of Tryz.func8 rfl (by decide)) [0] fun Γ => ?_
  let HH : Nat → Nat → Hint := fun | 1, 1 => told (bool true) [] [] | 1, 5 => told (bool true) [] [] | 3, 1 => dkH 0 d0 (.tup [.v (.pointer none), int 10]) | _, _ => .no
  exact run_sound ⟨HH, [], plAcH0⟩ 400 (by kernel_rfl) (fun (Z0 : Nat) => (Ya (hgd (HH 1 1).P (told_post rfl)) (Yu (Yb Z0 (Ya (ho (HH 1 1).P (told_post rfl)) (Yu (Ya op (Yu hQ))))))))
theorem make_new (hg : 1 ≤ self ∧ self ≤ 5) (hv8 : VOk v) (Q : T → Obs → Glb → Prop) (hQ : Q (int 0) (obsK db (Jrn.jd [(Rc.birth self 0 v).b])) none_) : TCalls Tryz.prog 8 [.ptr 0 db 0, u8 self, .agg (viewC v)] (obsK db (Jrn.jd [])) none_ Q := by
  have h8 := hv8.len
  have hgd := fun Q' hq => good_any self Q' hq
  rw [decide_eq_true hg] at hgd
  have ho := fun Q' hq => holds_any v (by omega) Q' hq
  rw [decide_eq_true h8] at ho
  have op := op_jd db Jrn.vs_nil
  have rc := fun jb h => rc_post db jb (Jrn.jd []) [] (by decide) h false
  have sm := fun Q' hq => small_any self (by omega) Q' hq
  have pa := fun Q' hq => parts_any 0 (by decide) v hv8 Q' hq
  obtain ⟨r1, r2, r3⟩ := vB_room 0 v hv8
  have hj := Rc.join (r := .birth self 0 v) ⟨by omega, by decide, hv8⟩
  have rd := fun Q' hq => record_any 1 (Acp.num 1 self :: Acp.vP 0 v) (by show 9 + (9 + Oct.room (Acp.vP 0 v)) ≤ _; omega) (fun p hp => by
    rcases List.mem_cons.1 hp with rfl | hp
    · exact (by decide : 1 < 18446744073709551616)
    · rcases List.mem_cons.1 hp with rfl | hp
      · exact (by omega : self < 18446744073709551616)
      · have := r3 p hp (by decide); omega) (by rw [List.length_cons]; omega) Q' hq
  rw [show Oct.joinRes (Acp.num 1 1 :: Acp.num 1 self :: Acp.vP 0 v) [] = _ from hj] at rd
  have rd2 := fun (Q' : T → Obs → Glb → Prop) (hq : Q' (str (Rc.birth self 0 v).b) [] none_) => rd Q' hq
  have hr : (Rc.birth self 0 v).Ok := ⟨by omega, by decide, hv8⟩
  have hb := (Rc.b_len hr).2
  have ad := fun jb h => ad_post db jb Jrn.vs_nil h (Rc.birth self 0 v).b (Rc.vr hr) (by show 0 + _ + 6 ≤ _; omega)
  rw [show ([] : List (List UInt8)) ++ [(Rc.birth self 0 v).b] = [(Rc.birth self 0 v).b] from rfl] at ad
  have hpl : (1 + (X1.parts (Acp.vP 0 v)).length) ≤ 1000 := by rw [X1.parts_len]; omega
  have c1 : (1 + (X1.parts (Acp.vP 0 v)).length) * 40 ≤ 140737488355328 := by omega
  have c2 : 1 + (X1.parts (Acp.vP 0 v)).length ≤ 9223372036854775807 := by omega
  rw [show X1.parts (Acp.num 1 self :: Acp.vP 0 v) = .agg (X1.partC (Acp.num 1 self)) :: X1.parts (Acp.vP 0 v) from rfl] at rd2
  clear hr hb hpl rd hj r1 r2 r3
  generalize (Rc.birth self 0 v).b = s at *
  generalize X1.parts (Acp.vP 0 v) = vp at *
  generalize Jrn.jd [s] = d1 at *
  generalize Jrn.jd [] = d0 at *
  refine TCalls.of Tryz.func8 rfl (CanCall.of Tryz.func8 rfl (by decide)) [0] fun Γ => ?_
  let HH : Nat → Nat → Hint := fun | 1, 1 => told (bool true) [] [] | 1, 5 => told (bool true) [] [] | 3, 1 => opH 0 d0 [] | 6, 1 => keepH [0,2,3] (.sl 1 []) | 8, 2 => told (.agg (X1.partC (Acp.num 1 self))) [] [] | 8, 3 => .plain .no | 8, 5 => told (.sl 4 vp) [] [] | 8, 7 => .call true Unit (fun _ => True) [] false (fun _ => str s) (fun _ => []) (fun _ => none_) | 8, 8 => adH 0 2 3 d1 [s] (int 0) | _, _ => .no
  exact run_sound ⟨HH, [], fun | 8 => some ⟨[1], [5,6,7,8], .take false [0,1] (.take true [4] (.one 2 (.two 3 5 (.one 5 (.one 6 (.one 7 (.one 8 (.take false [9] .done))))) (.one 3 (.one 6 (.one 7 (.one 8 (.take false [9] .done))))))))⟩ | n => plAcH0 n⟩ 400 (by kernel_rfl) (fun (Z0 : Nat) => (Ya (hgd (HH 1 1).P (told_post rfl)) (Yu (Yb Z0 (Ya (ho (HH 1 1).P (told_post rfl)) (Yu (Ya op (fun (Z1 : Nat × Value) => (fun (Z2 : True) => (Ya (rc Z1.fst Z1.snd) (Yu (Yb Z0 (Ya (sm (HH 8 2).P (told_post rfl)) (Yu (Ya (fun (Z3 : Value) => (Ya (pa (HH 8 5).P (told_post rfl)) (Yu (Ya (Yb Z3 (Ye (1))) (Ya (Ya (show (1 + List.length vp) * nat_lit 40 ≤ 140737488355328 by omega) c2) (fun (Z4 : Value) => (Ya (rd2 (HH 8 7).P (told_post rfl)) (Yu (Ya (ad Z1.fst Z1.snd) (fun (Z5 : Value) => (fun (Z6 : True) => hQ))))))))))) (Ya (pa (HH 8 5).P (told_post rfl)) (Yu (fun (Z7 : Value) => (Ya (Yb Z7 (Ye (1))) (Ya (Ya (show (1 + List.length vp) * nat_lit 40 ≤ 140737488355328 by omega) c2) (fun (Z8 : Value) => (Ya (rd2 (HH 8 7).P (told_post rfl)) (Yu (Ya (ad Z1.fst Z1.snd) (fun (Z9 : Value) => (fun (Z10 : True) => hQ))))))))))))))))))))))))))
end
end X11
end Go.Proofs.YtpjkdcbogjigeaaGreat.Vm
namespace Go.Proofs.YtpjkdcbogjigeaaGreat.Vm
open Go Go.RowKit
set_option maxRecDepth 100000
noncomputable abbrev kAcI0 (l : List Nat) : It := .code (sub (bd Tryz.f41) l)
noncomputable abbrev wAcI1 (Γ : Ctx) (Q : T → Obs → Glb → Prop) : List It → S → Prop := TWk Tryz.prog Γ (fin Tryz.prog Tryz.f41 [0, 1, 2, 3, 4] Q)
namespace X11
open Acp (En AS Rc blw VOk)
open View (VS Mem)
open X5 (viewC mems memC)
open Jrn (Dk)
open X9 (dkC obsK dkH dk_post)
open X10 (strs jC obsJ)
def acO (jb mb : Nat) : List T := [.ptr 1 jb 0, u32 0, u8 0, u32 0, u32 0, .v nilS, u8 0, u8 0, u8 0, u8 0, u8 0, u8 0, u8 0, u8 0, .mp 3 mb]
section
variable (db : Nat) (d : Dk) (self : Nat)
theorem open_bad (hg : ¬ (1 ≤ self ∧ self ≤ 5)) (Q : T → Obs → Glb → Prop) (hQ : Q (.tup [.v (.pointer none), int 1]) (obsK db d) none_) : TCalls Tryz.prog 41 [.ptr 0 db 0, u8 self] (obsK db d) none_ Q := by
  have hgd := fun Q' hq => good_any self Q' hq
  rw [decide_eq_false hg] at hgd
  refine TCalls.of Tryz.func41 rfl (CanCall.of Tryz.func41 rfl (by decide)) [0] fun Γ => ?_
  let HH : Nat → Nat → Hint := fun | 1, 1 => told (bool false) [] [] | _, _ => .no
  exact run_sound ⟨HH, [], fun  | _ => none⟩ 400 (by kernel_rfl) (Ya (hgd (HH 1 1).P (told_post rfl)) (Yu hQ))
theorem open_none (hg : 1 ≤ self ∧ self ≤ 5) (Q : T → Obs → Glb → Prop) (hQ : Q (.tup [.v (.pointer none), int 7]) (obsK db (Jrn.jd [])) none_) : TCalls Tryz.prog 41 [.ptr 0 db 0, u8 self] (obsK db (Jrn.jd [])) none_ Q := by
  have hgd := fun Q' hq => good_any self Q' hq
  rw [decide_eq_true hg] at hgd
  have op := op_jd db Jrn.vs_nil
  have rc := fun jb h => rc_post db jb (Jrn.jd []) [] (by decide) h false
  generalize Jrn.jd [] = d0 at *
  refine TCalls.of Tryz.func41 rfl (CanCall.of Tryz.func41 rfl (by decide)) [0] fun Γ => ?_
  let HH : Nat → Nat → Hint := fun | 1, 1 => told (bool true) [] [] | 3, 1 => opH 0 d0 [] | 6, 1 => keepH [0,1,2] (.sl 1 []) | _, _ => .no
  exact run_sound ⟨HH, [], fun  | _ => none⟩ 400 (by kernel_rfl) (Ya (hgd (HH 1 1).P (told_post rfl)) (Yu (Ya op (fun (Z0 : Nat × Value) => (fun (Z1 : True) => (Ya (rc Z0.fst Z0.snd) (Yu hQ)))))))
theorem open_form (s low : Nat) (v : VS) (hs : s < 256) (hv8 : VOk v) (l0 : List (List UInt8)) (hne : s ≠ self) (hv : Jrn.Vs ((Rc.birth s low v).b :: l0)) (hl : l0.length ≤ 1000000) (hg : 1 ≤ self ∧ self ≤ 5) (Q : T → Obs → Glb → Prop) (hQ : Q (.tup [.v (.pointer none), int 4]) (obsK db (Jrn.jd ((Rc.birth s low v).b :: l0))) none_) : TCalls Tryz.prog 41 [.ptr 0 db 0, u8 self] (obsK db (Jrn.jd ((Rc.birth s low v).b :: l0))) none_ Q := by
  have hgd := fun Q' hq => good_any self Q' hq
  rw [decide_eq_true hg] at hgd
  have op := op_jd db hv
  have rc : ∀ jb h, TCalls Tryz.prog 34 [.ptr 1 jb 0] (obsJ db jb (Jrn.jd ((Rc.birth s low v).b :: l0)) ((Rc.birth s low v).b :: l0) h false) none_ (callPost (told (.sl 1 (str (Rc.birth s low v).b :: strs l0)) [0,1,2] (obsJ db jb (Jrn.jd ((Rc.birth s low v).b :: l0)) ((Rc.birth s low v).b :: l0) h false))) := fun jb h => rc_post db jb (Jrn.jd ((Rc.birth s low v).b :: l0)) ((Rc.birth s low v).b :: l0) (by rw [List.length_cons]; omega) h false
  have ow := fun Q' hq => owner_any s low v hs hv8 Q' hq
  have hc : ∀ S0 : List T, T.v (.bool (decide (((S0.length + 1 : Nat) : Int) = 0))) = bool false := fun S0 => congrArg bool (decide_eq_false (by omega))
  have hc2 : ∀ S0 : List T, T.v (.bool (((S0.length + 1 : Nat) : Int) == 0)) = bool false := fun S0 => congrArg bool (by rw [beq_eq_false_iff_ne]; omega)
  generalize Jrn.jd ((Rc.birth s low v).b :: l0) = d0 at *
  generalize (Rc.birth s low v).b = sb at *
  generalize sb :: l0 = l1 at *
  generalize strs l0 = S0 at *
  refine TCalls.of Tryz.func41 rfl (CanCall.of Tryz.func41 rfl (by decide)) [0] fun Γ => ?_
  let HH : Nat → Nat → Hint := fun | 1, 1 => told (bool true) [] [] | 3, 1 => opH 0 d0 l1 | 6, 1 => keepH [0,1,2] (.sl 1 (str sb :: S0)) | 7, 2 => .res (bool false) | 9, 3 => told (u8 s) [] [] | _, _ => .no
  exact run_sound ⟨HH, [], fun  | _ => none⟩ 400 (by kernel_rfl) (Ya (hgd (HH 1 1).P (told_post rfl)) (Yu (Ya op (fun (Z0 : Nat × Value) => (fun (Z1 : True) => (Ya (rc Z0.fst Z0.snd) (Yu (Yb (bool false) (Ya (show (0 : Int) ≤ (0 : Int) by omega) (Ya (ow (HH 9 3).P (told_post rfl)) (Yu (Ys ((↑s : Int) != (↑self : Int)) (fun Z2 => hQ) (fun Z3 => (fun (Z4 : Nat) => (fun (Z5 : Nat) => (Ys (decide ((0 : Int) < (↑(List.length (T.v (Value.string (ByteArray.mk (List.toArray sb))) :: S0)) : Int))) (fun Z6 => (Ya (show (0 : Int) ≤ (0 : Int) by omega) (show False by exfalso; simp only [beq_iff_eq, bne_eq_false_iff_eq] at *; omega))) (fun Z7 => (show Q (T.tup [T.ptr 4 Z5 0, int (0 : Int)]) [(db, Ob.cells [T.v (Value.string (ByteArray.mk (List.toArray d0.b))), int d0.n, bool d0.off])] fun x => none by exfalso; simp only [beq_iff_eq, bne_eq_false_iff_eq] at *; omega))))))))))))))))))
end
section
variable (db jb ab mb : Nat) (d : Dk) (l : List (List UInt8)) (hd : Value) (x : AS) (es : Array MapEntry) (ck : Nat) (Γ : Ctx) (Q : T → Obs → Glb → Prop)
theorem open_end (SL : List T) (n k : Nat) (hk : n ≤ k) (hQ : Q (.tup [.ptr 3 ab 0, int 0]) (obsA db jb ab mb d l hd false x es ck) none_) : wAcI1 Γ Q [kAcI0 [1,1,1,1,1,1,1,0,1,0], .blk 1, kAcI0 [1,1,1,1,1,1,1,1]] ⟨frame 54 [(9, .ptr 3 ab 0), (41, .sl 1 SL), (42, int n), (43, int k)], obsA db jb ab mb d l hd false x es ck, none_⟩ := by
  let HH : Nat → Nat → Hint := fun _ _ => .no
  exact run_sound ⟨HH, [((0, 14), ([9,41,42,43], 5))], fun _ => none⟩ 400 (by kernel_rfl) (Ys (decide ((↑k : Int) < (↑n : Int))) (fun Z0 => (show wAcI1 Γ Q [kAcI0 [1,1,1,1,1,1,1,0,1,0,0,1,1,0,0], It.blk 2, kAcI0 [1,1,1,1,1,1,1,0,1,0,0,1,1,1], kAcI0 [1,1,1,1,1,1,1,0,1,0], It.blk 1, kAcI0 [1,1,1,1,1,1,1,1]] (S.mk (frame 54 [(9, T.ptr 3 ab 0), (41, T.sl 1 SL), (42, int n), (43, int k)]) [(db, Ob.cells [T.v (Value.string (ByteArray.mk (List.toArray d.b))), int d.n, bool d.off]), (jb, Ob.cells [T.ptr 0 db 0, T.slx 1 2 (strs l) hd, bool false]), (0, Ob.room 1 9 (List.length (strs l)) hd), (ab, Ob.cells [T.ptr 1 jb 0, u32 x.pn, u8 x.pb, u32 x.low, u32 x.v.e, T.sl 3 (mems x.v.ms), u8 (x.v.L 0), u8 (x.v.L 1), u8 (x.v.L 2), u8 (x.v.L 3), u8 (x.v.L 4), u8 (x.v.L 5), u8 (x.v.L 6), u8 (x.v.L 7), T.mp 4 mb]), (mb, Ob.map IntKind.u32 (enF x.E) es ck)] fun x => none) by exfalso; have := of_decide_eq_true Z0; omega)) (fun Z1 => hQ))
theorem open_step (SL : List T) (n k : Nat) (hk : k < n) (hn : n ≤ 1000000) (r : Rc) (hr : r.Ok) (hat : SL[((k : Nat) : Int).toNat]? = some (str r.b))
    (nx : ∀ es ck, wAcI1 Γ Q [kAcI0 [1,1,1,1,1,1,1,0,1,0], .blk 1, kAcI0 [1,1,1,1,1,1,1,1]] ⟨frame 54 [(9, .ptr 3 ab 0), (41, .sl 1 SL), (42, int n), (43, int (k + 1 : Nat))], obsA db jb ab mb d l hd false (Acp.step x r) es ck, none_⟩) : wAcI1 Γ Q [kAcI0 [1,1,1,1,1,1,1,0,1,0], .blk 1, kAcI0 [1,1,1,1,1,1,1,1]] ⟨frame 54 [(9, .ptr 3 ab 0), (41, .sl 1 SL), (42, int n), (43, int k)], obsA db jb ab mb d l hd false x es ck, none_⟩ := by
  have hw : T.v (.int .i64 (IntKind.wrap .i64 ((k : Int) + 1))) = int (k + 1 : Nat) := congrArg int (by rw [wrap_i64 (by omega) (by omega)]; omega)
  have tk := fun Q' hq => take_any db jb ab mb d l hd false x es ck r hr Q' hq
  generalize r.b = s at *
  generalize Acp.step x r = x1 at *
  let HH : Nat → Nat → Hint := fun | 14, 0 => .res (str s) | 15, 4 => .call false (Array MapEntry × Nat) (fun _ => True) [0,1,2,3,4] false (fun _ => .tup []) (fun a => obsA db jb ab mb d l hd false x1 a.1 a.2) (fun _ => none_) | 16, 0 => .res (int (k + 1 : Nat)) | _, _ => .no
  exact run_sound ⟨HH, [((2, 13), ([9,41,42,43], 5)), ((0, 17), ([9], 5))], fun  | _ => none⟩ 400 (by kernel_rfl) (Ys (decide ((↑k : Int) < (↑n : Int))) (fun Z0 => (Ya (show (0 : Int) ≤ (↑k : Int) by omega) (Ya hat (Ya (tk (HH 15 4).P fun es ck => ⟨(es, ck), trivial, rfl, rfl, Nat.le_of_ble_eq_true rfl, fun h => by cases h⟩) (fun (Z1 : Array MapEntry × Nat) => (fun (Z2 : True) => (Ya hw (nx Z1.fst Z1.snd)))))))) (fun Z3 => (show wAcI1 Γ Q [kAcI0 [1,1,1,1,1,1,1,1]] (S.mk (frame 54 [(9, T.ptr 3 ab 0)]) [(db, Ob.cells [T.v (Value.string (ByteArray.mk (List.toArray d.b))), int d.n, bool d.off]), (jb, Ob.cells [T.ptr 0 db 0, T.slx 1 2 (strs l) hd, bool false]), (0, Ob.room 1 9 (List.length (strs l)) hd), (ab, Ob.cells [T.ptr 1 jb 0, u32 x.pn, u8 x.pb, u32 x.low, u32 x.v.e, T.sl 3 (mems x.v.ms), u8 (x.v.L 0), u8 (x.v.L 1), u8 (x.v.L 2), u8 (x.v.L 3), u8 (x.v.L 4), u8 (x.v.L 5), u8 (x.v.L 6), u8 (x.v.L 7), T.mp 4 mb]), (mb, Ob.map IntKind.u32 (enF x.E) es ck)] fun x => none) by exfalso; have := of_decide_eq_false Z3; omega)))
end
theorem rel_nil0 {M : Pm} {k : Nat} {v : Value} (h : Rel M (.v nilS) v) : Rel M (.sl k []) v := by
  simp only [Rel] at h ⊢
  exact ⟨none, 0, h, ⟨Nat.le_refl _, by omega, fun _ => ⟨rfl, rfl⟩, fun a e => by cases e⟩, by simp [El], by simp⟩
theorem relL_set {M : Pm} {j : Nat} {ts : List T} {xs : List Value} {t t' : T} (hj : ts[j]? = some t) (ht : ∀ v, Rel M t v → Rel M t' v) (h : RelL M ts xs) : RelL M (ts.set j t') xs := by
  obtain ⟨y, h1, h2⟩ := h.get hj
  have h3 := h.set j (ht y h2)
  have e : xs.set j y = xs := by
    obtain ⟨hl, he⟩ := List.getElem?_eq_some_iff.1 h1
    rw [← he, List.set_getElem_self]
  rwa [e] at h3
theorem Imp.cellR {ts : List T} {ob : Obs} {gl : Glb} {i b j : Nat} {cs : List T} {t t' : T} (hi : ob[i]? = some (b, .cells cs)) (hj : cs[j]? = some t) (ht : ∀ M v, Rel M t v → Rel M t' v) : Imp ts ob gl ts (ob.set i (b, .cells (cs.set j t'))) gl :=
  Imp.ob hi (fun M _ ⟨C, ty, h1, h2, h3⟩ => ⟨C, ty, h1, relL_set hj (ht M) h2, h3⟩) (fun _ h => h)
theorem run_take {x : AS} {R : List Rc} {k : Nat} {r : Rc} (h : R[k]? = some r) : Acp.run x (R.take (k + 1)) = Acp.step (Acp.run x (R.take k)) r := by
  rw [List.take_add_one, h]
  exact Acp.run_snoc _ _ _
theorem open_loop (db jb ab mb : Nat) (d : Dk) (l : List (List UInt8)) (hd : Value) (Γ : Ctx) (Q : T → Obs → Glb → Prop) (R : List Rc) (hl : l = R.map Rc.b) (hR : ∀ r ∈ R, r.Ok) (hn : R.length ≤ 1000000)
    (hQ : ∀ es ck, Q (.tup [.ptr 3 ab 0, int 0]) (obsA db jb ab mb d l hd false (Acp.run Acp.st0 R) es ck) none_) : ∀ (c k : Nat) (es : Array MapEntry) (ck : Nat), k + c = R.length →
    wAcI1 Γ Q [kAcI0 [1,1,1,1,1,1,1,0,1,0], .blk 1, kAcI0 [1,1,1,1,1,1,1,1]] ⟨frame 54 [(9, .ptr 3 ab 0), (41, .sl 1 (strs l)), (42, int R.length), (43, int k)], obsA db jb ab mb d l hd false (Acp.run Acp.st0 (R.take k)) es ck, none_⟩ := by
  intro c
  induction c with
  | zero =>
    intro k es ck h
    have hk : k = R.length := by omega
    refine open_end db jb ab mb d l hd _ es ck Γ Q (strs l) R.length k (by omega) ?_
    rw [hk, List.take_length]
    exact hQ es ck
  | succ c ih =>
    intro k es ck h
    have hlt : k < R.length := by omega
    have hat : R[k]? = some R[k] := List.getElem?_eq_getElem hlt
    refine open_step db jb ab mb d l hd _ es ck Γ Q (strs l) R.length k hlt hn R[k] (hR _ (List.getElem_mem hlt)) ?_ fun es ck => ?_
    · rw [Int.toNat_natCast, hl]
      unfold strs
      rw [List.getElem?_map, List.getElem?_map, hat]; rfl
    · rw [← run_take hat]
      exact ih (k + 1) es ck (by omega)
theorem open_imp (db jb ab mb : Nat) (d : Dk) (l : List (List UInt8)) (hd : Value) (a41 a42 a43 : T) :
    Imp (frame 54 [(9, .ptr 4 ab 0), (41, a41), (42, a42), (43, a43)]) (obsJ db jb d l hd false ++ [(mb, .map .u32 (fun _ => none) #[] 0), (ab, .cells (acO jb mb))]) none_ (frame 54 [(9, .ptr 3 ab 0), (41, a41), (42, a42), (43, a43)]) (obsA db jb ab mb d l hd false Acp.st0 #[] 0) none_ := by
  have hE : enF Acp.st0.E = fun _ => none := by
    funext z
    unfold enF
    split <;> rfl
  rw [show obsA db jb ab mb d l hd false Acp.st0 #[] 0 = obsJ db jb d l hd false ++ [(ab, .cells (((acO jb mb).set 14 (.mp 4 mb)).set 5 (.sl 3 []))), (mb, .map .u32 (fun _ => none) #[] 0)] from by rw [← hE]; rfl]
  refine (Imp.sel (ob' := obsJ db jb d l hd false ++ [(ab, .cells (acO jb mb)), (mb, .map .u32 (fun _ => none) #[] 0)]) [0,1,2,4,3] (by decide) rfl).trans ?_
  refine (Imp.slotR (j := 9) (t := .ptr 4 ab 0) (t' := .ptr 3 ab 0) rfl (fun M v r => by simpa only [Rel] using r)).trans ?_
  refine (Imp.cellR (i := 3) (j := 14) (b := ab) (cs := acO jb mb) (t := .mp 3 mb) (t' := .mp 4 mb) rfl rfl (fun M v r => by simpa only [Rel] using r)).trans ?_
  exact Imp.cellR (ob := obsJ db jb d l hd false ++ [(ab, .cells ((acO jb mb).set 14 (.mp 4 mb))), (mb, .map .u32 (fun _ => none) #[] 0)]) (i := 3) (j := 5) (b := ab) (cs := (acO jb mb).set 14 (.mp 4 mb)) (t := .v nilS) (t' := .sl 3 []) rfl rfl (fun M v h => rel_nil0 h)
theorem open_ok (db self : Nat) (v : VS) (hg : 1 ≤ self ∧ self ≤ 5) (hv8 : VOk v) (rs : List Rc) (hR : ∀ r ∈ rs, r.Ok) (hn : rs.length ≤ 100000) (l : List (List UInt8)) (hl : l = (Rc.birth self 0 v :: rs).map Rc.b) (hv : Jrn.Vs l) (Q : T → Obs → Glb → Prop)
    (hQ : ∀ jb ab mb hd es ck, Q (.tup [.ptr 3 ab 0, int 0]) (obsA db jb ab mb (Jrn.jd l) l hd false (Acp.run Acp.st0 (Rc.birth self 0 v :: rs)) es ck) none_) : TCalls Tryz.prog 41 [.ptr 0 db 0, u8 self] (obsK db (Jrn.jd l)) none_ Q := by
  have hgd := fun Q' hq => good_any self Q' hq
  rw [decide_eq_true hg] at hgd
  have hll : l.length = rs.length + 1 := by rw [hl, List.length_map, List.length_cons]
  have op := op_jd db hv
  have e1 : strs l = str (Rc.birth self 0 v).b :: strs (rs.map Rc.b) := by rw [hl]; rfl
  have rc : ∀ jb h, TCalls Tryz.prog 34 [.ptr 1 jb 0] (obsJ db jb (Jrn.jd l) l h false) none_ (callPost (told (.sl 1 (str (Rc.birth self 0 v).b :: strs (rs.map Rc.b))) [0,1,2] (obsJ db jb (Jrn.jd l) l h false))) := fun jb h => by
    have := rc_post db jb (Jrn.jd l) l (by omega) h false
    rw [show T.sl 1 (strs l) = T.sl 1 (str (Rc.birth self 0 v).b :: strs (rs.map Rc.b)) from congrArg _ e1] at this
    exact this
  have ow := fun Q' hq => owner_any self 0 v (by omega) hv8 Q' hq
  have lp := fun Γ jb ab mb hd => open_loop db jb ab mb (Jrn.jd l) l hd Γ Q (Rc.birth self 0 v :: rs) hl (fun r hr => by
    rcases List.mem_cons.1 hr with rfl | hr
    · exact ⟨by omega, by decide, hv8⟩
    · exact hR r hr) (by rw [List.length_cons]; omega) (fun es ck => hQ jb ab mb hd es ck) (rs.length + 1) 0 #[] 0 (by rw [List.length_cons]; omega)
  have hle : (rs.map Rc.b).length = rs.length := List.length_map ..
  have hs0 : (strs (rs.map Rc.b)).length = rs.length := by rw [X10.strs_len, hle]
  rw [e1, List.length_cons, show Acp.run Acp.st0 ((Rc.birth self 0 v :: rs).take 0) = Acp.st0 from rfl] at lp
  rw [← hs0] at lp
  have lp2 := fun Γ jb ab mb hd => TWk.imp (s := ⟨frame 54 [(9, .ptr 4 ab 0), (41, .sl 1 (str (Rc.birth self 0 v).b :: strs (rs.map Rc.b))), (42, int ((strs (rs.map Rc.b)).length + 1 : Nat)), (43, int 0)], obsJ db jb (Jrn.jd l) l hd false ++ [(mb, .map .u32 (fun _ => none) #[] 0), (ab, .cells (acO jb mb))], none_⟩) (lp Γ jb ab mb hd) (open_imp db jb ab mb (Jrn.jd l) l hd _ _ _)
  have hc : ∀ S0 : List T, T.v (.bool (decide (((S0.length + 1 : Nat) : Int) = 0))) = bool false := fun S0 => congrArg bool (decide_eq_false (by omega))
  have hc2 : ∀ S0 : List T, T.v (.bool (((S0.length + 1 : Nat) : Int) == 0)) = bool false := fun S0 => congrArg bool (by rw [beq_eq_false_iff_ne]; omega)
  clear lp hQ hR hl e1 hs0 hle hv
  generalize Jrn.jd l = d0 at *
  generalize (Rc.birth self 0 v).b = sb at *
  generalize strs (rs.map Rc.b) = S0 at *
  refine TCalls.of Tryz.func41 rfl (CanCall.of Tryz.func41 rfl (by decide)) [0,1,2,3,4] fun Γ => ?_
  let HH : Nat → Nat → Hint := fun | 1, 1 => told (bool true) [] [] | 3, 1 => opH 0 d0 l | 6, 1 => keepH [0,1,2] (.sl 1 (str sb :: S0)) | 7, 2 => .res (bool false) | 9, 3 => told (u8 self) [] [] | _, _ => .no
  exact run_sound ⟨HH, [((2, 13), ([9,41,42,43], 5))], fun  | _ => none⟩ 400 (by kernel_rfl) (Ya (hgd (HH 1 1).P (told_post rfl)) (Yu (Ya op (fun (Z0 : Nat × Value) => (fun (Z1 : True) => (Ya (rc Z0.fst Z0.snd) (Yu (Yb (bool false) (Ya (show (0 : Int) ≤ (0 : Int) by omega) (Ya (ow (HH 9 3).P (told_post rfl)) (Yu (Ys ((↑self : Int) != (↑self : Int)) (fun Z2 => (show False by exfalso; simp only [beq_iff_eq, bne_iff_ne, ne_eq, not_true_eq_false] at *; done)) (fun Z3 => (fun (Z4 : Nat) => (fun (Z5 : Nat) => (lp2 Γ Z0.fst Z5 Z4 Z0.snd))))))))))))))))
end X11
end Go.Proofs.YtpjkdcbogjigeaaGreat.Vm
namespace Go.Proofs.YtpjkdcbogjigeaaGreat.Vm
open Go Go.RowKit
namespace X11
open Acp (En AS Rc blw VOk)
open View (VS Mem)
open X5 (viewC mems memC firstM firstL)
open Jrn (Dk)
open X9 (dkC obsK dkH dk_post)
open X10 (strs jC obsJ)
def vw (n : Nat) : VS := ⟨n, firstM (1 + n % 8), firstL (1 + n % 8)⟩
end X11
end Go.Proofs.YtpjkdcbogjigeaaGreat.Vm
namespace Go.Proofs.YtpjkdcbogjigeaaGreat.Srt
open Go Go.Shelf Go.Proofs
def ren : Go.Shelf.Ren := ⟨fun | 6 => 149 | 15 => 164 | 14 => 163 | 28 => 180 | 29 => 181 | 20 => 172 | 21 => 173 | 22 => 174 | 23 => 175 | 24 => 176 | 25 => 177 | 26 => 178 | 27 => 179 | 46 => 182 | 47 => 183 | 48 => 184 | 49 => 185 | 50 => 186 | 57 => 187 | n => n, fun | 22 => 59 | 24 => 130 | 25 => 235 | 3 => 3 | 39 => 68 | 0 => 0 | 53 => 27 | 55 => 106 | 4 => 4 | 46 => 258 | 45 => 257 | 50 => 262 | 5 => 5 | 9 => 9 | 66 => 264 | 70 => 268 | 76 => 270 | 77 => 271 | n => n, fun n => n⟩
theorem lays : Go.Proofs.SlLaysF0.n6 Tryz.prog ren := {
  mixed := by kernel_rfl,
  f6 := ⟨ "slices.SortFunc[[]talaria/frame.Entry,talaria/frame.Entry]", by decide, Tryz.func149.trans (congrArg some (by kernel_rfl))⟩,
  f14 := ⟨ "slices.pdqsortCmpFunc[talaria/frame.Entry]", by decide, Tryz.func163.trans (congrArg some (by kernel_rfl))⟩,
  f15 := Tryz.func164.trans (congrArg some (by kernel_rfl)),
  f20 := ⟨ "slices.insertionSortCmpFunc[talaria/frame.Entry]", by decide, Tryz.func172.trans (congrArg some (by kernel_rfl))⟩,
  f21 := ⟨ "slices.heapSortCmpFunc[talaria/frame.Entry]", by decide, Tryz.func173.trans (congrArg some (by kernel_rfl))⟩,
  f22 := ⟨ "slices.breakPatternsCmpFunc[talaria/frame.Entry]", by decide, Tryz.func174.trans (congrArg some (by kernel_rfl))⟩,
  f23 := ⟨ "slices.choosePivotCmpFunc[talaria/frame.Entry]", by decide, Tryz.func175.trans (congrArg some (by kernel_rfl))⟩,
  f24 := ⟨ "slices.reverseRangeCmpFunc[talaria/frame.Entry]", by decide, Tryz.func176.trans (congrArg some (by kernel_rfl))⟩,
  f25 := ⟨ "slices.partialInsertionSortCmpFunc[talaria/frame.Entry]", by decide, Tryz.func177.trans (congrArg some (by kernel_rfl))⟩,
  f26 := ⟨ "slices.partitionEqualCmpFunc[talaria/frame.Entry]", by decide, Tryz.func178.trans (congrArg some (by kernel_rfl))⟩,
  f27 := ⟨ "slices.partitionCmpFunc[talaria/frame.Entry]", by decide, Tryz.func179.trans (congrArg some (by kernel_rfl))⟩,
  f28 := Tryz.func180.trans (congrArg some (by kernel_rfl)),
  f29 := Tryz.func181.trans (congrArg some (by kernel_rfl)),
  f46 := ⟨ "slices.siftDownCmpFunc[talaria/frame.Entry]", by decide, Tryz.func182.trans (congrArg some (by kernel_rfl))⟩,
  f47 := Tryz.func183.trans (congrArg some (by kernel_rfl)),
  f48 := Tryz.func184.trans (congrArg some (by kernel_rfl)),
  f49 := ⟨ "slices.medianAdjacentCmpFunc[talaria/frame.Entry]", by decide, Tryz.func185.trans (congrArg some (by kernel_rfl))⟩,
  f50 := ⟨ "slices.medianCmpFunc[talaria/frame.Entry]", by decide, Tryz.func186.trans (congrArg some (by kernel_rfl))⟩,
  f57 := ⟨ "slices.order2CmpFunc[talaria/frame.Entry]", by decide, Tryz.func187.trans (congrArg some (by kernel_rfl))⟩,
  t0 := Tryz.underlying0,
  a0 := Tryz.isAgg0,
  z0 := Tryz.sizeOf0,
  v0 := Tryz.zeroValue0,
  t3 := Tryz.underlying3,
  a3 := Tryz.isAgg3,
  z3 := Tryz.sizeOf3,
  v3 := Tryz.zeroValue3,
  t4 := Tryz.underlying4,
  a4 := Tryz.isAgg4,
  z4 := Tryz.sizeOf4,
  v4 := Tryz.zeroValue4,
  t5 := Tryz.underlying5,
  a5 := Tryz.isAgg5,
  z5 := Tryz.sizeOf5,
  v5 := Tryz.zeroValue5,
  t9 := Tryz.underlying9,
  a9 := Tryz.isAgg9,
  z9 := Tryz.sizeOf9,
  v9 := Tryz.zeroValue9,
  t22 := Tryz.underlying59,
  a22 := Tryz.isAgg59,
  z22 := Tryz.sizeOf59,
  v22 := Tryz.zeroValue59,
  t25 := Tryz.underlying235,
  a25 := Tryz.isAgg235,
  z25 := Tryz.sizeOf235,
  v25 := Tryz.zeroValue235,
  t39 := Tryz.underlying68,
  a39 := Tryz.isAgg68,
  z39 := Tryz.sizeOf68,
  v39 := Tryz.zeroValue68,
  t45 := Tryz.underlying257,
  a45 := Tryz.isAgg257,
  z45 := Tryz.sizeOf257,
  v45 := Tryz.zeroValue257,
  t46 := Tryz.underlying258,
  a46 := Tryz.isAgg258,
  z46 := Tryz.sizeOf258,
  v46 := Tryz.zeroValue258,
  t50 := Tryz.underlying262,
  a50 := Tryz.isAgg262,
  z50 := Tryz.sizeOf262,
  v50 := Tryz.zeroValue262,
  t53 := Tryz.underlying27,
  a53 := Tryz.isAgg27,
  z53 := Tryz.sizeOf27,
  v53 := Tryz.zeroValue27,
  t55 := Tryz.underlying106,
  a55 := Tryz.isAgg106,
  z55 := Tryz.sizeOf106,
  v55 := Tryz.zeroValue106,
  t66 := Tryz.underlying264,
  a66 := Tryz.isAgg264,
  z66 := Tryz.sizeOf264,
  v66 := Tryz.zeroValue264,
  t70 := Tryz.underlying268,
  a70 := Tryz.isAgg268,
  z70 := Tryz.sizeOf268,
  v70 := Tryz.zeroValue268,
  t76 := Tryz.underlying270,
  a76 := Tryz.isAgg270,
  z76 := Tryz.sizeOf270,
  v76 := Tryz.zeroValue270,
  t77 := Tryz.underlying271,
  a77 := Tryz.isAgg271,
  z77 := Tryz.sizeOf271,
  v77 := Tryz.zeroValue271 }
end Go.Proofs.YtpjkdcbogjigeaaGreat.Srt
