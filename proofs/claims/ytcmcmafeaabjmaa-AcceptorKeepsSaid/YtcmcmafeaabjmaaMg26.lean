/- Texts of this claim: AcM, AcN. -/
import Derived.Test.YtcmcmafeaabjmaaMg15
import Derived.Test.YtcmcmafeaabjmaaMg25
namespace Go.Proofs.Ytcmcmafeaabjmaa.Vm
open Go Go.RowKit
set_option maxRecDepth 100000
noncomputable abbrev kAcM0 (l : List Nat) : It := .code (sub (bd Try.f3) l)
noncomputable abbrev wAcM1 (Γ : Ctx) (Q : T → Obs → Glb → Prop) : List It → S → Prop := TWk Try.prog Γ (fin Try.prog Try.f3 [] Q)
def plAcM0 : Nat → Option RPlan := fun | 18 => some ⟨[], [6], .take true [0,1,2,3,4] (.one 5 (.one 6 .done))⟩ | 21 => some ⟨[], [], .take true [0,1,2,3,4,5,6] (.one 7 (.take true [8,9,10,11,12,13,15] (.one 14 (.take true [16,17,18] .done))))⟩ | 25 => some ⟨[], [6], .take true [0,1,2,3,4] (.one 5 (.one 6 (.take false [7,8] .done)))⟩ | 29 => some ⟨[], [5, 13], .take true [0,3,4] (.one 1 (.take true [2] (.one 5 (.take false [6,7,8,9,10,11,12] (.one 13 (.take false [14,15,16] .done))))))⟩ | _ => none
namespace X11
open Acp (En AS Rc blw VOk IsE XOk)
open View (VS Mem)
open X5 (viewC mems memC firstM firstL)
open Jrn (Dk)
open X9 (dkC obsK dkH dk_post)
open X10 (strs jC obsJ)
theorem en_eq (z y : En) : T.v (.bool (((z.slot : Int) == (y.slot : Int)) && (((z.n : Int) == (y.n : Int)) && (((z.b : Int) == (y.b : Int)) && true) && true && (((z.kind : Int) == (y.kind : Int)) && (((z.node : Int) == (y.node : Int)) && (((z.life : Int) == (y.life : Int)) && (((z.ep : Int) == (y.ep : Int)) && (((z.rq : Int) == (y.rq : Int)) && true)))) && true)))) = bool (decide (z = y)) := congrArg bool (by
  cases z
  cases y
  rw [Bool.eq_iff_iff]
  simp only [Bool.and_eq_true, beq_iff_eq, decide_eq_true_eq, En.mk.injEq, and_true]
  omega)
section
variable (db jb ab mb : Nat) (l : List (List UInt8)) (hd : Value) (x : AS) (es : Array MapEntry) (ck : Nat) (Γ : Ctx) (Q : T → Obs → Glb → Prop) (E : List T) (i : Nat) (s : Nat) (acc : Bool) (EL EL2 : List T) (lw2 : Nat)
theorem k33_end (k : Nat) (hk : EL.length ≤ k) (hi : i < 50) (nx : wAcM1 Γ Q [kAcM0 [1,1,1,1,1,1,0,1,0], .blk 0, kAcM0 [1,1,1,1,1,1,1]] ⟨frame 203 [(0, .sl 5 E), (4, .ptr 3 ab 0), (6, int (i + 1 : Nat))], obsA db jb ab mb (Jrn.jd l) l hd false x es ck, none_⟩) : wAcM1 Γ Q [kAcM0 [1,1,1,1,1,1,0,1,0,0,1,0,0,1,1,1,1,1,1,1,1,1,1,0], .blk 3, .blk 1, kAcM0 [1,1,1,1,1,1,0,1,0,0,1,1], kAcM0 [1,1,1,1,1,1,0,1,0], .blk 0, kAcM0 [1,1,1,1,1,1,1]] ⟨frame 203 [(0, .sl 5 E), (4, .ptr 3 ab 0), (6, int i), (10, .sl 8 EL), (13, u32 s), (14, bool acc), (17, u32 lw2), (19, .sl 8 EL2), (20, int k)], obsA db jb ab mb (Jrn.jd l) l hd false x es ck, none_⟩ := by
  have hw : T.v (.int .i64 (IntKind.wrap .i64 ((i : Int) + 1))) = int (i + 1 : Nat) := congrArg int (by rw [wrap_i64 (by omega) (by omega)]; omega)
  generalize Jrn.jd l = d0 at *
  let HH : Nat → Nat → Hint := fun | 11, 1 => .res (int (i + 1 : Nat)) | _, _ => .no
  exact run_sound ⟨HH, [((0, 35), ([0,4,6,10,13,14,17,19,20], 5)), ((2, 10), ([0,4,6], 5))], plAcM0⟩ 400 (by kernel_rfl) (Ys (decide ((↑k : Int) < (↑(List.length EL) : Int))) (fun Z0 => (show wAcM1 Γ Q [kAcM0 [1,1,1,1,1,1,0,1,0,0,1,0,0,1,1,1,1,1,1,1,1,1,1,0,0,1,0,0], It.blk 4, kAcM0 [1,1,1,1,1,1,0,1,0,0,1,0,0,1,1,1,1,1,1,1,1,1,1,0,0,1,1], kAcM0 [1,1,1,1,1,1,0,1,0,0,1,0,0,1,1,1,1,1,1,1,1,1,1,0], It.blk 3, It.blk 1, kAcM0 [1,1,1,1,1,1,0,1,0,0,1,1], kAcM0 [1,1,1,1,1,1,0,1,0], It.blk 0, kAcM0 [1,1,1,1,1,1,1]] (S.mk (frame 203 [(0, T.sl 5 E), (4, T.ptr 3 ab 0), (6, int i), (10, T.sl 8 EL), (13, u32 s), (14, bool acc), (17, u32 lw2), (19, T.sl 8 EL2), (20, int k)]) [(db, Ob.cells [T.v (Value.string (ByteArray.mk (List.toArray d0.b))), int d0.n, bool d0.off]), (jb, Ob.cells [T.ptr 0 db 0, T.slx 1 2 (strs l) hd, bool false]), (0, Ob.room 1 9 (List.length (strs l)) hd), (ab, Ob.cells [T.ptr 1 jb 0, u32 x.pn, u8 x.pb, u32 x.low, u32 x.v.e, T.sl 3 (mems x.v.ms), u8 (x.v.L 0), u8 (x.v.L 1), u8 (x.v.L 2), u8 (x.v.L 3), u8 (x.v.L 4), u8 (x.v.L 5), u8 (x.v.L 6), u8 (x.v.L 7), T.mp 4 mb]), (mb, Ob.map IntKind.u32 (enF x.E) es ck)] fun x => none) by exfalso; simp only [decide_eq_true_eq] at *; omega)) (fun Z1 => (Ya hw nx)))
theorem k33_next (k : Nat) (hk : k < EL.length) (nx : wAcM1 Γ Q [kAcM0 [1,1,1,1,1,1,0,1,0,0,1,0,0,1,1,1,1,1,1,1,1,1,1,0,0,1,0,0,1,0,1,0], .blk 5, kAcM0 [1,1,1,1,1,1,0,1,0,0,1,0,0,1,1,1,1,1,1,1,1,1,1,0,0,1,0,0,1,1], .blk 4, kAcM0 [1,1,1,1,1,1,0,1,0,0,1,0,0,1,1,1,1,1,1,1,1,1,1,0,0,1,1], kAcM0 [1,1,1,1,1,1,0,1,0,0,1,0,0,1,1,1,1,1,1,1,1,1,1,0], .blk 3, .blk 1, kAcM0 [1,1,1,1,1,1,0,1,0,0,1,1], kAcM0 [1,1,1,1,1,1,0,1,0], .blk 0, kAcM0 [1,1,1,1,1,1,1]] ⟨frame 203 [(0, .sl 5 E), (4, .ptr 3 ab 0), (6, int i), (10, .sl 8 EL), (13, u32 s), (14, bool acc), (17, u32 lw2), (19, .sl 8 EL2), (20, int k), (21, bool false), (22, int 0)], obsA db jb ab mb (Jrn.jd l) l hd false x es ck, none_⟩) : wAcM1 Γ Q [kAcM0 [1,1,1,1,1,1,0,1,0,0,1,0,0,1,1,1,1,1,1,1,1,1,1,0], .blk 3, .blk 1, kAcM0 [1,1,1,1,1,1,0,1,0,0,1,1], kAcM0 [1,1,1,1,1,1,0,1,0], .blk 0, kAcM0 [1,1,1,1,1,1,1]] ⟨frame 203 [(0, .sl 5 E), (4, .ptr 3 ab 0), (6, int i), (10, .sl 8 EL), (13, u32 s), (14, bool acc), (17, u32 lw2), (19, .sl 8 EL2), (20, int k)], obsA db jb ab mb (Jrn.jd l) l hd false x es ck, none_⟩ := by
  generalize Jrn.jd l = d0 at *
  let HH : Nat → Nat → Hint := fun  | _, _ => .no
  exact run_sound ⟨HH, [((2, 37), ([0,4,6,10,13,14,17,19,20,21,22], 5)), ((0, 11), ([0,4,6], 5))], plAcM0⟩ 400 (by kernel_rfl) (Ys (decide ((↑k : Int) < (↑(List.length EL) : Int))) (fun Z0 => nx) (fun Z1 => (show wAcM1 Γ Q [kAcM0 [1,1,1,1,1,1,0,1,0,0,1,1], kAcM0 [1,1,1,1,1,1,0,1,0], It.blk 0, kAcM0 [1,1,1,1,1,1,1]] (S.mk (frame 203 [(0, T.sl 5 E), (4, T.ptr 3 ab 0), (6, int i)]) [(db, Ob.cells [T.v (Value.string (ByteArray.mk (List.toArray d0.b))), int d0.n, bool d0.off]), (jb, Ob.cells [T.ptr 0 db 0, T.slx 1 2 (strs l) hd, bool false]), (0, Ob.room 1 9 (List.length (strs l)) hd), (ab, Ob.cells [T.ptr 1 jb 0, u32 x.pn, u8 x.pb, u32 x.low, u32 x.v.e, T.sl 3 (mems x.v.ms), u8 (x.v.L 0), u8 (x.v.L 1), u8 (x.v.L 2), u8 (x.v.L 3), u8 (x.v.L 4), u8 (x.v.L 5), u8 (x.v.L 6), u8 (x.v.L 7), T.mp 4 mb]), (mb, Ob.map IntKind.u32 (enF x.E) es ck)] fun x => none) by exfalso; simp only [decide_eq_false_iff_not] at *; omega)))
theorem k37_true (k j : Nat) (hj : j < EL2.length) (hj2 : j < 1000) (nx : wAcM1 Γ Q [kAcM0 [1,1,1,1,1,1,0,1,0,0,1,0,0,1,1,1,1,1,1,1,1,1,1,0,0,1,0,0,1,0,1,0], .blk 5, kAcM0 [1,1,1,1,1,1,0,1,0,0,1,0,0,1,1,1,1,1,1,1,1,1,1,0,0,1,0,0,1,1], .blk 4, kAcM0 [1,1,1,1,1,1,0,1,0,0,1,0,0,1,1,1,1,1,1,1,1,1,1,0,0,1,1], kAcM0 [1,1,1,1,1,1,0,1,0,0,1,0,0,1,1,1,1,1,1,1,1,1,1,0], .blk 3, .blk 1, kAcM0 [1,1,1,1,1,1,0,1,0,0,1,1], kAcM0 [1,1,1,1,1,1,0,1,0], .blk 0, kAcM0 [1,1,1,1,1,1,1]] ⟨frame 203 [(0, .sl 5 E), (4, .ptr 3 ab 0), (6, int i), (10, .sl 8 EL), (13, u32 s), (14, bool acc), (17, u32 lw2), (19, .sl 8 EL2), (20, int k), (21, bool true), (22, int (j + 1 : Nat))], obsA db jb ab mb (Jrn.jd l) l hd false x es ck, none_⟩) : wAcM1 Γ Q [kAcM0 [1,1,1,1,1,1,0,1,0,0,1,0,0,1,1,1,1,1,1,1,1,1,1,0,0,1,0,0,1,0,1,0], .blk 5, kAcM0 [1,1,1,1,1,1,0,1,0,0,1,0,0,1,1,1,1,1,1,1,1,1,1,0,0,1,0,0,1,1], .blk 4, kAcM0 [1,1,1,1,1,1,0,1,0,0,1,0,0,1,1,1,1,1,1,1,1,1,1,0,0,1,1], kAcM0 [1,1,1,1,1,1,0,1,0,0,1,0,0,1,1,1,1,1,1,1,1,1,1,0], .blk 3, .blk 1, kAcM0 [1,1,1,1,1,1,0,1,0,0,1,1], kAcM0 [1,1,1,1,1,1,0,1,0], .blk 0, kAcM0 [1,1,1,1,1,1,1]] ⟨frame 203 [(0, .sl 5 E), (4, .ptr 3 ab 0), (6, int i), (10, .sl 8 EL), (13, u32 s), (14, bool acc), (17, u32 lw2), (19, .sl 8 EL2), (20, int k), (21, bool true), (22, int j)], obsA db jb ab mb (Jrn.jd l) l hd false x es ck, none_⟩ := by
  have hw : T.v (.int .i64 (IntKind.wrap .i64 ((j : Int) + 1))) = int (j + 1 : Nat) := congrArg int (by rw [wrap_i64 (by omega) (by omega)]; omega)
  generalize Jrn.jd l = d0 at *
  let HH : Nat → Nat → Hint := fun | 38, 1 => .res (int (j + 1 : Nat)) | _, _ => .no
  exact run_sound ⟨HH, [((2, 37), ([0,4,6,10,13,14,17,19,20,21,22], 5)), ((0, 40), ([0,4,6,10,13,14,17,19,20,21], 5))], plAcM0⟩ 400 (by kernel_rfl) (Ys (decide ((↑j : Int) < (↑(List.length EL2) : Int))) (fun Z0 => (Ya hw nx)) (fun Z1 => (show wAcM1 Γ Q [kAcM0 [1,1,1,1,1,1,0,1,0,0,1,0,0,1,1,1,1,1,1,1,1,1,1,0,0,1,0,0,1,1], It.blk 4, kAcM0 [1,1,1,1,1,1,0,1,0,0,1,0,0,1,1,1,1,1,1,1,1,1,1,0,0,1,1], kAcM0 [1,1,1,1,1,1,0,1,0,0,1,0,0,1,1,1,1,1,1,1,1,1,1,0], It.blk 3, It.blk 1, kAcM0 [1,1,1,1,1,1,0,1,0,0,1,1], kAcM0 [1,1,1,1,1,1,0,1,0], It.blk 0, kAcM0 [1,1,1,1,1,1,1]] (S.mk (frame 203 [(0, T.sl 5 E), (4, T.ptr 3 ab 0), (6, int i), (10, T.sl 8 EL), (13, u32 s), (14, bool acc), (17, u32 lw2), (19, T.sl 8 EL2), (20, int k), (21, bool true)]) [(db, Ob.cells [T.v (Value.string (ByteArray.mk (List.toArray d0.b))), int d0.n, bool d0.off]), (jb, Ob.cells [T.ptr 0 db 0, T.slx 1 2 (strs l) hd, bool false]), (0, Ob.room 1 9 (List.length (strs l)) hd), (ab, Ob.cells [T.ptr 1 jb 0, u32 x.pn, u8 x.pb, u32 x.low, u32 x.v.e, T.sl 3 (mems x.v.ms), u8 (x.v.L 0), u8 (x.v.L 1), u8 (x.v.L 2), u8 (x.v.L 3), u8 (x.v.L 4), u8 (x.v.L 5), u8 (x.v.L 6), u8 (x.v.L 7), T.mp 4 mb]), (mb, Ob.map IntKind.u32 (enF x.E) es ck)] fun x => none) by exfalso; simp only [decide_eq_false_iff_not] at *; omega)))
theorem k37_false (k j : Nat) (hj : j < EL2.length) (hj2 : j < 1000) (y z : En) (hz : EL2[((j : Nat) : Int).toNat]? = some (.agg (enC z))) (hy : EL[((k : Nat) : Int).toNat]? = some (.agg (enC y))) (nx : wAcM1 Γ Q [kAcM0 [1,1,1,1,1,1,0,1,0,0,1,0,0,1,1,1,1,1,1,1,1,1,1,0,0,1,0,0,1,0,1,0], .blk 5, kAcM0 [1,1,1,1,1,1,0,1,0,0,1,0,0,1,1,1,1,1,1,1,1,1,1,0,0,1,0,0,1,1], .blk 4, kAcM0 [1,1,1,1,1,1,0,1,0,0,1,0,0,1,1,1,1,1,1,1,1,1,1,0,0,1,1], kAcM0 [1,1,1,1,1,1,0,1,0,0,1,0,0,1,1,1,1,1,1,1,1,1,1,0], .blk 3, .blk 1, kAcM0 [1,1,1,1,1,1,0,1,0,0,1,1], kAcM0 [1,1,1,1,1,1,0,1,0], .blk 0, kAcM0 [1,1,1,1,1,1,1]] ⟨frame 203 [(0, .sl 5 E), (4, .ptr 3 ab 0), (6, int i), (10, .sl 8 EL), (13, u32 s), (14, bool acc), (17, u32 lw2), (19, .sl 8 EL2), (20, int k), (21, bool (decide (z = y))), (22, int (j + 1 : Nat))], obsA db jb ab mb (Jrn.jd l) l hd false x es ck, none_⟩) : wAcM1 Γ Q [kAcM0 [1,1,1,1,1,1,0,1,0,0,1,0,0,1,1,1,1,1,1,1,1,1,1,0,0,1,0,0,1,0,1,0], .blk 5, kAcM0 [1,1,1,1,1,1,0,1,0,0,1,0,0,1,1,1,1,1,1,1,1,1,1,0,0,1,0,0,1,1], .blk 4, kAcM0 [1,1,1,1,1,1,0,1,0,0,1,0,0,1,1,1,1,1,1,1,1,1,1,0,0,1,1], kAcM0 [1,1,1,1,1,1,0,1,0,0,1,0,0,1,1,1,1,1,1,1,1,1,1,0], .blk 3, .blk 1, kAcM0 [1,1,1,1,1,1,0,1,0,0,1,1], kAcM0 [1,1,1,1,1,1,0,1,0], .blk 0, kAcM0 [1,1,1,1,1,1,1]] ⟨frame 203 [(0, .sl 5 E), (4, .ptr 3 ab 0), (6, int i), (10, .sl 8 EL), (13, u32 s), (14, bool acc), (17, u32 lw2), (19, .sl 8 EL2), (20, int k), (21, bool false), (22, int j)], obsA db jb ab mb (Jrn.jd l) l hd false x es ck, none_⟩ := by
  have hw : T.v (.int .i64 (IntKind.wrap .i64 ((j : Int) + 1))) = int (j + 1 : Nat) := congrArg int (by rw [wrap_i64 (by omega) (by omega)]; omega)
  generalize Jrn.jd l = d0 at *
  let HH : Nat → Nat → Hint := fun | 38, 1 => .res (int (j + 1 : Nat)) | 39, 4 => .res (.agg (enC z)) | 39, 8 => .res (.agg (enC y)) | 39, 10 => .res (bool (decide (z = y))) | _, _ => .no
  exact run_sound ⟨HH, [((2, 37), ([0,4,6,10,13,14,17,19,20,21,22], 5)), ((0, 40), ([0,4,6,10,13,14,17,19,20,21], 5))], plAcM0⟩ 400 (by kernel_rfl) (Ys (decide ((↑j : Int) < (↑(List.length EL2) : Int))) (fun Z0 => (Ya (show (0 : Int) ≤ (↑j : Int) by omega) (Ya hz (Ya (show (0 : Int) ≤ (↑k : Int) by omega) (Ya hy (Ya (en_eq z y) (Ya hw nx))))))) (fun Z1 => (show wAcM1 Γ Q [kAcM0 [1,1,1,1,1,1,0,1,0,0,1,0,0,1,1,1,1,1,1,1,1,1,1,0,0,1,0,0,1,1], It.blk 4, kAcM0 [1,1,1,1,1,1,0,1,0,0,1,0,0,1,1,1,1,1,1,1,1,1,1,0,0,1,1], kAcM0 [1,1,1,1,1,1,0,1,0,0,1,0,0,1,1,1,1,1,1,1,1,1,1,0], It.blk 3, It.blk 1, kAcM0 [1,1,1,1,1,1,0,1,0,0,1,1], kAcM0 [1,1,1,1,1,1,0,1,0], It.blk 0, kAcM0 [1,1,1,1,1,1,1]] (S.mk (frame 203 [(0, T.sl 5 E), (4, T.ptr 3 ab 0), (6, int i), (10, T.sl 8 EL), (13, u32 s), (14, bool acc), (17, u32 lw2), (19, T.sl 8 EL2), (20, int k), (21, bool false)]) [(db, Ob.cells [T.v (Value.string (ByteArray.mk (List.toArray d0.b))), int d0.n, bool d0.off]), (jb, Ob.cells [T.ptr 0 db 0, T.slx 1 2 (strs l) hd, bool false]), (0, Ob.room 1 9 (List.length (strs l)) hd), (ab, Ob.cells [T.ptr 1 jb 0, u32 x.pn, u8 x.pb, u32 x.low, u32 x.v.e, T.sl 3 (mems x.v.ms), u8 (x.v.L 0), u8 (x.v.L 1), u8 (x.v.L 2), u8 (x.v.L 3), u8 (x.v.L 4), u8 (x.v.L 5), u8 (x.v.L 6), u8 (x.v.L 7), T.mp 4 mb]), (mb, Ob.map IntKind.u32 (enF x.E) es ck)] fun x => none) by exfalso; simp only [decide_eq_false_iff_not] at *; omega)))
theorem k37_end (k j : Nat) (found : Bool) (hj : EL2.length ≤ j) (hk : k < EL.length) (hk2 : k < 1000) (y : En) (hy : EL[((k : Nat) : Int).toNat]? = some (.agg (enC y)))
    (h : found = true ∨ (acc = true ∧ y.slot = s) ∨ y.slot < lw2) (nx : wAcM1 Γ Q [kAcM0 [1,1,1,1,1,1,0,1,0,0,1,0,0,1,1,1,1,1,1,1,1,1,1,0], .blk 3, .blk 1, kAcM0 [1,1,1,1,1,1,0,1,0,0,1,1], kAcM0 [1,1,1,1,1,1,0,1,0], .blk 0, kAcM0 [1,1,1,1,1,1,1]] ⟨frame 203 [(0, .sl 5 E), (4, .ptr 3 ab 0), (6, int i), (10, .sl 8 EL), (13, u32 s), (14, bool acc), (17, u32 lw2), (19, .sl 8 EL2), (20, int (k + 1 : Nat))], obsA db jb ab mb (Jrn.jd l) l hd false x es ck, none_⟩) : wAcM1 Γ Q [kAcM0 [1,1,1,1,1,1,0,1,0,0,1,0,0,1,1,1,1,1,1,1,1,1,1,0,0,1,0,0,1,0,1,0], .blk 5, kAcM0 [1,1,1,1,1,1,0,1,0,0,1,0,0,1,1,1,1,1,1,1,1,1,1,0,0,1,0,0,1,1], .blk 4, kAcM0 [1,1,1,1,1,1,0,1,0,0,1,0,0,1,1,1,1,1,1,1,1,1,1,0,0,1,1], kAcM0 [1,1,1,1,1,1,0,1,0,0,1,0,0,1,1,1,1,1,1,1,1,1,1,0], .blk 3, .blk 1, kAcM0 [1,1,1,1,1,1,0,1,0,0,1,1], kAcM0 [1,1,1,1,1,1,0,1,0], .blk 0, kAcM0 [1,1,1,1,1,1,1]] ⟨frame 203 [(0, .sl 5 E), (4, .ptr 3 ab 0), (6, int i), (10, .sl 8 EL), (13, u32 s), (14, bool acc), (17, u32 lw2), (19, .sl 8 EL2), (20, int k), (21, bool found), (22, int j)], obsA db jb ab mb (Jrn.jd l) l hd false x es ck, none_⟩ := by
  have hw : T.v (.int .i64 (IntKind.wrap .i64 ((k : Int) + 1))) = int (k + 1 : Nat) := congrArg int (by rw [wrap_i64 (by omega) (by omega)]; omega)
  generalize Jrn.jd l = d0 at *
  cases found with
  | true =>
    clear h
    let HH : Nat → Nat → Hint := fun | 34, 1 => .res (int (k + 1 : Nat)) | _, _ => .no
    exact run_sound ⟨HH, [((2, 33), ([0,4,6,10,13,14,17,19,20], 5)), ((0, 39), ([0,4,6,10,13,14,17,19,20,21,22], 5))], plAcM0⟩ 400 (by kernel_rfl) (Ys (decide ((↑j : Int) < (↑(List.length EL2) : Int))) (fun Z0 => (show wAcM1 Γ Q [kAcM0 [1,1,1,1,1,1,0,1,0,0,1,0,0,1,1,1,1,1,1,1,1,1,1,0,0,1,0,0,1,0,1,0,0,1,0,0], It.blk 6, kAcM0 [1,1,1,1,1,1,0,1,0,0,1,0,0,1,1,1,1,1,1,1,1,1,1,0,0,1,0,0,1,0,1,0,0,1,1], kAcM0 [1,1,1,1,1,1,0,1,0,0,1,0,0,1,1,1,1,1,1,1,1,1,1,0,0,1,0,0,1,0,1,0], It.blk 5, kAcM0 [1,1,1,1,1,1,0,1,0,0,1,0,0,1,1,1,1,1,1,1,1,1,1,0,0,1,0,0,1,1], It.blk 4, kAcM0 [1,1,1,1,1,1,0,1,0,0,1,0,0,1,1,1,1,1,1,1,1,1,1,0,0,1,1], kAcM0 [1,1,1,1,1,1,0,1,0,0,1,0,0,1,1,1,1,1,1,1,1,1,1,0], It.blk 3, It.blk 1, kAcM0 [1,1,1,1,1,1,0,1,0,0,1,1], kAcM0 [1,1,1,1,1,1,0,1,0], It.blk 0, kAcM0 [1,1,1,1,1,1,1]] (S.mk (frame 203 [(0, T.sl 5 E), (4, T.ptr 3 ab 0), (6, int i), (10, T.sl 8 EL), (13, u32 s), (14, bool acc), (17, u32 lw2), (19, T.sl 8 EL2), (20, int k), (21, bool true), (22, int j)]) [(db, Ob.cells [T.v (Value.string (ByteArray.mk (List.toArray d0.b))), int d0.n, bool d0.off]), (jb, Ob.cells [T.ptr 0 db 0, T.slx 1 2 (strs l) hd, bool false]), (0, Ob.room 1 9 (List.length (strs l)) hd), (ab, Ob.cells [T.ptr 1 jb 0, u32 x.pn, u8 x.pb, u32 x.low, u32 x.v.e, T.sl 3 (mems x.v.ms), u8 (x.v.L 0), u8 (x.v.L 1), u8 (x.v.L 2), u8 (x.v.L 3), u8 (x.v.L 4), u8 (x.v.L 5), u8 (x.v.L 6), u8 (x.v.L 7), T.mp 4 mb]), (mb, Ob.map IntKind.u32 (enF x.E) es ck)] fun x => none) by exfalso; simp only [decide_eq_true_eq] at *; omega)) (fun Z1 => (Ya hw nx)))
  | false =>
    cases acc with
    | true =>
      let HH : Nat → Nat → Hint := fun | 34, 1 => .res (int (k + 1 : Nat)) | 40, 7 => .res (.agg (enC y)) | 40, 18 => .res (.agg (enC y)) | _, _ => .no
      exact run_sound ⟨HH, [((2, 33), ([0,4,6,10,13,14,17,19,20], 5)), ((0, 39), ([0,4,6,10,13,14,17,19,20,21,22], 5))], plAcM0⟩ 400 (by kernel_rfl) (Ys (decide ((↑j : Int) < (↑(List.length EL2) : Int))) (fun Z0 => (show wAcM1 Γ Q [kAcM0 [1,1,1,1,1,1,0,1,0,0,1,0,0,1,1,1,1,1,1,1,1,1,1,0,0,1,0,0,1,0,1,0,0,1,0,0], It.blk 6, kAcM0 [1,1,1,1,1,1,0,1,0,0,1,0,0,1,1,1,1,1,1,1,1,1,1,0,0,1,0,0,1,0,1,0,0,1,1], kAcM0 [1,1,1,1,1,1,0,1,0,0,1,0,0,1,1,1,1,1,1,1,1,1,1,0,0,1,0,0,1,0,1,0], It.blk 5, kAcM0 [1,1,1,1,1,1,0,1,0,0,1,0,0,1,1,1,1,1,1,1,1,1,1,0,0,1,0,0,1,1], It.blk 4, kAcM0 [1,1,1,1,1,1,0,1,0,0,1,0,0,1,1,1,1,1,1,1,1,1,1,0,0,1,1], kAcM0 [1,1,1,1,1,1,0,1,0,0,1,0,0,1,1,1,1,1,1,1,1,1,1,0], It.blk 3, It.blk 1, kAcM0 [1,1,1,1,1,1,0,1,0,0,1,1], kAcM0 [1,1,1,1,1,1,0,1,0], It.blk 0, kAcM0 [1,1,1,1,1,1,1]] (S.mk (frame 203 [(0, T.sl 5 E), (4, T.ptr 3 ab 0), (6, int i), (10, T.sl 8 EL), (13, u32 s), (14, bool true), (17, u32 lw2), (19, T.sl 8 EL2), (20, int k), (21, bool false), (22, int j)]) [(db, Ob.cells [T.v (Value.string (ByteArray.mk (List.toArray d0.b))), int d0.n, bool d0.off]), (jb, Ob.cells [T.ptr 0 db 0, T.slx 1 2 (strs l) hd, bool false]), (0, Ob.room 1 9 (List.length (strs l)) hd), (ab, Ob.cells [T.ptr 1 jb 0, u32 x.pn, u8 x.pb, u32 x.low, u32 x.v.e, T.sl 3 (mems x.v.ms), u8 (x.v.L 0), u8 (x.v.L 1), u8 (x.v.L 2), u8 (x.v.L 3), u8 (x.v.L 4), u8 (x.v.L 5), u8 (x.v.L 6), u8 (x.v.L 7), T.mp 4 mb]), (mb, Ob.map IntKind.u32 (enF x.E) es ck)] fun x => none) by exfalso; simp only [decide_eq_true_eq] at *; omega)) (fun Z1 => (Ya (show (0 : Int) ≤ (↑k : Int) by omega) (Ya hy (Ys (!(↑y.slot : Int) == (↑s : Int)) (fun Z2 => (Ya (show (0 : Int) ≤ (↑k : Int) by omega) (Ya hy (Ys (decide ((↑y.slot : Int) ≥ (↑lw2 : Int))) (fun Z3 => (show Q (bool false) [] fun x => none by exfalso; have := of_decide_eq_true Z3; simp only [Bool.not_eq_true', beq_eq_false_iff_ne, ne_eq] at Z2; simp only [Bool.false_eq_true, false_or, true_and] at h; omega)) (fun Z4 => (Ya hw nx)))))) (fun Z5 => (Ya hw nx)))))))
    | false =>
      let HH : Nat → Nat → Hint := fun | 34, 1 => .res (int (k + 1 : Nat)) | 40, 7 => .res (.agg (enC y)) | 40, 18 => .res (.agg (enC y)) | _, _ => .no
      exact run_sound ⟨HH, [((2, 33), ([0,4,6,10,13,14,17,19,20], 5)), ((0, 39), ([0,4,6,10,13,14,17,19,20,21,22], 5))], plAcM0⟩ 400 (by kernel_rfl) (Ys (decide ((↑j : Int) < (↑(List.length EL2) : Int))) (fun Z0 => (show wAcM1 Γ Q [kAcM0 [1,1,1,1,1,1,0,1,0,0,1,0,0,1,1,1,1,1,1,1,1,1,1,0,0,1,0,0,1,0,1,0,0,1,0,0], It.blk 6, kAcM0 [1,1,1,1,1,1,0,1,0,0,1,0,0,1,1,1,1,1,1,1,1,1,1,0,0,1,0,0,1,0,1,0,0,1,1], kAcM0 [1,1,1,1,1,1,0,1,0,0,1,0,0,1,1,1,1,1,1,1,1,1,1,0,0,1,0,0,1,0,1,0], It.blk 5, kAcM0 [1,1,1,1,1,1,0,1,0,0,1,0,0,1,1,1,1,1,1,1,1,1,1,0,0,1,0,0,1,1], It.blk 4, kAcM0 [1,1,1,1,1,1,0,1,0,0,1,0,0,1,1,1,1,1,1,1,1,1,1,0,0,1,1], kAcM0 [1,1,1,1,1,1,0,1,0,0,1,0,0,1,1,1,1,1,1,1,1,1,1,0], It.blk 3, It.blk 1, kAcM0 [1,1,1,1,1,1,0,1,0,0,1,1], kAcM0 [1,1,1,1,1,1,0,1,0], It.blk 0, kAcM0 [1,1,1,1,1,1,1]] (S.mk (frame 203 [(0, T.sl 5 E), (4, T.ptr 3 ab 0), (6, int i), (10, T.sl 8 EL), (13, u32 s), (14, bool false), (17, u32 lw2), (19, T.sl 8 EL2), (20, int k), (21, bool false), (22, int j)]) [(db, Ob.cells [T.v (Value.string (ByteArray.mk (List.toArray d0.b))), int d0.n, bool d0.off]), (jb, Ob.cells [T.ptr 0 db 0, T.slx 1 2 (strs l) hd, bool false]), (0, Ob.room 1 9 (List.length (strs l)) hd), (ab, Ob.cells [T.ptr 1 jb 0, u32 x.pn, u8 x.pb, u32 x.low, u32 x.v.e, T.sl 3 (mems x.v.ms), u8 (x.v.L 0), u8 (x.v.L 1), u8 (x.v.L 2), u8 (x.v.L 3), u8 (x.v.L 4), u8 (x.v.L 5), u8 (x.v.L 6), u8 (x.v.L 7), T.mp 4 mb]), (mb, Ob.map IntKind.u32 (enF x.E) es ck)] fun x => none) by exfalso; have := of_decide_eq_true Z0; simp at h; omega)) (fun Z1 => (Ya (show (0 : Int) ≤ (↑k : Int) by omega) (Ya hy (Ys (decide ((↑y.slot : Int) ≥ (↑lw2 : Int))) (fun Z2 => (show Q (bool false) [] fun x => none by exfalso; have := of_decide_eq_true Z2; simp at h; omega)) (fun Z3 => (Ya hw nx)))))))
end
end X11
end Go.Proofs.Ytcmcmafeaabjmaa.Vm
namespace Go.Proofs.Ytcmcmafeaabjmaa
namespace Acp
theorem XOk.ents {x : AS} (h : XOk x) (f : Nat) : ∃ L, IsE x.E f L := by
  refine ⟨(List.range 16).filterMap fun i => if f ≤ x.low + i then x.E (x.low + i) else none, ?_, fun y => ?_⟩
  · unfold Srt
    rw [List.pairwise_filterMap]
    refine List.pairwise_lt_range.imp ?_
    intro a b hab y hy z hz
    split at hy
    · split at hz
      · have := (h.E _ _ hy).1; have := (h.E _ _ hz).1; omega
      · cases hz
    · cases hy
  · rw [List.mem_filterMap]
    constructor
    · rintro ⟨i, hi, hy⟩
      split at hy
      · have := (h.E _ _ hy).1
        rw [this]
        exact ⟨hy, by omega⟩
      · cases hy
    · rintro ⟨h1, h2⟩
      obtain ⟨_, a, b, _⟩ := h.E _ _ h1
      refine ⟨y.slot - x.low, List.mem_range.2 (by omega), ?_⟩
      rw [show x.low + (y.slot - x.low) = y.slot by omega, if_pos h2]
      exact h1
structure Stp (x x2 : AS) (acc : Bool) (s : Nat) : Prop where
  b : blw x2.pn x2.pb x.pn x.pb = false
  low : x.low ≤ x2.low
  E : ∀ y : En, x.E y.slot = some y → x2.E y.slot = some y ∨ (acc = true ∧ y.slot = s) ∨ y.slot < x2.low
theorem blw_irr (n b : Nat) : blw n b n b = false := by unfold blw; rw [decide_eq_false_iff_not]; omega
theorem Stp.same (x : AS) (acc : Bool) (s : Nat) : Stp x x acc s := ⟨blw_irr _ _, Nat.le_refl _, fun _ h => .inl h⟩
theorem promise_b (x : AS) (n b : Nat) : blw (promise x n b).pn (promise x n b).pb x.pn x.pb = false := by
  unfold promise
  split
  · rename_i h
    unfold blw at h ⊢
    simp only [decide_eq_true_eq] at h
    rw [decide_eq_false_iff_not]
    show ¬ (n < x.pn ∨ n = x.pn ∧ b < x.pb)
    omega
  · exact blw_irr _ _
theorem promise_to (x : AS) (n b : Nat) (h : blw n b x.pn x.pb = false) : (promise x n b).pn = n ∧ (promise x n b).pb = b := by
  unfold promise
  split
  · exact ⟨rfl, rfl⟩
  · rename_i h2
    unfold blw at h h2
    simp only [decide_eq_true_eq, decide_eq_false_iff_not] at h h2
    constructor <;> omega
theorem Stp.promise (x : AS) (n b : Nat) (acc : Bool) (s : Nat) : Stp x (Acp.promise x n b) acc s := by
  obtain ⟨e1, e2, e3⟩ := promise_E x n b
  exact ⟨promise_b x n b, by rw [e2]; exact Nat.le_refl _, fun y h => .inl (by rw [e1]; exact h)⟩
theorem Stp.accept (x : AS) (y : En) : Stp x (Acp.accept x y) true y.slot := by
  obtain ⟨e1, e2, e3⟩ := promise_E x y.n y.b
  refine ⟨promise_b x y.n y.b, Nat.le_of_eq e2.symm, fun z h => ?_⟩
  by_cases e : z.slot = y.slot
  · exact .inr (.inl ⟨rfl, e⟩)
  · left
    show upE x.E y.slot y z.slot = some z
    unfold upE
    rw [if_neg e]; exact h
theorem Stp.cut (x : AS) (low : Nat) (v : View.VS) (acc : Bool) (s : Nat) : Stp x (Acp.cut x low v) acc s := by
  refine ⟨blw_irr _ _, by show x.low ≤ max x.low low; omega, fun z h => ?_⟩
  by_cases e : z.slot < max x.low low
  · exact .inr (.inr e)
  · left
    show cutE x.E (max x.low low) z.slot = some z
    unfold cutE
    rw [if_neg e]; exact h
end Acp
end Go.Proofs.Ytcmcmafeaabjmaa
namespace Go.Proofs.Ytcmcmafeaabjmaa.Vm
open Go Go.RowKit
namespace X11
open Acp (En AS Rc blw VOk IsE XOk Stp)
open View (VS Mem)
open X5 (viewC mems memC firstM firstL)
open Jrn (Dk)
open X9 (dkC obsK dkH dk_post)
open X10 (strs jC obsJ)
theorem en_at {L : List En} {k : Nat} (h : k < L.length) : (Row.aggs enC L)[((k : Nat) : Int).toNat]? = some (.agg (enC L[k])) := by
  rw [Int.toNat_natCast]
  exact Row.aggs_at (List.getElem?_eq_getElem h)
section
variable (db jb ab mb : Nat) (l : List (List UInt8)) (hd : Value) (x : AS) (es : Array MapEntry) (ck : Nat) (Γ : Ctx) (Q : T → Obs → Glb → Prop) (E : List T) (i : Nat) (s : Nat) (acc : Bool) (EL EL2 : List T) (lw2 : Nat)
theorem k37_loop (L L2 : List En) (he : EL = Row.aggs enC L) (he2 : EL2 = Row.aggs enC L2) (h16 : L2.length ≤ 16) (hL16 : L.length ≤ 16) (k : Nat) (hk : k < L.length) (h : L[k] ∈ L2 ∨ (acc = true ∧ L[k].slot = s) ∨ L[k].slot < lw2) (nx : TWk Try.prog Γ (fin Try.prog Try.f3 [] Q) [.code (sub (bd Try.f3) [1, 1, 1, 1, 1, 1, 0, 1, 0, 0, 1, 0, 0, 1, 1, 1, 1, 1, 1, 1, 1, 1, 1, 0]), .blk 3, .blk 1, .code (sub (bd Try.f3) [1, 1, 1, 1, 1, 1, 0, 1, 0, 0, 1, 1]), .code (sub (bd Try.f3) [1, 1, 1, 1, 1, 1, 0, 1, 0]), .blk 0, .code (sub (bd Try.f3) [1, 1, 1, 1, 1, 1, 1])] ⟨frame 203 [(0, .sl 5 E), (4, .ptr 3 ab 0), (6, int i), (10, .sl 8 EL), (13, u32 s), (14, bool acc), (17, u32 lw2), (19, .sl 8 EL2), (20, int (k + 1 : Nat))], obsA db jb ab mb (Jrn.jd l) l hd false x es ck, none_⟩) :
    ∀ (c j : Nat) (f : Bool), j + c = L2.length → f = decide (L[k] ∈ L2.take j) → TWk Try.prog Γ (fin Try.prog Try.f3 [] Q) [.code (sub (bd Try.f3) [1, 1, 1, 1, 1, 1, 0, 1, 0, 0, 1, 0, 0, 1, 1, 1, 1, 1, 1, 1, 1, 1, 1, 0, 0, 1, 0, 0, 1, 0, 1, 0]), .blk 5, .code (sub (bd Try.f3) [1, 1, 1, 1, 1, 1, 0, 1, 0, 0, 1, 0, 0, 1, 1, 1, 1, 1, 1, 1, 1, 1, 1, 0, 0, 1, 0, 0, 1, 1]), .blk 4, .code (sub (bd Try.f3) [1, 1, 1, 1, 1, 1, 0, 1, 0, 0, 1, 0, 0, 1, 1, 1, 1, 1, 1, 1, 1, 1, 1, 0, 0, 1, 1]), .code (sub (bd Try.f3) [1, 1, 1, 1, 1, 1, 0, 1, 0, 0, 1, 0, 0, 1, 1, 1, 1, 1, 1, 1, 1, 1, 1, 0]), .blk 3, .blk 1, .code (sub (bd Try.f3) [1, 1, 1, 1, 1, 1, 0, 1, 0, 0, 1, 1]), .code (sub (bd Try.f3) [1, 1, 1, 1, 1, 1, 0, 1, 0]), .blk 0, .code (sub (bd Try.f3) [1, 1, 1, 1, 1, 1, 1])] ⟨frame 203 [(0, .sl 5 E), (4, .ptr 3 ab 0), (6, int i), (10, .sl 8 EL), (13, u32 s), (14, bool acc), (17, u32 lw2), (19, .sl 8 EL2), (20, int k), (21, bool f), (22, int j)], obsA db jb ab mb (Jrn.jd l) l hd false x es ck, none_⟩ := by
  have hl : EL.length = L.length := by rw [he, Row.aggs_len]
  have hl2 : EL2.length = L2.length := by rw [he2, Row.aggs_len]
  have hy : EL[((k : Nat) : Int).toNat]? = some (.agg (enC L[k])) := by rw [he]; exact en_at hk
  intro c
  induction c with
  | zero =>
    intro j f hj hf
    refine k37_end db jb ab mb l hd x es ck Γ Q E i s acc EL EL2 lw2 k j f (by omega) (by omega) (by omega) L[k] hy ?_ nx
    rw [hf, show j = L2.length by omega, List.take_length]
    rcases h with h | h
    · exact .inl (decide_eq_true h)
    · exact .inr h
  | succ c ih =>
    intro j f hj hf
    have hlt : j < L2.length := by omega
    have hz : EL2[((j : Nat) : Int).toNat]? = some (.agg (enC L2[j])) := by rw [he2]; exact en_at hlt
    have hmem : L[k] ∈ L2.take (j + 1) ↔ L[k] ∈ L2.take j ∨ L2[j] = L[k] := by
      rw [List.take_add_one, List.getElem?_eq_getElem hlt, List.mem_append]
      simp only [Option.toList_some, List.mem_singleton]
      constructor
      · rintro (h | h)
        · exact .inl h
        · exact .inr h.symm
      · rintro (h | h)
        · exact .inl h
        · exact .inr h.symm
    cases f with
    | true =>
      refine k37_true db jb ab mb l hd x es ck Γ Q E i s acc EL EL2 lw2 k j (by omega) (by omega) (ih (j + 1) true (by omega) ?_)
      exact (decide_eq_true (hmem.2 (.inl (of_decide_eq_true hf.symm)))).symm
    | false =>
      refine k37_false db jb ab mb l hd x es ck Γ Q E i s acc EL EL2 lw2 k j (by omega) (by omega) L[k] L2[j] hz hy (ih (j + 1) _ (by omega) ?_)
      rw [decide_eq_decide, hmem]
      have := of_decide_eq_false hf.symm
      constructor
      · exact .inr
      · rintro (h | h)
        · exact absurd h this
        · exact h
theorem k33_loop (L L2 : List En) (he : EL = Row.aggs enC L) (he2 : EL2 = Row.aggs enC L2) (h16 : L2.length ≤ 16) (hL16 : L.length ≤ 16) (h : ∀ y ∈ L, y ∈ L2 ∨ (acc = true ∧ y.slot = s) ∨ y.slot < lw2) (hi : i < 50) (nx : TWk Try.prog Γ (fin Try.prog Try.f3 [] Q) [.code (sub (bd Try.f3) [1, 1, 1, 1, 1, 1, 0, 1, 0]), .blk 0, .code (sub (bd Try.f3) [1, 1, 1, 1, 1, 1, 1])] ⟨frame 203 [(0, .sl 5 E), (4, .ptr 3 ab 0), (6, int (i + 1 : Nat))], obsA db jb ab mb (Jrn.jd l) l hd false x es ck, none_⟩) :
    ∀ (c k : Nat), k + c = L.length → TWk Try.prog Γ (fin Try.prog Try.f3 [] Q) [.code (sub (bd Try.f3) [1, 1, 1, 1, 1, 1, 0, 1, 0, 0, 1, 0, 0, 1, 1, 1, 1, 1, 1, 1, 1, 1, 1, 0]), .blk 3, .blk 1, .code (sub (bd Try.f3) [1, 1, 1, 1, 1, 1, 0, 1, 0, 0, 1, 1]), .code (sub (bd Try.f3) [1, 1, 1, 1, 1, 1, 0, 1, 0]), .blk 0, .code (sub (bd Try.f3) [1, 1, 1, 1, 1, 1, 1])] ⟨frame 203 [(0, .sl 5 E), (4, .ptr 3 ab 0), (6, int i), (10, .sl 8 EL), (13, u32 s), (14, bool acc), (17, u32 lw2), (19, .sl 8 EL2), (20, int k)], obsA db jb ab mb (Jrn.jd l) l hd false x es ck, none_⟩ := by
  have hl : EL.length = L.length := by rw [he, Row.aggs_len]
  intro c
  induction c with
  | zero =>
    intro k hk
    exact k33_end db jb ab mb l hd x es ck Γ Q E i s acc EL EL2 lw2 k (by omega) hi nx
  | succ c ih =>
    intro k hk
    have hlt : k < L.length := by omega
    refine k33_next db jb ab mb l hd x es ck Γ Q E i s acc EL EL2 lw2 k (by omega) ?_
    exact k37_loop db jb ab mb l hd x es ck Γ Q E i s acc EL EL2 lw2 L L2 he he2 h16 hL16 k hlt (h _ (List.getElem_mem hlt)) (ih (k + 1) (by omega)) L2.length 0 false (by omega) (by simp)
end
theorem k_rest (db jb ab mb : Nat) (l : List (List UInt8)) (hd : Value) (x : AS) (es : Array MapEntry) (ck : Nat) (Γ : Ctx) (Q : T → Obs → Glb → Prop) (E : List T) (i : Nat) (w : Int) (n b slot c : Nat) (x0 : AS) (L : List En) (hL : IsE x0.E 0 L) (hL16 : L.length ≤ 16) (hx : XOk x) (s : Nat) (acc : Bool) (hs : Stp x0 x acc s) (hi : i < 50) (pn pb lw : Nat) (EL VC : List T) (b7 b8 b9 b12 : Nat) (e1 : pn = x0.pn) (e2 : pb = x0.pb) (e3 : lw = x0.low) (e4 : EL = Row.aggs enC L)
    (nx : TWk Try.prog Γ (fin Try.prog Try.f3 [] Q) [.code (sub (bd Try.f3) [1, 1, 1, 1, 1, 1, 0, 1, 0]), .blk 0, .code (sub (bd Try.f3) [1, 1, 1, 1, 1, 1, 1])] ⟨frame 203 [(0, .sl 5 E), (4, .ptr 3 ab 0), (6, int (i + 1 : Nat))], obsA db jb ab mb (Jrn.jd l) l hd false x es ck, none_⟩) : TWk Try.prog Γ (fin Try.prog Try.f3 [] Q) [.code (sub (bd Try.f3) [1, 1, 1, 1, 1, 1, 0, 1, 0, 0, 1, 0, 0, 1, 1, 1, 1, 1, 1]), .blk 1, .code (sub (bd Try.f3) [1, 1, 1, 1, 1, 1, 0, 1, 0, 0, 1, 1]), .code (sub (bd Try.f3) [1, 1, 1, 1, 1, 1, 0, 1, 0]), .blk 0, .code (sub (bd Try.f3) [1, 1, 1, 1, 1, 1, 1])] ⟨frame 203 [(0, .sl 5 E), (4, .ptr 3 ab 0), (6, int i), (9, .ptr 7 b9 0), (10, .sl 8 EL), (11, u32 lw), (13, u32 s), (14, bool acc)], obsA db jb ab mb (Jrn.jd l) l hd false x es ck ++ [(b7, .cells [int w, u32 n, u8 b, u32 slot, u32 c]), (b8, .cells [u32 n, u8 b]), (b9, .cells [u32 pn, u8 pb]), (b12, .cells VC)], none_⟩ := by
  obtain ⟨L2, hL2⟩ := hx.ents 0
  have h16 := hx.len hL2
  have hv := hx.v.len
  refine k_tail db jb ab mb l hd x es ck Γ Q E i w n b slot c EL pn pb lw VC b7 b8 b9 b12 s acc x.low rfl (Row.aggs enC L2) (by rw [Row.aggs_len]; exact h16) (by omega) (fun Q' hq => entries_any db jb ab mb _ _ hd false x es ck hx 0 L2 hL2 Q' hq) (by rw [e1, e2]; exact hs.b) (by rw [e3]; exact hs.low) ?_
  refine k33_loop db jb ab mb l hd x es ck Γ Q E i s acc EL (Row.aggs enC L2) x.low L L2 e4 rfl h16 hL16 (fun y hy => ?_) hi nx L.length 0 (by omega)
  rcases hs.E y ((hL.m y).1 hy).1 with h | h
  · exact .inl ((hL2.m y).2 ⟨h, Nat.zero_le _⟩)
  · exact .inr h
end X11
end Go.Proofs.Ytcmcmafeaabjmaa.Vm
