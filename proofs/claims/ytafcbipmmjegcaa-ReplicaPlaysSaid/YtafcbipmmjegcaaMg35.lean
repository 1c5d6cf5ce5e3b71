/- Texts of this claim: RpZ, RqA, RqB. -/
import Derived.Test.YtafcbipmmjegcaaMg15
import Derived.Test.YtafcbipmmjegcaaMg32
import Derived.Test.YtafcbipmmjegcaaMg33
import Derived.Test.YtafcbipmmjegcaaMg34
import Derived.Test.YtafcbipmmjegcaaMg21
namespace Go.Proofs.Ytafcbipmmjegcaa.Vm
open Go Go.RowKit
set_option maxRecDepth 100000
noncomputable abbrev kRpZ0 (l : List Nat) : It := .code (sub (bd Try.f30) l)
noncomputable abbrev wRpZ1 (Γ : Ctx) (Q : T → Obs → Glb → Prop) : List It → S → Prop := TWk Try.prog Γ (fin Try.prog Try.f30 [0, 1, 2] Q)
def plRpZ0 : Nat → Option RPlan := fun | 2 => some ⟨[], [8], .take true [0,1,2,3,4,5,6,7] (.one 8 (.take false [9] .done))⟩ | 8 => some ⟨[], [], .take true [0] (.one 1 (.take true [2,3,4,5,6,7,8,9,10,11,12,13,14,15,16,17,18,19,20,21,22,23,24,25,26,27,28,29,30,31,32] .done))⟩ | 13 => some ⟨[], [8], .take true [0,1,2,3,4,5,6,7] (.one 8 (.take false [9,10,11,12,13] .done))⟩ | 17 => some ⟨[], [7, 10], .take false [0,1,2,3] (.take true [4,5] (.one 6 (.one 7 (.take false [8,9] (.one 10 .done)))))⟩ | 20 => some ⟨[], [7, 10], .take false [0,1,2,3] (.take true [4,5] (.one 6 (.one 7 (.take false [8,9] (.one 10 .done)))))⟩ | 21 => some ⟨[], [7, 12], .take true [0,1,2,3,4,5,6] (.two 7 11 (.take false [8,9,10] (.one 11 (.one 12 (.take false [13] .done)))) (.one 7 (.take false [8,9,10] (.one 12 (.take false [13] .done)))))⟩ | 22 => some ⟨[], [6], .take true [0,1,2,3,4,5] (.one 6 .done)⟩ | 30 => some ⟨[], [], .take true [0,1,2,3,4,5,6,9,10] (.one 7 (.take true [8,11,12] .done))⟩ | 34 => some ⟨[], [8, 13], .take true [0,1,2,3,4,5,6,7] (.two 8 12 (.take false [9,10,11] (.one 12 (.one 13 (.take false [14] .done)))) (.one 8 (.take false [9,10,11] (.one 13 (.take false [14] .done)))))⟩ | 36 => some ⟨[], [6], .take true [0,1,2,3,4,5] (.one 6 .done)⟩ | 46 => some ⟨[], [9, 14], .take true [0,1,2,3,4,5,6,7,8] (.two 9 13 (.take false [10,11,12] (.one 13 (.one 14 (.take false [15] .done)))) (.one 9 (.take false [10,11,12] (.one 14 (.take false [15] .done)))))⟩ | 48 => some ⟨[], [6], .take true [0,1,2,3,4,5] (.one 6 .done)⟩ | _ => none
namespace X20
open Rep (Stp Wrd Cel Drv Plc RS Fm Ev setP setC)
open View (Mem VS)
open X5 (viewC lim mems othV hasV aheadV behindV has_any others_any ends_any)
def fkN (f : Fm) (l : List Nat) : Nat := ((l.find? fun n => Rep.ad n == f.frm).getD 0)
def fkB (f : Fm) (l : List Nat) : Bool := (l.find? fun n => Rep.ad n == f.frm).isSome
theorem fk_old {f : Fm} {d : List Nat} (h : fkB f d = true) (y : Nat) : fkN f (d ++ [y]) = fkN f d ∧ fkB f (d ++ [y]) = true := by
  unfold fkN fkB at *
  rw [List.find?_append]
  cases hf : d.find? fun n => Rep.ad n == f.frm with
  | none => rw [hf] at h; cases h
  | some z => exact ⟨rfl, rfl⟩
theorem fk_new {f : Fm} {d : List Nat} (h : fkB f d = false) (y : Nat) : fkN f (d ++ [y]) = (if Rep.ad y = f.frm then y else fkN f d) ∧ fkB f (d ++ [y]) = decide (Rep.ad y = f.frm) := by
  unfold fkN fkB at *
  rw [List.find?_append]
  cases hf : d.find? fun n => Rep.ad n == f.frm with
  | some z => rw [hf] at h; cases h
  | none =>
    by_cases hy : Rep.ad y = f.frm
    · simp [List.find?, hy]
    · have : (Rep.ad y == f.frm) = false := by simpa using hy
      simp [List.find?, this, hy]
theorem tof_loop (Γ : Ctx) (b bf : Nat) (r : RS) (D : Dr) (F : List Fm) (hf : Value) (E : List Ev) (he : Value) (f : Fm) (lease : Bool) (gl : Glb) (L : List Nat) (hL : L.length ≤ 1000000) (Q : T → Obs → Glb → Prop)
    (hend : wRpZ1 Γ Q [kRpZ0 [1,1,1,1]] ⟨frame 328 [(0, .ptr 0 b 0), (2, bool lease), (4, .ptr 3 bf 0), (6, u8 (fkN f L)), (7, bool (fkB f L))], obsU b r D F hf E he ++ [(bf, .cells (frC f))], gl⟩) :
    ∀ (x d : List Nat) (i : Int), L = d ++ x → i = d.length →
    wRpZ1 Γ Q [kRpZ0 [1,1,1,0,1,0], .blk 0, kRpZ0 [1,1,1,1]] ⟨frame 328 [(0, .ptr 0 b 0), (2, bool lease), (4, .ptr 3 bf 0), (6, u8 (fkN f d)), (7, bool (fkB f d)), (8, .sl 1 (X5.u8s L)), (9, int i)], obsU b r D F hf E he ++ [(bf, .cells (frC f))], gl⟩ := by
  intro x
  induction x with
  | nil =>
    intro d i h1 hi
    have hd : d = L := by simp [h1]
    subst hd
    have l1 : ((X5.u8s d).length : Int) = i := by rw [X5.u8s_len]; omega
    clear h1 hi
    generalize X5.u8s d = U at *
    generalize fkN f d = n at *
    generalize fkB f d = w at *
    let HH : Nat → Nat → Hint := fun  | _, _ => .no
    exact run_sound ⟨HH, [((0, 8), ([0,2,4,6,7], 4)), ((0, 6), ([0,2,4,6,7,8,9], 1))], plRpZ0⟩ 400 (by kernel_rfl) (Ys (decide (i < (↑(List.length U) : Int))) (fun Z0 => (show wRpZ1 Γ Q [kRpZ0 [1,1,1,0,1,0,0,1,0,0], It.blk 1, kRpZ0 [1,1,1,0,1,0,0,1,1], kRpZ0 [1,1,1,0,1,0], It.blk 0, kRpZ0 [1,1,1,1]] (S.mk (frame 328 [(0, T.ptr 0 b 0), (2, bool lease), (4, T.ptr 3 bf 0), (6, u8 n), (7, bool w), (8, T.sl 1 U), (9, int i)]) [(b, Ob.cells (repU r D F hf E he))] gl) by exfalso; have := of_decide_eq_true Z0; omega)) (fun Z1 => hend))
  | cons y x ih =>
    intro d i h1 hi
    have hLi : i < (L.length : Int) := by rw [h1, hi]; simp; omega
    have hw : IntKind.wrap .i64 (i + 1) = i + 1 := wrap_i64 (by omega) (by omega)
    have e1 : (X5.u8s L)[i.toNat]? = some (u8 y) := u8s_at (by rw [h1, hi]; simp)
    have l1 : (X5.u8s L).length = L.length := X5.u8s_len L
    have h0 : 0 ≤ i := by omega
    have nx := ih (d ++ [y]) (i + 1) (by simp [h1]) (by simp [hi])
    clear ih h1 hend hi
    generalize X5.u8s L = U at *
    cases hb : fkB f d with
    | true =>
      obtain ⟨g1, g2⟩ := fk_old hb y
      rw [g1, g2] at nx
      generalize fkN f d = n at *
      let HH : Nat → Nat → Hint := fun | 6, 2 => .res (u8 y) | 7, 2 => .res (u8 y) | 5, 2 => .res (int (i + 1)) | 5, 1 => .res (int (i + 1)) | _, _ => .no
      exact run_sound ⟨HH, [((2, 4), ([0,2,4,6,7,8,9], 4)), ((0, 8), ([0,2,4,6,7], 1))], fun | 6 => some ⟨[3], [], .take true [0,1,2,3,4,5,6,7,8,9,10,11,12] .done⟩ | n => plRpZ0 n⟩ 400 (by kernel_rfl) (Ys (decide (i < (↑(List.length U) : Int))) (fun Z0 => (Ya (show (0 : Int) ≤ i by omega) (Ya e1 (Yb bf (Ys (IntKind.wrap IntKind.u8 ((16 : Int) + (↑y : Int)) == (↑f.frm : Int)) (fun Z1 => (Ya (congrArg int hw) (Ya (Ye (some (int (i + (1 : Int))))) nx))) (fun Z2 => (Ya (congrArg int hw) (Ya (Ye (some (int (i + (1 : Int))))) nx)))))))) (fun Z3 => (show wRpZ1 Γ Q [kRpZ0 [1,1,1,1]] (S.mk (frame 328 [(0, T.ptr 0 b 0), (2, bool lease), (4, T.ptr 3 bf 0), (6, u8 n), (7, bool true)]) [(b, Ob.cells (repU r D F hf E he))] gl) by exfalso; have := of_decide_eq_false Z3; omega)))
    | false =>
      obtain ⟨g1, g2⟩ := fk_new hb y
      rw [g1, g2] at nx
      by_cases hy : Rep.ad y = f.frm
      · rw [if_pos hy, decide_eq_true hy] at nx
        generalize fkN f d = n at *
        let HH : Nat → Nat → Hint := fun | 6, 2 => .res (u8 y) | 7, 2 => .res (u8 y) | 5, 2 => .res (int (i + 1)) | 5, 1 => .res (int (i + 1)) | _, _ => .no
        exact run_sound ⟨HH, [((2, 4), ([0,2,4,6,7,8,9], 4)), ((0, 8), ([0,2,4,6,7], 1))], fun | 6 => some ⟨[3], [], .take true [0,1,2,3,4,5,6,7,8,9,10,11,12] .done⟩ | n => plRpZ0 n⟩ 400 (by kernel_rfl) (Ys (decide (i < (↑(List.length U) : Int))) (fun Z0 => (Ya (show (0 : Int) ≤ i by omega) (Ya e1 (Yb bf (Ys (IntKind.wrap IntKind.u8 ((16 : Int) + (↑y : Int)) == (↑f.frm : Int)) (fun Z1 => (Ya (show (0 : Int) ≤ i by omega) (Ya e1 (Ya (congrArg int hw) (Ya (Ye (some (int (i + (1 : Int))))) nx))))) (fun Z2 => (Ya (congrArg int hw) (Ya (Ye (some (int (i + (1 : Int))))) (show wRpZ1 Γ Q [kRpZ0 [1,1,1,0,1,0], It.blk 0, kRpZ0 [1,1,1,1]] (S.mk (frame 328 [(0, T.ptr 0 b 0), (2, bool lease), (4, T.ptr 3 bf 0), (6, u8 n), (7, bool false), (8, T.sl 1 U), (9, int (i + (1 : Int)))]) [(b, Ob.cells (repU r D F hf E he)), (0, Ob.room 34 70 (List.length (List.map (fun x => T.agg (frC x)) F)) hf), (0, Ob.room 5 73 (List.length (List.map (fun x => T.agg (evC x)) E)) he), (bf, Ob.cells [u8 f.kind, u8 f.frm, u8 f.to, u32 f.epoch, u8 f.key, u32 f.w.s.n, u8 f.w.s.b, u8 f.w.s.l, bool f.w.h, T.v (Value.string f.w.t), bool f.w.r, bool f.flag, u8 f.dir, u8 (0 : Int), u32 (0 : Int), u32 (0 : Int), u8 (0 : Int), u32 (0 : Int), u8 (0 : Int), u8 (0 : Int), u8 (0 : Int), u32 (0 : Int), u32 (0 : Int), u32 (0 : Int), T.v (Value.slice none 0 0), u8 (0 : Int), u8 (0 : Int), u8 (0 : Int), u8 (0 : Int), u8 (0 : Int), u8 (0 : Int), u8 (0 : Int), u8 (0 : Int), T.v (Value.slice none 0 0)])] gl) by simp only [ad_w] at *; exfalso; have := of_decide_eq_false Z2; omega))))))))) (fun Z3 => (show wRpZ1 Γ Q [kRpZ0 [1,1,1,1]] (S.mk (frame 328 [(0, T.ptr 0 b 0), (2, bool lease), (4, T.ptr 3 bf 0), (6, u8 n), (7, bool false)]) [(b, Ob.cells (repU r D F hf E he))] gl) by exfalso; have := of_decide_eq_false Z3; omega)))
      · rw [if_neg hy, decide_eq_false hy] at nx
        generalize fkN f d = n at *
        let HH : Nat → Nat → Hint := fun | 6, 2 => .res (u8 y) | 7, 2 => .res (u8 y) | 5, 2 => .res (int (i + 1)) | 5, 1 => .res (int (i + 1)) | _, _ => .no
        exact run_sound ⟨HH, [((2, 4), ([0,2,4,6,7,8,9], 4)), ((0, 8), ([0,2,4,6,7], 1))], fun | 6 => some ⟨[3], [], .take true [0,1,2,3,4,5,6,7,8,9,10,11,12] .done⟩ | n => plRpZ0 n⟩ 400 (by kernel_rfl) (Ys (decide (i < (↑(List.length U) : Int))) (fun Z0 => (Ya (show (0 : Int) ≤ i by omega) (Ya e1 (Yb bf (Ys (IntKind.wrap IntKind.u8 ((16 : Int) + (↑y : Int)) == (↑f.frm : Int)) (fun Z1 => (Ya (show (0 : Int) ≤ i by omega) (Ya e1 (Ya (congrArg int hw) (Ya (Ye (some (int (i + (1 : Int))))) (show wRpZ1 Γ Q [kRpZ0 [1,1,1,0,1,0], It.blk 0, kRpZ0 [1,1,1,1]] (S.mk (frame 328 [(0, T.ptr 0 b 0), (2, bool lease), (4, T.ptr 3 bf 0), (6, u8 y), (7, bool true), (8, T.sl 1 U), (9, int (i + (1 : Int)))]) [(b, Ob.cells (repU r D F hf E he)), (0, Ob.room 34 70 (List.length (List.map (fun x => T.agg (frC x)) F)) hf), (0, Ob.room 5 73 (List.length (List.map (fun x => T.agg (evC x)) E)) he), (bf, Ob.cells [u8 f.kind, u8 f.frm, u8 f.to, u32 f.epoch, u8 f.key, u32 f.w.s.n, u8 f.w.s.b, u8 f.w.s.l, bool f.w.h, T.v (Value.string f.w.t), bool f.w.r, bool f.flag, u8 f.dir, u8 (0 : Int), u32 (0 : Int), u32 (0 : Int), u8 (0 : Int), u32 (0 : Int), u8 (0 : Int), u8 (0 : Int), u8 (0 : Int), u32 (0 : Int), u32 (0 : Int), u32 (0 : Int), T.v (Value.slice none 0 0), u8 (0 : Int), u8 (0 : Int), u8 (0 : Int), u8 (0 : Int), u8 (0 : Int), u8 (0 : Int), u8 (0 : Int), u8 (0 : Int), T.v (Value.slice none 0 0)])] gl) by simp only [ad_w] at *; exfalso; simp only [beq_iff_eq] at *; omega)))))) (fun Z2 => (Ya (congrArg int hw) (Ya (Ye (some (int (i + (1 : Int))))) nx)))))))) (fun Z3 => (show wRpZ1 Γ Q [kRpZ0 [1,1,1,1]] (S.mk (frame 328 [(0, T.ptr 0 b 0), (2, bool lease), (4, T.ptr 3 bf 0), (6, u8 n), (7, bool false)]) [(b, Ob.cells (repU r D F hf E he))] gl) by exfalso; have := of_decide_eq_false Z3; omega)))
theorem tof8 (Γ : Ctx) (b bf : Nat) (r : RS) (D : Dr) (F : List Fm) (hf : Value) (E : List Ev) (he : Value) (f : Fm) (lease : Bool) (gl : Glb) (hl : lim r.v.ms) (Q : T → Obs → Glb → Prop)
    (hn : Rep.sender r f = none → Q (.tup []) (obsU b r D F hf E he) gl)
    (hs : ∀ frm, Rep.sender r f = some frm → wRpZ1 Γ Q [kRpZ0 [1,1,1,1,1]] ⟨frame 328 [(0, .ptr 0 b 0), (2, bool lease), (4, .ptr 3 bf 0), (6, u8 frm)], obsU b r D F hf E he ++ [(bf, .cells (frC f))], gl⟩) :
    wRpZ1 Γ Q [kRpZ0 [1,1,1,1]] ⟨frame 328 [(0, .ptr 0 b 0), (2, bool lease), (4, .ptr 3 bf 0), (6, u8 (fkN f (Rep.oth r))), (7, bool (fkB f (Rep.oth r)))], obsU b r D F hf E he ++ [(bf, .cells (frC f))], gl⟩ := by
  have hin := tin_any b r D F hf E he hl
  have e1 : IntKind.wrap .u8 (16 + (r.self : Int)) = (Rep.ad r.self : Nat) := ad_w _
  by_cases hc : Rep.inR r = true ∧ f.to = Rep.ad r.self ∧ f.epoch = r.v.e ∧ f.key < 6
  · have hse : Rep.sender r f = (Rep.oth r).find? (fun n => Rep.ad n == f.frm) := if_pos hc
    obtain ⟨h1, h2, h3, h4⟩ := hc
    rw [h1] at hin
    cases hfd : (Rep.oth r).find? (fun n => Rep.ad n == f.frm) with
    | some frm =>
      have nx := hs frm (hse.trans hfd)
      rw [show fkN f (Rep.oth r) = frm by unfold fkN; rw [hfd]; rfl, show fkB f (Rep.oth r) = true by unfold fkB; rw [hfd]; rfl]
      clear hn hs
      let HH : Nat → Nat → Hint := fun | 8, 1 => told (bool true) [0,1,2] (obsU b r D F hf E he) | _, _ => .no
      let z0 := [(b, Ob.cells (repU r D F hf E he)), (0, Ob.room 34 70 (List.length (List.map (fun x => T.agg (frC x)) F)) hf), (0, Ob.room 5 73 (List.length (List.map (fun x => T.agg (evC x)) E)) he)]
      exact run_sound ⟨HH, [((0, 9), ([0,2,4,6], 4))], fun | 8 => some ⟨[], [1], .take true [0] (.one 1 (.take false [2,3,4,5,6,7,8,9,11,12,13] (.two 10 14 (.one 14 (.take false [15,16,17,18,19,21,22,23,24] (.two 20 25 (.one 25 (.take false [26,27,28,29] (.one 30 (.take false [31,32] .done)))) (.one 20 (.take false [26,27,28,29] (.one 30 (.take false [31,32] .done))))))) (.take false [15] (.one 10 (.take false [16,17,18,19,21,22,23,24] (.two 20 25 (.one 25 (.take false [26,27,28,29] (.one 30 (.take false [31,32] .done)))) (.one 20 (.take false [26,27,28,29] (.one 30 (.take false [31,32] .done)))))))))))⟩ | n => plRpZ0 n⟩ 400 (by kernel_rfl) (Ya (hin (HH 8 1).P (told_post rfl)) (Yu (Ya (Yb bf (Yb b (Ys ((↑f.to : Int) != IntKind.wrap IntKind.u8 ((16 : Int) + (↑r.self : Int))) (fun Z0 => (Ya (show Q (T.tup []) z0 gl by exfalso; clear nx hin; simp only [bne_iff_ne, decide_eq_true_eq] at *; omega) (show Q (T.tup []) z0 gl by exfalso; clear nx hin; simp only [bne_iff_ne, decide_eq_true_eq] at *; omega))) (fun Z1 => (Ya (Yb bf (Yb b (Ys (f.epoch != r.v.e) (fun Z2 => (show Q (T.tup []) z0 gl by exfalso; clear nx hin; simp only [bne_iff_ne, decide_eq_true_eq] at *; omega)) (fun Z3 => (Yb bf (Ys (decide ((↑f.key : Int) ≥ (6 : Int))) (fun Z4 => (show Q (T.tup []) z0 gl by exfalso; clear nx hin; simp only [bne_iff_ne, decide_eq_true_eq] at *; omega)) (fun Z5 => nx))))))) (Yb b (Yb bf (Ys (f.epoch != r.v.e) (fun Z6 => (show Q (T.tup []) z0 gl by exfalso; clear nx hin; simp only [bne_iff_ne, decide_eq_true_eq] at *; omega)) (fun Z7 => (Yb bf (Ys (decide ((↑f.key : Int) ≥ (6 : Int))) (fun Z8 => (show Q (T.tup []) z0 gl by exfalso; clear nx hin; simp only [bne_iff_ne, decide_eq_true_eq] at *; omega)) (fun Z9 => nx)))))))))))) (Yb b (Yb bf (Ys ((↑f.to : Int) != IntKind.wrap IntKind.u8 ((16 : Int) + (↑r.self : Int))) (fun Z10 => (Ya (show Q (T.tup []) z0 gl by exfalso; clear nx hin; simp only [bne_iff_ne, decide_eq_true_eq] at *; omega) (show Q (T.tup []) z0 gl by exfalso; clear nx hin; simp only [bne_iff_ne, decide_eq_true_eq] at *; omega))) (fun Z11 => (Ya (Yb bf (Yb b (Ys (f.epoch != r.v.e) (fun Z12 => (show Q (T.tup []) z0 gl by exfalso; clear nx hin; simp only [bne_iff_ne, decide_eq_true_eq] at *; omega)) (fun Z13 => (Yb bf (Ys (decide ((↑f.key : Int) ≥ (6 : Int))) (fun Z14 => (show Q (T.tup []) z0 gl by exfalso; clear nx hin; simp only [bne_iff_ne, decide_eq_true_eq] at *; omega)) (fun Z15 => nx))))))) (Yb b (Yb bf (Ys (f.epoch != r.v.e) (fun Z16 => (show Q (T.tup []) z0 gl by exfalso; clear nx hin; simp only [bne_iff_ne, decide_eq_true_eq] at *; omega)) (fun Z17 => (Yb bf (Ys (decide ((↑f.key : Int) ≥ (6 : Int))) (fun Z18 => (show Q (T.tup []) z0 gl by exfalso; clear nx hin; simp only [bne_iff_ne, decide_eq_true_eq] at *; omega)) (fun Z19 => nx)))))))))))))))
    | none =>
      have hq := hn (hse.trans hfd)
      rw [show fkB f (Rep.oth r) = false by unfold fkB; rw [hfd]; rfl]
      clear hn hs
      generalize fkN f (Rep.oth r) = n at *
      let HH : Nat → Nat → Hint := fun | 8, 1 => told (bool true) [0,1,2] (obsU b r D F hf E he) | _, _ => .no
      exact run_sound ⟨HH, [], fun | 8 => some ⟨[], [1], .take true [0] (.one 1 (.take false [2,3,4,5,6,7,8,9,11,12,13] (.two 10 14 (.one 14 (.take false [15,16,17,18,19,21,22,23,24] (.two 20 25 (.one 25 (.take false [26,27,28,29] (.one 30 (.take false [31,32] .done)))) (.one 20 (.take false [26,27,28,29] (.one 30 (.take false [31,32] .done))))))) (.take false [15] (.one 10 (.take false [16,17,18,19,21,22,23,24] (.two 20 25 (.one 25 (.take false [26,27,28,29] (.one 30 (.take false [31,32] .done)))) (.one 20 (.take false [26,27,28,29] (.one 30 (.take false [31,32] .done)))))))))))⟩ | n => plRpZ0 n⟩ 400 (by kernel_rfl) (Ya (hin (HH 8 1).P (told_post rfl)) (Yu (Ya (Ya hq hq) (Ya hq hq))))
  · have hq := hn (if_neg hc)
    clear hn hs
    generalize fkN f (Rep.oth r) = n at *
    generalize fkB f (Rep.oth r) = w at *
    let HH : Nat → Nat → Hint := fun | 8, 1 => told (bool (Rep.inR r)) [0,1,2] (obsU b r D F hf E he) | _, _ => .no
    let z0 := S.mk (frame 328 [(0, T.ptr 0 b 0), (2, bool lease), (4, T.ptr 3 bf 0), (6, u8 n)]) [(b, Ob.cells (repU r D F hf E he)), (0, Ob.room 34 70 (List.length (List.map (fun x => T.agg (frC x)) F)) hf), (0, Ob.room 5 73 (List.length (List.map (fun x => T.agg (evC x)) E)) he), (bf, Ob.cells [u8 f.kind, u8 f.frm, u8 f.to, u32 f.epoch, u8 f.key, u32 f.w.s.n, u8 f.w.s.b, u8 f.w.s.l, bool f.w.h, T.v (Value.string f.w.t), bool f.w.r, bool f.flag, u8 f.dir, u8 (0 : Int), u32 (0 : Int), u32 (0 : Int), u8 (0 : Int), u32 (0 : Int), u8 (0 : Int), u8 (0 : Int), u8 (0 : Int), u32 (0 : Int), u32 (0 : Int), u32 (0 : Int), T.v (Value.slice none 0 0), u8 (0 : Int), u8 (0 : Int), u8 (0 : Int), u8 (0 : Int), u8 (0 : Int), u8 (0 : Int), u8 (0 : Int), u8 (0 : Int), T.v (Value.slice none 0 0)])] gl
    let z1 := [kRpZ0 [1,1,1,1,1]]
    let z2 := fin Try.prog Try.f30 [0,1,2] Q
    exact run_sound ⟨HH, [((0, 9), ([0,2,4,6], 4))], fun | 8 => some ⟨[], [1], .take true [0] (.one 1 (.take false [2,3,4,5,6,7,8,9,11,12,13] (.two 10 14 (.one 14 (.take false [15,16,17,18,19,21,22,23,24] (.two 20 25 (.one 25 (.take false [26,27,28,29] (.one 30 (.take false [31,32] .done)))) (.one 20 (.take false [26,27,28,29] (.one 30 (.take false [31,32] .done))))))) (.take false [15] (.one 10 (.take false [16,17,18,19,21,22,23,24] (.two 20 25 (.one 25 (.take false [26,27,28,29] (.one 30 (.take false [31,32] .done)))) (.one 20 (.take false [26,27,28,29] (.one 30 (.take false [31,32] .done)))))))))))⟩ | n => plRpZ0 n⟩ 400 (by kernel_rfl) (Ya (hin (HH 8 1).P (told_post rfl)) (Yu (Ys (!Rep.inR r) (fun Z0 => (Ya (Ya hq hq) (Ya hq hq))) (fun Z1 => (Ys (!w) (fun Z2 => (Ya (Ya hq hq) (Ya hq hq))) (fun Z3 => (Ya (Yb bf (Yb b (Ys ((↑f.to : Int) != IntKind.wrap IntKind.u8 ((16 : Int) + (↑r.self : Int))) (fun Z4 => (Ya hq hq)) (fun Z5 => (Ya (Yb bf (Yb b (Ys (f.epoch != r.v.e) (fun Z6 => hq) (fun Z7 => (Yb bf (Ys (decide ((↑f.key : Int) ≥ (6 : Int))) (fun Z8 => hq) (fun Z9 => (show TWk Try.prog Γ z2 z1 z0 by exfalso; clear hq hin; refine hc ⟨?_, ?_, ?_, ?_⟩ <;> simp only [Bool.not_eq_false', bne_eq_false_iff_eq, decide_eq_false_iff_not] at * <;> first | assumption | omega)))))))) (Yb b (Yb bf (Ys (f.epoch != r.v.e) (fun Z10 => hq) (fun Z11 => (Yb bf (Ys (decide ((↑f.key : Int) ≥ (6 : Int))) (fun Z12 => hq) (fun Z13 => (show TWk Try.prog Γ z2 z1 z0 by exfalso; clear hq hin; refine hc ⟨?_, ?_, ?_, ?_⟩ <;> simp only [Bool.not_eq_false', bne_eq_false_iff_eq, decide_eq_false_iff_not] at * <;> first | assumption | omega))))))))))))) (Yb b (Yb bf (Ys ((↑f.to : Int) != IntKind.wrap IntKind.u8 ((16 : Int) + (↑r.self : Int))) (fun Z14 => (Ya hq hq)) (fun Z15 => (Ya (Yb bf (Yb b (Ys (f.epoch != r.v.e) (fun Z16 => hq) (fun Z17 => (Yb bf (Ys (decide ((↑f.key : Int) ≥ (6 : Int))) (fun Z18 => hq) (fun Z19 => (show TWk Try.prog Γ z2 z1 z0 by exfalso; clear hq hin; refine hc ⟨?_, ?_, ?_, ?_⟩ <;> simp only [Bool.not_eq_false', bne_eq_false_iff_eq, decide_eq_false_iff_not] at * <;> first | assumption | omega)))))))) (Yb b (Yb bf (Ys (f.epoch != r.v.e) (fun Z20 => hq) (fun Z21 => (Yb bf (Ys (decide ((↑f.key : Int) ≥ (6 : Int))) (fun Z22 => hq) (fun Z23 => (show TWk Try.prog Γ z2 z1 z0 by exfalso; clear hq hin; refine hc ⟨?_, ?_, ?_, ?_⟩ <;> simp only [Bool.not_eq_false', bne_eq_false_iff_eq, decide_eq_false_iff_not] at * <;> first | assumption | omega))))))))))))))))))))
theorem tof_any (b : Nat) (r : RS) (D : Dr) (F : List Fm) (hf : Value) (E : List Ev) (he : Value) (f : Fm) (lease : Bool) (gl : Glb) (hl : lim r.v.ms) (Q : T → Obs → Glb → Prop)
    (hn : Rep.sender r f = none → Q (.tup []) (obsU b r D F hf E he) gl)
    (hs : ∀ Γ bf frm, Rep.sender r f = some frm → wRpZ1 Γ Q [kRpZ0 [1,1,1,1,1]] ⟨frame 328 [(0, .ptr 0 b 0), (2, bool lease), (4, .ptr 3 bf 0), (6, u8 frm)], obsU b r D F hf E he ++ [(bf, .cells (frC f))], gl⟩) :
    TCalls Try.prog 30 [.ptr 0 b 0, .agg (frC f), bool lease] (obsU b r D F hf E he) gl Q := by
  have hlen : (Rep.oth r).length ≤ 1000000 := Nat.le_trans (X5.othV_len _ _) hl
  have hot := fun Q => others_any r.v r.self hl Q
  have lp := fun Γ bf => tof_loop Γ b bf r D F hf E he f lease gl (Rep.oth r) hlen Q (tof8 Γ b bf r D F hf E he f lease gl hl Q hn (hs Γ bf)) (Rep.oth r) [] 0 rfl rfl
  rw [show fkN f [] = 0 from rfl, show fkB f [] = false from rfl] at lp
  clear hn hs
  rw [show othV r.v.ms r.self = Rep.oth r from rfl] at hot
  generalize X5.u8s (Rep.oth r) = U at *
  refine TCalls.of Try.func30 rfl (CanCall.of Try.func30 rfl (by decide)) [0,1,2] fun Γ => ?_
  let HH : Nat → Nat → Hint := fun | 2, 8 => told (.sl 1 U) [] [] | _, _ => .no
  exact run_sound ⟨HH, [((2, 4), ([0,2,4,6,7,8,9], 4))], fun | 2 => some ⟨[0], [8], .take true [0,1,2,3,4,5,6,7] (.one 8 (.take false [9] .done))⟩ | n => plRpZ0 n⟩ 400 (by kernel_rfl) (fun (Z0 : Nat) => (Yb b (Yb b (Ya (hot (HH 2 8).P fun _ h => told_post h) (Yu (lp Γ Z0))))))
end X20
end Go.Proofs.Ytafcbipmmjegcaa.Vm
namespace Go.Proofs.Ytafcbipmmjegcaa.Vm
open Go Go.RowKit
set_option maxRecDepth 100000
noncomputable abbrev kRqA0 (l : List Nat) : It := .code (sub (bd Try.f30) l)
namespace X20
open Rep (Stp Wrd Cel Drv Plc RS Fm Ev setP setC)
open View (Mem VS)
open X5 (viewC lim mems othV hasV aheadV behindV)
theorem ton_any (b : Nat) (r : RS) (D : Dr) (F : List Fm) (hf : Value) (E : List Ev) (he : Value) (f : Fm) (lease : Bool) (gl : Glb) (ho : Own D r gl) (hl : lim r.v.ms) (hF : F.length + (Rep.oth r).length + 3 ≤ 1000000) (hE : E.length + 1 ≤ 1000000) (Q : T → Obs → Glb → Prop)
    (hQ : ∀ gl' hf' he', Own D (Rep.on r f lease).1 gl' → Step gl D r gl' D (Rep.on r f lease).1 → Q (.tup []) (obsU b (Rep.on r f lease).1 D (F ++ (Rep.on r f lease).2.1) hf' (E ++ (Rep.on r f lease).2.2) he') gl') :
    TCalls Try.prog 30 [.ptr 0 b 0, .agg (frC f), bool lease] (obsU b r D F hf E he) gl Q := by
  refine tof_any b r D F hf E he f lease gl hl Q (fun hs => ?_) (fun Γ bf frm hs => ?_)
  · have e : Rep.on r f lease = (r, [], []) := by unfold Rep.on; rw [hs]
    rw [e] at hQ
    have hQ := hQ gl hf he ho (Step.refl _ _ _)
    simpa only [List.append_nil] using hQ
  · have hk : f.key < 6 := by
      unfold Rep.sender at hs
      split at hs
      · rename_i h; exact h.2.2.2
      · cases hs
    by_cases h1 : f.kind = 1
    · have e : Rep.on r f lease = Rep.onInv r f frm := by unfold Rep.on; rw [hs]; simp only [h1, if_true]
      rw [e] at hQ
      have ho2 : Own D (Rep.onInv r f frm).1 gl ∧ Step gl D r gl D (Rep.onInv r f frm).1 := by
        unfold Rep.onInv
        split
        · exact ⟨ho, Step.refl _ _ _⟩
        · split
          · have h2 := ho.cell f.key (Rep.inv (r.P f.key).c f.w).1
            exact ⟨(own_way h2.1 f.key).1, h2.2.trans (own_way h2.1 f.key).2⟩
          · exact ho.cell f.key _
      have st := ton_inv Γ b bf r D F hf E he f frm lease hk gl ho Q h1 hl (by omega) hE fun hf' he' => hQ gl hf' he' ho2.1 ho2.2
      rwa [frK_eq h1] at st
    · by_cases h2 : f.kind = 2
      · have st := ton_ack Γ b bf r D F hf E he f frm lease hk gl ho Q hl (by omega) hE (fun hz => by
          have e : Rep.on r f lease = (r, [], []) := by unfold Rep.on; rw [hs]; simp [h2, hz]
          rw [e] at hQ
          have hQ := hQ gl hf he ho (Step.refl _ _ _)
          simpa only [List.append_nil] using hQ) (fun hz => by
          have e : Rep.on r f lease = Rep.onAck r f frm := by unfold Rep.on; rw [hs]; simp [h2, hz]
          rw [e] at hQ
          exact fun hf' he' gl' g1 g2 => hQ gl' hf' he' g1 g2)
        rwa [frK_eq h2] at st
      · by_cases h3 : f.kind = 3
        · have e : Rep.on r f lease = (Rep.onVal r f, [], []) := by unfold Rep.on; rw [hs]; simp [h3]
          rw [e] at hQ
          have ho2 : Own D (Rep.onVal r f) gl ∧ Step gl D r gl D (Rep.onVal r f) := by
            unfold Rep.onVal
            split
            · have h2 := ho.cell f.key (Rep.val (r.P f.key).c f.w.s).1
              exact ⟨(own_rest h2.1 f.key).1, h2.2.trans (own_rest h2.1 f.key).2⟩
            · exact ⟨ho, Step.refl _ _ _⟩
          have hQ := hQ gl hf he ho2.1 ho2.2
          simp only [List.append_nil] at hQ
          have st := ton_val Γ b bf r D F hf E he f frm lease hk gl ho Q hQ
          rwa [frK_eq h3] at st
        · by_cases h4 : f.kind = 4
          · have e : Rep.on r f lease = (r, Rep.onNeed r f frm, []) := by unfold Rep.on; rw [hs]; simp [h4]
            rw [e] at hQ
            have hQ := fun hf' => hQ gl hf' he ho (Step.refl _ _ _)
            simp only [List.append_nil] at hQ
            have st := ton_need Γ b bf r D F hf E he f frm lease hk gl ho Q (by omega) hQ
            rwa [frK_eq h4] at st
          · by_cases h5 : f.kind = 5
            · have e : Rep.on r f lease = ((Rep.onGive r f).1, [], (Rep.onGive r f).2) := by unfold Rep.on; rw [hs]; simp [h5]
              rw [e] at hQ
              have st := ton_give Γ b bf r D F hf E he f frm lease hk gl ho Q hE fun he' gl' g1 g2 => by
                have := hQ gl' hf he' g1 g2
                simpa only [List.append_nil] using this
              rwa [frK_eq h5] at st
            · have e : Rep.on r f lease = (r, [], []) := by unfold Rep.on; rw [hs]; simp [h1, h2, h3, h4, h5]
              rw [e] at hQ
              have hQ := hQ gl hf he ho (Step.refl _ _ _)
              simp only [List.append_nil] at hQ
              let HH : Nat → Nat → Hint := fun  | _, _ => .no
              let z0 := [(b, Ob.cells (repU r D F hf E he))]
              let z1 := fin Try.prog Try.f30 [0,1,2] Q
              exact run_sound ⟨HH, [((0, 13), ([0,4,6,10,11], 1)), ((0, 29), ([0,2,4,6,10], 1)), ((0, 34), ([0,4,10], 1)), ((0, 39), ([0,6,10], 1)), ((0, 44), ([0,4,10,11], 1))], fun | 2 => some ⟨[], [8], .take true [0,1,2,3,4,5,6,7] (.one 8 (.take false [9] .done))⟩ | 8 => some ⟨[], [], .take true [0] (.one 1 (.take true [2,3,4,5,6,7,8,9,10,11,12,13,14,15,16,17,18,19,20,21,22,23,24,25,26,27,28,29,30,31,32] .done))⟩ | 13 => some ⟨[], [8], .take true [0,1,2,3,4,5,6,7] (.one 8 (.take false [9,10,11,12,13] .done))⟩ | 17 => some ⟨[], [7,10], .take false [0,1,2,3] (.take true [4,5] (.one 6 (.one 7 (.take false [8,9] (.one 10 .done)))))⟩ | 20 => some ⟨[], [7,10], .take false [0,1,2,3] (.take true [4,5] (.one 6 (.one 7 (.take false [8,9] (.one 10 .done)))))⟩ | 21 => some ⟨[], [7,12], .take true [0,1,2,3,4,5,6] (.two 7 11 (.take false [8,9,10] (.one 11 (.one 12 (.take false [13] .done)))) (.one 7 (.take false [8,9,10] (.one 12 (.take false [13] .done)))))⟩ | 22 => some ⟨[], [6], .take true [0,1,2,3,4,5] (.one 6 .done)⟩ | 30 => some ⟨[], [], .take true [0,1,2,3,4,5,6,9,10] (.one 7 (.take true [8,11,12] .done))⟩ | 34 => some ⟨[], [8,13], .take true [0,1,2,3,4,5,6,7] (.two 8 12 (.take false [9,10,11] (.one 12 (.one 13 (.take false [14] .done)))) (.one 8 (.take false [9,10,11] (.one 13 (.take false [14] .done)))))⟩ | 36 => some ⟨[], [6], .take true [0,1,2,3,4,5] (.one 6 .done)⟩ | 46 => some ⟨[], [9,14], .take true [0,1,2,3,4,5,6,7,8] (.two 9 13 (.take false [10,11,12] (.one 13 (.one 14 (.take false [15] .done)))) (.one 9 (.take false [10,11,12] (.one 14 (.take false [15] .done)))))⟩ | 48 => some ⟨[], [6], .take true [0,1,2,3,4,5] (.one 6 .done)⟩ | _ => none⟩ 400 (by kernel_rfl) (Yb bf (Yb bf (Yb bf (Yb bf (fun (Z0 : Nat) => (Yk 6 Z0 (Yb bf (Ys ((↑f.kind : Int) == (1 : Int)) (fun Z1 => (show TWk Try.prog Γ z1 [kRqA0 [1,1,1,1,1,1,1,1,0,1,0], It.blk 2] (S.mk (frame 328 [(0, T.ptr 0 b 0), (4, T.ptr 3 bf 0), (6, u8 frm), (10, u8 f.key), (11, T.ptr 4 Z0 0)]) z0 gl) by exfalso; simp only [beq_iff_eq] at *; omega)) (fun Z2 => (Ys ((↑f.kind : Int) == (2 : Int)) (fun Z3 => (show TWk Try.prog Γ z1 [kRqA0 [1,1,1,1,1,1,1,1,0,1,1,1,0], It.blk 2] (S.mk (frame 328 [(0, T.ptr 0 b 0), (2, bool lease), (4, T.ptr 3 bf 0), (6, u8 frm), (10, u8 f.key)]) z0 gl) by exfalso; simp only [beq_iff_eq] at *; omega)) (fun Z4 => (Ys ((↑f.kind : Int) == (3 : Int)) (fun Z5 => (show TWk Try.prog Γ z1 [kRqA0 [1,1,1,1,1,1,1,1,0,1,1,1,1,1,0], It.blk 2] (S.mk (frame 328 [(0, T.ptr 0 b 0), (4, T.ptr 3 bf 0), (10, u8 f.key)]) z0 gl) by exfalso; simp only [beq_iff_eq] at *; omega)) (fun Z6 => (Ys ((↑f.kind : Int) == (4 : Int)) (fun Z7 => (show TWk Try.prog Γ z1 [kRqA0 [1,1,1,1,1,1,1,1,0,1,1,1,1,1,1,1,0], It.blk 2] (S.mk (frame 328 [(0, T.ptr 0 b 0), (6, u8 frm), (10, u8 f.key)]) z0 gl) by exfalso; simp only [beq_iff_eq] at *; omega)) (fun Z8 => (Ys ((↑f.kind : Int) == (5 : Int)) (fun Z9 => (show TWk Try.prog Γ z1 [kRqA0 [1,1,1,1,1,1,1,1,0,1,1,1,1,1,1,1,1,1,0], It.blk 2] (S.mk (frame 328 [(0, T.ptr 0 b 0), (4, T.ptr 3 bf 0), (10, u8 f.key), (11, T.ptr 4 Z0 0)]) z0 gl) by exfalso; simp only [beq_iff_eq] at *; omega)) (fun Z10 => hQ)))))))))))))))))
end X20
end Go.Proofs.Ytafcbipmmjegcaa.Vm
namespace Go.Proofs.Ytafcbipmmjegcaa.Vm
open Go Go.RowKit
set_option maxRecDepth 100000
namespace X20
open Rep (Stp Wrd Cel Drv Plc RS Fm Ev setP setC)
open View (Mem VS)
open X5 (viewC lim mems)
theorem eqM0 (Q : T → Obs → Glb → Prop) (hQ : Q (bool true) [] none_) : TCalls Try.prog 95 [.v nilS, .v nilS] [] none_ Q := by
  refine TCalls.of Try.func95 rfl (CanCall.of Try.func95 rfl (by decide)) [] fun Γ => ?_
  let HH : Nat → Nat → Hint := fun _ _ => .no
  exact run_sound ⟨HH, [], fun _ => none⟩ 400 (by kernel_rfl) hQ
theorem eqE0 (Q : T → Obs → Glb → Prop) (hQ : Q (bool true) [] none_) : TCalls Try.prog 96 [.v nilS, .v nilS] [] none_ Q := by
  refine TCalls.of Try.func96 rfl (CanCall.of Try.func96 rfl (by decide)) [] fun Γ => ?_
  let HH : Nat → Nat → Hint := fun _ _ => .no
  exact run_sound ⟨HH, [], fun _ => none⟩ 400 (by kernel_rfl) hQ
theorem vsame0 (Q : T → Obs → Glb → Prop) (hQ : Q (bool true) [] none_) : TCalls Try.prog 61 [.agg [u32 0, .v nilS, u8 0, u8 0, u8 0, u8 0, u8 0, u8 0, u8 0, u8 0], .agg [u32 0, .v nilS, u8 0, u8 0, u8 0, u8 0, u8 0, u8 0, u8 0, u8 0]] [] none_ Q := by
  refine TCalls.of Try.func61 rfl (CanCall.of Try.func61 rfl (by decide)) [] fun Γ => ?_
  let HH : Nat → Nat → Hint := fun | 1, 17 => told (bool true) [] [] | _, _ => .no
  exact run_sound ⟨HH, [], fun  | _ => none⟩ 400 (by kernel_rfl) (fun (Z0 : Nat) => (fun (Z1 : Nat) => (Yb Z0 (Yb Z1 (Yb Z0 (Yb Z1 (Yb Z0 (Yb Z1 (Ya (eqM0 (HH 1 17).P (told_post rfl)) (Yu hQ))))))))))
theorem fsame_any (f : Fm) (Q : T → Obs → Glb → Prop) (hQ : Q (bool true) [] none_) : TCalls Try.prog 62 [.agg (frC f), .agg (frC f)] [] none_ Q := by
  refine TCalls.of Try.func62 rfl (CanCall.of Try.func62 rfl (by decide)) [] fun Γ => ?_
  let HH : Nat → Nat → Hint := fun | 1, 4 => told (bool true) [] [] | 1, 10 => told (bool true) [] [] | _, _ => .no
  exact run_sound ⟨HH, [], fun  | _ => none⟩ 400 (by kernel_rfl) (fun (Z0 : Nat) => (fun (Z1 : Nat) => (Yb Z0 (Yb Z1 (Ya (vsame0 (HH 1 4).P (told_post rfl)) (Yu (Yb Z0 (Yb Z1 (Ya (eqE0 (HH 1 4).P (told_post rfl)) (Yu (Yb Z0 (Yb Z1 (Ys ((↑f.kind : Int) == (↑f.kind : Int) && ((↑f.frm : Int) == (↑f.frm : Int) && ((↑f.to : Int) == (↑f.to : Int) && true))) (fun Z2 => (Yb Z0 (Yb Z1 (Ys (f.epoch == f.epoch) (fun Z3 => (Yb Z0 (Yb Z1 (Ys ((↑f.key : Int) == (↑f.key : Int)) (fun Z4 => (Yb Z0 (Yb Z1 (Ys ((↑f.w.s.n : Int) == (↑f.w.s.n : Int) && ((↑f.w.s.b : Int) == (↑f.w.s.b : Int) && true) && ((↑f.w.s.l : Int) == (↑f.w.s.l : Int) && true)) (fun Z5 => (Yb Z0 (Yb Z1 (Ys (f.w.h == f.w.h && (ByteArray.toList f.w.t == ByteArray.toList f.w.t && true)) (fun Z6 => (Yb Z0 (Yb Z1 (Ys (f.w.r == f.w.r) (fun Z7 => (Yb Z0 (Yb Z1 (Ys (f.flag == f.flag) (fun Z8 => (Yb Z0 (Yb Z1 (Ys ((↑f.dir : Int) == (↑f.dir : Int)) (fun Z9 => (Yb Z0 (Yb Z1 (Yb Z0 (Yb Z1 (Yb Z0 (Yb Z1 (Yb Z0 (Yb Z1 (Yb Z0 (Yb Z1 hQ))))))))))) (fun Z10 => (show Q (bool false) [] fun x => none by exfalso; simp at Z10)))))) (fun Z11 => (show Q (bool false) [] fun x => none by exfalso; simp at Z11)))))) (fun Z12 => (show Q (bool false) [] fun x => none by exfalso; simp at Z12)))))) (fun Z13 => (show Q (bool false) [] fun x => none by exfalso; simp at Z13)))))) (fun Z14 => (show Q (bool false) [] fun x => none by exfalso; simp at Z14)))))) (fun Z15 => (show Q (bool false) [] fun x => none by exfalso; simp at Z15)))))) (fun Z16 => (show Q (bool false) [] fun x => none by exfalso; simp at Z16)))))) (fun Z17 => (show Q (bool false) [] fun x => none by exfalso; simp at Z17)))))))))))))))
end X20
end Go.Proofs.Ytafcbipmmjegcaa.Vm
