/- Texts of this claim: RgT, RgW. -/
import Derived.Test.YtafcbipmmjegcaaMg15
import Derived.Test.YtafcbipmmjegcaaMg34
import Derived.Test.YtafcbipmmjegcaaMg36
namespace Go.Proofs.Ytafcbipmmjegcaa.Vm
open Go Go.RowKit
set_option maxRecDepth 100000
noncomputable abbrev kRgT0 (l : List Nat) : It := .code (sub (bd Try.f3) l)
noncomputable abbrev wRgT1 (Γ : Ctx) (Q : T → Obs → Glb → Prop) : List It → S → Prop := TWk Try.prog Γ (fin Try.prog Try.f3 [] Q)
def plRgT0 : Nat → Option RPlan := fun | 32 => some ⟨[], [0, 4, 9], .take false [1,2,3,5,6,7,8] (.one 0 (.one 4 (.one 9 (.take false [10] .done))))⟩ | 35 => some ⟨[], [5, 6], .take true [0,1,2,3,4] (.one 5 (.one 6 .done))⟩ | 41 => some ⟨[], [17, 24, 25], .take true [0,1,2,3,4,5,6,7,8,9,10,11,12,13,14,15,16] (.three 17 22 23 (.take false [18,19,20,21] (.two 22 23 (.one 23 (.one 24 (.one 25 (.take false [26] .done)))) (.one 22 (.one 24 (.one 25 (.take false [26] .done)))))) (.two 17 23 (.take false [18,19,20,21] (.one 23 (.one 24 (.one 25 (.take false [26] .done))))) (.one 17 (.take false [18,19,20,21] (.one 24 (.one 25 (.take false [26] .done)))))) (.two 17 22 (.take false [18,19,20,21] (.one 22 (.one 24 (.one 25 (.take false [26] .done))))) (.one 17 (.take false [18,19,20,21] (.one 24 (.one 25 (.take false [26] .done)))))))⟩ | 43 => some ⟨[], [7], .take true [0,1,2,3,4,5,6] (.one 7 .done)⟩ | 53 => some ⟨[], [11], .take true [0,1,2,3,4,5,6,7] (.one 8 (.one 9 (.take true [10] (.one 11 .done))))⟩ | 61 => some ⟨[], [20], .take true [0,1,2,3,4,5,6,7,8,9,10,11,12,13,14,15,16] (.one 17 (.one 18 (.take true [19] (.one 20 .done))))⟩ | 62 => some ⟨[], [4], .take true [0,1,2,3] (.one 4 (.take false [5] .done))⟩ | _ => none
namespace X20
open Rep (Stp Wrd Cel Drv Plc RS Fm Ev put)
section
variable (Γ : Ctx) (qd qa qo qb : Nat) (M : Nat → Nat) (acts U : List T) (n i : Nat) (W : List T) (hw : Value) (A0 A1 : Stp → Option Stp) (x y : Bz) (gl : Glb) (Q : T → Obs → Glb → Prop)
theorem gp62 (hi : i < 250) (P : Bz → Bz → Prop) (hc : ∀ Q' : T → Obs → Glb → Prop, (∀ x' y', P x' y' → Q' (bool true) (obsS qd qa qo x' y') gl) → TCalls Try.prog 16 [.sl 1 U, .sa 0 qd 0 6 6, .sa 1 qa 0 6 6, .sa 2 qo 0 6 6] (obsS qd qa qo x y) gl Q')
    (nx : ∀ x' y', P x' y' → wRgT1 Γ Q [kRgT0 [1,1,1,1,1,1,1,1,1,1,1,0,1,0], .blk 4, kRgT0 [1,1,1,1,1,1,1,1,1,1,1,1]] ⟨frame 297 [(1, .sl 5 acts), (5, int n), (6, .sl 1 U), (9, .slx 34 9 W hw), (10, .ptr 10 qb 0), (11, .ptr 0 qd 0), (12, .ptr 1 qa 0), (13, .ptr 2 qo 0), (15, int (i + 1 : Nat))], obsG qd qa qo x' y' W hw qb M A0 A1, gl⟩) :
    wRgT1 Γ Q [kRgT0 [1,1,1,1,1,1,1,1,1,1,1,0,1,0,0,1,0,0,1,1,1,1,1,1,1,1], .blk 5, kRgT0 [1,1,1,1,1,1,1,1,1,1,1,0,1,0,0,1,1], kRgT0 [1,1,1,1,1,1,1,1,1,1,1,0,1,0], .blk 4, kRgT0 [1,1,1,1,1,1,1,1,1,1,1,1]] ⟨frame 297 [(1, .sl 5 acts), (5, int n), (6, .sl 1 U), (9, .slx 34 9 W hw), (10, .ptr 10 qb 0), (11, .ptr 0 qd 0), (12, .ptr 1 qa 0), (13, .ptr 2 qo 0), (15, int (i : Nat))], obsG qd qa qo x y W hw qb M A0 A1, gl⟩ := by
  have hw1 : T.v (.int .i64 (IntKind.wrap .i64 ((i : Int) + 1))) = int (i + 1 : Nat) := congrArg int (by rw [wrap_i64 (by omega) (by omega)]; omega)
  let HH : Nat → Nat → Hint := fun | 62, 4 => .call false (Bz × Bz) (fun a => P a.1 a.2) [0,1,2,3,4,5,6,7,8] true (fun _ => bool true) (fun a => obsS qd qa qo a.1 a.2) (fun _ => gl) | 22, 1 => .res (int (i + 1 : Nat)) | _, _ => .no
  exact run_sound ⟨HH, [((2, 21), ([1,5,6,9,10,11,12,13,15], 17))], plRgT0⟩ 400 (by kernel_rfl) (Ya (hc (HH 62 4).P fun x' y' h => ⟨(x', y'), h, rfl, rfl, Nat.le_of_ble_eq_true rfl, fun _ => rfl⟩) (fun (Z0 : Bz × Bz) => (fun (Z1 : P Z0.fst Z0.snd) => (Ya hw1 (nx Z0.fst Z0.snd Z1)))))
theorem gp48 (z : Ca) (bx bo : Nat) (F E : List T)
    (nx : wRgT1 Γ Q [kRgT0 [1,1,1,1,1,1,1,1,1,1,1,0,1,0,0,1,0,0,1,1,1,1,1,1,1,0,1,0], .blk 7, kRgT0 [1,1,1,1,1,1,1,1,1,1,1,0,1,0,0,1,0,0,1,1,1,1,1,1,1,1], .blk 5, kRgT0 [1,1,1,1,1,1,1,1,1,1,1,0,1,0,0,1,1], kRgT0 [1,1,1,1,1,1,1,1,1,1,1,0,1,0], .blk 4, kRgT0 [1,1,1,1,1,1,1,1,1,1,1,1]] ⟨frame 297 [(1, .sl 5 acts), (5, int n), (6, .sl 1 U), (9, .slx 34 9 W hw), (10, .ptr 10 qb 0), (11, .ptr 0 qd 0), (12, .ptr 1 qa 0), (13, .ptr 2 qo 0), (15, int (i : Nat)), (19, .ptr 18 bo 0), (27, int (0 : Nat))], obsG qd qa qo x y W hw qb M A0 A1 ++ [(bx, .cells (caC z)), (bo, .cells [.sl 34 F, .sl 5 E])], gl⟩) :
    wRgT1 Γ Q [kRgT0 [1,1,1,1,1,1,1,1,1,1,1,0,1,0,0,1,0,0,1,1,1,1,1,1,1], .blk 5, kRgT0 [1,1,1,1,1,1,1,1,1,1,1,0,1,0,0,1,1], kRgT0 [1,1,1,1,1,1,1,1,1,1,1,0,1,0], .blk 4, kRgT0 [1,1,1,1,1,1,1,1,1,1,1,1]] ⟨frame 297 [(1, .sl 5 acts), (5, int n), (6, .sl 1 U), (9, .slx 34 9 W hw), (10, .ptr 10 qb 0), (11, .ptr 0 qd 0), (12, .ptr 1 qa 0), (13, .ptr 2 qo 0), (15, int (i : Nat)), (19, .ptr 18 bo 0)], obsG qd qa qo x y W hw qb M A0 A1 ++ [(bx, .cells (caC z)), (bo, .cells [.sl 34 F, .sl 5 E])], gl⟩ := by
  let HH : Nat → Nat → Hint := fun  | _, _ => .no
  exact run_sound ⟨HH, [((2, 49), ([1,5,6,9,10,11,12,13,15,19,27], 19))], plRgT0⟩ 400 (by kernel_rfl) nx
theorem gp49e (z : Ca) (bx bo : Nat) (F E : List T) (nx : wRgT1 Γ Q [kRgT0 [1,1,1,1,1,1,1,1,1,1,1,0,1,0,0,1,0,0,1,1,1,1,1,1,1,1], .blk 5, kRgT0 [1,1,1,1,1,1,1,1,1,1,1,0,1,0,0,1,1], kRgT0 [1,1,1,1,1,1,1,1,1,1,1,0,1,0], .blk 4, kRgT0 [1,1,1,1,1,1,1,1,1,1,1,1]] ⟨frame 297 [(1, .sl 5 acts), (5, int n), (6, .sl 1 U), (9, .slx 34 9 W hw), (10, .ptr 10 qb 0), (11, .ptr 0 qd 0), (12, .ptr 1 qa 0), (13, .ptr 2 qo 0), (15, int (i : Nat))], obsG qd qa qo x y W hw qb M A0 A1, gl⟩) :
    wRgT1 Γ Q [kRgT0 [1,1,1,1,1,1,1,1,1,1,1,0,1,0,0,1,0,0,1,1,1,1,1,1,1,0,1,0], .blk 7, kRgT0 [1,1,1,1,1,1,1,1,1,1,1,0,1,0,0,1,0,0,1,1,1,1,1,1,1,1], .blk 5, kRgT0 [1,1,1,1,1,1,1,1,1,1,1,0,1,0,0,1,1], kRgT0 [1,1,1,1,1,1,1,1,1,1,1,0,1,0], .blk 4, kRgT0 [1,1,1,1,1,1,1,1,1,1,1,1]] ⟨frame 297 [(1, .sl 5 acts), (5, int n), (6, .sl 1 U), (9, .slx 34 9 W hw), (10, .ptr 10 qb 0), (11, .ptr 0 qd 0), (12, .ptr 1 qa 0), (13, .ptr 2 qo 0), (15, int (i : Nat)), (19, .ptr 18 bo 0), (27, int E.length)], obsG qd qa qo x y W hw qb M A0 A1 ++ [(bx, .cells (caC z)), (bo, .cells [.sl 34 F, .sl 5 E])], gl⟩ := by
  let HH : Nat → Nat → Hint := fun  | _, _ => .no
  exact run_sound ⟨HH, [((0, 62), ([1,5,6,9,10,11,12,13,15], 17)), ((0, 51), ([1,5,6,9,10,11,12,13,15,19,27], 19))], plRgT0⟩ 400 (by kernel_rfl) (Yb bo (Ys (decide ((↑(List.length E) : Int) < (↑(List.length E) : Int))) (fun Z0 => (show wRgT1 Γ Q [kRgT0 [1,1,1,1,1,1,1,1,1,1,1,0,1,0,0,1,0,0,1,1,1,1,1,1,1,0,1,0,0,1,0,0], It.blk 8, kRgT0 [1,1,1,1,1,1,1,1,1,1,1,0,1,0,0,1,0,0,1,1,1,1,1,1,1,0,1,0,0,1,1], kRgT0 [1,1,1,1,1,1,1,1,1,1,1,0,1,0,0,1,0,0,1,1,1,1,1,1,1,0,1,0], It.blk 7, kRgT0 [1,1,1,1,1,1,1,1,1,1,1,0,1,0,0,1,0,0,1,1,1,1,1,1,1,1], It.blk 5, kRgT0 [1,1,1,1,1,1,1,1,1,1,1,0,1,0,0,1,1], kRgT0 [1,1,1,1,1,1,1,1,1,1,1,0,1,0], It.blk 4, kRgT0 [1,1,1,1,1,1,1,1,1,1,1,1]] (S.mk (frame 297 [(1, T.sl 5 acts), (5, int n), (6, T.sl 1 U), (9, T.slx 34 9 W hw), (10, T.ptr 10 qb 0), (11, T.ptr 0 qd 0), (12, T.ptr 1 qa 0), (13, T.ptr 2 qo 0), (15, int i), (19, T.ptr 18 bo 0), (27, int (List.length E))]) [(qd, Ob.cells [T.slx 7 3 (List.map (fun x => T.agg (dnC x)) x.d) x.hd, T.slx 7 4 (List.map (fun x => T.agg (dnC x)) y.d) y.hd, T.v (Value.slice none 0 0), T.v (Value.slice none 0 0), T.v (Value.slice none 0 0), T.v (Value.slice none 0 0)]), (qa, Ob.cells [T.slx 3 5 (List.map (fun x => T.agg (stC x)) x.a) x.ha, T.slx 3 6 (List.map (fun x => T.agg (stC x)) y.a) y.ha, T.v (Value.slice none 0 0), T.v (Value.slice none 0 0), T.v (Value.slice none 0 0), T.v (Value.slice none 0 0)]), (qo, Ob.cells [T.slx 3 7 (List.map (fun x => T.agg (stC x)) x.o) x.ho, T.slx 3 8 (List.map (fun x => T.agg (stC x)) y.o) y.ho, T.v (Value.slice none 0 0), T.v (Value.slice none 0 0), T.v (Value.slice none 0 0), T.v (Value.slice none 0 0)]), (0, Ob.room 7 75 (List.length (List.map (fun x => T.agg (dnC x)) x.d)) x.hd), (0, Ob.room 7 75 (List.length (List.map (fun x => T.agg (dnC x)) y.d)) y.hd), (0, Ob.room 3 51 (List.length (List.map (fun x => T.agg (stC x)) x.a)) x.ha), (0, Ob.room 3 51 (List.length (List.map (fun x => T.agg (stC x)) y.a)) y.ha), (0, Ob.room 3 51 (List.length (List.map (fun x => T.agg (stC x)) x.o)) x.ho), (0, Ob.room 3 51 (List.length (List.map (fun x => T.agg (stC x)) y.o)) y.ho), (0, Ob.room 34 70 (List.length W) hw), (qb, Ob.cells [T.mp 11 (M 0), T.mp 12 (M 1), T.mp 13 (M 2), T.mp 14 (M 3), T.mp 15 (M 4), T.mp 16 (M 5)]), (M 0, Ob.kv 51 GK (kF A0)), (M 1, Ob.kv 51 GK (kF A1)), (M 2, Ob.kv 51 GK (kF noA)), (M 3, Ob.kv 51 GK (kF noA)), (M 4, Ob.kv 51 GK (kF noA)), (M 5, Ob.kv 51 GK (kF noA)), (bx, Ob.cells [u8 z.what, u8 z.node, u8 z.key, T.v (Value.string z.t), T.v (Value.int IntKind.u16 (↑z.ch : Int))]), (bo, Ob.cells [T.sl 34 F, T.sl 5 E])] gl) by exfalso; have := of_decide_eq_true Z0; omega)) (fun Z1 => nx)))
theorem gp51 (z : Ca) (bx bo : Nat) (F E : List T) (k : Nat) (e : Ev) (hk : k < E.length) (he : E[k]? = some (.agg (evC e)))
    (nx : ∀ be, wRgT1 Γ Q [kRgT0 [1,1,1,1,1,1,1,1,1,1,1,0,1,0,0,1,0,0,1,1,1,1,1,1,1,0,1,0,0,1,0,0,1], .blk 8, kRgT0 [1,1,1,1,1,1,1,1,1,1,1,0,1,0,0,1,0,0,1,1,1,1,1,1,1,0,1,0,0,1,1], kRgT0 [1,1,1,1,1,1,1,1,1,1,1,0,1,0,0,1,0,0,1,1,1,1,1,1,1,0,1,0], .blk 7, kRgT0 [1,1,1,1,1,1,1,1,1,1,1,0,1,0,0,1,0,0,1,1,1,1,1,1,1,1], .blk 5, kRgT0 [1,1,1,1,1,1,1,1,1,1,1,0,1,0,0,1,1], kRgT0 [1,1,1,1,1,1,1,1,1,1,1,0,1,0], .blk 4, kRgT0 [1,1,1,1,1,1,1,1,1,1,1,1]] ⟨frame 297 [(1, .sl 5 acts), (5, int n), (6, .sl 1 U), (9, .slx 34 9 W hw), (10, .ptr 10 qb 0), (11, .ptr 0 qd 0), (12, .ptr 1 qa 0), (13, .ptr 2 qo 0), (15, int (i : Nat)), (19, .ptr 18 bo 0), (27, int k), (28, .ptr 19 be 0)], obsG qd qa qo x y W hw qb M A0 A1 ++ [(bx, .cells (caC z)), (bo, .cells [.sl 34 F, .sl 5 E]), (be, .cells (evC e))], gl⟩) :
    wRgT1 Γ Q [kRgT0 [1,1,1,1,1,1,1,1,1,1,1,0,1,0,0,1,0,0,1,1,1,1,1,1,1,0,1,0], .blk 7, kRgT0 [1,1,1,1,1,1,1,1,1,1,1,0,1,0,0,1,0,0,1,1,1,1,1,1,1,1], .blk 5, kRgT0 [1,1,1,1,1,1,1,1,1,1,1,0,1,0,0,1,1], kRgT0 [1,1,1,1,1,1,1,1,1,1,1,0,1,0], .blk 4, kRgT0 [1,1,1,1,1,1,1,1,1,1,1,1]] ⟨frame 297 [(1, .sl 5 acts), (5, int n), (6, .sl 1 U), (9, .slx 34 9 W hw), (10, .ptr 10 qb 0), (11, .ptr 0 qd 0), (12, .ptr 1 qa 0), (13, .ptr 2 qo 0), (15, int (i : Nat)), (19, .ptr 18 bo 0), (27, int k)], obsG qd qa qo x y W hw qb M A0 A1 ++ [(bx, .cells (caC z)), (bo, .cells [.sl 34 F, .sl 5 E])], gl⟩ := by
  have e1 : E[((k : Nat) : Int).toNat]? = some (.agg (evC e)) := by rw [ni]; exact he
  let HH : Nat → Nat → Hint := fun | 51, 3 => .res (.agg (evC e)) | _, _ => .no
  exact run_sound ⟨HH, [((0, 52), ([1,5,6,9,10,11,12,13,15,19,27,28], 20)), ((0, 62), ([1,5,6,9,10,11,12,13,15], 17))], plRgT0⟩ 400 (by kernel_rfl) (Yb bo (Ys (decide ((↑k : Int) < (↑(List.length E) : Int))) (fun Z0 => (Yb bo (Ya (show (0 : Int) ≤ (↑k : Int) by omega) (Ya e1 (fun (Z1 : Nat) => (Yk 5 Z1 (nx Z1))))))) (fun Z2 => (show wRgT1 Γ Q [kRgT0 [1,1,1,1,1,1,1,1,1,1,1,0,1,0,0,1,0,0,1,1,1,1,1,1,1,1], It.blk 5, kRgT0 [1,1,1,1,1,1,1,1,1,1,1,0,1,0,0,1,1], kRgT0 [1,1,1,1,1,1,1,1,1,1,1,0,1,0], It.blk 4, kRgT0 [1,1,1,1,1,1,1,1,1,1,1,1]] (S.mk (frame 297 [(1, T.sl 5 acts), (5, int n), (6, T.sl 1 U), (9, T.slx 34 9 W hw), (10, T.ptr 10 qb 0), (11, T.ptr 0 qd 0), (12, T.ptr 1 qa 0), (13, T.ptr 2 qo 0), (15, int i)]) [(qd, Ob.cells [T.slx 7 3 (List.map (fun x => T.agg (dnC x)) x.d) x.hd, T.slx 7 4 (List.map (fun x => T.agg (dnC x)) y.d) y.hd, T.v (Value.slice none 0 0), T.v (Value.slice none 0 0), T.v (Value.slice none 0 0), T.v (Value.slice none 0 0)]), (qa, Ob.cells [T.slx 3 5 (List.map (fun x => T.agg (stC x)) x.a) x.ha, T.slx 3 6 (List.map (fun x => T.agg (stC x)) y.a) y.ha, T.v (Value.slice none 0 0), T.v (Value.slice none 0 0), T.v (Value.slice none 0 0), T.v (Value.slice none 0 0)]), (qo, Ob.cells [T.slx 3 7 (List.map (fun x => T.agg (stC x)) x.o) x.ho, T.slx 3 8 (List.map (fun x => T.agg (stC x)) y.o) y.ho, T.v (Value.slice none 0 0), T.v (Value.slice none 0 0), T.v (Value.slice none 0 0), T.v (Value.slice none 0 0)]), (0, Ob.room 7 75 (List.length (List.map (fun x => T.agg (dnC x)) x.d)) x.hd), (0, Ob.room 7 75 (List.length (List.map (fun x => T.agg (dnC x)) y.d)) y.hd), (0, Ob.room 3 51 (List.length (List.map (fun x => T.agg (stC x)) x.a)) x.ha), (0, Ob.room 3 51 (List.length (List.map (fun x => T.agg (stC x)) y.a)) y.ha), (0, Ob.room 3 51 (List.length (List.map (fun x => T.agg (stC x)) x.o)) x.ho), (0, Ob.room 3 51 (List.length (List.map (fun x => T.agg (stC x)) y.o)) y.ho), (0, Ob.room 34 70 (List.length W) hw), (qb, Ob.cells [T.mp 11 (M 0), T.mp 12 (M 1), T.mp 13 (M 2), T.mp 14 (M 3), T.mp 15 (M 4), T.mp 16 (M 5)]), (M 0, Ob.kv 51 GK (kF A0)), (M 1, Ob.kv 51 GK (kF A1)), (M 2, Ob.kv 51 GK (kF noA)), (M 3, Ob.kv 51 GK (kF noA)), (M 4, Ob.kv 51 GK (kF noA)), (M 5, Ob.kv 51 GK (kF noA))] gl) by exfalso; have := of_decide_eq_false Z2; omega))))
end
theorem u32_one {a b : Nat} (h : a = b + 1 ∨ a = b + 2) : (IntKind.wrap .u32 ((a : Int) - (b : Int)) == 1) = decide (a = b + 1) := by
  rcases h with h | h
  · rw [show (a : Int) - b = 1 by omega, decide_eq_true h]; rfl
  · rw [show (a : Int) - b = 2 by omega, decide_eq_false (by omega)]; rfl
theorem ask_of {b : Rep.Bk} {s : Stp} (h : Rep.asksOk b s = true) : ∀ d ∈ b.dones, Rep.rmwOf b s = true → d.2.2 = true → ¬ d.2.1 = b.bases s := fun d hd h1 h2 h3 => by
  unfold Rep.asksOk at h
  rw [List.all_eq_true] at h
  have := h d hd
  rw [h1, h2, decide_eq_true h3] at this
  cases this
section
variable (Γ : Ctx) (qd qa qo qb : Nat) (M : Nat → Nat) (acts U : List T) (n i c : Nat) (hw : Value) (A0 A1 : Stp → Option Stp) (gl : Glb) (Q : T → Obs → Glb → Prop)
theorem gp49 (z : Ca) (bx bo : Nat) (W F : List Fm) (E : List Ev) (hE : E.length ≤ 900) (hc : c < 250) (R : Nat → RS) : ∀ (m k : Nat) (x y : Bz), k + m = E.length → Mid n c R W A0 A1 x y (E.drop k) →
    (∀ x' y', Mid n c R W A0 A1 x' y' [] → wRgT1 Γ Q [kRgT0 [1,1,1,1,1,1,1,1,1,1,1,0,1,0,0,1,0,0,1,1,1,1,1,1,1,1], .blk 5, kRgT0 [1,1,1,1,1,1,1,1,1,1,1,0,1,0,0,1,1], kRgT0 [1,1,1,1,1,1,1,1,1,1,1,0,1,0], .blk 4, kRgT0 [1,1,1,1,1,1,1,1,1,1,1,1]] ⟨frame 297 [(1, .sl 5 acts), (5, int n), (6, .sl 1 U), (9, .slx 34 9 (Row.aggs frC W) hw), (10, .ptr 10 qb 0), (11, .ptr 0 qd 0), (12, .ptr 1 qa 0), (13, .ptr 2 qo 0), (15, int (i : Nat))], obsG qd qa qo x' y' (Row.aggs frC W) hw qb M A0 A1, gl⟩) →
    wRgT1 Γ Q [kRgT0 [1,1,1,1,1,1,1,1,1,1,1,0,1,0,0,1,0,0,1,1,1,1,1,1,1,0,1,0], .blk 7, kRgT0 [1,1,1,1,1,1,1,1,1,1,1,0,1,0,0,1,0,0,1,1,1,1,1,1,1,1], .blk 5, kRgT0 [1,1,1,1,1,1,1,1,1,1,1,0,1,0,0,1,1], kRgT0 [1,1,1,1,1,1,1,1,1,1,1,0,1,0], .blk 4, kRgT0 [1,1,1,1,1,1,1,1,1,1,1,1]] ⟨frame 297 [(1, .sl 5 acts), (5, int n), (6, .sl 1 U), (9, .slx 34 9 (Row.aggs frC W) hw), (10, .ptr 10 qb 0), (11, .ptr 0 qd 0), (12, .ptr 1 qa 0), (13, .ptr 2 qo 0), (15, int (i : Nat)), (19, .ptr 18 bo 0), (27, int k)], obsG qd qa qo x y (Row.aggs frC W) hw qb M A0 A1 ++ [(bx, .cells (caC z)), (bo, .cells [.sl 34 (Row.aggs frC F), .sl 5 (Row.aggs evC E)])], gl⟩ := by
  intro m
  induction m with
  | zero =>
    intro k x y hk hm nx
    have hk : k = (Row.aggs evC E).length := by rw [Row.aggs_len]; omega
    subst hk
    refine gp49e Γ qd qa qo qb M acts U n i (Row.aggs frC W) hw A0 A1 x y gl Q z bx bo (Row.aggs frC F) (Row.aggs evC E) (nx x y ?_)
    rw [Row.aggs_len, List.drop_length] at hm
    exact hm
  | succ m ih =>
    intro k x y hk hm nx
    have hkl : k < E.length := by omega
    obtain ⟨e, hat⟩ : ∃ e, E[k]? = some e := ⟨_, List.getElem?_eq_getElem hkl⟩
    have hd : E.drop k = e :: E.drop (k + 1) := by
      rw [List.drop_eq_getElem_cons hkl]
      rw [List.getElem?_eq_getElem hkl] at hat
      injection hat with hat
      rw [hat]
    rw [hd] at hm
    refine gp51 Γ qd qa qo qb M acts U n i (Row.aggs frC W) hw A0 A1 x y gl Q z bx bo (Row.aggs frC F) (Row.aggs evC E) k e (by rw [Row.aggs_len]; exact hkl) (Row.aggs_at hat) fun be => ?_
    have lx := hm.lx
    have ly := hm.ly
    simp only [List.length_cons] at lx ly
    have hkey := hm.key
    have hkind := hm.kind
    have nxt := fun x' y' (h : Mid n c R W A0 A1 x' y' (E.drop (k + 1))) => ih (k + 1) x' y' (by omega) h nx
    obtain ⟨key, kind, s⟩ := e
    dsimp only at hkey hkind
    rcases hkey with rfl | rfl <;> rcases hkind with rfl | rfl
    · obtain ⟨b1, b2, _⟩ := hm.dn0 rfl rfl nilS
      refine gpDn0 Γ qd qa qo qb M acts U n i (Row.aggs frC W) hw A0 A1 x y gl Q z bx bo be (Row.aggs frC F) E k s _ _ rfl (u32_one b1) ?_
      refine gpCk0 Γ qd qa qo qb M acts U n i (Row.aggs frC W) hw A0 A1 x y gl Q z bx bo be (Row.aggs frC F) E k s _ _ rfl (by omega) (ask_of b2) ?_ x.d.length 0 (Nat.zero_add _)
      exact gp610 Γ qd qa qo qb M acts U n i (Row.aggs frC W) hw A0 A1 x y gl Q z bx bo be (Row.aggs frC F) E k (by omega) s _ _ rfl (by omega) fun v => nxt _ _ (hm.dn0 rfl rfl v).2.2
    · exact gpAb0 Γ qd qa qo qb M acts U n i (Row.aggs frC W) hw A0 A1 x y gl Q z bx bo be (Row.aggs frC F) E k (by omega) s (by omega) fun v => nxt _ _ (hm.ab0 rfl rfl v)
    · obtain ⟨b1, b2, _⟩ := hm.dn1 rfl rfl nilS
      refine gpDn1 Γ qd qa qo qb M acts U n i (Row.aggs frC W) hw A0 A1 x y gl Q z bx bo be (Row.aggs frC F) E k s _ _ rfl (u32_one b1) ?_
      refine gpCk1 Γ qd qa qo qb M acts U n i (Row.aggs frC W) hw A0 A1 x y gl Q z bx bo be (Row.aggs frC F) E k s _ _ rfl (by omega) (ask_of b2) ?_ y.d.length 0 (Nat.zero_add _)
      exact gp611 Γ qd qa qo qb M acts U n i (Row.aggs frC W) hw A0 A1 x y gl Q z bx bo be (Row.aggs frC F) E k (by omega) s _ _ rfl (by omega) fun v => nxt _ _ (hm.dn1 rfl rfl v).2.2
    · exact gpAb1 Γ qd qa qo qb M acts U n i (Row.aggs frC W) hw A0 A1 x y gl Q z bx bo be (Row.aggs frC F) E k (by omega) s (by omega) fun v => nxt _ _ (hm.ab1 rfl rfl v)
theorem aggs_app {α : Type} (C : α → List T) (l m : List α) : Row.aggs C l ++ Row.aggs C m = Row.aggs C (l ++ m) := (List.map_append ..).symm
theorem aggs_drop {α : Type} (C : α → List T) (l : List α) (k : Nat) : (Row.aggs C l).drop k = Row.aggs C (l.drop k) := by simp [Row.aggs, List.map_drop]
theorem gpTail (hn : n ≤ 4) (hi : i < 250) (z : Ca) (bx bo : Nat) (W F : List Fm) (E : List Ev) (B : Nat → Nat) (R : Nat → RS) (DD : Nat → Dr) (x y : Bz) (hU : U = gps B n) (hW : W.length ≤ 80) (hF : F.length ≤ 8000) (hE : E.length ≤ 900) (hl : Lot n B R DD gl) (hm : Mid n i R (W ++ F) A0 A1 x y E)
    (nx : ∀ W' hw' x' y', Law n (i + 1) R W' A0 A1 x' y' → wRgT1 Γ Q [kRgT0 [1,1,1,1,1,1,1,1,1,1,1,0,1,0], .blk 4, kRgT0 [1,1,1,1,1,1,1,1,1,1,1,1]] ⟨frame 297 [(1, .sl 5 acts), (5, int n), (6, .sl 1 U), (9, .slx 34 9 (Row.aggs frC W') hw'), (10, .ptr 10 qb 0), (11, .ptr 0 qd 0), (12, .ptr 1 qa 0), (13, .ptr 2 qo 0), (15, int (i + 1 : Nat))], obsG qd qa qo x' y' (Row.aggs frC W') hw' qb M A0 A1, gl⟩) :
    wRgT1 Γ Q [kRgT0 [1,1,1,1,1,1,1,1,1,1,1,0,1,0,0,1,0,0,1,1,1,1,1], .blk 5, kRgT0 [1,1,1,1,1,1,1,1,1,1,1,0,1,0,0,1,1], kRgT0 [1,1,1,1,1,1,1,1,1,1,1,0,1,0], .blk 4, kRgT0 [1,1,1,1,1,1,1,1,1,1,1,1]] ⟨frame 297 [(1, .sl 5 acts), (5, int n), (6, .sl 1 U), (9, .slx 34 9 (Row.aggs frC W) hw), (10, .ptr 10 qb 0), (11, .ptr 0 qd 0), (12, .ptr 1 qa 0), (13, .ptr 2 qo 0), (15, int (i : Nat)), (19, .ptr 18 bo 0)], obsG qd qa qo x y (Row.aggs frC W) hw qb M A0 A1 ++ [(bx, .cells (caC z)), (bo, .cells [.sl 34 (Row.aggs frC F), .sl 5 (Row.aggs evC E)])], gl⟩ := by
  have fin := fun (W' : List Fm) (hw' : Value) (hW' : W'.length ≤ 80) (hs : ∀ f, f ∈ W' → f ∈ W ++ F) =>
    gp48 Γ qd qa qo qb M acts U n i (Row.aggs frC W') hw' A0 A1 x y gl Q z bx bo (Row.aggs frC F) (Row.aggs evC E)
      (gp49 Γ qd qa qo qb M acts U n i i hw' A0 A1 gl Q z bx bo W' F E hE hi R E.length 0 x y (Nat.zero_add _) (hm.lost hs) fun x' y' h' => by
        obtain ⟨s0, s1⟩ := h'.so (fun j => cellOf (R j) 0) (fun j => cellOf (R j) 1) (fun j => if_pos (by decide)) (fun j => if_pos (by decide))
        have lx := h'.lx
        have ly := h'.ly
        simp only [List.length_nil] at lx ly
        have m1 : n * x'.a.length ≤ 4 * 500 := Nat.mul_le_mul hn (by omega)
        have m2 : n * y'.a.length ≤ 4 * 500 := Nat.mul_le_mul hn (by omega)
        exact gp62 Γ qd qa qo qb M acts U n i (Row.aggs frC W') hw' A0 A1 x' y' gl Q hi (fun x2 y2 => Grw (n * x'.a.length) x' x2 ∧ Grw (n * y'.a.length) y' y2)
          (fun Q' hQ' => hU ▸ sound_any qd qa qo n (by omega) B R DD gl hl x' y' s0 s1 ⟨by omega, by omega, by omega⟩ ⟨by omega, by omega, by omega⟩ Q' fun x2 y2 g1 g2 => hQ' x2 y2 ⟨g1, g2⟩)
          fun x2 y2 h2 => nx W' hw' x2 y2 (h'.fin hn hi hW' h2.1 h2.2))
  refine gp45 Γ qd qa qo qb M acts U n i (Row.aggs frC W) hw A0 A1 x y gl Q z bx bo (Row.aggs frC F) (Row.aggs evC E) (by rw [Row.aggs_len, Row.aggs_len]; omega) fun hw' => ?_
  rw [aggs_app]
  refine gp46 Γ qd qa qo qb M acts U n i (Row.aggs frC (W ++ F)) hw' A0 A1 x y gl Q z bx bo (Row.aggs frC F) (Row.aggs evC E) (by rw [Row.aggs_len, List.length_append]; omega) (fun h => ?_) (fun h => ?_)
  · rw [Row.aggs_len] at h
    exact fin (W ++ F) hw' h fun f hf => hf
  · rw [Row.aggs_len, List.length_append] at h
    refine gp47 Γ qd qa qo qb M acts U n i (Row.aggs frC (W ++ F)) hw' A0 A1 x y gl Q z bx bo (Row.aggs frC F) (Row.aggs evC E) (W.length + F.length - 80) (by rw [Row.aggs_len, List.length_append]; omega) (by omega) fun hw2 => ?_
    rw [aggs_drop]
    exact fin _ hw2 (by rw [List.length_drop, List.length_append]; omega) fun f hf => List.mem_of_mem_drop hf
end
end X20
end Go.Proofs.Ytafcbipmmjegcaa.Vm
namespace Go.Proofs.Ytafcbipmmjegcaa.Vm
open Go Go.RowKit
set_option maxRecDepth 100000
noncomputable abbrev kRgW0 (l : List Nat) : It := .code (sub (bd Try.f3) l)
noncomputable abbrev wRgW1 (Γ : Ctx) (Q : T → Obs → Glb → Prop) : List It → S → Prop := TWk Try.prog Γ (fin Try.prog Try.f3 [] Q)
def plRgW0 : Nat → Option RPlan := fun | 32 => some ⟨[], [0, 4, 9], .take false [1,2,3,5,6,7,8] (.one 0 (.one 4 (.one 9 (.take false [10] .done))))⟩ | 35 => some ⟨[], [5, 6], .take true [0,1,2,3,4] (.one 5 (.one 6 .done))⟩ | 41 => some ⟨[], [17, 24, 25], .take true [0,1,2,3,4,5,6,7,8,9,10,11,12,13,14,15,16] (.three 17 22 23 (.take false [18,19,20,21] (.two 22 23 (.one 23 (.one 24 (.one 25 (.take false [26] .done)))) (.one 22 (.one 24 (.one 25 (.take false [26] .done)))))) (.two 17 23 (.take false [18,19,20,21] (.one 23 (.one 24 (.one 25 (.take false [26] .done))))) (.one 17 (.take false [18,19,20,21] (.one 24 (.one 25 (.take false [26] .done)))))) (.two 17 22 (.take false [18,19,20,21] (.one 22 (.one 24 (.one 25 (.take false [26] .done))))) (.one 17 (.take false [18,19,20,21] (.one 24 (.one 25 (.take false [26] .done)))))))⟩ | 43 => some ⟨[], [7], .take true [0,1,2,3,4,5,6] (.one 7 .done)⟩ | 53 => some ⟨[], [11], .take true [0,1,2,3,4,5,6,7] (.one 8 (.one 9 (.take true [10] (.one 11 .done))))⟩ | 61 => some ⟨[], [20], .take true [0,1,2,3,4,5,6,7,8,9,10,11,12,13,14,15,16] (.one 17 (.one 18 (.take true [19] (.one 20 .done))))⟩ | 62 => some ⟨[], [4], .take true [0,1,2,3] (.one 4 (.take false [5] .done))⟩ | _ => none
namespace X20
open Rep (Stp Wrd Cel Drv Plc RS Fm Ev put)
theorem Mid.over {n c : Nat} {R : Nat → RS} {W : List Fm} {A0 A1 : Stp → Option Stp} {x y : Bz} {E : List Ev} (h : Mid n c R W A0 A1 x y E) (hn : n ≤ 4) (hc : c < 250) (hw : W.length ≤ 80) : Law n (c + 1) R W A0 A1 x y := h.fin hn hc hw ((Grw.refl x).mono (Nat.zero_le _)) ((Grw.refl y).mono (Nat.zero_le _))
theorem Mid.few {n c : Nat} {R : Nat → RS} {W : List Fm} {A0 A1 : Stp → Option Stp} {x y : Bz} {E : List Ev} (h : Mid n c R W A0 A1 x y E) (hc : c < 250) : E.length ≤ 900 := by have := h.lx; omega
section
variable (Γ : Ctx) (qd qa qo qb : Nat) (M : Nat → Nat) (acts U : List T) (n i : Nat) (Q : T → Obs → Glb → Prop)
theorem gpAct (hn : n ≤ 4) (hi : i < 250) (z : Ca) (hch : z.ch < 65536) (bx bo : Nat) (W : List Fm) (hw : Value) (A0 A1 : Stp → Option Stp) (x y : Bz) (gl : Glb) (B : Nat → Nat) (R : Nat → RS) (DD : Nat → Dr) (hU : U = gps B n) (law : Law n i R W A0 A1 x y) (lot : Lot n B R DD gl)
    (who : Nat) (hwho : who < n) (key : Nat) (hkey : key < 2)
    (ih : ∀ W' hw' R' DD' A0' A1' x' y' gl', Law n (i + 1) R' W' A0' A1' x' y' → Lot n B R' DD' gl' → wRgW1 Γ Q [kRgW0 [1,1,1,1,1,1,1,1,1,1,1,0,1,0], .blk 4, kRgW0 [1,1,1,1,1,1,1,1,1,1,1,1]] ⟨frame 297 [(1, .sl 5 acts), (5, int n), (6, .sl 1 U), (9, .slx 34 9 (Row.aggs frC W') hw'), (10, .ptr 10 qb 0), (11, .ptr 0 qd 0), (12, .ptr 1 qa 0), (13, .ptr 2 qo 0), (15, int (i + 1 : Nat))], obsG qd qa qo x' y' (Row.aggs frC W') hw' qb M A0' A1', gl'⟩) :
    wRgW1 Γ Q [kRgW0 [1,1,1,1,1,1,1,1,1,1,1,0,1,0,0,1,0,0,1,1,1,1], .blk 5, kRgW0 [1,1,1,1,1,1,1,1,1,1,1,0,1,0,0,1,1], kRgW0 [1,1,1,1,1,1,1,1,1,1,1,0,1,0], .blk 4, kRgW0 [1,1,1,1,1,1,1,1,1,1,1,1]] ⟨frame 297 [(1, .sl 5 acts), (5, int n), (6, .sl 1 U), (9, .slx 34 9 (Row.aggs frC W) hw), (10, .ptr 10 qb 0), (11, .ptr 0 qd 0), (12, .ptr 1 qa 0), (13, .ptr 2 qo 0), (15, int (i : Nat)), (16, .ptr 17 bx 0), (17, int who), (18, u8 key), (19, .ptr 18 bo 0)], obsG qd qa qo x y (Row.aggs frC W) hw qb M A0 A1 ++ [(bx, .cells (caC z)), (bo, .cells [.v nilS, .v nilS])], gl⟩ := by
  have hp : U[who]? = some (.gp (B who) 0) := hU ▸ gps_at hwho
  have views : ∀ j, j < n → X5.lim (R j).v.ms ∧ (Rep.oth (R j)).length ≤ 1000 := fun j hj => by
    have v0 := law.wd.lv j hj
    have hl : (R j).v.ms.length ≤ 4 := by rw [v0]; show (X5.firstM n).length ≤ 4; rw [X5.firstM_len]; exact hn
    exact ⟨Nat.le_trans hl (by decide), Nat.le_trans (X5.othV_len _ _) (Nat.le_trans hl (by decide))⟩
  obtain ⟨hl, ho5⟩ := views who hwho
  have ft := law.wd.fit who hwho
  have tail := fun (W : List Fm) (hw : Value) (F : List Fm) (E : List Ev) (R' : Nat → RS) (DD' : Nat → Dr) (A0' A1' : Stp → Option Stp) (gl' : Glb) (hW : W.length ≤ 80) (hF : F.length ≤ 8000) (lot' : Lot n B R' DD' gl') (mid : Mid n i R' (W ++ F) A0' A1' x y E) =>
    gpTail Γ qd qa qo qb M acts U n i hw A0' A1' gl' Q hn hi z bx bo W F E B R' DD' x y hU hW hF (mid.few hi) lot' mid fun W' hw' x' y' h => ih W' hw' R' DD' A0' A1' x' y' gl' h lot'
  by_cases h0 : z.what % 8 = 0
  · have mid := law.tick hwho 1 2
    obtain ⟨f1, _⟩ := tick_len (R who) 1 2 true ho5
    have hc := fun Q' => lot_tick lot hwho 1 2 true hl ho5 (ft.bd (by omega)) (Nat.le_trans ft.ca (by omega)) Q'
    generalize Rep.tick (R who) 1 2 true = o at *
    obtain ⟨r2, F, E⟩ := o
    exact gpTick Γ qd qa qo qb M acts U n i (Row.aggs frC W) hw A0 A1 x y gl Q z h0 bx bo who key (B who) hp F E (fun D' gl' => Lot n B (put R who r2) (put DD who D') gl') (fun Q' hq => hc Q' fun D' gl' h => hq D' gl' h) fun D' gl' h =>
      tail W hw F E _ _ A0 A1 gl' law.wl f1 h mid
  · by_cases h1 : z.what % 8 = 1 ∨ z.what % 8 = 2
    · obtain ⟨k, hk, hzk⟩ : ∃ k, (k = 1 ∨ k = 2) ∧ z.what % 8 = k := ⟨_, h1, rfl⟩
      obtain ⟨t8, ht⟩ : ∃ t8, t8 = z.t.extract 0 (min z.t.size 8) := ⟨_, rfl⟩
      have mid := law.write hwho hkey t8 (decide (k = 2))
      obtain ⟨f1, _⟩ := write_len (R who) key true t8 (decide (k = 2)) ho5
      have hc := fun Q' => lot_write lot hwho key true t8 (decide (k = 2)) hl ho5 (fun _ => ft.st key) Q'
      generalize Rep.write (R who) key true t8 (decide (k = 2)) = o at *
      obtain ⟨⟨r2, F, E⟩, so⟩ := o
      obtain ⟨s, e1, e2⟩ := wr_form1 (r2, F, E) so
      rw [e1] at hc
      have hcell : ((R who).P key).c = cellOf (R who) key := (if_pos (by omega)).symm
      rw [hcell] at mid
      have hg := fun (Q' : T → Obs → Glb → Prop) hq => lot_cell lot hwho key Q' hq
      generalize cellOf (R who) key = c at *
      refine gpW Γ qd qa qo qb M acts U n i (Row.aggs frC W) hw A0 A1 x y gl Q z k hk hzk bx bo who key (B who) hp c _ so.isSome s F E (fun D' gl' => Lot n B (put R who r2) (put DD who D') gl') t8 ht hg (fun Q' hq => hc Q' fun D' gl' h => hq D' gl' h) fun bc bw bs D' gl' h => ?_
      have hF : F.length ≤ 8000 := Nat.le_trans f1 (by decide)
      cases so with
      | none =>
        rcases mid with ⟨_, mid⟩ | ⟨_, e, _⟩
        · exact gpW2f Γ qd qa qo qb M acts U n i (Row.aggs frC W) hw A0 A1 x y gl' Q z bx bo bc bw bs key c s (Row.aggs frC F) (Row.aggs evC E) (tail W hw F E _ _ A0 A1 gl' law.wl hF h mid)
        · cases e
      | some s' =>
        rcases mid with ⟨e, _⟩ | ⟨s2, e, mid⟩
        · cases e
        · injection e with e
          subst e
          have e2 := e2 _ rfl
          subst e2
          rcases (show key = 0 ∨ key = 1 by omega) with rfl | rfl
          · exact gpW2t0 Γ qd qa qo qb M acts U n i (Row.aggs frC W) hw A0 A1 x y gl' Q z bx bo bc bw bs c s (Row.aggs frC F) (Row.aggs evC E) (tail W hw F E _ _ _ A1 gl' law.wl hF h mid)
          · exact gpW2t1 Γ qd qa qo qb M acts U n i (Row.aggs frC W) hw A0 A1 x y gl' Q z bx bo bc bw bs c s (Row.aggs frC F) (Row.aggs evC E) (tail W hw F E _ _ A0 _ gl' law.wl hF h mid)
    · have hz : ¬ z.what % 8 = 0 ∧ ¬ z.what % 8 = 1 ∧ ¬ z.what % 8 = 2 := ⟨h0, fun h => h1 (.inl h), fun h => h1 (.inr h)⟩
      by_cases hW0 : W.length = 0
      · refine gpO1 Γ qd qa qo qb M acts U n i (Row.aggs frC W) hw A0 A1 x y gl Q z hz hch hi bx bo who key ⟨0, 0, 0, 0, 0, ⟨⟨0, 0, 0⟩, false, z.t, false⟩, false, 0⟩ 0 (fun h => absurd ((Row.aggs_len W).trans hW0) h) (fun _ => ?_) fun _ h => absurd ((Row.aggs_len W).trans hW0) h
        exact ih W hw R DD A0 A1 x y gl (law.idle.over hn hi law.wl) lot
      · have hkl : z.ch % W.length < W.length := Nat.mod_lt _ (by omega)
        obtain ⟨k, hk⟩ : ∃ k, k = z.ch % W.length := ⟨_, rfl⟩
        rw [← hk] at hkl
        obtain ⟨f, hf⟩ : ∃ f, W[k]? = some f := ⟨_, List.getElem?_eq_getElem hkl⟩
        have hmem := List.mem_of_getElem? hf
        obtain ⟨GG, g, _⟩ := law.g
        obtain ⟨_, j, hj, hto⟩ := g.to f hmem
        have hto : f.to = 17 + j := by rw [hto]; unfold Rep.ad; omega
        have hpj : U[j]? = some (.gp (B j) 0) := hU ▸ gps_at hj
        obtain ⟨hlj, hoj⟩ := views j hj
        have mid := law.on hj f hmem
        obtain ⟨f1, _⟩ := on_len (R j) f true hoj
        have hc := fun Q' => lot_on lot hj f true hlj hoj Q'
        generalize Rep.on (R j) f true = o at *
        obtain ⟨r2, F, E⟩ := o
        have hF : F.length ≤ 8000 := Nat.le_trans f1 (by decide)
        have comes := fun (W' : List Fm) (hw' : Value) (bf : Nat) (hs : ∀ f, f ∈ W' → f ∈ W) (hW' : W'.length ≤ 80) =>
          gpO3 Γ qd qa qo qb M acts U n i (Row.aggs frC W') hw' A0 A1 x y gl Q z hi bx bo bf f j (by omega) hto (B j) hpj F E (fun D' gl' => Lot n B (put R j r2) (put DD j D') gl') (fun Q' hq => hc Q' fun D' gl' h => hq D' gl' h)
            (ih W' hw' R DD A0 A1 x y gl ((law.idle.lost hs).over hn hi hW') lot)
            fun D' gl' h => tail W' hw' F E _ _ A0 A1 gl' hW' hF h (mid.lost fun q hq => (List.mem_append.1 hq).elim (fun hq => List.mem_append_left _ (hs q hq)) fun hq => List.mem_append_right _ hq)
        refine gpO1 Γ qd qa qo qb M acts U n i (Row.aggs frC W) hw A0 A1 x y gl Q z hz hch hi bx bo who key f k (fun _ => ⟨by rw [Row.aggs_len]; exact hk, Row.aggs_at hf⟩) (fun h => absurd ((Row.aggs_len W).symm.trans h) hW0) fun bf _ => ?_
        refine gpO2 Γ qd qa qo qb M acts U n i (Row.aggs frC W) hw A0 A1 x y gl Q z (by rw [Row.aggs_len]; have := law.wl; omega) bx bo bf f k (by rw [Row.aggs_len]; exact hkl) (comes W hw bf (fun _ h => h) law.wl) fun hw' => ?_
        rw [show (Row.aggs frC W).take k = Row.aggs frC (W.take k) by simp [Row.aggs, List.map_take], aggs_drop, aggs_app]
        refine comes _ hw' bf (fun q hq => (List.mem_append.1 hq).elim List.mem_of_mem_take List.mem_of_mem_drop) ?_
        have := law.wl
        simp only [List.length_append, List.length_take, List.length_drop]
        omega
end
section
variable (Γ : Ctx) (qd qa qo qb : Nat) (M : Nat → Nat) (L : List Ca) (n : Nat) (Q : T → Obs → Glb → Prop)
theorem gp21e (U : List T) (i : Nat) (W : List T) (hw : Value) (A0 A1 : Stp → Option Stp) (x y : Bz) (gl : Glb) (acts : List T) (he : acts.length ≤ i ∨ i = 250) (hQ : Q (bool true) [] gl) : wRgW1 Γ Q [kRgW0 [1,1,1,1,1,1,1,1,1,1,1,0,1,0], .blk 4, kRgW0 [1,1,1,1,1,1,1,1,1,1,1,1]] ⟨frame 297 [(1, .sl 5 acts), (5, int n), (6, .sl 1 U), (9, .slx 34 9 W hw), (10, .ptr 10 qb 0), (11, .ptr 0 qd 0), (12, .ptr 1 qa 0), (13, .ptr 2 qo 0), (15, int (i : Nat))], obsG qd qa qo x y W hw qb M A0 A1, gl⟩ := by
  let HH : Nat → Nat → Hint := fun  | _, _ => .no
  exact run_sound ⟨HH, [((0, 23), ([1,5,6,9,10,11,12,13,15], 17))], plRgW0⟩ 400 (by kernel_rfl) (Ys (decide ((↑i : Int) < (↑(List.length acts) : Int))) (fun Z0 => (Ys (decide ((↑i : Int) < (250 : Int))) (fun Z1 => (show wRgW1 Γ Q [kRgW0 [1,1,1,1,1,1,1,1,1,1,1,0,1,0,0,1,0,0], It.blk 5, kRgW0 [1,1,1,1,1,1,1,1,1,1,1,0,1,0,0,1,1], kRgW0 [1,1,1,1,1,1,1,1,1,1,1,0,1,0], It.blk 4, kRgW0 [1,1,1,1,1,1,1,1,1,1,1,1]] (S.mk (frame 297 [(1, T.sl 5 acts), (5, int n), (6, T.sl 1 U), (9, T.slx 34 9 W hw), (10, T.ptr 10 qb 0), (11, T.ptr 0 qd 0), (12, T.ptr 1 qa 0), (13, T.ptr 2 qo 0), (15, int i)]) [(qd, Ob.cells [T.slx 7 3 (List.map (fun x => T.agg (dnC x)) x.d) x.hd, T.slx 7 4 (List.map (fun x => T.agg (dnC x)) y.d) y.hd, T.v (Value.slice none 0 0), T.v (Value.slice none 0 0), T.v (Value.slice none 0 0), T.v (Value.slice none 0 0)]), (qa, Ob.cells [T.slx 3 5 (List.map (fun x => T.agg (stC x)) x.a) x.ha, T.slx 3 6 (List.map (fun x => T.agg (stC x)) y.a) y.ha, T.v (Value.slice none 0 0), T.v (Value.slice none 0 0), T.v (Value.slice none 0 0), T.v (Value.slice none 0 0)]), (qo, Ob.cells [T.slx 3 7 (List.map (fun x => T.agg (stC x)) x.o) x.ho, T.slx 3 8 (List.map (fun x => T.agg (stC x)) y.o) y.ho, T.v (Value.slice none 0 0), T.v (Value.slice none 0 0), T.v (Value.slice none 0 0), T.v (Value.slice none 0 0)]), (0, Ob.room 7 75 (List.length (List.map (fun x => T.agg (dnC x)) x.d)) x.hd), (0, Ob.room 7 75 (List.length (List.map (fun x => T.agg (dnC x)) y.d)) y.hd), (0, Ob.room 3 51 (List.length (List.map (fun x => T.agg (stC x)) x.a)) x.ha), (0, Ob.room 3 51 (List.length (List.map (fun x => T.agg (stC x)) y.a)) y.ha), (0, Ob.room 3 51 (List.length (List.map (fun x => T.agg (stC x)) x.o)) x.ho), (0, Ob.room 3 51 (List.length (List.map (fun x => T.agg (stC x)) y.o)) y.ho), (0, Ob.room 34 70 (List.length W) hw), (qb, Ob.cells [T.mp 11 (M 0), T.mp 12 (M 1), T.mp 13 (M 2), T.mp 14 (M 3), T.mp 15 (M 4), T.mp 16 (M 5)]), (M 0, Ob.kv 51 GK (kF A0)), (M 1, Ob.kv 51 GK (kF A1)), (M 2, Ob.kv 51 GK (kF noA)), (M 3, Ob.kv 51 GK (kF noA)), (M 4, Ob.kv 51 GK (kF noA)), (M 5, Ob.kv 51 GK (kF noA))] gl) by exfalso; have a1 := of_decide_eq_true Z0; have a2 := of_decide_eq_true Z1; omega)) (fun Z2 => hQ))) (fun Z3 => hQ))
theorem gp21s (U : List T) (i : Nat) (W : List T) (hw : Value) (A0 A1 : Stp → Option Stp) (x y : Bz) (gl : Glb) (acts : List T) (z : Ca) (h1 : i < acts.length) (h2 : i < 250) (hz : acts[i]? = some (.agg (caC z))) (hn : 0 < n) (hn4 : n ≤ 4)
    (nx : ∀ bx bo, wRgW1 Γ Q [kRgW0 [1,1,1,1,1,1,1,1,1,1,1,0,1,0,0,1,0,0,1,1,1,1], .blk 5, kRgW0 [1,1,1,1,1,1,1,1,1,1,1,0,1,0,0,1,1], kRgW0 [1,1,1,1,1,1,1,1,1,1,1,0,1,0], .blk 4, kRgW0 [1,1,1,1,1,1,1,1,1,1,1,1]] ⟨frame 297 [(1, .sl 5 acts), (5, int n), (6, .sl 1 U), (9, .slx 34 9 W hw), (10, .ptr 10 qb 0), (11, .ptr 0 qd 0), (12, .ptr 1 qa 0), (13, .ptr 2 qo 0), (15, int (i : Nat)), (16, .ptr 17 bx 0), (17, int (z.node % n : Nat)), (18, u8 (z.key % 2 : Nat)), (19, .ptr 18 bo 0)], obsG qd qa qo x y W hw qb M A0 A1 ++ [(bx, .cells (caC z)), (bo, .cells [.v nilS, .v nilS])], gl⟩) (hnode : z.node < 256) : wRgW1 Γ Q [kRgW0 [1,1,1,1,1,1,1,1,1,1,1,0,1,0], .blk 4, kRgW0 [1,1,1,1,1,1,1,1,1,1,1,1]] ⟨frame 297 [(1, .sl 5 acts), (5, int n), (6, .sl 1 U), (9, .slx 34 9 W hw), (10, .ptr 10 qb 0), (11, .ptr 0 qd 0), (12, .ptr 1 qa 0), (13, .ptr 2 qo 0), (15, int (i : Nat))], obsG qd qa qo x y W hw qb M A0 A1, gl⟩ := by
  have e1 : acts[((i : Nat) : Int).toNat]? = some (.agg (caC z)) := by rw [ni]; exact hz
  have r1 : T.v (.int .i64 ((IntKind.wrap .i64 (z.node : Int)).tmod (n : Int))) = int (z.node % n : Nat) := congrArg int (by
    rw [wrap_i64 (x := (z.node : Int)) (by omega) (by omega)]; exact IntWalk.up_tmod rfl rfl)
  have r2 := remN z.key 2 .u8
  let HH : Nat → Nat → Hint := fun | 23, 2 => .res (.agg (caC z)) | 24, 4 => .res (int (z.node % n : Nat)) | 25, 2 => .res (u8 (z.key % 2 : Nat)) | _, _ => .no
  let z0 := [kRgW0 [1,1,1,1,1,1,1,1,1,1,1,1]]
  exact run_sound ⟨HH, [((0, 27), ([1,5,6,9,10,11,12,13,15,16,17,18,19], 19)), ((0, 64), ([], 0))], plRgW0⟩ 400 (by kernel_rfl) (Ys (decide ((↑i : Int) < (↑(List.length acts) : Int))) (fun Z0 => (Ys (decide ((↑i : Int) < (250 : Int))) (fun Z1 => (Ya (show (0 : Int) ≤ (↑i : Int) by omega) (Ya e1 (fun (Z2 : Nat) => (Yk 5 Z2 (Yb Z2 (Ya (show ¬(↑n : Int) = (0 : Int) by omega) (Ya r1 (Yb Z2 (Yb (u8 (z.key % 2)) (fun (Z3 : Nat) => (nx Z2 Z3)))))))))))) (fun Z4 => (show wRgW1 Γ Q z0 (S.mk (frame 297 []) [] gl) by exfalso; have a1 := of_decide_eq_false Z4; omega)))) (fun Z5 => (show wRgW1 Γ Q z0 (S.mk (frame 297 []) [] gl) by exfalso; have a1 := of_decide_eq_false Z5; omega)))
theorem gp_loop (hn2 : 2 ≤ n) (hn : n ≤ 4) (hL : ∀ z ∈ L, z.node < 256 ∧ z.ch < 65536) (B : Nat → Nat) (hQ : ∀ gl, Q (bool true) [] gl) : ∀ (m i : Nat) (W : List Fm) (hw : Value) (R : Nat → RS) (DD : Nat → Dr) (A0 A1 : Stp → Option Stp) (x y : Bz) (gl : Glb), i + m = 250 → Law n i R W A0 A1 x y → Lot n B R DD gl →
    wRgW1 Γ Q [kRgW0 [1,1,1,1,1,1,1,1,1,1,1,0,1,0], .blk 4, kRgW0 [1,1,1,1,1,1,1,1,1,1,1,1]] ⟨frame 297 [(1, .sl 5 (Row.aggs caC L)), (5, int n), (6, .sl 1 (gps B n)), (9, .slx 34 9 (Row.aggs frC W) hw), (10, .ptr 10 qb 0), (11, .ptr 0 qd 0), (12, .ptr 1 qa 0), (13, .ptr 2 qo 0), (15, int (i : Nat))], obsG qd qa qo x y (Row.aggs frC W) hw qb M A0 A1, gl⟩ := by
  intro m
  induction m with
  | zero =>
    intro i W hw R DD A0 A1 x y gl hi law lot
    exact gp21e Γ qd qa qo qb M n Q (gps B n) i (Row.aggs frC W) hw A0 A1 x y gl (Row.aggs caC L) (.inr (by omega)) (hQ gl)
  | succ m ih =>
    intro i W hw R DD A0 A1 x y gl hi law lot
    by_cases hl : i < L.length
    · obtain ⟨z, hz⟩ : ∃ z, L[i]? = some z := ⟨_, List.getElem?_eq_getElem hl⟩
      obtain ⟨z1, z2⟩ := hL z (List.mem_of_getElem? hz)
      refine gp21s Γ qd qa qo qb M n Q (gps B n) i (Row.aggs frC W) hw A0 A1 x y gl (Row.aggs caC L) z (by rw [Row.aggs_len]; exact hl) (by omega) (Row.aggs_at hz) (by omega) hn (fun bx bo => ?_) z1
      exact gpAct Γ qd qa qo qb M (Row.aggs caC L) (gps B n) n i Q hn (by omega) z z2 bx bo W hw A0 A1 x y gl B R DD rfl law lot (z.node % n) (Nat.mod_lt _ (by omega)) (z.key % 2) (Nat.mod_lt _ (by decide))
        fun W' hw' R' DD' A0' A1' x' y' gl' law' lot' => ih (i + 1) W' hw' R' DD' A0' A1' x' y' gl' (by omega) law' lot'
    · exact gp21e Γ qd qa qo qb M n Q (gps B n) i (Row.aggs frC W) hw A0 A1 x y gl (Row.aggs caC L) (.inl (by rw [Row.aggs_len]; omega)) (hQ gl)
end
end X20
end Go.Proofs.Ytafcbipmmjegcaa.Vm
