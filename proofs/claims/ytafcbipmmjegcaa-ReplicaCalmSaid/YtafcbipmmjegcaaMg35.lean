/- Texts of this claim: RhJ, RpQ. -/
import Derived.Test.YtafcbipmmjegcaaMg15
import Derived.Test.YtafcbipmmjegcaaMg34
import Derived.Test.YtafcbipmmjegcaaMg27
namespace Go.Proofs.Ytafcbipmmjegcaa.Vm
open Go Go.RowKit
set_option maxRecDepth 100000
noncomputable abbrev kRhJ0 (l : List Nat) : It := .code (sub (bd Try.f4) l)
noncomputable abbrev wRhJ1 (Γ : Ctx) (Q : T → Obs → Glb → Prop) : List It → S → Prop := TWk Try.prog Γ (fin Try.prog Try.f4 [] Q)
def plRhJ0 : Nat → Option RPlan := fun | 19 => some ⟨[], [7, 8], .take true [0,1,2,3,4] (.one 5 (.take true [6] (.one 7 (.one 8 .done))))⟩ | 20 => some ⟨[], [19, 26, 27], .take true [0,1,2,3,4,5,6,7,8,9,10,11,12,13,14,15,16,17,18] (.three 19 24 25 (.take false [20,21,22,23] (.two 24 25 (.one 25 (.one 26 (.one 27 (.take false [28] .done)))) (.one 24 (.one 26 (.one 27 (.take false [28] .done)))))) (.two 19 25 (.take false [20,21,22,23] (.one 25 (.one 26 (.one 27 (.take false [28] .done))))) (.one 19 (.take false [20,21,22,23] (.one 26 (.one 27 (.take false [28] .done)))))) (.two 19 24 (.take false [20,21,22,23] (.one 24 (.one 26 (.one 27 (.take false [28] .done))))) (.one 19 (.take false [20,21,22,23] (.one 26 (.one 27 (.take false [28] .done)))))))⟩ | 30 => some ⟨[], [7, 8], .take true [0,1,2,3,4] (.one 5 (.take true [6] (.one 7 (.one 8 .done))))⟩ | _ => none
namespace X20
open Rep (Stp Wrd Cel Drv Plc RS Fm Ev put rN vN)
section
variable {n : Nat} {B : Nat → Nat} {R : Nat → RS} {DD : Nat → Dr} {gl : Glb}
theorem lot_driving (h : Lot n B R DD gl) {i : Nat} (hi : i < n) (k : Nat) (Q : T → Obs → Glb → Prop) (hQ : Q (drvT (R i) k) [] gl) : TCalls Try.prog 18 [.gp (B i) 0, u8 k] [] gl Q :=
  famR (h.cell i hi) (driving_any (B i) (R i) (DD i) k _ (h.out hi) (fun r ob' gl' => r = drvT (R i) k ∧ ob' = obsR (B i) (R i) (DD i) ∧ gl' = dropO gl (B i)) ⟨rfl, rfl, rfl⟩)
    (fun r ob' gl' ⟨_, e, _⟩ => ⟨_, e⟩)
    (fun r cs' gl' hn ⟨e1, e2, e3⟩ => by
      have e2 : cs' = repC (R i) (DD i) := by injection e2 with e2 _; injection e2 with _ e2; injection e2
      rw [e1, e2, e3, setO_drop, setO_self gl (h.cell i hi)]
      exact hQ)
end
section
variable (Γ : Ctx) (bw ba : Nat) (acts U : List T) (n i : Nat) (W : List T) (hw : Value) (gl : Glb) (Q : T → Obs → Glb → Prop)
theorem caAll (Pn : List T → Value → Glb → Prop) (hc : ∀ Q' : T → Obs → Glb → Prop, (∀ W' hw' gl', Pn W' hw' gl' → Q' (.tup []) (obsC bw ba U W' hw') gl') → TCalls Try.prog 17 [int (100000 : Nat), .ptr 0 bw 0, .ptr 1 ba 0] (obsC bw ba U W hw) gl Q')
    (nx : ∀ W' hw' gl', Pn W' hw' gl' → wRhJ1 Γ Q [kRhJ0 [1,1,1,1,1,1,1,1,1,0,1,0], .blk 4, kRhJ0 [1,1,1,1,1,1,1,1,1,1]] ⟨frame 185 [(5, int (n : Nat)), (6, .ptr 1 ba 0), (9, .ptr 0 bw 0), (10, .fn 17 [.ptr 0 bw 0, .ptr 1 ba 0]), (17, int (0 : Nat))], obsC bw ba U W' hw', gl'⟩) : wRhJ1 Γ Q [kRhJ0 [1,1,1,1,1,1,1,1]] ⟨frame 185 [(5, int (n : Nat)), (6, .ptr 1 ba 0), (9, .ptr 0 bw 0), (10, .fn 17 [.ptr 0 bw 0, .ptr 1 ba 0])], obsC bw ba U W hw, gl⟩ := by
  let HH : Nat → Nat → Hint := fun | 23, 1 => .call false (List T × Value × Glb) (fun a => Pn a.1 a.2.1 a.2.2) [0,1,2] true (fun _ => .tup []) (fun a => obsC bw ba U a.1 a.2.1) (fun a => a.2.2) | _, _ => .no
  exact run_sound ⟨HH, [((2, 25), ([5,6,9,10,17], 3))], plRhJ0⟩ 400 (by kernel_rfl) (Ya (hc (HH 23 1).P fun W' hw' gl' h => ⟨(W', hw', gl'), h, rfl, rfl, Nat.le_of_ble_eq_true rfl, fun _ => rfl⟩) (fun (Z0 : List T × Value × Glb) => (fun (Z1 : Pn Z0.fst Z0.snd.fst Z0.snd.snd) => (nx Z0.fst Z0.snd.fst Z0.snd.snd Z1))))
theorem caTurn (t : Nat) (ht : t < 12) (nx : wRhJ1 Γ Q [kRhJ0 [1,1,1,1,1,1,1,1,1,0,1,0,0,1,0,0,0,1,0], .blk 6, kRhJ0 [1,1,1,1,1,1,1,1,1,0,1,0,0,1,0,0,1], .blk 5, kRhJ0 [1,1,1,1,1,1,1,1,1,0,1,0,0,1,1], kRhJ0 [1,1,1,1,1,1,1,1,1,0,1,0], .blk 4, kRhJ0 [1,1,1,1,1,1,1,1,1,1]] ⟨frame 185 [(5, int (n : Nat)), (6, .ptr 1 ba 0), (9, .ptr 0 bw 0), (10, .fn 17 [.ptr 0 bw 0, .ptr 1 ba 0]), (17, int (t : Nat)), (18, int (0 : Nat))], obsC bw ba U W hw, gl⟩) : wRhJ1 Γ Q [kRhJ0 [1,1,1,1,1,1,1,1,1,0,1,0], .blk 4, kRhJ0 [1,1,1,1,1,1,1,1,1,1]] ⟨frame 185 [(5, int (n : Nat)), (6, .ptr 1 ba 0), (9, .ptr 0 bw 0), (10, .fn 17 [.ptr 0 bw 0, .ptr 1 ba 0]), (17, int (t : Nat))], obsC bw ba U W hw, gl⟩ := by
  let HH : Nat → Nat → Hint := fun  | _, _ => .no
  exact run_sound ⟨HH, [((2, 28), ([5,6,9,10,17,18], 3)), ((0, 32), ([5,6], 3))], plRhJ0⟩ 400 (by kernel_rfl) (Ys (decide ((↑t : Int) < (12 : Int))) (fun Z0 => nx) (fun Z1 => (show wRhJ1 Γ Q [kRhJ0 [1,1,1,1,1,1,1,1,1,1]] (S.mk (frame 185 [(5, int n), (6, T.ptr 1 ba 0)]) [(bw, Ob.cells [T.slx 34 2 W hw]), (ba, Ob.cells [T.sl 1 U]), (0, Ob.room 34 70 (List.length W) hw)] gl) by exfalso; have a1 := of_decide_eq_false Z1; omega)))
theorem caOut (nx : wRhJ1 Γ Q [kRhJ0 [1,1,1,1,1,1,1,1,1,1,0,1,0], .blk 8, kRhJ0 [1,1,1,1,1,1,1,1,1,1,1]] ⟨frame 185 [(5, int (n : Nat)), (6, .ptr 1 ba 0), (19, u8 (0 : Nat))], obsC bw ba U W hw, gl⟩) : wRhJ1 Γ Q [kRhJ0 [1,1,1,1,1,1,1,1,1,0,1,0], .blk 4, kRhJ0 [1,1,1,1,1,1,1,1,1,1]] ⟨frame 185 [(5, int (n : Nat)), (6, .ptr 1 ba 0), (9, .ptr 0 bw 0), (10, .fn 17 [.ptr 0 bw 0, .ptr 1 ba 0]), (17, int (12 : Nat))], obsC bw ba U W hw, gl⟩ := by
  let HH : Nat → Nat → Hint := fun  | _, _ => .no
  exact run_sound ⟨HH, [((2, 33), ([5,6,19], 3))], plRhJ0⟩ 400 (by kernel_rfl) nx
theorem caNext (t : Nat) (ht : t < 12) (Pn : List T → Value → Glb → Prop) (hc : ∀ Q' : T → Obs → Glb → Prop, (∀ W' hw' gl', Pn W' hw' gl' → Q' (.tup []) (obsC bw ba U W' hw') gl') → TCalls Try.prog 17 [int (100000 : Nat), .ptr 0 bw 0, .ptr 1 ba 0] (obsC bw ba U W hw) gl Q')
    (nx : ∀ W' hw' gl', Pn W' hw' gl' → wRhJ1 Γ Q [kRhJ0 [1,1,1,1,1,1,1,1,1,0,1,0], .blk 4, kRhJ0 [1,1,1,1,1,1,1,1,1,1]] ⟨frame 185 [(5, int (n : Nat)), (6, .ptr 1 ba 0), (9, .ptr 0 bw 0), (10, .fn 17 [.ptr 0 bw 0, .ptr 1 ba 0]), (17, int (t + 1 : Nat))], obsC bw ba U W' hw', gl'⟩) : wRhJ1 Γ Q [kRhJ0 [1,1,1,1,1,1,1,1,1,0,1,0,0,1,0,0,0,1,0], .blk 6, kRhJ0 [1,1,1,1,1,1,1,1,1,0,1,0,0,1,0,0,1], .blk 5, kRhJ0 [1,1,1,1,1,1,1,1,1,0,1,0,0,1,1], kRhJ0 [1,1,1,1,1,1,1,1,1,0,1,0], .blk 4, kRhJ0 [1,1,1,1,1,1,1,1,1,1]] ⟨frame 185 [(5, int (n : Nat)), (6, .ptr 1 ba 0), (9, .ptr 0 bw 0), (10, .fn 17 [.ptr 0 bw 0, .ptr 1 ba 0]), (17, int (t : Nat)), (18, int (n : Nat))], obsC bw ba U W hw, gl⟩ := by
  have hwi : T.v (.int .i64 (IntKind.wrap .i64 ((t : Int) + 1))) = int (t + 1 : Nat) := congrArg int (by rw [wrap_i64 (by omega) (by omega)]; omega)
  let HH : Nat → Nat → Hint := fun | 31, 1 => .call false (List T × Value × Glb) (fun a => Pn a.1 a.2.1 a.2.2) [0,1,2] true (fun _ => .tup []) (fun a => obsC bw ba U a.1 a.2.1) (fun a => a.2.2) | 26, 1 => .res (int (t + 1 : Nat)) | _, _ => .no
  exact run_sound ⟨HH, [((2, 25), ([5,6,9,10,17], 3)), ((0, 30), ([5,6,9,10,17,18], 3))], plRhJ0⟩ 400 (by kernel_rfl) (Ys (decide ((↑n : Int) < (↑n : Int))) (fun Z0 => (show wRhJ1 Γ Q [kRhJ0 [1,1,1,1,1,1,1,1,1,0,1,0,0,1,0,0,0,1,0,0,1,0,0], It.blk 7, kRhJ0 [1,1,1,1,1,1,1,1,1,0,1,0,0,1,0,0,0,1,0,0,1,1], kRhJ0 [1,1,1,1,1,1,1,1,1,0,1,0,0,1,0,0,0,1,0], It.blk 6, kRhJ0 [1,1,1,1,1,1,1,1,1,0,1,0,0,1,0,0,1], It.blk 5, kRhJ0 [1,1,1,1,1,1,1,1,1,0,1,0,0,1,1], kRhJ0 [1,1,1,1,1,1,1,1,1,0,1,0], It.blk 4, kRhJ0 [1,1,1,1,1,1,1,1,1,1]] (S.mk (frame 185 [(5, int n), (6, T.ptr 1 ba 0), (9, T.ptr 0 bw 0), (10, T.fn 17 [T.ptr 0 bw 0, T.ptr 1 ba 0]), (17, int t), (18, int n)]) [(bw, Ob.cells [T.slx 34 2 W hw]), (ba, Ob.cells [T.sl 1 U]), (0, Ob.room 34 70 (List.length W) hw)] gl) by exfalso; have a1 := of_decide_eq_true Z0; omega)) (fun Z1 => (Ya (hc (HH 31 1).P fun W' hw' gl' h => ⟨(W', hw', gl'), h, rfl, rfl, Nat.le_of_ble_eq_true rfl, fun _ => rfl⟩) (fun (Z2 : List T × Value × Glb) => (fun (Z3 : Pn Z2.fst Z2.snd.fst Z2.snd.snd) => (Ya hwi (nx Z2.fst Z2.snd.fst Z2.snd.snd Z3)))))))
theorem caOne (t : Nat) (hi : i < n) (hn : n ≤ 5) (p : Nat) (hp : U[i]? = some (.gp p 0)) (F : List Fm) (E : List Ev) (Pn : Dr → Glb → Prop) (hW : W.length ≤ 1000000) (hF : F.length ≤ 1000000)
    (hc : ∀ Q' : T → Obs → Glb → Prop, (∀ D' gl', Pn D' gl' → Q' (outT F E) [] gl') → TCalls Try.prog 12 [.gp p 0, int 2, int 3, bool true] [] gl Q')
    (nx : ∀ D' gl' hw', Pn D' gl' → wRhJ1 Γ Q [kRhJ0 [1,1,1,1,1,1,1,1,1,0,1,0,0,1,0,0,0,1,0], .blk 6, kRhJ0 [1,1,1,1,1,1,1,1,1,0,1,0,0,1,0,0,1], .blk 5, kRhJ0 [1,1,1,1,1,1,1,1,1,0,1,0,0,1,1], kRhJ0 [1,1,1,1,1,1,1,1,1,0,1,0], .blk 4, kRhJ0 [1,1,1,1,1,1,1,1,1,1]] ⟨frame 185 [(5, int (n : Nat)), (6, .ptr 1 ba 0), (9, .ptr 0 bw 0), (10, .fn 17 [.ptr 0 bw 0, .ptr 1 ba 0]), (17, int (t : Nat)), (18, int (i + 1 : Nat))], obsC bw ba U (W ++ Row.aggs frC F) hw', gl'⟩) :
    wRhJ1 Γ Q [kRhJ0 [1,1,1,1,1,1,1,1,1,0,1,0,0,1,0,0,0,1,0], .blk 6, kRhJ0 [1,1,1,1,1,1,1,1,1,0,1,0,0,1,0,0,1], .blk 5, kRhJ0 [1,1,1,1,1,1,1,1,1,0,1,0,0,1,1], kRhJ0 [1,1,1,1,1,1,1,1,1,0,1,0], .blk 4, kRhJ0 [1,1,1,1,1,1,1,1,1,1]] ⟨frame 185 [(5, int (n : Nat)), (6, .ptr 1 ba 0), (9, .ptr 0 bw 0), (10, .fn 17 [.ptr 0 bw 0, .ptr 1 ba 0]), (17, int (t : Nat)), (18, int (i : Nat))], obsC bw ba U W hw, gl⟩ := by
  have hwi : T.v (.int .i64 (IntKind.wrap .i64 ((i : Int) + 1))) = int (i + 1 : Nat) := congrArg int (by rw [wrap_i64 (by omega) (by omega)]; omega)
  have e1 : U[((i : Nat) : Int).toNat]? = some (.gp p 0) := by rw [nI]; exact hp
  have hFl : (Row.aggs frC F).length ≤ 1000000 := by rw [Row.aggs_len]; exact hF
  unfold outT at hc
  generalize Row.aggs frC F = AF at *
  let HH : Nat → Nat → Hint := fun | 30, 3 => .res (.gp p 0) | 30, 5 => .call false (Dr × Glb) (fun a => Pn a.1 a.2) [] true (fun _ => .agg [.sl 34 AF, .sl 5 (Row.aggs evC E)]) (fun _ => []) (fun a => a.2) | 29, 1 => .res (int (i + 1 : Nat)) | _, _ => .no
  exact run_sound ⟨HH, [((2, 28), ([5,6,9,10,17,18], 3)), ((0, 31), ([5,6,9,10,17], 3))], fun | 30 => some ⟨[0,1], [7,8], .take true [0,1,2,3,4] (.one 5 (.take true [6] (.one 7 (.one 8 .done))))⟩ | n => plRhJ0 n⟩ 400 (by kernel_rfl) (Ys (decide ((↑i : Int) < (↑n : Int))) (fun Z0 => (Yb bw (Yb ba (Ya (show (0 : Int) ≤ (↑i : Int) by omega) (Ya e1 (Ya (hc (HH 30 5).P fun D' gl' h => ⟨(D', gl'), h, rfl, rfl, Nat.zero_le _, fun _ => rfl⟩) (fun (Z1 : Dr × Glb) => (fun (Z2 : Pn Z1.fst Z1.snd) => (Ya (Yb hw (Ye (List.length W))) (Ya (Ya (show (List.length W + List.length AF) * nat_lit 144 ≤ 140737488355328 by simp only [maxLen]; omega) (show List.length W + List.length AF ≤ maxLen by simp only [maxLen]; omega)) (fun (Z3 : Value) => (Yk 1 bw (Ya hwi (nx Z1.fst Z1.snd Z3 Z2)))))))))))))) (fun Z4 => (show wRhJ1 Γ Q [kRhJ0 [1,1,1,1,1,1,1,1,1,0,1,0,0,1,0,0,1], It.blk 5, kRhJ0 [1,1,1,1,1,1,1,1,1,0,1,0,0,1,1], kRhJ0 [1,1,1,1,1,1,1,1,1,0,1,0], It.blk 4, kRhJ0 [1,1,1,1,1,1,1,1,1,1]] (S.mk (frame 185 [(5, int n), (6, T.ptr 1 ba 0), (9, T.ptr 0 bw 0), (10, T.fn 17 [T.ptr 0 bw 0, T.ptr 1 ba 0]), (17, int t)]) [(bw, Ob.cells [T.slx 34 2 W hw]), (ba, Ob.cells [T.sl 1 U]), (0, Ob.room 34 70 (List.length W) hw)] gl) by exfalso; have a1 := of_decide_eq_false Z4; omega)))
theorem ckKey (k : Nat) (hk : k < 6) (p : Nat) (hp : U[0]? = some (.gp p 0)) (c : Cel) (hc : TCalls Try.prog 13 [.gp p 0, u8 (k : Nat)] [] gl (callPost (toldG (.tup [.agg (clC c), bool true]) [] [] gl)))
    (nx : ∀ bo, wRhJ1 Γ Q [kRhJ0 [1,1,1,1,1,1,1,1,1,1,0,1,0,0,1,0,0,1,1,0], .blk 10, .blk 9, kRhJ0 [1,1,1,1,1,1,1,1,1,1,0,1,0,0,1,1], kRhJ0 [1,1,1,1,1,1,1,1,1,1,0,1,0], .blk 8, kRhJ0 [1,1,1,1,1,1,1,1,1,1,1]] ⟨frame 185 [(5, int (n : Nat)), (6, .ptr 1 ba 0), (19, u8 (k : Nat)), (20, .ptr 3 bo 0), (22, int (0 : Nat))], obsC bw ba U W hw ++ [(bo, .cells (clC c))], gl⟩) : wRhJ1 Γ Q [kRhJ0 [1,1,1,1,1,1,1,1,1,1,0,1,0], .blk 8, kRhJ0 [1,1,1,1,1,1,1,1,1,1,1]] ⟨frame 185 [(5, int (n : Nat)), (6, .ptr 1 ba 0), (19, u8 (k : Nat))], obsC bw ba U W hw, gl⟩ := by
  have e1 : U[(0 : Int).toNat]? = some (.gp p 0) := hp
  let HH : Nat → Nat → Hint := fun | 35, 1 => .res (.gp p 0) | 35, 4 => toldG (.tup [.agg (clC c), bool true]) [] [] gl | _, _ => .no
  exact run_sound ⟨HH, [((2, 37), ([5,6,19,20,22], 4)), ((0, 43), ([], 3))], plRhJ0⟩ 400 (by kernel_rfl) (Ys (decide ((↑k : Int) < (6 : Int))) (fun Z0 => (Yb ba (Ya (show (0 : Int) ≤ (0 : Int) by omega) (Ya e1 (Ya hc (Yu (fun (Z1 : Nat) => (Yk 7 Z1 (nx Z1))))))))) (fun Z2 => (show wRhJ1 Γ Q [kRhJ0 [1,1,1,1,1,1,1,1,1,1,1]] (S.mk (frame 185 []) [(bw, Ob.cells [T.slx 34 2 W hw]), (ba, Ob.cells [T.sl 1 U]), (0, Ob.room 34 70 (List.length W) hw)] gl) by exfalso; have a1 := of_decide_eq_false Z2; omega)))
theorem ckEnd (nx : Q (bool true) [] gl) : wRhJ1 Γ Q [kRhJ0 [1,1,1,1,1,1,1,1,1,1,0,1,0], .blk 8, kRhJ0 [1,1,1,1,1,1,1,1,1,1,1]] ⟨frame 185 [(5, int (n : Nat)), (6, .ptr 1 ba 0), (19, u8 (6 : Nat))], obsC bw ba U W hw, gl⟩ := by
  let HH : Nat → Nat → Hint := fun  | _, _ => .no
  exact run_sound ⟨HH, [], plRhJ0⟩ 400 (by kernel_rfl) nx
theorem ckUp (k : Nat) (hk : k < 6) (bo : Nat) (cs : List T) (nx : wRhJ1 Γ Q [kRhJ0 [1,1,1,1,1,1,1,1,1,1,0,1,0], .blk 8, kRhJ0 [1,1,1,1,1,1,1,1,1,1,1]] ⟨frame 185 [(5, int (n : Nat)), (6, .ptr 1 ba 0), (19, u8 (k + 1 : Nat))], obsC bw ba U W hw, gl⟩) :
    wRhJ1 Γ Q [kRhJ0 [1,1,1,1,1,1,1,1,1,1,0,1,0,0,1,0,0,1,1,0], .blk 10, .blk 9, kRhJ0 [1,1,1,1,1,1,1,1,1,1,0,1,0,0,1,1], kRhJ0 [1,1,1,1,1,1,1,1,1,1,0,1,0], .blk 8, kRhJ0 [1,1,1,1,1,1,1,1,1,1,1]] ⟨frame 185 [(5, int (n : Nat)), (6, .ptr 1 ba 0), (19, u8 (k : Nat)), (20, .ptr 3 bo 0), (22, int (n : Nat))], obsC bw ba U W hw ++ [(bo, .cells cs)], gl⟩ := by
  have h1 : T.v (.int .u8 (IntKind.wrap .u8 ((k : Int) + 1))) = u8 (k + 1 : Nat) := congrArg u8 (by rw [IntWalk.u8_in _ (by omega)]; omega)
  let HH : Nat → Nat → Hint := fun | 34, 1 => .res (u8 (k + 1 : Nat)) | _, _ => .no
  exact run_sound ⟨HH, [((2, 33), ([5,6,19], 3)), ((0, 39), ([5,6,19,20,22], 4))], plRhJ0⟩ 400 (by kernel_rfl) (Ys (decide ((↑n : Int) < (↑n : Int))) (fun Z0 => (show wRhJ1 Γ Q [kRhJ0 [1,1,1,1,1,1,1,1,1,1,0,1,0,0,1,0,0,1,1,0,0,1,0,0], It.blk 11, kRhJ0 [1,1,1,1,1,1,1,1,1,1,0,1,0,0,1,0,0,1,1,0,0,1,1], kRhJ0 [1,1,1,1,1,1,1,1,1,1,0,1,0,0,1,0,0,1,1,0], It.blk 10, It.blk 9, kRhJ0 [1,1,1,1,1,1,1,1,1,1,0,1,0,0,1,1], kRhJ0 [1,1,1,1,1,1,1,1,1,1,0,1,0], It.blk 8, kRhJ0 [1,1,1,1,1,1,1,1,1,1,1]] (S.mk (frame 185 [(5, int n), (6, T.ptr 1 ba 0), (19, u8 k), (20, T.ptr 3 bo 0), (22, int n)]) [(bw, Ob.cells [T.slx 34 2 W hw]), (ba, Ob.cells [T.sl 1 U]), (0, Ob.room 34 70 (List.length W) hw), (bo, Ob.cells cs)] gl) by exfalso; have a1 := of_decide_eq_true Z0; omega)) (fun Z1 => (Ya h1 nx)))
theorem ckOne (k : Nat) (bo : Nat) (hi : i < n) (hn : n ≤ 5) (p : Nat) (hp : U[i]? = some (.gp p 0)) (w : Wrd) (hc : TCalls Try.prog 13 [.gp p 0, u8 (k : Nat)] [] gl (callPost (toldG (.tup [.agg (clC ⟨w, 1⟩), bool true]) [] [] gl)))
    (hd : TCalls Try.prog 18 [.gp p 0, u8 (k : Nat)] [] gl (callPost (toldG (.tup [.agg [u32 0, u8 0, u8 0], bool false, bool false]) [] [] gl)))
    (nx : wRhJ1 Γ Q [kRhJ0 [1,1,1,1,1,1,1,1,1,1,0,1,0,0,1,0,0,1,1,0], .blk 10, .blk 9, kRhJ0 [1,1,1,1,1,1,1,1,1,1,0,1,0,0,1,1], kRhJ0 [1,1,1,1,1,1,1,1,1,1,0,1,0], .blk 8, kRhJ0 [1,1,1,1,1,1,1,1,1,1,1]] ⟨frame 185 [(5, int (n : Nat)), (6, .ptr 1 ba 0), (19, u8 (k : Nat)), (20, .ptr 3 bo 0), (22, int (i + 1 : Nat))], obsC bw ba U W hw ++ [(bo, .cells (clC ⟨w, 1⟩))], gl⟩) :
    wRhJ1 Γ Q [kRhJ0 [1,1,1,1,1,1,1,1,1,1,0,1,0,0,1,0,0,1,1,0], .blk 10, .blk 9, kRhJ0 [1,1,1,1,1,1,1,1,1,1,0,1,0,0,1,1], kRhJ0 [1,1,1,1,1,1,1,1,1,1,0,1,0], .blk 8, kRhJ0 [1,1,1,1,1,1,1,1,1,1,1]] ⟨frame 185 [(5, int (n : Nat)), (6, .ptr 1 ba 0), (19, u8 (k : Nat)), (20, .ptr 3 bo 0), (22, int (i : Nat))], obsC bw ba U W hw ++ [(bo, .cells (clC ⟨w, 1⟩))], gl⟩ := by
  have hwi : T.v (.int .i64 (IntKind.wrap .i64 ((i : Int) + 1))) = int (i + 1 : Nat) := congrArg int (by rw [wrap_i64 (by omega) (by omega)]; omega)
  have e1 : U[((i : Nat) : Int).toNat]? = some (.gp p 0) := by rw [nI]; exact hp
  let HH : Nat → Nat → Hint := fun | 39, 2 => .res (.gp p 0) | 39, 5 => toldG (.tup [.agg (clC ⟨w, 1⟩), bool true]) [] [] gl | 40, 2 => .res (.gp p 0) | 40, 5 => toldG (.tup [.agg [u32 0, u8 0, u8 0], bool false, bool false]) [] [] gl | 41, 4 => .res (bool false) | 38, 1 => .res (int (i + 1 : Nat)) | _, _ => .no
  exact run_sound ⟨HH, [((2, 37), ([5,6,19,20,22], 4)), ((0, 34), ([5,6,19], 3))], plRhJ0⟩ 400 (by kernel_rfl) (Ys (decide ((↑i : Int) < (↑n : Int))) (fun Z0 => (Yb ba (Ya (show (0 : Int) ≤ (↑i : Int) by omega) (Ya e1 (Ya hc (Yu (fun (Z1 : Nat) => (Yk 7 Z1 (Yb ba (Ya (show (0 : Int) ≤ (↑i : Int) by omega) (Ya e1 (Ya hd (Yu (fun (Z2 : Nat) => (Yk 3 Z2 (Yb Z1 (Yb bo (Ya (show bool (!((↑(Cel.mk w 1).w.s.n : Int) == (↑(Cel.mk w 1).w.s.n : Int) && ((↑(Cel.mk w 1).w.s.b : Int) == (↑(Cel.mk w 1).w.s.b : Int) && true) && ((↑(Cel.mk w 1).w.s.l : Int) == (↑(Cel.mk w 1).w.s.l : Int) && true) && ((Cel.mk w 1).w.h == (Cel.mk w 1).w.h && (ByteArray.toList (Cel.mk w 1).w.t == ByteArray.toList (Cel.mk w 1).w.t && true) && ((Cel.mk w 1).w.r == (Cel.mk w 1).w.r && true)) && ((↑(Cel.mk w 1).st : Int) == (↑(Cel.mk w 1).st : Int) && true))) = bool false by simp; done) (Yb Z1 (Ya hwi nx)))))))))))))))))))) (fun Z3 => (show wRhJ1 Γ Q [kRhJ0 [1,1,1,1,1,1,1,1,1,1,0,1,0,0,1,1], kRhJ0 [1,1,1,1,1,1,1,1,1,1,0,1,0], It.blk 8, kRhJ0 [1,1,1,1,1,1,1,1,1,1,1]] (S.mk (frame 185 [(5, int n), (6, T.ptr 1 ba 0), (19, u8 k)]) [(bw, Ob.cells [T.slx 34 2 W hw]), (ba, Ob.cells [T.sl 1 U]), (0, Ob.room 34 70 (List.length W) hw)] gl) by exfalso; have a1 := of_decide_eq_false Z3; omega)))
end
end X20
end Go.Proofs.Ytafcbipmmjegcaa.Vm
namespace Go.Proofs.Ytafcbipmmjegcaa.Vm
open Go Go.RowKit
set_option maxRecDepth 100000
noncomputable abbrev kRpQ0 (l : List Nat) : It := .code (sub (bd Try.f8) l)
noncomputable abbrev wRpQ1 (Γ : Ctx) (Q : T → Obs → Glb → Prop) : List It → S → Prop := TWk Try.prog Γ (fin Try.prog Try.f8 [] Q)
namespace X20
open Rep (Stp Wrd Cel Drv Plc RS Fm Ev setP setC)
open View (Mem VS)
open X5 (viewC lim mems othV hasV firstM firstL first_any)
def txa : ByteArray := ⟨#[97]⟩
def s0 : RS := Rep.begun 1 1 true
def s1 : RS := (Rep.enter s0 (vf 1)).1
theorem s1_lim : lim s1.v.ms := by show s1.v.ms.length ≤ 1000000; decide
theorem s1_write : (Rep.write s1 3 true txa false).2 = some ⟨2, 1, 1⟩ ∧ (Rep.write s1 3 true txa false).1.2.2 = [⟨3, 1, ⟨2, 1, 1⟩⟩] ∧ cellOf (Rep.write s1 3 true txa false).1.1 3 = ⟨⟨⟨2, 1, 1⟩, true, txa, false⟩, 1⟩ ∧ (Rep.write s1 3 true txa false).1.1.has 3 = true := ⟨by rfl, by rfl, by rfl, by rfl⟩
theorem sp4 (Γ : Ctx) (b b2 b3 : Nat) (r : RS) (D : Dr) (F : List Fm) (gl : Glb) (ho : Own D r gl) (hc : cellOf r 3 = ⟨⟨⟨2, 1, 1⟩, true, txa, false⟩, 1⟩) (hh : r.has 3 = true) (Q : T → Obs → Glb → Prop) (hQ : Q (bool true) [] gl) :
    wRpQ1 Γ Q [kRpQ0 [1,1,1,1]] ⟨frame 68 [(1, .ptr 0 b 0), (2, .ptr 1 b2 0), (3, .ptr 2 b3 0), (4, bool true)], [(b, .cells (repC r D)), (b2, .cells [.sl 34 (Row.aggs frC F), .sl 5 [.agg (evC ⟨3, 1, ⟨2, 1, 1⟩⟩)]]), (b3, .cells [u32 2, u8 1, u8 1])], gl⟩ := by
  have hce := cell_any b r D 3 gl ho
  rw [hc, hh] at hce
  let HH : Nat → Nat → Hint := fun | 4, 1 => .plainAt [0] (toldG (.tup [.agg (clC ⟨⟨⟨2, 1, 1⟩, true, txa, false⟩, 1⟩), bool true]) [0] (obsR b r D) gl) | _, _ => .no
  exact run_sound ⟨HH, [], fun | 5 => some ⟨[1,2,3], [], .take true [0,1,2,3,4,5,6,7,8,9,10,11,12,13,14,15,16,17,18,19,20,21,22,23,24,25,26,27,28,29,30,31,32,33,34,35,36,37,38,39,40,41,42,43,44,45] .done⟩ | _ => none⟩ 400 (by kernel_rfl) (Ya (Ya (repC_plain r D) Yt) (Ya (hce (HH 4 1).P (toldG_post rfl)) (Yu (Ya (Ya (repC_plain r D) Yt) (fun (Z0 : Nat) => (Yk 7 Z0 (Yb b2 (Yb b2 (Ya (show (0 : Int) ≤ (0 : Int) by omega) (Yb b2 (Ya (show (0 : Int) ≤ (0 : Int) by omega) (Yb b3 (Yb b3 (Yb Z0 (Yb Z0 hQ)))))))))))))))
theorem s1_oth : (Rep.oth s1).length ≤ 1000 := by decide
theorem sp3 (Γ : Ctx) (b : Nat) (D : Dr) (gl : Glb) (ho : Own D s1 gl) (Q : T → Obs → Glb → Prop) (hQ : ∀ gl', Q (bool true) [] gl') :
    wRpQ1 Γ Q [kRpQ0 [1,1,1]] ⟨frame 68 [(1, .ptr 0 b 0)], [(b, .cells (repC s1 D))], gl⟩ := by
  have hw := write_any b s1 D 3 true txa false gl ho s1_lim s1_oth (fun _ => by decide)
  obtain ⟨g1, g2, g3, g4⟩ := s1_write
  generalize Rep.write s1 3 true txa false = o at *
  obtain ⟨⟨r, F, E⟩, s⟩ := o
  simp only at g1 g2 g3 g4 hw
  subst g1 g2
  have nx := fun Γ b2 b3 D' gl' h => sp4 Γ b b2 b3 r D' F gl' h g3 g4 Q (hQ gl')
  clear hQ
  let HH : Nat → Nat → Hint := fun | 3, 2 => .plainAt [0] (.call false (Dr × Glb) (fun a => Own a.1 r a.2) [0] true (fun _ => .tup [outT F [⟨3, 1, ⟨2, 1, 1⟩⟩], .agg (stC ⟨2, 1, 1⟩), bool true]) (fun a => obsR b r a.1) (fun a => a.2)) | _, _ => .no
  exact run_sound ⟨HH, [((0, 4), ([1,2,3,4], 3))], fun  | _ => none⟩ 400 (by kernel_rfl) (Ya (Yb true Yt) (Ya (hw (HH 3 2).P fun D' gl' h1 _ => ⟨(D', gl'), h1, rfl, rfl, Nat.le_of_ble_eq_true rfl, fun _ => rfl⟩) (fun (Z0 : Dr × Glb) => (fun (Z1 : Own Z0.fst r Z0.snd) => (Ya (Ya (repC_plain r Z0.fst) Yt) (fun (Z2 : Nat) => (fun (Z3 : Nat) => (Yk 2 Z2 (Yk 3 Z3 (nx Γ Z2 Z3 Z0.fst Z0.snd Z1))))))))))
theorem sp2 (Γ : Ctx) (b t : Nat) (gl : Glb) (ho : Own (Dt t) s0 gl) (Q : T → Obs → Glb → Prop) (hQ : ∀ gl', Q (bool true) [] gl') :
    wRpQ1 Γ Q [kRpQ0 [1,1]] ⟨frame 68 [(1, .ptr 0 b 0)], [(b, .cells (repC s0 (Dt t)))], gl⟩ := by
  have he := enter_any b s0 (Dt t) (vf 1) gl ho s1_lim
  rw [show (Rep.enter s0 (vf 1)).2 = [] by rfl, show (Rep.enter s0 (vf 1)).1 = s1 by rfl] at he
  let HH : Nat → Nat → Hint := fun | 2, 1 => told (.agg (viewC (vf 1))) [] [] | 2, 2 => .plainAt [0] (.call false (Dr × Glb) (fun a => Own a.1 s1 a.2) [0] true (fun _ => outT [] []) (fun a => obsR b s1 a.1) (fun a => a.2)) | _, _ => .no
  exact run_sound ⟨HH, [((0, 3), ([1], 1))], fun  | _ => none⟩ 400 (by kernel_rfl) (Ya (show TCalls Try.prog 11 [int (1 : Int)] [] none_ (callPost (told (T.agg (viewC (vf 1))) [] [])) from lfirst_any 1 (by decide) (by decide) _ (told_post rfl)) (Yu (Ya (Yb true Yt) (Ya (he (HH 2 2).P fun D' gl' h1 _ => ⟨(D', gl'), h1, rfl, rfl, Nat.le_of_ble_eq_true rfl, fun _ => rfl⟩) (fun (Z0 : Dr × Glb) => (fun (Z1 : Own Z0.fst s1 Z0.snd) => (Ya (Yb true Yt) (sp3 Γ b Z0.fst Z0.snd Z1 Q hQ))))))))
theorem speaks_any (gl : Glb) (Q : T → Obs → Glb → Prop) (hQ : ∀ gl', Q (bool true) [] gl') : TCalls Try.prog 8 [] [] gl Q := by
  have sp := fun Γ b t => sp2 Γ b t (setO gl t (.cells (trC (fun _ => true) 0))) (begun_own t 1 1 true gl) Q hQ
  clear hQ
  refine TCalls.of Try.func8 rfl (CanCall.of Try.func8 rfl (by decide)) [] fun Γ => ?_
  let HH : Nat → Nat → Hint := fun | 1, 0 => .call false (Nat × Nat) (fun _ => True) [] true (fun a => .ptr 0 a.1 0) (fun a => obsR a.1 s0 (Dt a.2)) (fun a => setO gl a.2 (.cells (trC (fun _ => true) 0))) | _, _ => .no
  exact run_sound ⟨HH, [((0, 2), ([1], 1))], fun  | _ => none⟩ 400 (by kernel_rfl) (Ya (new_any 1 1 true gl (HH 1 0).P fun b t _ => ⟨(b, t), trivial, rfl, rfl, Nat.zero_le _, fun _ => rfl⟩) (fun (Z0 : Nat × Nat) => (fun (Z1 : True) => (sp Γ Z0.fst Z0.snd))))
def n0 : RS := Rep.begun 9 1 true
def n1 : RS := (Rep.enter n0 (vf 3)).1
end X20
end Go.Proofs.Ytafcbipmmjegcaa.Vm
