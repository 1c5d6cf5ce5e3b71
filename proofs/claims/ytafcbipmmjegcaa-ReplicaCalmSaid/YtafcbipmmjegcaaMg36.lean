/- Texts of this claim: RhK. -/
import Derived.Test.YtafcbipmmjegcaaMg15
import Derived.Test.YtafcbipmmjegcaaMg35
namespace Go.Proofs.Ytafcbipmmjegcaa.Vm
open Go Go.RowKit
set_option maxRecDepth 100000
noncomputable abbrev kRhK0 (l : List Nat) : It := .code (sub (bd Try.f4) l)
noncomputable abbrev wRhK1 (Γ : Ctx) (Q : T → Obs → Glb → Prop) : List It → S → Prop := TWk Try.prog Γ (fin Try.prog Try.f4 [] Q)
def plRhK0 : Nat → Option RPlan := fun | 19 => some ⟨[], [7, 8], .take true [0,1,2,3,4] (.one 5 (.take true [6] (.one 7 (.one 8 .done))))⟩ | 20 => some ⟨[], [19, 26, 27], .take true [0,1,2,3,4,5,6,7,8,9,10,11,12,13,14,15,16,17,18] (.three 19 24 25 (.take false [20,21,22,23] (.two 24 25 (.one 25 (.one 26 (.one 27 (.take false [28] .done)))) (.one 24 (.one 26 (.one 27 (.take false [28] .done)))))) (.two 19 25 (.take false [20,21,22,23] (.one 25 (.one 26 (.one 27 (.take false [28] .done))))) (.one 19 (.take false [20,21,22,23] (.one 26 (.one 27 (.take false [28] .done)))))) (.two 19 24 (.take false [20,21,22,23] (.one 24 (.one 26 (.one 27 (.take false [28] .done))))) (.one 19 (.take false [20,21,22,23] (.one 26 (.one 27 (.take false [28] .done)))))))⟩ | 30 => some ⟨[], [7, 8], .take true [0,1,2,3,4] (.one 5 (.take true [6] (.one 7 (.one 8 .done))))⟩ | _ => none
namespace X20
open Rep (Stp Wrd Cel Drv Plc RS Fm Ev put rN vN)
theorem enter_NC (n j : Nat) : (Rep.enter (Rep.begun (j + 1) 1 true) (vf n)).1 = rN n j := rfl
theorem gpsC_snoc (B : Nat → Nat) (n b : Nat) : gpsC (put B n b) (n + 1) = gpsC B n ++ [.gp b 0] := by
  unfold gpsC
  rw [List.range_succ, List.map_append]
  congr 1
  · refine List.map_congr_left fun i hi => ?_
    rw [Rep.put_ne _ _ _ (by have := List.mem_range.1 hi; omega)]
  · simp [Rep.put_at]
theorem wrF (o : Rep.Out) (s : Option Stp) : ∃ z ok, wrT o s = .tup [.agg [.sl 34 (Row.aggs frC o.2.1), .sl 5 (Row.aggs evC o.2.2)], .agg (stC z), bool ok] := by
  cases s with
  | none => exact ⟨⟨0, 0, 0⟩, false, rfl⟩
  | some s => exact ⟨s, true, rfl⟩
section
variable (Γ : Ctx) (ba : Nat) (acts : List T) (n : Nat) (Q : T → Obs → Glb → Prop)
theorem kp6s (U : List T) (hd : Value) (gl : Glb) (j : Nat) (hj : j < n) (hn : n ≤ 5)
    (nx : ∀ b t, gl t = none → gl b = none → b ≠ t → wRhK1 Γ Q [kRhK0 [1,1,1,1,0,1,0,0,1,0,0,1], .blk 1, kRhK0 [1,1,1,1,0,1,0,0,1,1], kRhK0 [1,1,1,1,0,1,0], .blk 0, kRhK0 [1,1,1,1,1]] ⟨frame 185 [(1, .sl 5 acts), (5, int (n : Nat)), (6, .ptr 0 ba 0), (7, int (j : Nat)), (8, .gp b 0)], [(ba, .cells [.slx 1 1 U hd]), (0, .room 1 25 U.length hd)], (setO (setO gl t (.cells (trC (fun _ => true) 0))) b (.cells (repC (Rep.begun (j + 1) 1 true) (Dt t))))⟩) :
    wRhK1 Γ Q [kRhK0 [1,1,1,1,0,1,0], .blk 0, kRhK0 [1,1,1,1,1]] ⟨frame 185 [(1, .sl 5 acts), (5, int (n : Nat)), (6, .ptr 0 ba 0), (7, int (j : Nat))], [(ba, .cells [.slx 1 1 U hd]), (0, .room 1 25 U.length hd)], gl⟩ := by
  have h1 : T.v (.int .u8 (IntKind.wrap .u8 (IntKind.wrap .i64 ((j : Int) + 1)))) = u8 (j + 1 : Nat) := congrArg u8 (by rw [wrap_i64 (by omega) (by omega), IntWalk.u8_in _ (by omega)]; omega)
  have hc := fun Q' => newG (j + 1) 1 true gl Q'
  let HH : Nat → Nat → Hint := fun | 8, 2 => .res (u8 (j + 1 : Nat)) | 8, 3 => .call false (Nat × Nat) (fun a => gl a.2 = none ∧ gl a.1 = none ∧ a.1 ≠ a.2) [] true (fun a => .gp a.1 0) (fun _ => []) (fun a => setO (setO gl a.2 (.cells (trC (fun _ => true) 0))) a.1 (.cells (repC (Rep.begun (j + 1) 1 true) (Dt a.2)))) | _, _ => .no
  exact run_sound ⟨HH, [((0, 9), ([1,5,6,7,8], 2)), ((0, 11), ([1,5,6], 2))], plRhK0⟩ 400 (by kernel_rfl) (Ys (decide ((↑j : Int) < (↑n : Int))) (fun Z0 => (Ya h1 (Ya (hc (HH 8 3).P fun b t h1 h2 h3 => ⟨(b, t), ⟨h1, h2, h3⟩, rfl, rfl, Nat.zero_le _, fun _ => rfl⟩) (fun (Z1 : Nat × Nat) => (fun (Z2 : gl Z1.snd = none ∧ gl Z1.fst = none ∧ Z1.fst ≠ Z1.snd) => (nx Z1.fst Z1.snd Z2.1 Z2.2.1 Z2.2.2)))))) (fun Z3 => (show wRhK1 Γ Q [kRhK0 [1,1,1,1,1]] (S.mk (frame 185 [(1, T.sl 5 acts), (5, int n), (6, T.ptr 0 ba 0)]) [(ba, Ob.cells [T.slx 1 1 U hd]), (0, Ob.room 1 25 (List.length U) hd)] gl) by exfalso; have a1 := of_decide_eq_false Z3; omega)))
theorem kp9 (U : List T) (hd : Value) (gl : Glb) (j b : Nat) (hn1 : 1 ≤ n) (hn : n ≤ 5) (F : List Fm) (Pn : Dr → Glb → Prop)
    (hc : ∀ Q' : T → Obs → Glb → Prop, (∀ D' gl', Pn D' gl' → Q' (outT F []) [] gl') → TCalls Try.prog 10 [.gp b 0, .agg (X5.viewC (vf n))] [] gl Q')
    (nx : ∀ D' gl', Pn D' gl' → wRhK1 Γ Q [kRhK0 [1,1,1,1,0,1,0,0,1,0,0,1,1], .blk 1, kRhK0 [1,1,1,1,0,1,0,0,1,1], kRhK0 [1,1,1,1,0,1,0], .blk 0, kRhK0 [1,1,1,1,1]] ⟨frame 185 [(1, .sl 5 acts), (5, int (n : Nat)), (6, .ptr 0 ba 0), (7, int (j : Nat)), (8, .gp b 0)], [(ba, .cells [.slx 1 1 U hd]), (0, .room 1 25 U.length hd)], gl'⟩) :
    wRhK1 Γ Q [kRhK0 [1,1,1,1,0,1,0,0,1,0,0,1], .blk 1, kRhK0 [1,1,1,1,0,1,0,0,1,1], kRhK0 [1,1,1,1,0,1,0], .blk 0, kRhK0 [1,1,1,1,1]] ⟨frame 185 [(1, .sl 5 acts), (5, int (n : Nat)), (6, .ptr 0 ba 0), (7, int (j : Nat)), (8, .gp b 0)], [(ba, .cells [.slx 1 1 U hd]), (0, .room 1 25 U.length hd)], gl⟩ := by
  have hf := fun Q' => lfirst_any n hn1 (by omega) Q'
  generalize vf n = v at *
  let HH : Nat → Nat → Hint := fun | 9, 2 => told (.agg (X5.viewC v)) [] [] | 9, 3 => .call false (Dr × Glb) (fun a => Pn a.1 a.2) [] true (fun _ => outT F []) (fun _ => []) (fun a => a.2) | _, _ => .no
  exact run_sound ⟨HH, [((0, 10), ([1,5,6,7,8], 2))], plRhK0⟩ 400 (by kernel_rfl) (Ya (hf (HH 9 2).P (told_post rfl)) (Yu (Ya (hc (HH 9 3).P fun D' gl' h => ⟨(D', gl'), h, rfl, rfl, Nat.zero_le _, fun _ => rfl⟩) (fun (Z0 : Dr × Glb) => (fun (Z1 : Pn Z0.fst Z0.snd) => (nx Z0.fst Z0.snd Z1))))))
theorem kp10 (U : List T) (hd : Value) (gl : Glb) (j b : Nat) (hj : j < 10) (hU : U.length ≤ 10)
    (nx : ∀ hd', wRhK1 Γ Q [kRhK0 [1,1,1,1,0,1,0], .blk 0, kRhK0 [1,1,1,1,1]] ⟨frame 185 [(1, .sl 5 acts), (5, int (n : Nat)), (6, .ptr 0 ba 0), (7, int (j + 1 : Nat))], [(ba, .cells [.slx 1 1 (U ++ [T.gp b 0]) hd']), (0, .room 1 25 (U ++ [T.gp b 0]).length hd')], gl⟩) :
    wRhK1 Γ Q [kRhK0 [1,1,1,1,0,1,0,0,1,0,0,1,1], .blk 1, kRhK0 [1,1,1,1,0,1,0,0,1,1], kRhK0 [1,1,1,1,0,1,0], .blk 0, kRhK0 [1,1,1,1,1]] ⟨frame 185 [(1, .sl 5 acts), (5, int (n : Nat)), (6, .ptr 0 ba 0), (7, int (j : Nat)), (8, .gp b 0)], [(ba, .cells [.slx 1 1 U hd]), (0, .room 1 25 U.length hd)], gl⟩ := by
  have h1 : T.v (.int .i64 (IntKind.wrap .i64 ((j : Int) + 1))) = int (j + 1 : Nat) := congrArg int (by rw [wrap_i64 (by omega) (by omega)]; omega)
  let HH : Nat → Nat → Hint := fun | 7, 1 => .res (int (j + 1 : Nat)) | _, _ => .no
  exact run_sound ⟨HH, [((2, 6), ([1,5,6,7], 2))], plRhK0⟩ 400 (by kernel_rfl) (Yb ba (Ya (Yb hd (Ye (List.length U))) (Ya (Ya (show (List.length U + 1) * nat_lit 8 ≤ 140737488355328 by simp only [maxLen]; omega) (show List.length U + 1 ≤ maxLen by simp only [maxLen]; omega)) (fun (Z0 : Value) => (Yk 1 ba (Ya h1 (nx Z0)))))))
theorem kp6e (U : List T) (hd : Value) (gl : Glb) (nx : wRhK1 Γ Q [kRhK0 [1,1,1,1,1]] ⟨frame 185 [(1, .sl 5 acts), (5, int (n : Nat)), (6, .ptr 0 ba 0)], [(ba, .cells [.slx 1 1 U hd]), (0, .room 1 25 U.length hd)], gl⟩) : wRhK1 Γ Q [kRhK0 [1,1,1,1,0,1,0], .blk 0, kRhK0 [1,1,1,1,1]] ⟨frame 185 [(1, .sl 5 acts), (5, int (n : Nat)), (6, .ptr 0 ba 0), (7, int (n : Nat))], [(ba, .cells [.slx 1 1 U hd]), (0, .room 1 25 U.length hd)], gl⟩ := by
  let HH : Nat → Nat → Hint := fun  | _, _ => .no
  exact run_sound ⟨HH, [((0, 11), ([1,5,6], 2)), ((0, 8), ([1,5,6,7], 2))], plRhK0⟩ 400 (by kernel_rfl) (Ys (decide ((↑n : Int) < (↑n : Int))) (fun Z0 => (show wRhK1 Γ Q [kRhK0 [1,1,1,1,0,1,0,0,1,0,0], It.blk 1, kRhK0 [1,1,1,1,0,1,0,0,1,1], kRhK0 [1,1,1,1,0,1,0], It.blk 0, kRhK0 [1,1,1,1,1]] (S.mk (frame 185 [(1, T.sl 5 acts), (5, int n), (6, T.ptr 0 ba 0), (7, int n)]) [(ba, Ob.cells [T.slx 1 1 U hd]), (0, Ob.room 1 25 (List.length U) hd)] gl) by exfalso; have a1 := of_decide_eq_true Z0; omega)) (fun Z1 => nx))
theorem kpMake (hn1 : 1 ≤ n) (hn : n ≤ 5) (nx : ∀ B DD hd gl, Lot n B (rN n) DD gl → wRhK1 Γ Q [kRhK0 [1,1,1,1,1]] ⟨frame 185 [(1, .sl 5 acts), (5, int (n : Nat)), (6, .ptr 0 ba 0)], [(ba, .cells [.slx 1 1 (gpsC B n) hd]), (0, .room 1 25 (gpsC B n).length hd)], gl⟩) : ∀ (m j : Nat) (B : Nat → Nat) (DD : Nat → Dr) (hd : Value) (gl : Glb), j + m = n → Lot j B (rN n) DD gl → wRhK1 Γ Q [kRhK0 [1,1,1,1,0,1,0], .blk 0, kRhK0 [1,1,1,1,1]] ⟨frame 185 [(1, .sl 5 acts), (5, int (n : Nat)), (6, .ptr 0 ba 0), (7, int (j : Nat))], [(ba, .cells [.slx 1 1 (gpsC B j) hd]), (0, .room 1 25 (gpsC B j).length hd)], gl⟩ := by
  intro m
  induction m with
  | zero =>
    intro j B DD hd gl hj lot
    have hj : j = n := by omega
    subst hj
    exact kp6e Γ ba acts j Q (gpsC B j) hd gl (nx B DD hd gl lot)
  | succ m ih =>
    intro j B DD hd gl hj lot
    refine kp6s Γ ba acts n Q (gpsC B j) hd gl j (by omega) hn fun b t ht hb hbt => ?_
    have l2 := lot.new (j + 1) 1 true ht hb hbt
    have hc := fun Q' => lot_enter l2 (Nat.lt_succ_self j) (vf n) (show (X5.firstM n).length ≤ 1000000 by rw [X5.firstM_len]; omega) Q'
    rw [Rep.put_at, Rep.put_at, enter_NC, Rep.put_put, Rep.put_self] at hc
    refine kp9 Γ ba acts n Q (gpsC B j) hd _ j b hn1 hn _ (fun D' gl' => Lot (j + 1) (put B j b) (rN n) (put (put DD j (Dt t)) j D') gl') (fun Q' hq => hc Q' fun D' gl' h => hq D' gl' h) fun D' gl' h => ?_
    refine kp10 Γ ba acts n Q (gpsC B j) hd gl' j b (by omega) (by rw [gpsC_len]; omega) fun hd' => ?_
    rw [← gpsC_snoc]
    exact ih (j + 1) (put B j b) _ hd' gl' (by omega) h
theorem kp11 (U : List T) (gl : Glb) (nx : ∀ bw, wRhK1 Γ Q [kRhK0 [1,1,1,1,1,1,1,0,1,0], .blk 2, kRhK0 [1,1,1,1,1,1,1,1]] ⟨frame 185 [(1, .sl 5 acts), (5, int (n : Nat)), (6, .ptr 0 ba 0), (9, .ptr 1 bw 0), (10, .fn 17 [.ptr 1 bw 0, .ptr 0 ba 0]), (11, int (0 : Nat))], [(ba, .cells [.sl 1 U]), (bw, .cells [.v nilS])], gl⟩) :
    wRhK1 Γ Q [kRhK0 [1,1,1,1,1]] ⟨frame 185 [(1, .sl 5 acts), (5, int (n : Nat)), (6, .ptr 0 ba 0)], [(ba, .cells [.sl 1 U])], gl⟩ := by
  let HH : Nat → Nat → Hint := fun  | _, _ => .no
  exact run_sound ⟨HH, [((2, 14), ([1,5,6,9,10,11], 2))], plRhK0⟩ 400 (by kernel_rfl) (fun (Z0 : Nat) => (nx Z0))
end
theorem fnC {g : FuncId} {i j i' j' b c : Nat} (M : Pm) (v : Value) (h : Rel M (.fn g [.ptr i b 0, .ptr j c 0]) v) : Rel M (.fn g [.ptr i' b 0, .ptr j' c 0]) v := by
  simp only [Rel, RelL] at h ⊢
  exact h
theorem imp_bw (acts U : List T) (n bw ba : Nat) (gl : Glb) : Imp (frame 185 [(1, .sl 5 acts), (5, int (n : Nat)), (6, .ptr 0 ba 0), (9, .ptr 1 bw 0), (10, .fn 17 [.ptr 1 bw 0, .ptr 0 ba 0]), (11, int (0 : Nat))]) [(ba, .cells [.sl 1 U]), (bw, .cells [.v nilS])] gl (frame 185 [(1, .sl 5 acts), (5, int (n : Nat)), (6, .ptr 1 ba 0), (9, .ptr 0 bw 0), (10, .fn 17 [.ptr 0 bw 0, .ptr 1 ba 0]), (11, int (0 : Nat))]) (obsC bw ba U [] nilS) gl := by
  refine (Imp.room 34 70).trans ?_
  refine (Imp.cell 34 2 (i := 1) (j := 0) (b := bw) (cs := [.v nilS]) rfl rfl).trans ?_
  refine (Imp.slotR (j := 6) (t := .ptr 0 ba 0) (t' := .ptr 1 ba 0) (by kernel_rfl) ptrC).trans ?_
  refine (Imp.slotR (j := 9) (t := .ptr 1 bw 0) (t' := .ptr 0 bw 0) (by kernel_rfl) ptrC).trans ?_
  refine (Imp.slotE (ts2 := frame 185 [(1, .sl 5 acts), (5, int (n : Nat)), (6, .ptr 1 ba 0), (9, .ptr 0 bw 0), (10, .fn 17 [.ptr 0 bw 0, .ptr 1 ba 0]), (11, int (0 : Nat))]) (j := 10) (t := .fn 17 [.ptr 1 bw 0, .ptr 0 ba 0]) (t' := .fn 17 [.ptr 0 bw 0, .ptr 1 ba 0]) (by kernel_rfl) fnC (by kernel_rfl)).trans ?_
  exact Imp.sel [1,0,2] (by decide) rfl
theorem imp_all {ts : List T} (U : List T) (ba : Nat) (hd : Value) (gl : Glb) (x : Nat × Ob) : Imp ts [(ba, .cells [.slx 1 1 U hd]), x] gl ts [(ba, .cells [.sl 1 U])] gl :=
  (Imp.weak (i := 0) rfl).trans (Imp.take 1)
section
variable (Γ : Ctx) (bw ba : Nat) (n : Nat) (Q : T → Obs → Glb → Prop) (B : Nat → Nat)
theorem comeH {w b m most : Nat} (hn : n ≤ 5) (hw : w ≤ 60) (hb : b ≤ 900000) (hm : most ≤ 1000000) {R : Nat → RS} {DD : Nat → Dr} {W : List Fm} {hd : Value} {gl : Glb} (law : CW n w b m R W) (lot : Lot n B R DD gl) :
    ∀ Q' : T → Obs → Glb → Prop, (∀ W' hw' gl', (∃ R' DD' W2, W' = Row.aggs frC W2 ∧ CW n w b m R' W2 ∧ (b ≤ most → W2 = []) ∧ Lot n B R' DD' gl') → Q' (.tup []) (obsC bw ba (gpsC B n) W' hw') gl') → TCalls Try.prog 17 [int (most : Nat), .ptr 0 bw 0, .ptr 1 ba 0] (obsC bw ba (gpsC B n) (Row.aggs frC W) hd) gl Q' :=
  fun Q' hq => come_any n w b m hn hw hb most hm B bw ba R DD W hd gl law lot Q' fun R' DD' W2 _ _ a1 a2 a3 => hq _ _ _ ⟨R', DD', W2, rfl, a1, a2, a3⟩
theorem ck_loop (hn1 : 1 ≤ n) (hn : n ≤ 5) (hQ : ∀ gl, Q (bool true) [] gl) {w b m : Nat} {R : Nat → RS} {DD : Nat → Dr} (hw : Value) (gl : Glb) (law : CW n w b m R []) (lot : Lot n B R DD gl) : ∀ z k, k + z = 6 → wRhK1 Γ Q [kRhK0 [1,1,1,1,1,1,1,1,1,1,0,1,0], .blk 8, kRhK0 [1,1,1,1,1,1,1,1,1,1,1]] ⟨frame 185 [(5, int (n : Nat)), (6, .ptr 1 ba 0), (19, u8 (k : Nat))], obsC bw ba (gpsC B n) [] hw, gl⟩ := by
  intro z
  induction z with
  | zero => intro k hk; have hk : k = 6 := by omega
            subst hk
            exact ckEnd Γ bw ba (gpsC B n) n [] hw gl Q (hQ gl)
  | succ z ih =>
    intro k hk
    have hk6 : k < 6 := by omega
    obtain ⟨w0, hw0⟩ : ∃ w0, w0 = ((R 0).P k).c.w := ⟨_, rfl⟩
    have hcell : ∀ i, i < n → ((R i).P k).c = ⟨w0, 1⟩ ∧ ((R i).P k).dr = none ∧ (R i).has k = true := fun i hi => by
      obtain ⟨a1, a2, a3, a4⟩ := law.ci.rest (by omega) hi hk6
      obtain ⟨_, b2, _⟩ := law.ci.rest (by omega) (show 0 < n by omega) hk6
      refine ⟨?_, a1, a4⟩
      rw [a3, hw0]
      cases hc : ((R 0).P k).c with
      | mk w s => rw [hc] at b2; dsimp only at b2; rw [b2]
    have cl : ∀ i, i < n → TCalls Try.prog 13 [.gp (B i) 0, u8 (k : Nat)] [] gl (callPost (toldG (.tup [.agg (clC ⟨w0, 1⟩), bool true]) [] [] gl)) := fun i hi => by
      refine lot_cell lot hi k _ ?_
      unfold cellOf
      rw [if_pos hk6, (hcell i hi).1, (hcell i hi).2.2, decide_eq_true hk6]
      exact toldG_post rfl
    have dv : ∀ i, i < n → TCalls Try.prog 18 [.gp (B i) 0, u8 (k : Nat)] [] gl (callPost (toldG (.tup [.agg [u32 0, u8 0, u8 0], bool false, bool false]) [] [] gl)) := fun i hi => by
      refine lot_driving lot hi k _ ?_
      unfold drvT
      rw [if_pos hk6, (hcell i hi).2.1]
      exact toldG_post rfl
    refine ckKey Γ bw ba (gpsC B n) n [] hw gl Q k hk6 (B 0) (gpsC_at (by omega)) ⟨w0, 1⟩ (cl 0 (by omega)) fun bo => ?_
    have inner : ∀ z i, i + z = n → wRhK1 Γ Q [kRhK0 [1,1,1,1,1,1,1,1,1,1,0,1,0,0,1,0,0,1,1,0], .blk 10, .blk 9, kRhK0 [1,1,1,1,1,1,1,1,1,1,0,1,0,0,1,1], kRhK0 [1,1,1,1,1,1,1,1,1,1,0,1,0], .blk 8, kRhK0 [1,1,1,1,1,1,1,1,1,1,1]] ⟨frame 185 [(5, int (n : Nat)), (6, .ptr 1 ba 0), (19, u8 (k : Nat)), (20, .ptr 3 bo 0), (22, int (i : Nat))], obsC bw ba (gpsC B n) [] hw ++ [(bo, .cells (clC ⟨w0, 1⟩))], gl⟩ := by
      intro z
      induction z with
      | zero => intro i hi; have hi : i = n := by omega
                subst hi
                exact ckUp Γ bw ba (gpsC B i) i [] hw gl Q k hk6 bo (clC ⟨w0, 1⟩) (ih (k + 1) (by omega))
      | succ z ih2 => intro i hi
                      exact ckOne Γ bw ba (gpsC B n) n i [] hw gl Q k bo (by omega) hn (B i) (gpsC_at (by omega)) w0 (cl i (by omega)) (dv i (by omega)) (ih2 (i + 1) (by omega))
    exact inner n 0 (Nat.zero_add _)
theorem ca_turns (hn1 : 1 ≤ n) (hn : n ≤ 5) (hQ : ∀ gl, Q (bool true) [] gl) : ∀ z t R DD hw gl, t + z = 12 → CW n 60 0 (420 + 35 * t) R [] → Lot n B R DD gl → wRhK1 Γ Q [kRhK0 [1,1,1,1,1,1,1,1,1,0,1,0], .blk 4, kRhK0 [1,1,1,1,1,1,1,1,1,1]] ⟨frame 185 [(5, int (n : Nat)), (6, .ptr 1 ba 0), (9, .ptr 0 bw 0), (10, .fn 17 [.ptr 0 bw 0, .ptr 1 ba 0]), (17, int (t : Nat))], obsC bw ba (gpsC B n) [] hw, gl⟩ := by
  intro z
  induction z with
  | zero => intro t R DD hw gl ht law lot; have ht : t = 12 := by omega
            subst ht
            exact caOut Γ bw ba (gpsC B n) n [] hw gl Q (ck_loop Γ bw ba n Q B hn1 hn hQ hw gl law lot 6 0 rfl)
  | succ z ih =>
    intro t R DD hw gl ht law lot
    refine caTurn Γ bw ba (gpsC B n) n [] hw gl Q t (by omega) ?_
    have inner : ∀ z i R DD W hw gl, i + z = n → CW n 60 (1632 * i) (420 + 35 * t + 7 * i) R W → Lot n B R DD gl → wRhK1 Γ Q [kRhK0 [1,1,1,1,1,1,1,1,1,0,1,0,0,1,0,0,0,1,0], .blk 6, kRhK0 [1,1,1,1,1,1,1,1,1,0,1,0,0,1,0,0,1], .blk 5, kRhK0 [1,1,1,1,1,1,1,1,1,0,1,0,0,1,1], kRhK0 [1,1,1,1,1,1,1,1,1,0,1,0], .blk 4, kRhK0 [1,1,1,1,1,1,1,1,1,1]] ⟨frame 185 [(5, int (n : Nat)), (6, .ptr 1 ba 0), (9, .ptr 0 bw 0), (10, .fn 17 [.ptr 0 bw 0, .ptr 1 ba 0]), (17, int (t : Nat)), (18, int (i : Nat))], obsC bw ba (gpsC B n) (Row.aggs frC W) hw, gl⟩ := by
      intro z
      induction z with
      | zero =>
        intro i R DD W hw gl hi law lot
        have hi : i = n := by omega
        subst hi
        refine caNext Γ bw ba (gpsC B i) i (Row.aggs frC W) hw gl Q t (by omega) _ (comeH bw ba i B hn (by decide) (by omega) (by decide) law lot) fun W' hw' gl' h => ?_
        obtain ⟨R', DD', W2, rfl, a1, a2, a3⟩ := h
        have e := a2 (by omega)
        subst e
        exact ih (t + 1) R' DD' hw' gl' (by omega) (a1.nil.mono (Nat.le_refl _) (Nat.le_refl _) (by omega)) a3
      | succ z ih2 =>
        intro i R DD W hw gl hi law lot
        have hin : i < n := by omega
        have hlen := law.ci.len hn
        have law' := law.tick hn hin 2 3
        have hF := (tick_len (R i) 2 3 true (law.oth hin)).1
        refine caOne Γ bw ba (gpsC B n) n i (Row.aggs frC W) hw gl Q t hin hn (B i) (gpsC_at hin) (Rep.tick (R i) 2 3 true).2.1 (Rep.tick (R i) 2 3 true).2.2 (fun D' gl' => Lot n B (put R i (Rep.tick (R i) 2 3 true).1) (put DD i D') gl')
          (by rw [Row.aggs_len]; omega) (by omega) (fun Q' hq => lot_tick lot hin 2 3 true (law.lim hn hin) (law.oth hin) ((law.fit i hin).bd (by omega)) (Nat.le_trans (law.fit i hin).ca (by omega)) Q' fun D' gl' h => hq D' gl' h) fun D' gl' hw' h => ?_
        rw [show Row.aggs frC W ++ Row.aggs frC (Rep.tick (R i) 2 3 true).2.1 = Row.aggs frC (W ++ (Rep.tick (R i) 2 3 true).2.1) from (List.map_append ..).symm]
        exact ih2 (i + 1) _ _ _ hw' gl' (by omega) (law'.mono (Nat.le_refl _) (by omega) (by omega)) h
    exact inner n 0 R DD [] hw gl (Nat.zero_add _) (law.mono (Nat.le_refl _) (by omega) (by omega)) lot
theorem ca_loop (hn1 : 1 ≤ n) (hn : n ≤ 5) (hQ : ∀ gl, Q (bool true) [] gl) (L : List Cb) (hL : ∀ z ∈ L, z.node < 256) : ∀ z i R DD W hw gl, i + z = 60 → CW n i (1632 * i) (7 * i) R W → Lot n B R DD gl → wRhK1 Γ Q [kRhK0 [1,1,1,1,1,1,1,0,1,0], .blk 2, kRhK0 [1,1,1,1,1,1,1,1]] ⟨frame 185 [(1, .sl 5 (Row.aggs cbC L)), (5, int (n : Nat)), (6, .ptr 1 ba 0), (9, .ptr 0 bw 0), (10, .fn 17 [.ptr 0 bw 0, .ptr 1 ba 0]), (11, int (i : Nat))], obsC bw ba (gpsC B n) (Row.aggs frC W) hw, gl⟩ := by
  have atEnd : ∀ i R DD W hw gl, i ≤ 60 → CW n i (1632 * i) (7 * i) R W → Lot n B R DD gl → wRhK1 Γ Q [kRhK0 [1,1,1,1,1,1,1,1]] ⟨frame 185 [(5, int (n : Nat)), (6, .ptr 1 ba 0), (9, .ptr 0 bw 0), (10, .fn 17 [.ptr 0 bw 0, .ptr 1 ba 0])], obsC bw ba (gpsC B n) (Row.aggs frC W) hw, gl⟩ := fun i R DD W hw gl hi law lot => by
    refine caAll Γ bw ba (gpsC B n) n (Row.aggs frC W) hw gl Q _ (comeH bw ba n B hn hi (by omega) (by decide) law lot) fun W' hw' gl' h => ?_
    obtain ⟨R', DD', W2, rfl, a1, a2, a3⟩ := h
    have e := a2 (by omega)
    subst e
    exact ca_turns Γ bw ba n Q B hn1 hn hQ 12 0 R' DD' hw' gl' rfl (a1.nil.mono hi (Nat.le_refl _) (by omega)) a3
  intro z
  induction z with
  | zero =>
    intro i R DD W hw gl hi law lot
    exact caEnd Γ bw ba (Row.aggs cbC L) (gpsC B n) n i (Row.aggs frC W) hw gl Q (.inr (by omega)) (atEnd i R DD W hw gl (by omega) law lot)
  | succ z ih =>
    intro i R DD W hw gl hi law lot
    by_cases hl : i < L.length
    rotate_left
    · exact caEnd Γ bw ba (Row.aggs cbC L) (gpsC B n) n i (Row.aggs frC W) hw gl Q (.inl (by rw [Row.aggs_len]; omega)) (atEnd i R DD W hw gl (by omega) law lot)
    obtain ⟨x, hx⟩ : ∃ x, L[i]? = some x := ⟨_, List.getElem?_eq_getElem hl⟩
    have h1 := hL x (List.mem_of_getElem? hx)
    have hwho : x.node % n < n := Nat.mod_lt _ (by omega)
    have hlen := law.ci.len hn
    have come : ∀ bx R DD W hw gl, CW n (i + 1) (1632 * (i + 1)) (7 * (i + 1)) R W → Lot n B R DD gl → wRhK1 Γ Q [kRhK0 [1,1,1,1,1,1,1,0,1,0,0,1,0,0,1,1,1], .blk 3, kRhK0 [1,1,1,1,1,1,1,0,1,0,0,1,1], kRhK0 [1,1,1,1,1,1,1,0,1,0], .blk 2, kRhK0 [1,1,1,1,1,1,1,1]] ⟨frame 185 [(1, .sl 5 (Row.aggs cbC L)), (5, int (n : Nat)), (6, .ptr 1 ba 0), (9, .ptr 0 bw 0), (10, .fn 17 [.ptr 0 bw 0, .ptr 1 ba 0]), (11, int (i : Nat)), (12, .ptr 3 bx 0)], obsC bw ba (gpsC B n) (Row.aggs frC W) hw ++ [(bx, .cells (cbC x))], gl⟩ := fun bx R DD W hw gl law lot => by
      refine caCome Γ bw ba (Row.aggs cbC L) (gpsC B n) n i (Row.aggs frC W) hw gl Q x (by omega) bx _ (comeH bw ba n B hn (by omega) (by omega) (by omega) law lot) fun W' hw' gl' h => ?_
      obtain ⟨R', DD', W2, rfl, a1, _, a3⟩ := h
      exact ih (i + 1) R' DD' W2 hw' gl' (by omega) a1 a3
    refine caAct Γ bw ba (Row.aggs cbC L) (gpsC B n) n i (Row.aggs frC W) hw gl Q x (Row.aggs_at hx) (by omega) hn hn1 h1 (fun bx _ => ?_) fun bx _ => ?_
    · have law' := law.tick hn hwho 2 3
      have hF := (tick_len (R (x.node % n)) 2 3 true (law.oth hwho)).1
      refine caTick Γ bw ba (Row.aggs cbC L) (gpsC B n) n i (Row.aggs frC W) hw gl Q x bx (x.node % n) (B (x.node % n)) (gpsC_at hwho) (Rep.tick (R (x.node % n)) 2 3 true).2.1 (Rep.tick (R (x.node % n)) 2 3 true).2.2 (fun D' gl' => Lot n B (put R (x.node % n) (Rep.tick (R (x.node % n)) 2 3 true).1) (put DD (x.node % n) D') gl')
        (by rw [Row.aggs_len]; omega) (by omega) (fun Q' hq => lot_tick lot hwho 2 3 true (law.lim hn hwho) (law.oth hwho) ((law.fit _ hwho).bd (by omega)) (Nat.le_trans (law.fit _ hwho).ca (by omega)) Q' fun D' gl' h => hq D' gl' h) fun D' gl' hw' h => ?_
      rw [show Row.aggs frC W ++ Row.aggs frC (Rep.tick (R (x.node % n)) 2 3 true).2.1 = Row.aggs frC (W ++ (Rep.tick (R (x.node % n)) 2 3 true).2.1) from (List.map_append ..).symm]
      exact come bx _ _ _ hw' gl' (law'.mono (by omega) (by omega) (by omega)) h
    · have hk6 : x.key % 6 < 6 := Nat.mod_lt _ (by decide)
      obtain ⟨t8, ht8⟩ : ∃ t8, t8 = x.t.extract 0 (min x.t.size 8) := ⟨_, rfl⟩
      obtain ⟨rmw, hrm⟩ : ∃ b, b = decide (x.what % 4 = 1) := ⟨_, rfl⟩
      have law' := law.write hn hwho hk6 true t8 rmw
      have hF := (write_len (R (x.node % n)) (x.key % 6) true t8 rmw (law.oth hwho)).1
      have hc := fun Q' => lot_write lot hwho (x.key % 6) true t8 rmw (law.lim hn hwho) (law.oth hwho) (fun _ => (law.fit _ hwho).st _) Q'
      obtain ⟨s, ok, hs⟩ := wrF (Rep.write (R (x.node % n)) (x.key % 6) true t8 rmw).1 (Rep.write (R (x.node % n)) (x.key % 6) true t8 rmw).2
      rw [hs] at hc
      refine caWrite Γ bw ba (Row.aggs cbC L) (gpsC B n) n i (Row.aggs frC W) hw gl Q x bx (x.node % n) (B (x.node % n)) (gpsC_at hwho) ok s _ _ (fun D' gl' => Lot n B (put R (x.node % n) (Rep.write (R (x.node % n)) (x.key % 6) true t8 rmw).1.1) (put DD (x.node % n) D') gl') t8 rmw ht8 hrm (fun Q' hq => hc Q' fun D' gl' h => hq D' gl' h) fun bo D' gl' h => ?_
      refine caPut Γ bw ba (Row.aggs cbC L) (gpsC B n) n i (Row.aggs frC W) hw gl' Q x bx bo _ _ (by rw [Row.aggs_len]; omega) (by rw [Row.aggs_len]; omega) fun hw' => ?_
      rw [show Row.aggs frC W ++ Row.aggs frC (Rep.write (R (x.node % n)) (x.key % 6) true t8 rmw).1.2.1 = Row.aggs frC (W ++ (Rep.write (R (x.node % n)) (x.key % 6) true t8 rmw).1.2.1) from (List.map_append ..).symm]
      exact come bx _ _ _ hw' gl' (law'.mono (Nat.le_refl _) (by omega) (by omega)) h
end
theorem calm_any (nodes : Nat) (h0 : nodes < 256) (L : List Cb) (hL : ∀ z ∈ L, z.node < 256) (Q : T → Obs → Glb → Prop) (hQ : ∀ gl, Q (bool true) [] gl) : TCalls Try.prog 4 [u8 nodes, .sl 5 (Row.aggs cbC L)] [] none_ Q := by
  obtain ⟨n, hn⟩ : ∃ n, n = 1 + nodes % 5 := ⟨_, rfl⟩
  have hn1 : 1 ≤ n := by omega
  have hn5 : n ≤ 5 := by omega
  have lp : ∀ Γ ba gl, wRhK1 Γ Q [kRhK0 [1,1,1,1,0,1,0], .blk 0, kRhK0 [1,1,1,1,1]] ⟨frame 185 [(1, .sl 5 (Row.aggs cbC L)), (5, int (n : Nat)), (6, .ptr 0 ba 0), (7, int (0 : Nat))], [(ba, .cells [.v nilS])], gl⟩ := fun Γ ba gl => by
    have l0 := kpMake Γ ba (Row.aggs cbC L) n Q hn1 hn5 (fun B DD hd gl lot => ?_) n 0 (fun _ => 0) (fun _ => Dt 0) nilS gl (Nat.zero_add n) (Lot.nil _ _ _ _)
    · exact TWk.imp l0 ((Imp.room 1 25).trans (Imp.cell 1 1 (i := 0) (j := 0) (b := ba) (cs := [.v nilS]) rfl rfl))
    · refine TWk.imp (kp11 Γ ba (Row.aggs cbC L) n Q (gpsC B n) gl fun bw => ?_) (imp_all (gpsC B n) ba hd gl _)
      exact TWk.imp (ca_loop Γ bw ba n Q B hn1 hn5 hQ L hL 60 0 (rN n) DD [] nilS gl rfl (CW.start hn1 hn5) lot) (imp_bw (Row.aggs cbC L) (gpsC B n) n bw ba gl)
  have e1 : T.v (.int .i64 (IntKind.wrap .i64 (1 + Int.tmod (IntKind.wrap .i64 (nodes : Int)) 5))) = int (n : Nat) := congrArg int (by
    rw [wrap_i64 (x := (nodes : Int)) (by omega) (by omega), show Int.tmod (nodes : Int) 5 = ((nodes % 5 : Nat) : Int) from IntWalk.up_tmod rfl rfl, wrap_i64 (by omega) (by omega)]; omega)
  clear hQ hL
  generalize Row.aggs cbC L = acts at *
  refine TCalls.of Try.func4 rfl (CanCall.of Try.func4 rfl (by decide)) [] fun Γ => ?_
  let HH : Nat → Nat → Hint := fun | 1, 0 => .call false Glb (fun _ => True) [] true (fun _ => bool true) (fun _ => []) (fun a => a) | 3, 3 => .res (int (n : Nat)) | _, _ => .no
  exact run_sound ⟨HH, [((2, 6), ([1,5,6,7], 1))], plRhK0⟩ 400 (by kernel_rfl) (Ya (speaks_any none_ (HH 1 0).P fun gl' => ⟨gl', trivial, rfl, rfl, Nat.zero_le _, fun _ => rfl⟩) (fun (Z0 : Glb) => (fun (Z1 : True) => (Ya e1 (fun (Z2 : Nat) => (lp Γ Z2 Z0))))))
end X20
end Go.Proofs.Ytafcbipmmjegcaa.Vm
