/- Texts of this claim: RgX, RpQ, RgY. -/
import Derived.Test.YtafcbipmmjegcaaMg15
import Derived.Test.YtafcbipmmjegcaaMg37
import Derived.Test.YtafcbipmmjegcaaMg26
namespace Go.Proofs.Ytafcbipmmjegcaa.Vm
open Go Go.RowKit
set_option maxRecDepth 100000
noncomputable abbrev kRgX0 (l : List Nat) : It := .code (sub (bd Try.f3) l)
noncomputable abbrev wRgX1 (Γ : Ctx) (Q : T → Obs → Glb → Prop) : List It → S → Prop := TWk Try.prog Γ (fin Try.prog Try.f3 [] Q)
def plRgX0 : Nat → Option RPlan := fun | 32 => some ⟨[], [0, 4, 9], .take false [1,2,3,5,6,7,8] (.one 0 (.one 4 (.one 9 (.take false [10] .done))))⟩ | 35 => some ⟨[], [5, 6], .take true [0,1,2,3,4] (.one 5 (.one 6 .done))⟩ | 41 => some ⟨[], [17, 24, 25], .take true [0,1,2,3,4,5,6,7,8,9,10,11,12,13,14,15,16] (.three 17 22 23 (.take false [18,19,20,21] (.two 22 23 (.one 23 (.one 24 (.one 25 (.take false [26] .done)))) (.one 22 (.one 24 (.one 25 (.take false [26] .done)))))) (.two 17 23 (.take false [18,19,20,21] (.one 23 (.one 24 (.one 25 (.take false [26] .done))))) (.one 17 (.take false [18,19,20,21] (.one 24 (.one 25 (.take false [26] .done)))))) (.two 17 22 (.take false [18,19,20,21] (.one 22 (.one 24 (.one 25 (.take false [26] .done))))) (.one 17 (.take false [18,19,20,21] (.one 24 (.one 25 (.take false [26] .done)))))))⟩ | 43 => some ⟨[], [7], .take true [0,1,2,3,4,5,6] (.one 7 .done)⟩ | 53 => some ⟨[], [11], .take true [0,1,2,3,4,5,6,7] (.one 8 (.one 9 (.take true [10] (.one 11 .done))))⟩ | 61 => some ⟨[], [20], .take true [0,1,2,3,4,5,6,7,8,9,10,11,12,13,14,15,16] (.one 17 (.one 18 (.take true [19] (.one 20 .done))))⟩ | 62 => some ⟨[], [4], .take true [0,1,2,3] (.one 4 (.take false [5] .done))⟩ | _ => none
namespace X20
open Rep (Stp Wrd Cel Drv Plc RS Fm Ev put)
open Rep (rN vN)
theorem enter_N (n j : Nat) : (Rep.enter (Rep.begun (j + 1) 1 true) (vf n)).1 = rN n j := rfl
theorem gps_snoc (B : Nat → Nat) (n b : Nat) : gps (put B n b) (n + 1) = gps B n ++ [.gp b 0] := by
  unfold gps
  rw [List.range_succ, List.map_append]
  congr 1
  · refine List.map_congr_left fun i hi => ?_
    rw [Rep.put_ne _ _ _ (by have := List.mem_range.1 hi; omega)]
  · simp [Rep.put_at]
section
variable (Γ : Ctx) (acts : List T) (n : Nat) (Q : T → Obs → Glb → Prop)
theorem gp6s (U : List T) (hd : Value) (gl : Glb) (j : Nat) (hj : j < n) (hn : n ≤ 4)
    (nx : ∀ b t, gl t = none → gl b = none → b ≠ t → wRgX1 Γ Q [kRgX0 [1,1,1,1,0,1,0,0,1,0,0,1], .blk 1, kRgX0 [1,1,1,1,0,1,0,0,1,1], kRgX0 [1,1,1,1,0,1,0], .blk 0, kRgX0 [1,1,1,1,1]] ⟨frame 297 [(1, .sl 5 acts), (5, int n), (6, .slx 1 0 U hd), (7, int j), (8, .gp b 0)], [(0, .room 1 25 U.length hd)], (setO (setO gl t (.cells (trC (fun _ => true) 0))) b (.cells (repC (Rep.begun (j + 1) 1 true) (Dt t))))⟩) :
    wRgX1 Γ Q [kRgX0 [1,1,1,1,0,1,0], .blk 0, kRgX0 [1,1,1,1,1]] ⟨frame 297 [(1, .sl 5 acts), (5, int n), (6, .slx 1 0 U hd), (7, int j)], [(0, .room 1 25 U.length hd)], gl⟩ := by
  have h1 : T.v (.int .u8 (IntKind.wrap .u8 (IntKind.wrap .i64 ((j : Int) + 1)))) = u8 (j + 1 : Nat) := congrArg u8 (by rw [wrap_i64 (by omega) (by omega), IntWalk.u8_in _ (by omega)]; omega)
  have hc := fun Q' => newG (j + 1) 1 true gl Q'
  let HH : Nat → Nat → Hint := fun | 8, 2 => .res (u8 (j + 1 : Nat)) | 8, 3 => .call false (Nat × Nat) (fun a => gl a.2 = none ∧ gl a.1 = none ∧ a.1 ≠ a.2) [] true (fun a => .gp a.1 0) (fun _ => []) (fun a => setO (setO gl a.2 (.cells (trC (fun _ => true) 0))) a.1 (.cells (repC (Rep.begun (j + 1) 1 true) (Dt a.2)))) | _, _ => .no
  exact run_sound ⟨HH, [((0, 9), ([1,5,6,7,8], 1)), ((0, 11), ([1,5,6], 1))], plRgX0⟩ 400 (by kernel_rfl) (Ys (decide ((↑j : Int) < (↑n : Int))) (fun Z0 => (Ya h1 (Ya (hc (HH 8 3).P fun b t h1 h2 h3 => ⟨(b, t), ⟨h1, h2, h3⟩, rfl, rfl, Nat.zero_le _, fun _ => rfl⟩) (fun (Z1 : Nat × Nat) => (fun (Z2 : gl Z1.snd = none ∧ gl Z1.fst = none ∧ Z1.fst ≠ Z1.snd) => (nx Z1.fst Z1.snd Z2.1 Z2.2.1 Z2.2.2)))))) (fun Z3 => (show wRgX1 Γ Q [kRgX0 [1,1,1,1,1]] (S.mk (frame 297 [(1, T.sl 5 acts), (5, int n), (6, T.slx 1 0 U hd)]) [(0, Ob.room 1 25 (List.length U) hd)] gl) by exfalso; have a1 := of_decide_eq_false Z3; omega)))
theorem gp9 (U : List T) (hd : Value) (gl : Glb) (j b : Nat) (hn1 : 1 ≤ n) (hn : n ≤ 4) (F : List Fm) (Pn : Dr → Glb → Prop)
    (hc : ∀ Q' : T → Obs → Glb → Prop, (∀ D' gl', Pn D' gl' → Q' (outT F []) [] gl') → TCalls Try.prog 10 [.gp b 0, .agg (X5.viewC (vf n))] [] gl Q')
    (nx : ∀ D' gl', Pn D' gl' → wRgX1 Γ Q [kRgX0 [1,1,1,1,0,1,0,0,1,0,0,1,1], .blk 1, kRgX0 [1,1,1,1,0,1,0,0,1,1], kRgX0 [1,1,1,1,0,1,0], .blk 0, kRgX0 [1,1,1,1,1]] ⟨frame 297 [(1, .sl 5 acts), (5, int n), (6, .slx 1 0 U hd), (7, int j), (8, .gp b 0)], [(0, .room 1 25 U.length hd)], gl'⟩) :
    wRgX1 Γ Q [kRgX0 [1,1,1,1,0,1,0,0,1,0,0,1], .blk 1, kRgX0 [1,1,1,1,0,1,0,0,1,1], kRgX0 [1,1,1,1,0,1,0], .blk 0, kRgX0 [1,1,1,1,1]] ⟨frame 297 [(1, .sl 5 acts), (5, int n), (6, .slx 1 0 U hd), (7, int j), (8, .gp b 0)], [(0, .room 1 25 U.length hd)], gl⟩ := by
  have hf := fun Q' => lfirst_any n hn1 (by omega) Q'
  generalize vf n = v at *
  let HH : Nat → Nat → Hint := fun | 9, 2 => told (.agg (X5.viewC v)) [] [] | 9, 3 => .call false (Dr × Glb) (fun a => Pn a.1 a.2) [] true (fun _ => outT F []) (fun _ => []) (fun a => a.2) | _, _ => .no
  exact run_sound ⟨HH, [((0, 10), ([1,5,6,7,8], 1))], plRgX0⟩ 400 (by kernel_rfl) (Ya (hf (HH 9 2).P (told_post rfl)) (Yu (Ya (hc (HH 9 3).P fun D' gl' h => ⟨(D', gl'), h, rfl, rfl, Nat.zero_le _, fun _ => rfl⟩) (fun (Z0 : Dr × Glb) => (fun (Z1 : Pn Z0.fst Z0.snd) => (nx Z0.fst Z0.snd Z1))))))
theorem gp10 (U : List T) (hd : Value) (gl : Glb) (j b : Nat) (hj : j < 10) (hU : U.length ≤ 10)
    (nx : ∀ hd', wRgX1 Γ Q [kRgX0 [1,1,1,1,0,1,0], .blk 0, kRgX0 [1,1,1,1,1]] ⟨frame 297 [(1, .sl 5 acts), (5, int n), (6, .slx 1 0 (U ++ [T.gp b 0]) hd'), (7, int (j + 1 : Nat))], [(0, .room 1 25 (U ++ [T.gp b 0]).length hd')], gl⟩) :
    wRgX1 Γ Q [kRgX0 [1,1,1,1,0,1,0,0,1,0,0,1,1], .blk 1, kRgX0 [1,1,1,1,0,1,0,0,1,1], kRgX0 [1,1,1,1,0,1,0], .blk 0, kRgX0 [1,1,1,1,1]] ⟨frame 297 [(1, .sl 5 acts), (5, int n), (6, .slx 1 0 U hd), (7, int j), (8, .gp b 0)], [(0, .room 1 25 U.length hd)], gl⟩ := by
  have h1 : T.v (.int .i64 (IntKind.wrap .i64 ((j : Int) + 1))) = int (j + 1 : Nat) := congrArg int (by rw [wrap_i64 (by omega) (by omega)]; omega)
  let HH : Nat → Nat → Hint := fun | 7, 1 => .res (int (j + 1 : Nat)) | _, _ => .no
  exact run_sound ⟨HH, [((2, 6), ([1,5,6,7], 1))], plRgX0⟩ 400 (by kernel_rfl) (Ya (Yb hd (Ye (List.length U))) (Ya (Ya (show (List.length U + 1) * nat_lit 8 ≤ 140737488355328 by simp only [maxLen]; omega) (show List.length U + 1 ≤ maxLen by simp only [maxLen]; omega)) (fun (Z0 : Value) => (Ya h1 (nx Z0)))))
theorem gp6e (U : List T) (hd : Value) (gl : Glb) (nx : wRgX1 Γ Q [kRgX0 [1,1,1,1,1]] ⟨frame 297 [(1, .sl 5 acts), (5, int n), (6, .slx 1 0 U hd)], [(0, .room 1 25 U.length hd)], gl⟩) : wRgX1 Γ Q [kRgX0 [1,1,1,1,0,1,0], .blk 0, kRgX0 [1,1,1,1,1]] ⟨frame 297 [(1, .sl 5 acts), (5, int n), (6, .slx 1 0 U hd), (7, int n)], [(0, .room 1 25 U.length hd)], gl⟩ := by
  let HH : Nat → Nat → Hint := fun  | _, _ => .no
  exact run_sound ⟨HH, [((0, 11), ([1,5,6], 1)), ((0, 8), ([1,5,6,7], 1))], plRgX0⟩ 400 (by kernel_rfl) (Ys (decide ((↑n : Int) < (↑n : Int))) (fun Z0 => (show wRgX1 Γ Q [kRgX0 [1,1,1,1,0,1,0,0,1,0,0], It.blk 1, kRgX0 [1,1,1,1,0,1,0,0,1,1], kRgX0 [1,1,1,1,0,1,0], It.blk 0, kRgX0 [1,1,1,1,1]] (S.mk (frame 297 [(1, T.sl 5 acts), (5, int n), (6, T.slx 1 0 U hd), (7, int n)]) [(0, Ob.room 1 25 (List.length U) hd)] gl) by exfalso; have a1 := of_decide_eq_true Z0; omega)) (fun Z1 => nx))
theorem gpMake (hn1 : 1 ≤ n) (hn : n ≤ 4) (nx : ∀ B DD hd gl, Lot n B (rN n) DD gl → wRgX1 Γ Q [kRgX0 [1,1,1,1,1]] ⟨frame 297 [(1, .sl 5 acts), (5, int n), (6, .slx 1 0 (gps B n) hd)], [(0, .room 1 25 (gps B n).length hd)], gl⟩) : ∀ (m j : Nat) (B : Nat → Nat) (DD : Nat → Dr) (hd : Value) (gl : Glb), j + m = n → Lot j B (rN n) DD gl → wRgX1 Γ Q [kRgX0 [1,1,1,1,0,1,0], .blk 0, kRgX0 [1,1,1,1,1]] ⟨frame 297 [(1, .sl 5 acts), (5, int n), (6, .slx 1 0 (gps B j) hd), (7, int j)], [(0, .room 1 25 (gps B j).length hd)], gl⟩ := by
  intro m
  induction m with
  | zero =>
    intro j B DD hd gl hj lot
    have hj : j = n := by omega
    subst hj
    exact gp6e Γ acts j Q (gps B j) hd gl (nx B DD hd gl lot)
  | succ m ih =>
    intro j B DD hd gl hj lot
    refine gp6s Γ acts n Q (gps B j) hd gl j (by omega) hn fun b t ht hb hbt => ?_
    have l2 := lot.new (j + 1) 1 true ht hb hbt
    have hc := fun Q' => lot_enter l2 (Nat.lt_succ_self j) (vf n) (show (X5.firstM n).length ≤ 1000000 by rw [X5.firstM_len]; omega) Q'
    rw [Rep.put_at, Rep.put_at, enter_N, Rep.put_put, Rep.put_self] at hc
    refine gp9 Γ acts n Q (gps B j) hd _ j b hn1 hn _ (fun D' gl' => Lot (j + 1) (put B j b) (rN n) (put (put DD j (Dt t)) j D') gl') (fun Q' hq => hc Q' fun D' gl' h => hq D' gl' h) fun D' gl' h => ?_
    refine gp10 Γ acts n Q (gps B j) hd gl' j b (by omega) (by rw [gps_len]; omega) fun hd' => ?_
    rw [← gps_snoc]
    exact ih (j + 1) (put B j b) _ hd' gl' (by omega) h
end
end X20
end Go.Proofs.Ytafcbipmmjegcaa.Vm
namespace Go.Proofs.Ytafcbipmmjegcaa.Vm
open Go Go.RowKit
set_option maxRecDepth 100000
noncomputable abbrev kRpQ0 (l : List Nat) : It := .code (sub (bd Try.f8) l)
noncomputable abbrev wRpQ1 (Γ : Ctx) (Q : T → Obs → Glb → Prop) : List It → S → Prop := TWk Try.prog Γ (fin Try.prog Try.f8 [] Q)
namespace X20
open Rep (Stp Wrd Cel Drv Plc RS Fm Ev setP setC)
open View (Mem VS)
open X5 (viewC lim mems othV hasV firstM firstL first_any)
def txa : ByteArray := ⟨#[97]⟩
def s0 : RS := Rep.begun 1 1 true
def s1 : RS := (Rep.enter s0 (vf 1)).1
theorem s1_lim : lim s1.v.ms := by show s1.v.ms.length ≤ 1000000; decide
theorem s1_write : (Rep.write s1 3 true txa false).2 = some ⟨2, 1, 1⟩ ∧ (Rep.write s1 3 true txa false).1.2.2 = [⟨3, 1, ⟨2, 1, 1⟩⟩] ∧ cellOf (Rep.write s1 3 true txa false).1.1 3 = ⟨⟨⟨2, 1, 1⟩, true, txa, false⟩, 1⟩ ∧ (Rep.write s1 3 true txa false).1.1.has 3 = true := ⟨by rfl, by rfl, by rfl, by rfl⟩
theorem sp4 (Γ : Ctx) (b b2 b3 : Nat) (r : RS) (D : Dr) (F : List Fm) (gl : Glb) (ho : Own D r gl) (hc : cellOf r 3 = ⟨⟨⟨2, 1, 1⟩, true, txa, false⟩, 1⟩) (hh : r.has 3 = true) (Q : T → Obs → Glb → Prop) (hQ : Q (bool true) [] gl) :
    wRpQ1 Γ Q [kRpQ0 [1,1,1,1]] ⟨frame 68 [(1, .ptr 0 b 0), (2, .ptr 1 b2 0), (3, .ptr 2 b3 0), (4, bool true)], [(b, .cells (repC r D)), (b2, .cells [.sl 34 (Row.aggs frC F), .sl 5 [.agg (evC ⟨3, 1, ⟨2, 1, 1⟩⟩)]]), (b3, .cells [u32 2, u8 1, u8 1])], gl⟩ := by
  have hce := cell_any b r D 3 gl ho
  rw [hc, hh] at hce
  let HH : Nat → Nat → Hint := fun | 4, 1 => .plainAt [0] (toldG (.tup [.agg (clC ⟨⟨⟨2, 1, 1⟩, true, txa, false⟩, 1⟩), bool true]) [0] (obsR b r D) gl) | _, _ => .no
  exact run_sound ⟨HH, [], fun | 5 => some ⟨[1,2,3], [], .take true [0,1,2,3,4,5,6,7,8,9,10,11,12,13,14,15,16,17,18,19,20,21,22,23,24,25,26,27,28,29,30,31,32,33,34,35,36,37,38,39,40,41,42,43,44,45] .done⟩ | _ => none⟩ 400 (by kernel_rfl) (Ya (Ya (repC_plain r D) Yt) (Ya (hce (HH 4 1).P (toldG_post rfl)) (Yu (Ya (Ya (repC_plain r D) Yt) (fun (Z0 : Nat) => (Yk 7 Z0 (Yb b2 (Yb b2 (Ya (show (0 : Int) ≤ (0 : Int) by omega) (Yb b2 (Ya (show (0 : Int) ≤ (0 : Int) by omega) (Yb b3 (Yb b3 (Yb Z0 (Yb Z0 hQ)))))))))))))))
theorem s1_oth : (Rep.oth s1).length ≤ 1000 := by decide
theorem sp3 (Γ : Ctx) (b : Nat) (D : Dr) (gl : Glb) (ho : Own D s1 gl) (Q : T → Obs → Glb → Prop) (hQ : ∀ gl', Q (bool true) [] gl') :
    wRpQ1 Γ Q [kRpQ0 [1,1,1]] ⟨frame 68 [(1, .ptr 0 b 0)], [(b, .cells (repC s1 D))], gl⟩ := by
  have hw := write_any b s1 D 3 true txa false gl ho s1_lim s1_oth (fun _ => by decide)
  obtain ⟨g1, g2, g3, g4⟩ := s1_write
  generalize Rep.write s1 3 true txa false = o at *
  obtain ⟨⟨r, F, E⟩, s⟩ := o
  simp only at g1 g2 g3 g4 hw
  subst g1 g2
  have nx := fun Γ b2 b3 D' gl' h => sp4 Γ b b2 b3 r D' F gl' h g3 g4 Q (hQ gl')
  clear hQ
  let HH : Nat → Nat → Hint := fun | 3, 2 => .plainAt [0] (.call false (Dr × Glb) (fun a => Own a.1 r a.2) [0] true (fun _ => .tup [outT F [⟨3, 1, ⟨2, 1, 1⟩⟩], .agg (stC ⟨2, 1, 1⟩), bool true]) (fun a => obsR b r a.1) (fun a => a.2)) | _, _ => .no
  exact run_sound ⟨HH, [((0, 4), ([1,2,3,4], 3))], fun  | _ => none⟩ 400 (by kernel_rfl) (Ya (Yb true Yt) (Ya (hw (HH 3 2).P fun D' gl' h1 _ => ⟨(D', gl'), h1, rfl, rfl, Nat.le_of_ble_eq_true rfl, fun _ => rfl⟩) (fun (Z0 : Dr × Glb) => (fun (Z1 : Own Z0.fst r Z0.snd) => (Ya (Ya (repC_plain r Z0.fst) Yt) (fun (Z2 : Nat) => (fun (Z3 : Nat) => (Yk 2 Z2 (Yk 3 Z3 (nx Γ Z2 Z3 Z0.fst Z0.snd Z1))))))))))
theorem sp2 (Γ : Ctx) (b t : Nat) (gl : Glb) (ho : Own (Dt t) s0 gl) (Q : T → Obs → Glb → Prop) (hQ : ∀ gl', Q (bool true) [] gl') :
    wRpQ1 Γ Q [kRpQ0 [1,1]] ⟨frame 68 [(1, .ptr 0 b 0)], [(b, .cells (repC s0 (Dt t)))], gl⟩ := by
  have he := enter_any b s0 (Dt t) (vf 1) gl ho s1_lim
  rw [show (Rep.enter s0 (vf 1)).2 = [] by rfl, show (Rep.enter s0 (vf 1)).1 = s1 by rfl] at he
  let HH : Nat → Nat → Hint := fun | 2, 1 => told (.agg (viewC (vf 1))) [] [] | 2, 2 => .plainAt [0] (.call false (Dr × Glb) (fun a => Own a.1 s1 a.2) [0] true (fun _ => outT [] []) (fun a => obsR b s1 a.1) (fun a => a.2)) | _, _ => .no
  exact run_sound ⟨HH, [((0, 3), ([1], 1))], fun  | _ => none⟩ 400 (by kernel_rfl) (Ya (show TCalls Try.prog 11 [int (1 : Int)] [] none_ (callPost (told (T.agg (viewC (vf 1))) [] [])) from lfirst_any 1 (by decide) (by decide) _ (told_post rfl)) (Yu (Ya (Yb true Yt) (Ya (he (HH 2 2).P fun D' gl' h1 _ => ⟨(D', gl'), h1, rfl, rfl, Nat.le_of_ble_eq_true rfl, fun _ => rfl⟩) (fun (Z0 : Dr × Glb) => (fun (Z1 : Own Z0.fst s1 Z0.snd) => (Ya (Yb true Yt) (sp3 Γ b Z0.fst Z0.snd Z1 Q hQ))))))))
theorem speaks_any (gl : Glb) (Q : T → Obs → Glb → Prop) (hQ : ∀ gl', Q (bool true) [] gl') : TCalls Try.prog 8 [] [] gl Q := by
  have sp := fun Γ b t => sp2 Γ b t (setO gl t (.cells (trC (fun _ => true) 0))) (begun_own t 1 1 true gl) Q hQ
  clear hQ
  refine TCalls.of Try.func8 rfl (CanCall.of Try.func8 rfl (by decide)) [] fun Γ => ?_
  let HH : Nat → Nat → Hint := fun | 1, 0 => .call false (Nat × Nat) (fun _ => True) [] true (fun a => .ptr 0 a.1 0) (fun a => obsR a.1 s0 (Dt a.2)) (fun a => setO gl a.2 (.cells (trC (fun _ => true) 0))) | _, _ => .no
  exact run_sound ⟨HH, [((0, 2), ([1], 1))], fun  | _ => none⟩ 400 (by kernel_rfl) (Ya (new_any 1 1 true gl (HH 1 0).P fun b t _ => ⟨(b, t), trivial, rfl, rfl, Nat.zero_le _, fun _ => rfl⟩) (fun (Z0 : Nat × Nat) => (fun (Z1 : True) => (sp Γ Z0.fst Z0.snd))))
def n0 : RS := Rep.begun 9 1 true
def n1 : RS := (Rep.enter n0 (vf 3)).1
end X20
end Go.Proofs.Ytafcbipmmjegcaa.Vm
namespace Go.Proofs.Ytafcbipmmjegcaa.Vm
open Go Go.RowKit
set_option maxRecDepth 100000
noncomputable abbrev kRgY0 (l : List Nat) : It := .code (sub (bd Try.f3) l)
noncomputable abbrev wRgY1 (Γ : Ctx) (Q : T → Obs → Glb → Prop) : List It → S → Prop := TWk Try.prog Γ (fin Try.prog Try.f3 [] Q)
def plRgY0 : Nat → Option RPlan := fun | 32 => some ⟨[], [0, 4, 9], .take false [1,2,3,5,6,7,8] (.one 0 (.one 4 (.one 9 (.take false [10] .done))))⟩ | 35 => some ⟨[], [5, 6], .take true [0,1,2,3,4] (.one 5 (.one 6 .done))⟩ | 41 => some ⟨[], [17, 24, 25], .take true [0,1,2,3,4,5,6,7,8,9,10,11,12,13,14,15,16] (.three 17 22 23 (.take false [18,19,20,21] (.two 22 23 (.one 23 (.one 24 (.one 25 (.take false [26] .done)))) (.one 22 (.one 24 (.one 25 (.take false [26] .done)))))) (.two 17 23 (.take false [18,19,20,21] (.one 23 (.one 24 (.one 25 (.take false [26] .done))))) (.one 17 (.take false [18,19,20,21] (.one 24 (.one 25 (.take false [26] .done)))))) (.two 17 22 (.take false [18,19,20,21] (.one 22 (.one 24 (.one 25 (.take false [26] .done))))) (.one 17 (.take false [18,19,20,21] (.one 24 (.one 25 (.take false [26] .done)))))))⟩ | 43 => some ⟨[], [7], .take true [0,1,2,3,4,5,6] (.one 7 .done)⟩ | 53 => some ⟨[], [11], .take true [0,1,2,3,4,5,6,7] (.one 8 (.one 9 (.take true [10] (.one 11 .done))))⟩ | 61 => some ⟨[], [20], .take true [0,1,2,3,4,5,6,7,8,9,10,11,12,13,14,15,16] (.one 17 (.one 18 (.take true [19] (.one 20 .done))))⟩ | 62 => some ⟨[], [4], .take true [0,1,2,3] (.one 4 (.take false [5] .done))⟩ | _ => none
namespace X20
open Rep (Stp Wrd Cel Drv Plc RS Fm Ev put)
open Rep (rN vN)
section
variable (Γ : Ctx) (acts : List T) (n : Nat) (Q : T → Obs → Glb → Prop)
theorem gp11 (U : List T) (gl : Glb)
    (nx : ∀ qb qd qa qo m0 m1 m2 m3 m4 m5, wRgY1 Γ Q [kRgY0 [1,1,1,1,1,1,1,1,1,1,1]] ⟨frame 297 [(1, .sl 5 acts), (5, int n), (6, .sl 1 U), (9, .v nilS), (10, .ptr 0 qb 0), (11, .ptr 1 qd 0), (12, .ptr 2 qa 0), (13, .ptr 3 qo 0)], [(qb, .cells [.mp 4 m0, .mp 5 m1, .mp 6 m2, .mp 7 m3, .mp 8 m4, .mp 9 m5]), (qd, .cells [.v nilS, .v nilS, .v nilS, .v nilS, .v nilS, .v nilS]), (qa, .cells [.v nilS, .v nilS, .v nilS, .v nilS, .v nilS, .v nilS]), (qo, .cells [.v nilS, .v nilS, .v nilS, .v nilS, .v nilS, .v nilS]), (m0, .kv kt GK (fun _ => none)), (m1, .kv kt GK (fun _ => none)), (m2, .kv kt GK (fun _ => none)), (m3, .kv kt GK (fun _ => none)), (m4, .kv kt GK (fun _ => none)), (m5, .kv kt GK (fun _ => none))], gl⟩) :
    wRgY1 Γ Q [kRgY0 [1,1,1,1,1]] ⟨frame 297 [(1, .sl 5 acts), (5, int n), (6, .sl 1 U)], [], gl⟩ := by
  let HH : Nat → Nat → Hint := fun | 19, 1 => .kv GK | _, _ => .no
  exact run_sound ⟨HH, [((0, 20), ([1,5,6,9,10,11,12,13], 10))], plRgY0⟩ 400 (by kernel_rfl) (fun (Z0 : Nat) => (fun (Z1 : Nat) => (fun (Z2 : Nat) => (fun (Z3 : Nat) => (fun (Z4 : Nat) => (Ya (Ya (show (0 : Int) ≤ (0 : Int) by omega) (show (0 : Int) < (↑(6 : Nat) : Int) by omega)) (Yl 1 (Yb Z0 (Ya (Yn (1) (6) rfl) (fun (Z5 : Nat) => (Ya (Ya (show (0 : Int) ≤ IntKind.wrap IntKind.i64 ((0 : Int) + (1 : Int)) by decide) (show IntKind.wrap IntKind.i64 ((0 : Int) + (1 : Int)) < (↑(6 : Nat) : Int) by decide)) (Yl 1 (Yb Z0 (Ya (Yn (2) (6) rfl) (fun (Z6 : Nat) => (Ya (Ya (show (0 : Int) ≤ IntKind.wrap IntKind.i64 (IntKind.wrap IntKind.i64 ((0 : Int) + (1 : Int)) + (1 : Int)) by decide) (show IntKind.wrap IntKind.i64 (IntKind.wrap IntKind.i64 ((0 : Int) + (1 : Int)) + (1 : Int)) < (↑(6 : Nat) : Int) by decide)) (Yl 1 (Yb Z0 (Ya (Yn (3) (6) rfl) (fun (Z7 : Nat) => (Ya (Ya (show (0 : Int) ≤ IntKind.wrap IntKind.i64 (IntKind.wrap IntKind.i64 (IntKind.wrap IntKind.i64 ((0 : Int) + (1 : Int)) + (1 : Int)) + (1 : Int)) by decide) (show IntKind.wrap IntKind.i64 (IntKind.wrap IntKind.i64 (IntKind.wrap IntKind.i64 ((0 : Int) + (1 : Int)) + (1 : Int)) + (1 : Int)) < (↑(6 : Nat) : Int) by decide)) (Yl 1 (Yb Z0 (Ya (Yn (4) (6) rfl) (fun (Z8 : Nat) => (Ya (Ya (show (0 : Int) ≤ IntKind.wrap IntKind.i64 (IntKind.wrap IntKind.i64 (IntKind.wrap IntKind.i64 (IntKind.wrap IntKind.i64 ((0 : Int) + (1 : Int)) + (1 : Int)) + (1 : Int)) + (1 : Int)) by decide) (show IntKind.wrap IntKind.i64 (IntKind.wrap IntKind.i64 (IntKind.wrap IntKind.i64 (IntKind.wrap IntKind.i64 ((0 : Int) + (1 : Int)) + (1 : Int)) + (1 : Int)) + (1 : Int)) < (↑(6 : Nat) : Int) by decide)) (Yl 1 (Yb Z0 (Ya (Yn (5) (6) rfl) (fun (Z9 : Nat) => (Ya (Ya (show (0 : Int) ≤ IntKind.wrap IntKind.i64 (IntKind.wrap IntKind.i64 (IntKind.wrap IntKind.i64 (IntKind.wrap IntKind.i64 (IntKind.wrap IntKind.i64 ((0 : Int) + (1 : Int)) + (1 : Int)) + (1 : Int)) + (1 : Int)) + (1 : Int)) by decide) (show IntKind.wrap IntKind.i64 (IntKind.wrap IntKind.i64 (IntKind.wrap IntKind.i64 (IntKind.wrap IntKind.i64 (IntKind.wrap IntKind.i64 ((0 : Int) + (1 : Int)) + (1 : Int)) + (1 : Int)) + (1 : Int)) + (1 : Int)) < (↑(6 : Nat) : Int) by decide)) (Yl 1 (Yb Z0 (Ya (Yn (6) (6) rfl) (nx Z0 Z1 Z2 Z3 Z4 Z5 Z6 Z7 Z8 Z9)))))))))))))))))))))))))))))))))))
theorem gp20 (U : List T) (gl : Glb) (qb qd qa qo : Nat) (M : Nat → Nat)
    (nx : wRgY1 Γ Q [kRgY0 [1,1,1,1,1,1,1,1,1,1,1,0,1,0], .blk 4, kRgY0 [1,1,1,1,1,1,1,1,1,1,1,1]] ⟨frame 297 [(1, .sl 5 acts), (5, int n), (6, .sl 1 U), (9, .slx 34 9 [] nilS), (10, .ptr 10 qb 0), (11, .ptr 0 qd 0), (12, .ptr 1 qa 0), (13, .ptr 2 qo 0), (15, int (0 : Nat))], obsG qd qa qo ⟨[], [], [], nilS, nilS, nilS⟩ ⟨[], [], [], nilS, nilS, nilS⟩ [] nilS qb M noA noA, gl⟩) :
    wRgY1 Γ Q [kRgY0 [1,1,1,1,1,1,1,1,1,1,1]] ⟨frame 297 [(1, .sl 5 acts), (5, int n), (6, .sl 1 U), (9, .slx 34 9 [] nilS), (10, .ptr 10 qb 0), (11, .ptr 0 qd 0), (12, .ptr 1 qa 0), (13, .ptr 2 qo 0)], obsG qd qa qo ⟨[], [], [], nilS, nilS, nilS⟩ ⟨[], [], [], nilS, nilS, nilS⟩ [] nilS qb M noA noA, gl⟩ := by
  let HH : Nat → Nat → Hint := fun  | _, _ => .no
  exact run_sound ⟨HH, [((2, 21), ([1,5,6,9,10,11,12,13,15], 17))], plRgY0⟩ 400 (by kernel_rfl) nx
end
theorem kF_no : kF noA = fun _ => none := by
  funext v
  unfold kF
  split
  · split <;> rfl
  · rfl
theorem imp_nil2 {ts : List T} {ob : Obs} {gl : Glb} (i b k r1 r2 : Nat) (hi : ob[i]? = some (b, .cells [.v nilS, .v nilS, .v nilS, .v nilS, .v nilS, .v nilS])) : Imp ts ob gl ts (ob.set i (b, .cells [.slx k r1 [] nilS, .slx k r2 [] nilS, .v nilS, .v nilS, .v nilS, .v nilS])) gl :=
  Imp.ob hi (fun M w h => by
    obtain ⟨C, t, h1, h2, h3⟩ := h
    refine ⟨C, t, h1, ?_, h3⟩
    simp only [RelL] at h2 ⊢
    obtain ⟨u0, us0, e0, q0, u1, us1, e1, q1, h2⟩ := h2
    exact ⟨u0, us0, e0, rel_nilx q0, u1, us1, e1, rel_nilx q1, h2⟩) (fun _ h => h)
theorem imp_mps {ts : List T} {ob : Obs} {gl : Glb} (i b m0 m1 m2 m3 m4 m5 : Nat) (hi : ob[i]? = some (b, .cells [.mp 4 m0, .mp 5 m1, .mp 6 m2, .mp 7 m3, .mp 8 m4, .mp 9 m5])) : Imp ts ob gl ts (ob.set i (b, .cells [.mp 11 m0, .mp 12 m1, .mp 13 m2, .mp 14 m3, .mp 15 m4, .mp 16 m5])) gl :=
  Imp.ob hi (fun M w h => by
    obtain ⟨C, t, h1, h2, h3⟩ := h
    refine ⟨C, t, h1, ?_, h3⟩
    simp only [RelL, Rel] at h2 ⊢
    exact h2) (fun _ h => h)
def M6 (m0 m1 m2 m3 m4 m5 : Nat) (k : Nat) : Nat := [m0, m1, m2, m3, m4, m5].getD k 0
theorem imp_begin (acts U : List T) (n qb qd qa qo m0 m1 m2 m3 m4 m5 : Nat) (gl : Glb) : Imp (frame 297 [(1, .sl 5 acts), (5, int n), (6, .sl 1 U), (9, .v nilS), (10, .ptr 0 qb 0), (11, .ptr 1 qd 0), (12, .ptr 2 qa 0), (13, .ptr 3 qo 0)]) [(qb, .cells [.mp 4 m0, .mp 5 m1, .mp 6 m2, .mp 7 m3, .mp 8 m4, .mp 9 m5]), (qd, .cells [.v nilS, .v nilS, .v nilS, .v nilS, .v nilS, .v nilS]), (qa, .cells [.v nilS, .v nilS, .v nilS, .v nilS, .v nilS, .v nilS]), (qo, .cells [.v nilS, .v nilS, .v nilS, .v nilS, .v nilS, .v nilS]), (m0, .kv kt GK (fun _ => none)), (m1, .kv kt GK (fun _ => none)), (m2, .kv kt GK (fun _ => none)), (m3, .kv kt GK (fun _ => none)), (m4, .kv kt GK (fun _ => none)), (m5, .kv kt GK (fun _ => none))] gl
    (frame 297 [(1, .sl 5 acts), (5, int n), (6, .sl 1 U), (9, .slx 34 9 [] nilS), (10, .ptr 10 qb 0), (11, .ptr 0 qd 0), (12, .ptr 1 qa 0), (13, .ptr 2 qo 0)])
    (obsG qd qa qo ⟨[], [], [], nilS, nilS, nilS⟩ ⟨[], [], [], nilS, nilS, nilS⟩ [] nilS qb (M6 m0 m1 m2 m3 m4 m5) noA noA) gl := by
  unfold obsG
  rw [kF_no]
  refine (Imp.room 7 75).trans ((Imp.room 7 75).trans ((Imp.room 3 51).trans ((Imp.room 3 51).trans ((Imp.room 3 51).trans ((Imp.room 3 51).trans ((Imp.room 34 70).trans ?_))))))
  refine (imp_nil2 1 qd 7 3 4 (by kernel_rfl)).trans ?_
  refine (imp_nil2 2 qa 3 5 6 (by kernel_rfl)).trans ?_
  refine (imp_nil2 3 qo 3 7 8 (by kernel_rfl)).trans ?_
  refine (imp_mps 0 qb m0 m1 m2 m3 m4 m5 (by kernel_rfl)).trans ?_
  refine (Imp.slotR (j := 9) (t := .v nilS) (t' := .slx 34 9 [] nilS) (by kernel_rfl) (fun _ _ h => rel_nilx h)).trans ?_
  refine (Imp.slotR (j := 10) (t := .ptr 0 qb 0) (t' := .ptr 10 qb 0) (by kernel_rfl) ptr_re).trans ?_
  refine (Imp.slotR (j := 11) (t := .ptr 1 qd 0) (t' := .ptr 0 qd 0) (by kernel_rfl) ptr_re).trans ?_
  refine (Imp.slotR (j := 12) (t := .ptr 2 qa 0) (t' := .ptr 1 qa 0) (by kernel_rfl) ptr_re).trans ?_
  refine (Imp.slotE (ts2 := frame 297 [(1, .sl 5 acts), (5, int n), (6, .sl 1 U), (9, .slx 34 9 [] nilS), (10, .ptr 10 qb 0), (11, .ptr 0 qd 0), (12, .ptr 1 qa 0), (13, .ptr 2 qo 0)]) (j := 13) (t := .ptr 3 qo 0) (t' := .ptr 2 qo 0) (by kernel_rfl) ptr_re (by kernel_rfl)).trans ?_
  exact Imp.sel [1,2,3,10,11,12,13,14,15,16,0,4,5,6,7,8,9] (by decide) (by kernel_rfl)
theorem groups_any (nodes : Nat) (h0 : nodes < 256) (L : List Ca) (hL : ∀ z ∈ L, z.node < 256 ∧ z.ch < 65536) (Q : T → Obs → Glb → Prop) (hQ : ∀ gl, Q (bool true) [] gl) : TCalls Try.prog 3 [u8 nodes, .sl 5 (Row.aggs caC L)] [] none_ Q := by
  obtain ⟨n, hn⟩ : ∃ n, n = 2 + nodes % 3 := ⟨_, rfl⟩
  have hn2 : 2 ≤ n := by omega
  have hn4 : n ≤ 4 := by omega
  have lp : ∀ Γ gl, wRgY1 Γ Q [kRgY0 [1,1,1,1,0,1,0], .blk 0, kRgY0 [1,1,1,1,1]] ⟨frame 297 [(1, .sl 5 (Row.aggs caC L)), (5, int n), (6, .v nilS), (7, int (0 : Nat))], [], gl⟩ := fun Γ gl => by
    have l0 := gpMake Γ (Row.aggs caC L) n Q (by omega) hn4 (fun B DD hd gl lot => ?_) n 0 (fun _ => 0) (fun _ => Dt 0) nilS gl (Nat.zero_add n) (Lot.nil _ _ _ _)
    · exact TWk.imp l0 ((Imp.room 1 25).trans (Imp.slotE (j := 6) (t := .v nilS) (t' := .slx 1 0 [] nilS) (by kernel_rfl) (fun _ _ h => rel_nilx h) (by kernel_rfl)))
    · have l1 := gp11 Γ (Row.aggs caC L) n Q (gps B n) gl fun qb qd qa qo m0 m1 m2 m3 m4 m5 =>
        TWk.imp (gp20 Γ (Row.aggs caC L) n Q (gps B n) gl qb qd qa qo (M6 m0 m1 m2 m3 m4 m5)
          (gp_loop Γ qd qa qo qb (M6 m0 m1 m2 m3 m4 m5) L n Q hn2 hn4 hL B hQ 250 0 [] nilS (rN n) DD noA noA _ _ gl (Nat.zero_add _) (Law.start (by omega) (by omega)) lot))
          (imp_begin (Row.aggs caC L) (gps B n) n qb qd qa qo m0 m1 m2 m3 m4 m5 gl)
      exact TWk.imp l1 ((Imp.slotE (j := 6) (t := .slx 1 0 (gps B n) hd) (t' := .sl 1 (gps B n)) (by kernel_rfl) (fun _ _ h => weak_rel h) (by kernel_rfl)).trans (Imp.take 0))
  have e1 : T.v (.int .i64 (IntKind.wrap .i64 (2 + Int.tmod (IntKind.wrap .i64 (nodes : Int)) 3))) = int (n : Nat) := congrArg int (by
    rw [wrap_i64 (x := (nodes : Int)) (by omega) (by omega), show Int.tmod (nodes : Int) 3 = ((nodes % 3 : Nat) : Int) from IntWalk.up_tmod rfl rfl, wrap_i64 (by omega) (by omega)]; omega)
  clear hQ hL
  generalize Row.aggs caC L = acts at *
  refine TCalls.of Try.func3 rfl (CanCall.of Try.func3 rfl (by decide)) [] fun Γ => ?_
  let HH : Nat → Nat → Hint := fun | 1, 0 => .call false Glb (fun _ => True) [] true (fun _ => bool true) (fun _ => []) (fun a => a) | 3, 3 => .res (int (n : Nat)) | _, _ => .no
  exact run_sound ⟨HH, [((2, 6), ([1,5,6,7], 0))], plRgY0⟩ 400 (by kernel_rfl) (Ya (speaks_any none_ (HH 1 0).P fun gl' => ⟨gl', trivial, rfl, rfl, Nat.zero_le _, fun _ => rfl⟩) (fun (Z0 : Glb) => (fun (Z1 : True) => (Ya e1 (lp Γ Z0)))))
end X20
end Go.Proofs.Ytafcbipmmjegcaa.Vm
