/- Texts of this claim: RpQ, RiN. -/
import Derived.Test.YtafcbipmmjegcaaMg15
import Derived.Test.YtafcbipmmjegcaaMg26
import Derived.Test.YtafcbipmmjegcaaMg40
namespace Go.Proofs.Ytafcbipmmjegcaa.Vm
open Go Go.RowKit
set_option maxRecDepth 100000
noncomputable abbrev kRpQ0 (l : List Nat) : It := .code (sub (bd Try.f8) l)
noncomputable abbrev wRpQ1 (Γ : Ctx) (Q : T → Obs → Glb → Prop) : List It → S → Prop := TWk Try.prog Γ (fin Try.prog Try.f8 [] Q)
namespace X20
open Rep (Stp Wrd Cel Drv Plc RS Fm Ev setP setC)
open View (Mem VS)
open X5 (viewC lim mems othV hasV firstM firstL first_any)
def txa : ByteArray := ⟨#[97]⟩
def s0 : RS := Rep.begun 1 1 true
def s1 : RS := (Rep.enter s0 (vf 1)).1
theorem s1_lim : lim s1.v.ms := by show s1.v.ms.length ≤ 1000000; decide
theorem s1_write : (Rep.write s1 3 true txa false).2 = some ⟨2, 1, 1⟩ ∧ (Rep.write s1 3 true txa false).1.2.2 = [⟨3, 1, ⟨2, 1, 1⟩⟩] ∧ cellOf (Rep.write s1 3 true txa false).1.1 3 = ⟨⟨⟨2, 1, 1⟩, true, txa, false⟩, 1⟩ ∧ (Rep.write s1 3 true txa false).1.1.has 3 = true := ⟨by rfl, by rfl, by rfl, by rfl⟩
theorem sp4 (Γ : Ctx) (b b2 b3 : Nat) (r : RS) (D : Dr) (F : List Fm) (gl : Glb) (ho : Own D r gl) (hc : cellOf r 3 = ⟨⟨⟨2, 1, 1⟩, true, txa, false⟩, 1⟩) (hh : r.has 3 = true) (Q : T → Obs → Glb → Prop) (hQ : Q (bool true) [] gl) :
  wRpQ1 Γ Q [kRpQ0 [1,1,1,1]] ⟨frame 68 [(1, .ptr 0 b 0), (2, .ptr 1 b2 0), (3, .ptr 2 b3 0), (4, bool true)], [(b, .cells (repC r D)), (b2, .cells [.sl 34 (Row.aggs frC F), .sl 5 [.agg (evC ⟨3, 1, ⟨2, 1, 1⟩⟩)]]), (b3, .cells [u32 2, u8 1, u8 1])], gl⟩ := by
 have hce := cell_any b r D 3 gl ho
 rw [hc, hh] at hce
 let HH : Nat → Nat → Hint := fun | 4, 1 => .plainAt [0] (toldG (.tup [.agg (clC ⟨⟨⟨2, 1, 1⟩, true, txa, false⟩, 1⟩), bool true]) [0] (obsR b r D) gl) | _, _ => .no
 exact run_sound ⟨HH, [], fun | 5 => some ⟨[1,2,3], [], .take true [0,1,2,3,4,5,6,7,8,9,10,11,12,13,14,15,16,17,18,19,20,21,22,23,24,25,26,27,28,29,30,31,32,33,34,35,36,37,38,39,40,41,42,43,44,45] .done⟩ | _ => none⟩ 400 (by kernel_rfl) (Ya (Ya (repC_plain r D) Yt) (Ya (hce (HH 4 1).P (toldG_post rfl)) (Yu (Ya (Ya (repC_plain r D) Yt) (fun (Z0 : Nat) => (Yk 7 Z0 (Yb b2 (Yb b2 (Ya (show (0 : Int) ≤ (0 : Int) by omega) (Yb b2 (Ya (show (0 : Int) ≤ (0 : Int) by omega) (Yb b3 (Yb b3 (Yb Z0 (Yb Z0 hQ)))))))))))))))
theorem s1_oth : (Rep.oth s1).length ≤ 1000 := by decide
theorem sp3 (Γ : Ctx) (b : Nat) (D : Dr) (gl : Glb) (ho : Own D s1 gl) (Q : T → Obs → Glb → Prop) (hQ : ∀ gl', Q (bool true) [] gl') :
  wRpQ1 Γ Q [kRpQ0 [1,1,1]] ⟨frame 68 [(1, .ptr 0 b 0)], [(b, .cells (repC s1 D))], gl⟩ := by
 have hw := write_any b s1 D 3 true txa false gl ho s1_lim s1_oth (fun _ => by decide)
 obtain ⟨g1, g2, g3, g4⟩ := s1_write
 generalize Rep.write s1 3 true txa false = o at *
 obtain ⟨⟨r, F, E⟩, s⟩ := o
 simp only at g1 g2 g3 g4 hw
 subst g1 g2
 have nx := fun Γ b2 b3 D' gl' h => sp4 Γ b b2 b3 r D' F gl' h g3 g4 Q (hQ gl')
 clear hQ
 let HH : Nat → Nat → Hint := fun | 3, 2 => .plainAt [0] (.call false (Dr × Glb) (fun a => Own a.1 r a.2) [0] true (fun _ => .tup [outT F [⟨3, 1, ⟨2, 1, 1⟩⟩], .agg (stC ⟨2, 1, 1⟩), bool true]) (fun a => obsR b r a.1) (fun a => a.2)) | _, _ => .no
 exact run_sound ⟨HH, [((0, 4), ([1,2,3,4], 3))], fun  | _ => none⟩ 400 (by kernel_rfl) (Ya (Yb true Yt) (Ya (hw (HH 3 2).P fun D' gl' h1 _ => ⟨(D', gl'), h1, rfl, rfl, Nat.le_of_ble_eq_true rfl, fun _ => rfl⟩) (fun (Z0 : Dr × Glb) => (fun (Z1 : Own Z0.fst r Z0.snd) => (Ya (Ya (repC_plain r Z0.fst) Yt) (fun (Z2 : Nat) => (fun (Z3 : Nat) => (Yk 2 Z2 (Yk 3 Z3 (nx Γ Z2 Z3 Z0.fst Z0.snd Z1))))))))))
theorem sp2 (Γ : Ctx) (b t : Nat) (gl : Glb) (ho : Own (Dt t) s0 gl) (Q : T → Obs → Glb → Prop) (hQ : ∀ gl', Q (bool true) [] gl') :
  wRpQ1 Γ Q [kRpQ0 [1,1]] ⟨frame 68 [(1, .ptr 0 b 0)], [(b, .cells (repC s0 (Dt t)))], gl⟩ := by
 have he := enter_any b s0 (Dt t) (vf 1) gl ho s1_lim
 rw [show (Rep.enter s0 (vf 1)).2 = [] by rfl, show (Rep.enter s0 (vf 1)).1 = s1 by rfl] at he
 let HH : Nat → Nat → Hint := fun | 2, 1 => told (.agg (viewC (vf 1))) [] [] | 2, 2 => .plainAt [0] (.call false (Dr × Glb) (fun a => Own a.1 s1 a.2) [0] true (fun _ => outT [] []) (fun a => obsR b s1 a.1) (fun a => a.2)) | _, _ => .no
 exact run_sound ⟨HH, [((0, 3), ([1], 1))], fun  | _ => none⟩ 400 (by kernel_rfl) (Ya (show TCalls Try.prog 11 [int (1 : Int)] [] none_ (callPost (told (T.agg (viewC (vf 1))) [] [])) from lfirst_any 1 (by decide) (by decide) _ (told_post rfl)) (Yu (Ya (Yb true Yt) (Ya (he (HH 2 2).P fun D' gl' h1 _ => ⟨(D', gl'), h1, rfl, rfl, Nat.le_of_ble_eq_true rfl, fun _ => rfl⟩) (fun (Z0 : Dr × Glb) => (fun (Z1 : Own Z0.fst s1 Z0.snd) => (Ya (Yb true Yt) (sp3 Γ b Z0.fst Z0.snd Z1 Q hQ))))))))
theorem speaks_any (gl : Glb) (Q : T → Obs → Glb → Prop) (hQ : ∀ gl', Q (bool true) [] gl') : TCalls Try.prog 8 [] [] gl Q := by
 have sp := fun Γ b t => sp2 Γ b t (setO gl t (.cells (trC (fun _ => true) 0))) (begun_own t 1 1 true gl) Q hQ
 clear hQ
 refine TCalls.of Try.func8 rfl (CanCall.of Try.func8 rfl (by decide)) [] fun Γ => ?_
 let HH : Nat → Nat → Hint := fun | 1, 0 => .call false (Nat × Nat) (fun _ => True) [] true (fun a => .ptr 0 a.1 0) (fun a => obsR a.1 s0 (Dt a.2)) (fun a => setO gl a.2 (.cells (trC (fun _ => true) 0))) | _, _ => .no
 exact run_sound ⟨HH, [((0, 2), ([1], 1))], fun  | _ => none⟩ 400 (by kernel_rfl) (Ya (new_any 1 1 true gl (HH 1 0).P fun b t _ => ⟨(b, t), trivial, rfl, rfl, Nat.zero_le _, fun _ => rfl⟩) (fun (Z0 : Nat × Nat) => (fun (Z1 : True) => (sp Γ Z0.fst Z0.snd))))
def n0 : RS := Rep.begun 9 1 true
def n1 : RS := (Rep.enter n0 (vf 3)).1
end X20
end Go.Proofs.Ytafcbipmmjegcaa.Vm
namespace Go.Proofs.Ytafcbipmmjegcaa.Vm
open Go Go.RowKit
set_option maxRecDepth 100000
noncomputable abbrev kRiN0 (l : List Nat) : It := .code (sub (bd Try.f6) l)
noncomputable abbrev wRiN1 (Γ : Ctx) (Q : T → Obs → Glb → Prop) : List It → S → Prop := TWk Try.prog Γ (fin Try.prog Try.f6 [] Q)
def plRiN0 : Nat → Option RPlan := fun | 18 => some ⟨[], [6, 11], .take true [0,2,3,4,5] (.two 1 10 (.two 6 10 (.take false [7,8,9] (.one 10 (.one 11 (.take false [12] .done)))) (.one 6 (.take false [7,8,9] (.one 11 (.take false [12] .done))))) (.one 1 (.one 6 (.take false [7,8,9] (.one 11 (.take false [12] .done))))))⟩ | 21 => some ⟨[], [6, 7], .take true [0,1,2,3] (.one 4 (.one 5 (.one 6 (.one 7 .done))))⟩ | 27 => some ⟨[], [8, 9], .take true [0,1,2,3,4,5] (.one 6 (.take true [7] (.one 8 (.one 9 .done))))⟩ | 31 => some ⟨[], [7, 8], .take true [0,1,2,3,4] (.one 5 (.take true [6] (.one 7 (.one 8 .done))))⟩ | 39 => some ⟨[], [7, 8], .take true [0,1,2,3,4] (.one 5 (.take true [6] (.one 7 (.one 8 .done))))⟩ | _ => none
namespace X20
open Rep (Stp Wrd Cel Drv Plc RS Fm Ev put rN vN vJ)
theorem enter_NC (n j : Nat) : (Rep.enter (Rep.begun (j + 1) 1 true) (vf n)).1 = rN n j := rfl
section
variable (Γ : Ctx) (bn ba : Nat) (a1 a2 : List T) (n : Nat) (Q : T → Obs → Glb → Prop)
theorem kp6s (U : List T) (hd : Value) (gl : Glb) (j : Nat) (hj : j < n) (hn : n ≤ 5)
  (nx : ∀ b t, gl t = none → gl b = none → b ≠ t → wRiN1 Γ Q [kRiN0 [1,1,1,1,0,1,0,0,1,0,0,1], .blk 1, kRiN0 [1,1,1,1,0,1,0,0,1,1], kRiN0 [1,1,1,1,0,1,0], .blk 0, kRiN0 [1,1,1,1,1]] ⟨frame 192 [(1, .sl 5 a1), (2, .sl 5 a2), (7, .ptr 0 bn 0), (8, .ptr 1 ba 0), (9, int (j : Nat)), (10, .gp b 0)], [(bn, .cells [int (n : Nat)]), (ba, .cells [.slx 1 2 U hd]), (0, .room 1 25 U.length hd)], (setO (setO gl t (.cells (trC (fun _ => true) 0))) b (.cells (repC (Rep.begun (j + 1) 1 true) (Dt t))))⟩) :
  wRiN1 Γ Q [kRiN0 [1,1,1,1,0,1,0], .blk 0, kRiN0 [1,1,1,1,1]] ⟨frame 192 [(1, .sl 5 a1), (2, .sl 5 a2), (7, .ptr 0 bn 0), (8, .ptr 1 ba 0), (9, int (j : Nat))], [(bn, .cells [int (n : Nat)]), (ba, .cells [.slx 1 2 U hd]), (0, .room 1 25 U.length hd)], gl⟩ := by
 have h1 : T.v (.int .u8 (IntKind.wrap .u8 (IntKind.wrap .i64 ((j : Int) + 1)))) = u8 (j + 1 : Nat) := congrArg u8 (by rw [wrap_i64 (by omega) (by omega), IntWalk.u8_in _ (by omega)]; omega)
 have hc := fun Q' => newG (j + 1) 1 true gl Q'
 let HH : Nat → Nat → Hint := fun | 8, 2 => .res (u8 (j + 1 : Nat)) | 8, 3 => .call false (Nat × Nat) (fun a => gl a.2 = none ∧ gl a.1 = none ∧ a.1 ≠ a.2) [] true (fun a => .gp a.1 0) (fun _ => []) (fun a => setO (setO gl a.2 (.cells (trC (fun _ => true) 0))) a.1 (.cells (repC (Rep.begun (j + 1) 1 true) (Dt a.2)))) | _, _ => .no
 exact run_sound ⟨HH, [((0, 9), ([1,2,7,8,9,10], 3)), ((0, 11), ([1,2,7,8], 3))], plRiN0⟩ 400 (by kernel_rfl) (Yb bn (Ys (decide ((↑j : Int) < (↑n : Int))) (fun Z0 => (Ya h1 (Ya (hc (HH 8 3).P fun b t h1 h2 h3 => ⟨(b, t), ⟨h1, h2, h3⟩, rfl, rfl, Nat.zero_le _, fun _ => rfl⟩) (fun (Z1 : Nat × Nat) => (fun (Z2 : gl Z1.snd = none ∧ gl Z1.fst = none ∧ Z1.fst ≠ Z1.snd) => (nx Z1.fst Z1.snd Z2.1 Z2.2.1 Z2.2.2)))))) (fun Z3 => (show wRiN1 Γ Q [kRiN0 [1,1,1,1,1]] (S.mk (frame 192 [(1, T.sl 5 a1), (2, T.sl 5 a2), (7, T.ptr 0 bn 0), (8, T.ptr 1 ba 0)]) [(bn, Ob.cells [int n]), (ba, Ob.cells [T.slx 1 2 U hd]), (0, Ob.room 1 25 (List.length U) hd)] gl) by exfalso; have a1 := of_decide_eq_false Z3; omega))))
theorem kp9 (U : List T) (hd : Value) (gl : Glb) (j b : Nat) (hn1 : 1 ≤ n) (hn : n ≤ 5) (F : List Fm) (Pn : Dr → Glb → Prop)
  (hc : ∀ Q' : T → Obs → Glb → Prop, (∀ D' gl', Pn D' gl' → Q' (outT F []) [] gl') → TCalls Try.prog 10 [.gp b 0, .agg (X5.viewC (vf n))] [] gl Q')
  (nx : ∀ D' gl', Pn D' gl' → wRiN1 Γ Q [kRiN0 [1,1,1,1,0,1,0,0,1,0,0,1,1], .blk 1, kRiN0 [1,1,1,1,0,1,0,0,1,1], kRiN0 [1,1,1,1,0,1,0], .blk 0, kRiN0 [1,1,1,1,1]] ⟨frame 192 [(1, .sl 5 a1), (2, .sl 5 a2), (7, .ptr 0 bn 0), (8, .ptr 1 ba 0), (9, int (j : Nat)), (10, .gp b 0)], [(bn, .cells [int (n : Nat)]), (ba, .cells [.slx 1 2 U hd]), (0, .room 1 25 U.length hd)], gl'⟩) :
  wRiN1 Γ Q [kRiN0 [1,1,1,1,0,1,0,0,1,0,0,1], .blk 1, kRiN0 [1,1,1,1,0,1,0,0,1,1], kRiN0 [1,1,1,1,0,1,0], .blk 0, kRiN0 [1,1,1,1,1]] ⟨frame 192 [(1, .sl 5 a1), (2, .sl 5 a2), (7, .ptr 0 bn 0), (8, .ptr 1 ba 0), (9, int (j : Nat)), (10, .gp b 0)], [(bn, .cells [int (n : Nat)]), (ba, .cells [.slx 1 2 U hd]), (0, .room 1 25 U.length hd)], gl⟩ := by
 have hf := fun Q' => lfirst_any n hn1 (by omega) Q'
 generalize vf n = v at *
 let HH : Nat → Nat → Hint := fun | 9, 2 => told (.agg (X5.viewC v)) [] [] | 9, 3 => .call false (Dr × Glb) (fun a => Pn a.1 a.2) [] true (fun _ => outT F []) (fun _ => []) (fun a => a.2) | _, _ => .no
 exact run_sound ⟨HH, [((0, 10), ([1,2,7,8,9,10], 3))], plRiN0⟩ 400 (by kernel_rfl) (Yb bn (Ya (hf (HH 9 2).P (told_post rfl)) (Yu (Ya (hc (HH 9 3).P fun D' gl' h => ⟨(D', gl'), h, rfl, rfl, Nat.zero_le _, fun _ => rfl⟩) (fun (Z0 : Dr × Glb) => (fun (Z1 : Pn Z0.fst Z0.snd) => (nx Z0.fst Z0.snd Z1)))))))
theorem kp10 (U : List T) (hd : Value) (gl : Glb) (j b : Nat) (hj : j < 10) (hU : U.length ≤ 10)
  (nx : ∀ hd', wRiN1 Γ Q [kRiN0 [1,1,1,1,0,1,0], .blk 0, kRiN0 [1,1,1,1,1]] ⟨frame 192 [(1, .sl 5 a1), (2, .sl 5 a2), (7, .ptr 0 bn 0), (8, .ptr 1 ba 0), (9, int (j + 1 : Nat))], [(bn, .cells [int (n : Nat)]), (ba, .cells [.slx 1 2 (U ++ [T.gp b 0]) hd']), (0, .room 1 25 (U ++ [T.gp b 0]).length hd')], gl⟩) :
  wRiN1 Γ Q [kRiN0 [1,1,1,1,0,1,0,0,1,0,0,1,1], .blk 1, kRiN0 [1,1,1,1,0,1,0,0,1,1], kRiN0 [1,1,1,1,0,1,0], .blk 0, kRiN0 [1,1,1,1,1]] ⟨frame 192 [(1, .sl 5 a1), (2, .sl 5 a2), (7, .ptr 0 bn 0), (8, .ptr 1 ba 0), (9, int (j : Nat)), (10, .gp b 0)], [(bn, .cells [int (n : Nat)]), (ba, .cells [.slx 1 2 U hd]), (0, .room 1 25 U.length hd)], gl⟩ := by
 have h1 : T.v (.int .i64 (IntKind.wrap .i64 ((j : Int) + 1))) = int (j + 1 : Nat) := congrArg int (by rw [wrap_i64 (by omega) (by omega)]; omega)
 let HH : Nat → Nat → Hint := fun | 7, 1 => .res (int (j + 1 : Nat)) | _, _ => .no
 exact run_sound ⟨HH, [((2, 6), ([1,2,7,8,9], 3))], plRiN0⟩ 400 (by kernel_rfl) (Yb ba (Ya (Yb hd (Ye (List.length U))) (Ya (Ya (show (List.length U + 1) * nat_lit 8 ≤ 140737488355328 by simp only [maxLen]; omega) (show List.length U + 1 ≤ maxLen by simp only [maxLen]; omega)) (fun (Z0 : Value) => (Yk 1 ba (Ya h1 (nx Z0)))))))
theorem kp6e (U : List T) (hd : Value) (gl : Glb) (nx : wRiN1 Γ Q [kRiN0 [1,1,1,1,1]] ⟨frame 192 [(1, .sl 5 a1), (2, .sl 5 a2), (7, .ptr 0 bn 0), (8, .ptr 1 ba 0)], [(bn, .cells [int (n : Nat)]), (ba, .cells [.slx 1 2 U hd]), (0, .room 1 25 U.length hd)], gl⟩) : wRiN1 Γ Q [kRiN0 [1,1,1,1,0,1,0], .blk 0, kRiN0 [1,1,1,1,1]] ⟨frame 192 [(1, .sl 5 a1), (2, .sl 5 a2), (7, .ptr 0 bn 0), (8, .ptr 1 ba 0), (9, int (n : Nat))], [(bn, .cells [int (n : Nat)]), (ba, .cells [.slx 1 2 U hd]), (0, .room 1 25 U.length hd)], gl⟩ := by
 let HH : Nat → Nat → Hint := fun  | _, _ => .no
 exact run_sound ⟨HH, [((0, 11), ([1,2,7,8], 3)), ((0, 8), ([1,2,7,8,9], 3))], plRiN0⟩ 400 (by kernel_rfl) (Yb bn (Ys (decide ((↑n : Int) < (↑n : Int))) (fun Z0 => (show wRiN1 Γ Q [kRiN0 [1,1,1,1,0,1,0,0,1,0,0], It.blk 1, kRiN0 [1,1,1,1,0,1,0,0,1,1], kRiN0 [1,1,1,1,0,1,0], It.blk 0, kRiN0 [1,1,1,1,1]] (S.mk (frame 192 [(1, T.sl 5 a1), (2, T.sl 5 a2), (7, T.ptr 0 bn 0), (8, T.ptr 1 ba 0), (9, int n)]) [(bn, Ob.cells [int n]), (ba, Ob.cells [T.slx 1 2 U hd]), (0, Ob.room 1 25 (List.length U) hd)] gl) by exfalso; have b1 := of_decide_eq_true Z0; omega)) (fun Z1 => nx)))
theorem kpMake (hn1 : 1 ≤ n) (hn : n ≤ 5) (nx : ∀ B DD hd gl, Lot n B (rN n) DD gl → wRiN1 Γ Q [kRiN0 [1,1,1,1,1]] ⟨frame 192 [(1, .sl 5 a1), (2, .sl 5 a2), (7, .ptr 0 bn 0), (8, .ptr 1 ba 0)], [(bn, .cells [int (n : Nat)]), (ba, .cells [.slx 1 2 (gpsC B n) hd]), (0, .room 1 25 (gpsC B n).length hd)], gl⟩) : ∀ (m j : Nat) (B : Nat → Nat) (DD : Nat → Dr) (hd : Value) (gl : Glb), j + m = n → Lot j B (rN n) DD gl → wRiN1 Γ Q [kRiN0 [1,1,1,1,0,1,0], .blk 0, kRiN0 [1,1,1,1,1]] ⟨frame 192 [(1, .sl 5 a1), (2, .sl 5 a2), (7, .ptr 0 bn 0), (8, .ptr 1 ba 0), (9, int (j : Nat))], [(bn, .cells [int (n : Nat)]), (ba, .cells [.slx 1 2 (gpsC B j) hd]), (0, .room 1 25 (gpsC B j).length hd)], gl⟩ := by
 intro m
 induction m with
 | zero =>
  intro j B DD hd gl hj lot
  have hj : j = n := by omega
  subst hj
  exact kp6e Γ bn ba a1 a2 j Q (gpsC B j) hd gl (nx B DD hd gl lot)
 | succ m ih =>
  intro j B DD hd gl hj lot
  refine kp6s Γ bn ba a1 a2 n Q (gpsC B j) hd gl j (by omega) hn fun b t ht hb hbt => ?_
  have l2 := lot.new (j + 1) 1 true ht hb hbt
  have hc := fun Q' => lot_enter l2 (Nat.lt_succ_self j) (vf n) (show (X5.firstM n).length ≤ 1000000 by rw [X5.firstM_len]; omega) Q'
  rw [Rep.put_at, Rep.put_at, enter_NC, Rep.put_put, Rep.put_self] at hc
  refine kp9 Γ bn ba a1 a2 n Q (gpsC B j) hd _ j b hn1 hn _ (fun D' gl' => Lot (j + 1) (put B j b) (rN n) (put (put DD j (Dt t)) j D') gl') (fun Q' hq => hc Q' fun D' gl' h => hq D' gl' h) fun D' gl' h => ?_
  refine kp10 Γ bn ba a1 a2 n Q (gpsC B j) hd gl' j b (by omega) (by rw [gpsC_len]; omega) fun hd' => ?_
  rw [← gpsC_snoc]
  exact ih (j + 1) (put B j b) _ hd' gl' (by omega) h
theorem kp11 (U : List T) (hd : Value) (gl : Glb) (nx : ∀ bw bc, wRiN1 Γ Q [kRiN0 [1,1,1,1,1,1,1,1,0,1,0], .blk 2, kRiN0 [1,1,1,1,1,1,1,1,1]] ⟨frame 192 [(1, .sl 5 a1), (2, .sl 5 a2), (7, .ptr 0 bn 0), (8, .ptr 1 ba 0), (11, .ptr 3 bw 0), (12, .ptr 4 bc 0), (13, .fn 23 [.ptr 1 ba 0, .ptr 0 bn 0, .ptr 3 bw 0, .ptr 4 bc 0]), (14, int (0 : Nat))], [(bn, .cells [int (n : Nat)]), (ba, .cells [.slx 1 2 U hd]), (0, .room 1 25 U.length hd), (bw, .cells [.v nilS]), (bc, .cells [.fn 22 [.ptr 3 bw 0, .ptr 1 ba 0]])], gl⟩) : wRiN1 Γ Q [kRiN0 [1,1,1,1,1]] ⟨frame 192 [(1, .sl 5 a1), (2, .sl 5 a2), (7, .ptr 0 bn 0), (8, .ptr 1 ba 0)], [(bn, .cells [int (n : Nat)]), (ba, .cells [.slx 1 2 U hd]), (0, .room 1 25 U.length hd)], gl⟩ := by
 let HH : Nat → Nat → Hint := fun  | _, _ => .no
 exact run_sound ⟨HH, [((2, 15), ([1,2,7,8,11,12,13,14], 5))], plRiN0⟩ 400 (by kernel_rfl) (fun (Z0 : Nat) => (fun (Z1 : Nat) => (Yk 1 Z1 (nx Z0 Z1))))
end
theorem fn2 {g : FuncId} {i j i' j' b c : Nat} (M : Pm) (v : Value) (h : Rel M (.fn g [.ptr i b 0, .ptr j c 0]) v) : Rel M (.fn g [.ptr i' b 0, .ptr j' c 0]) v := by
 simp only [Rel, RelL] at h ⊢
 exact h
theorem fn4 {g : FuncId} {i j k l i' j' k' l' b c d e : Nat} (M : Pm) (v : Value) (h : Rel M (.fn g [.ptr i b 0, .ptr j c 0, .ptr k d 0, .ptr l e 0]) v) : Rel M (.fn g [.ptr i' b 0, .ptr j' c 0, .ptr k' d 0, .ptr l' e 0]) v := by
 simp only [Rel, RelL] at h ⊢
 exact h
theorem cellE {ts : List T} {ob ob' : Obs} {gl : Glb} {i b : Nat} {t t' : T} (hi : ob[i]? = some (b, .cells [t])) (ht : ∀ M v, Rel M t v → Rel M t' v) (e : ob.set i (b, .cells [t']) = ob') : Imp ts ob gl ts ob' gl := by
 subst e
 refine Imp.ob hi (fun M w ⟨C, ty, h1, h2, h3⟩ => ⟨C, ty, h1, ?_, h3⟩) (fun _ h => h)
 simp only [RelL] at h2 ⊢
 obtain ⟨u, us, e, q, e2⟩ := h2
 exact ⟨u, us, e, ht _ _ q, e2⟩
theorem imp_bw (a1 a2 U : List T) (hd : Value) (n bn bw bc ba : Nat) (gl : Glb) : Imp (frame 192 [(1, .sl 5 a1), (2, .sl 5 a2), (7, .ptr 0 bn 0), (8, .ptr 1 ba 0), (11, .ptr 3 bw 0), (12, .ptr 4 bc 0), (13, .fn 23 [.ptr 1 ba 0, .ptr 0 bn 0, .ptr 3 bw 0, .ptr 4 bc 0]), (14, int (0 : Nat))]) [(bn, .cells [int (n : Nat)]), (ba, .cells [.slx 1 2 U hd]), (0, .room 1 25 U.length hd), (bw, .cells [.v nilS]), (bc, .cells [.fn 22 [.ptr 3 bw 0, .ptr 1 ba 0]])] gl (frame 192 [(1, .sl 5 a1), (2, .sl 5 a2), (7, .ptr 4 bn 0), (8, .ptr 1 ba 0), (11, .ptr 0 bw 0), (12, .ptr 5 bc 0), (13, .fn 23 [.ptr 1 ba 0, .ptr 4 bn 0, .ptr 0 bw 0, .ptr 5 bc 0]), (14, int (0 : Nat))]) (obsPt bw ba bn bc n U [] hd nilS) gl := by
 refine (Imp.room 34 70).trans ?_
 refine (cellE (i := 3) (t := .v nilS) (t' := .slx 34 2 [] nilS) (b := bw) rfl (fun _ _ h => rel_nilx h) rfl).trans ?_
 refine (cellE (i := 1) (t := .slx 1 2 U hd) (t' := .slx 1 3 U hd) (b := ba) rfl slxR rfl).trans ?_
 refine (cellE (i := 4) (t := .fn 22 [.ptr 3 bw 0, .ptr 1 ba 0]) (t' := .fn 22 [.ptr 0 bw 0, .ptr 1 ba 0]) (b := bc) rfl fn2 rfl).trans ?_
 refine (Imp.slotR (j := 7) (t := .ptr 0 bn 0) (t' := .ptr 4 bn 0) (by kernel_rfl) ptrC).trans ?_
 refine (Imp.slotR (j := 11) (t := .ptr 3 bw 0) (t' := .ptr 0 bw 0) (by kernel_rfl) ptrC).trans ?_
 refine (Imp.slotR (j := 12) (t := .ptr 4 bc 0) (t' := .ptr 5 bc 0) (by kernel_rfl) ptrC).trans ?_
 refine (Imp.slotE (ts2 := frame 192 [(1, .sl 5 a1), (2, .sl 5 a2), (7, .ptr 4 bn 0), (8, .ptr 1 ba 0), (11, .ptr 0 bw 0), (12, .ptr 5 bc 0), (13, .fn 23 [.ptr 1 ba 0, .ptr 4 bn 0, .ptr 0 bw 0, .ptr 5 bc 0]), (14, int (0 : Nat))]) (j := 13) (t := .fn 23 [.ptr 1 ba 0, .ptr 0 bn 0, .ptr 3 bw 0, .ptr 4 bc 0]) (t' := .fn 23 [.ptr 1 ba 0, .ptr 4 bn 0, .ptr 0 bw 0, .ptr 5 bc 0]) (by kernel_rfl) fn4 (by kernel_rfl)).trans ?_
 exact Imp.sel [3,1,5,2,0,4] (by decide) rfl
theorem imp_all0 {ts : List T} (bn ba n : Nat) (gl : Glb) : Imp ts [(bn, .cells [int (n : Nat)]), (ba, .cells [.v nilS])] gl ts [(bn, .cells [int (n : Nat)]), (ba, .cells [.slx 1 2 [] nilS]), (0, .room 1 25 0 nilS)] gl :=
 (Imp.room 1 25).trans (cellE (i := 1) (t := .v nilS) (t' := .slx 1 2 [] nilS) (b := ba) rfl (fun _ _ h => rel_nilx h) rfl)
theorem app_frC (W F : List Fm) : Row.aggs frC W ++ Row.aggs frC F = Row.aggs frC (W ++ F) := (List.map_append ..).symm
theorem entR_put (R : Nat → RS) (v : View.VS) (i : Nat) : put (Rep.entR R v i) i (Rep.enter (R i) v).1 = Rep.entR R v (i + 1) := by
 funext j
 unfold Rep.entR
 by_cases ej : j = i
 ·subst ej; rw [Rep.put_at, if_pos (Nat.lt_succ_self _)]
 ·rw [Rep.put_ne _ _ _ ej]
  by_cases hj : j < i
  ·rw [if_pos hj, if_pos (by omega)]
  ·rw [if_neg hj, if_neg (by omega)]
section
variable (Γ : Ctx) (bw ba bn bc : Nat) (n : Nat) (Q : T → Obs → Glb → Prop) (B : Nat → Nat) (hu : Value)
theorem comeH {w b m : Nat} {v : View.VS} (hw : w ≤ 60) (hb : b ≤ 800000) (X : (Nat → RS) → List Fm → Prop)
  (hX : ∀ b R f W i, JW n (n + 1) (n + 1) 2 w b m v R (f :: W) → i < n + 1 → f.to = Rep.ad (i + 1) → X R (f :: W) → X (put R i (Rep.on (R i) f true).1) (W ++ (Rep.on (R i) f true).2.1))
  {R : Nat → RS} {DD : Nat → Dr} {W : List Fm} {hd : Value} {gl : Glb} (law : JW n (n + 1) (n + 1) 2 w b m v R W) (x : X R W) (lot : Lot (n + 1) B R DD gl) :
  ∀ Q' : T → Obs → Glb → Prop, (∀ W' hw' gl', (∃ R' DD' W2, W' = Row.aggs frC W2 ∧ JW n (n + 1) (n + 1) 2 w b m v R' W2 ∧ X R' W2 ∧ (b ≤ 100000 → W2 = []) ∧ Lot (n + 1) B R' DD' gl') → Q' (.tup []) (obsCm bw ba (gpsC B (n + 1)) W' hu hw') gl') → TCalls Try.prog 22 [int (100000 : Nat), .ptr 0 bw 0, .ptr 1 ba 0] (obsCm bw ba (gpsC B (n + 1)) (Row.aggs frC W) hu hd) gl Q' :=
 fun Q' hq => come_any n (n + 1) (n + 1) w b m 2 v hw (by omega) 100000 (by decide) B X hX bw ba R DD W hu hd gl law x lot Q' fun R' DD' W2 hw' gl' a1 a2 a3 a4 => hq _ _ _ ⟨R', DD', W2, rfl, a1, a2, a3, a4⟩
theorem jk_loop (hn1 : 1 ≤ n) (hn : n ≤ 4) (hQ : ∀ gl, Q (bool true) [] gl) {w b m : Nat} {T1 : Nat → Nat → Nat} {v : View.VS} {R : Nat → RS} {DD : Nat → Dr} (hw : Value) (gl : Glb) (law : JW n (n + 1) (n + 1) 2 w b m v R []) (fa : Rep.FinA n (n + 1) 2 R [] T1) (hT : ∀ k j, k < 6 → j < n + 1 → 3 ≤ T1 k j) (lot : Lot (n + 1) B R DD gl) :
  ∀ z k, k + z = 6 → wRiN1 Γ Q [kRiN0 [1,1,1,1,1,1,1,1,1,1,1,1,1,1,1,1,0,1,0], .blk 12, kRiN0 [1,1,1,1,1,1,1,1,1,1,1,1,1,1,1,1,1]] ⟨frame 192 [(7, .ptr 4 bn 0), (8, .ptr 1 ba 0), (21, u8 (k : Nat))], obsPt bw ba bn bc n (gpsC B (n + 1)) [] hu hw, gl⟩ := by
 intro z
 induction z with
 | zero => intro k hk; have hk : k = 6 := by omega
           subst hk
           refine jk42e Γ bw ba bn bc (gpsC B (n + 1)) n [] hu hw gl Q (B n) (gpsC_at (by omega)) ?_ (hQ gl)
           refine lot_complete lot (by omega) _ ?_
           have hc : Rep.complete (R n) = true := by
            unfold Rep.complete
            rw [fa.has n (by omega) 0 (by decide), fa.has n (by omega) 1 (by decide), fa.has n (by omega) 2 (by decide), fa.has n (by omega) 3 (by decide), fa.has n (by omega) 4 (by decide), fa.has n (by omega) 5 (by decide)]
            rfl
           rw [hc]
           exact toldG_post rfl
 | succ z ih =>
  intro k hk
  have hk6 : k < 6 := by omega
  obtain ⟨w0, hx⟩ := fa.fin law.cj hT hk6
  have cl : ∀ i, i < n + 1 → TCalls Try.prog 13 [.gp (B i) 0, u8 (k : Nat)] [] gl (callPost (toldG (.tup [.agg (clC ⟨w0, 1⟩), bool true]) [] [] gl)) := fun i hi => by
   refine lot_cell lot hi k _ ?_
   unfold cellOf
   rw [if_pos hk6, (hx i hi).1, (hx i hi).2, decide_eq_true hk6]
   exact toldG_post rfl
  refine jk42 Γ bw ba bn bc (gpsC B (n + 1)) n [] hu hw gl Q k hk6 (B 0) (gpsC_at (by omega)) ⟨w0, 1⟩ (cl 0 (by omega)) fun bo => ?_
  have inner : ∀ z i, i + z = n + 1 → wRiN1 Γ Q [kRiN0 [1,1,1,1,1,1,1,1,1,1,1,1,1,1,1,1,0,1,0,0,1,0,0,1,1,0], .blk 14, .blk 13, kRiN0 [1,1,1,1,1,1,1,1,1,1,1,1,1,1,1,1,0,1,0,0,1,1], kRiN0 [1,1,1,1,1,1,1,1,1,1,1,1,1,1,1,1,0,1,0], .blk 12, kRiN0 [1,1,1,1,1,1,1,1,1,1,1,1,1,1,1,1,1]] ⟨frame 192 [(7, .ptr 4 bn 0), (8, .ptr 1 ba 0), (21, u8 (k : Nat)), (22, .ptr 6 bo 0), (24, int (i : Nat))], obsPt bw ba bn bc n (gpsC B (n + 1)) [] hu hw ++ [(bo, .cells (clC ⟨w0, 1⟩))], gl⟩ := by
   intro z
   induction z with
   | zero => intro i hi; have hi : i = n + 1 := by omega
             subst hi
             exact jk46e Γ bw ba bn bc (gpsC B (n + 1)) n [] hu hw gl Q k hk6 bo (clC ⟨w0, 1⟩) (ih (k + 1) (by omega))
   | succ z ih2 => intro i hi
                   exact jk46 Γ bw ba bn bc (gpsC B (n + 1)) n i [] hu hw gl Q k bo (by omega) (by omega) (B i) (gpsC_at (by omega)) w0 (cl i (by omega)) (ih2 (i + 1) (by omega))
  exact inner (n + 1) 0 (by omega)
theorem tk_len {w b m : Nat} {v : View.VS} {R : Nat → RS} {W : List Fm} (law : JW n (n + 1) (n + 1) 2 w b m v R W) (hb : b ≤ 800000) {i : Nat} (hi : i < n + 1) : (Row.aggs frC W).length ≤ 1000000 ∧ (Rep.tick (R i) 2 3 true).2.1.length ≤ 1000000 := by
 have h1 := law.cj.len
 have h2 := (tick_len (R i) 2 3 true (law.oth hi)).1
 exact ⟨by rw [Row.aggs_len]; omega, by omega⟩
theorem tkH {w b m : Nat} {v : View.VS} {R : Nat → RS} {DD : Nat → Dr} {W : List Fm} {gl : Glb} (law : JW n (n + 1) (n + 1) 2 w b m v R W) (lot : Lot (n + 1) B R DD gl) (hm : m ≤ 900000) {i : Nat} (hi : i < n + 1) :
  ∀ Q' : T → Obs → Glb → Prop, (∀ D' gl', Lot (n + 1) B (put R i (Rep.tick (R i) 2 3 true).1) (put DD i D') gl' → Q' (outT (Rep.tick (R i) 2 3 true).2.1 (Rep.tick (R i) 2 3 true).2.2) [] gl') → TCalls Try.prog 12 [.gp (B i) 0, int 2, int 3, bool true] [] gl Q' :=
 fun Q' hq => lot_tick lot hi 2 3 true (law.lim hi) (law.oth hi) ((law.fit i hi).bd (by omega)) (Nat.le_trans (law.fit i hi).ca (by omega)) Q' hq
theorem jt_loop (hn1 : 1 ≤ n) (hn : n ≤ 4) (hQ : ∀ gl, Q (bool true) [] gl) (v : View.VS) : ∀ z t R DD hw gl, t + z = 14 → 1 ≤ t → JW n (n + 1) (n + 1) 2 40 0 (140 + 35 * t) v R [] → Rep.FinA n (n + 1) 2 R [] (fun _ _ => t - 1) → Lot (n + 1) B R DD gl →
  wRiN1 Γ Q [kRiN0 [1,1,1,1,1,1,1,1,1,1,1,1,1,1,1,0,1,0], .blk 8, kRiN0 [1,1,1,1,1,1,1,1,1,1,1,1,1,1,1,1]] ⟨frame 192 [(7, .ptr 4 bn 0), (8, .ptr 1 ba 0), (11, .ptr 0 bw 0), (12, .ptr 5 bc 0), (19, int (t : Nat))], obsPt bw ba bn bc n (gpsC B (n + 1)) [] hu hw, gl⟩ := by
 intro z
 induction z with
 | zero => intro t R DD hw gl ht ht1 law fa lot; have ht : t = 14 := by omega
           subst ht
           exact jn34e Γ bw ba bn bc (gpsC B (n + 1)) n [] hu hw gl Q (jk_loop Γ bw ba bn bc n Q B hu hn1 hn hQ hw gl law fa (fun _ _ _ _ => by decide) lot 6 0 rfl)
 | succ z ih =>
  intro t R DD hw gl ht ht1 law fa lot
  refine jn34 Γ bw ba bn bc (gpsC B (n + 1)) n [] hu hw gl Q t (by omega) ?_
  have inner : ∀ z i R DD W hw gl, i + z = n + 1 → JW n (n + 1) (n + 1) 2 40 (1644 * i) (140 + 35 * t + 7 * i) v R W → Rep.FinA n (n + 1) 2 R W (fun q j => if j < i ∧ q < 6 then t else t - 1) → Lot (n + 1) B R DD gl → wRiN1 Γ Q [kRiN0 [1,1,1,1,1,1,1,1,1,1,1,1,1,1,1,0,1,0,0,1,0,0,0,1,0], .blk 10, kRiN0 [1,1,1,1,1,1,1,1,1,1,1,1,1,1,1,0,1,0,0,1,0,0,1], .blk 9, kRiN0 [1,1,1,1,1,1,1,1,1,1,1,1,1,1,1,0,1,0,0,1,1], kRiN0 [1,1,1,1,1,1,1,1,1,1,1,1,1,1,1,0,1,0], .blk 8, kRiN0 [1,1,1,1,1,1,1,1,1,1,1,1,1,1,1,1]] ⟨frame 192 [(7, .ptr 4 bn 0), (8, .ptr 1 ba 0), (11, .ptr 0 bw 0), (12, .ptr 5 bc 0), (19, int (t : Nat)), (20, int (i : Nat))], obsPt bw ba bn bc n (gpsC B (n + 1)) (Row.aggs frC W) hu hw, gl⟩ := by
   intro z
   induction z with
   | zero =>
    intro i R DD W hw gl hi law fa lot
    have hi : i = n + 1 := by omega
    subst hi
    refine jn37e Γ bw ba bn bc (gpsC B (n + 1)) n (Row.aggs frC W) hu hw gl Q t (by omega) _ (comeH bw ba n B hu (by decide) (by omega) (fun R W => Rep.FinA n (n + 1) 2 R W (fun _ _ => t)) (fun b R f W i l hi ht fa => fa.on l.cj hi ht) law (fa.down fun k j hk hj => by rw [if_pos ⟨hj, hk⟩]; exact Nat.le_refl _) lot) fun W' hw' gl' h => ?_
    obtain ⟨R', DD', W2, rfl, b1, b2, b3, b4⟩ := h
    have e := b3 (by omega)
    subst e
    exact ih (t + 1) R' DD' hw' gl' (by omega) (by omega) (b1.nil.mono (Nat.le_refl _) (Nat.le_refl _) (by omega)) b2 b4
   | succ z ih2 =>
    intro i R DD W hw gl hi law fa lot
    have hin : i < n + 1 := by omega
    obtain ⟨l1, l2⟩ := tk_len n law (by omega) hin
    refine jn37 Γ bw ba bn bc (gpsC B (n + 1)) n i (Row.aggs frC W) hu hw gl Q t (by omega) (by omega) (B i) (gpsC_at hin) _ _ _ l1 l2 (tkH n B law lot (by omega) hin) fun D' gl' hw' h => ?_
    rw [app_frC]
    refine ih2 (i + 1) _ _ _ hw' gl' (by omega) ((law.tick (by omega) hin 2 3).mono (Nat.le_refl _) (by omega) (by omega)) ((fa.tick law.cj (by omega) hin 2).down fun k j hk hj => ?_) h
    by_cases ej : j = i
    ·subst ej
     rw [if_pos ⟨Nat.lt_succ_self _, hk⟩, if_pos ⟨rfl, hk⟩, if_neg (fun c => Nat.lt_irrefl _ c.1)]
     omega
    ·rw [if_neg (c := j = i ∧ k < 6) (fun c => ej c.1)]
     by_cases hji : j < i
     ·rw [if_pos ⟨by omega, hk⟩, if_pos ⟨hji, hk⟩]; exact Nat.le_refl _
     ·rw [if_neg (fun c => by omega), if_neg (fun c => hji c.1)]; exact Nat.le_refl _
  exact inner (n + 1) 0 R DD [] hw gl (by omega) (law.mono (Nat.le_refl _) (by omega) (by omega)) (fa.down fun k j _ _ => by rw [if_neg (fun c => absurd c.1 (Nat.not_lt_zero _))]; exact Nat.le_refl _) lot
theorem jt_first (hn1 : 1 ≤ n) (hn : n ≤ 4) (hQ : ∀ gl, Q (bool true) [] gl) (v : View.VS) (R : Nat → RS) (DD : Nat → Dr) (W : List Fm) (hw : Value) (gl : Glb) (law : JW n (n + 1) (n + 1) 2 40 51800 140 v R W) (lot : Lot (n + 1) B R DD gl) :
  wRiN1 Γ Q [kRiN0 [1,1,1,1,1,1,1,1,1,1,1,1,1,1,1,0,1,0], .blk 8, kRiN0 [1,1,1,1,1,1,1,1,1,1,1,1,1,1,1,1]] ⟨frame 192 [(7, .ptr 4 bn 0), (8, .ptr 1 ba 0), (11, .ptr 0 bw 0), (12, .ptr 5 bc 0), (19, int (0 : Nat))], obsPt bw ba bn bc n (gpsC B (n + 1)) (Row.aggs frC W) hu hw, gl⟩ := by
 refine jn34 Γ bw ba bn bc (gpsC B (n + 1)) n (Row.aggs frC W) hu hw gl Q 0 (by omega) ?_
 have inner : ∀ z i R DD W hw gl, i + z = n + 1 → JW n (n + 1) (n + 1) 2 40 (51800 + 1644 * i) (140 + 7 * i) v R W → (i = n + 1 → ∀ k, k < 6 → Rep.AskJ n k 2 ((R n).has k) W) → Lot (n + 1) B R DD gl → wRiN1 Γ Q [kRiN0 [1,1,1,1,1,1,1,1,1,1,1,1,1,1,1,0,1,0,0,1,0,0,0,1,0], .blk 10, kRiN0 [1,1,1,1,1,1,1,1,1,1,1,1,1,1,1,0,1,0,0,1,0,0,1], .blk 9, kRiN0 [1,1,1,1,1,1,1,1,1,1,1,1,1,1,1,0,1,0,0,1,1], kRiN0 [1,1,1,1,1,1,1,1,1,1,1,1,1,1,1,0,1,0], .blk 8, kRiN0 [1,1,1,1,1,1,1,1,1,1,1,1,1,1,1,1]] ⟨frame 192 [(7, .ptr 4 bn 0), (8, .ptr 1 ba 0), (11, .ptr 0 bw 0), (12, .ptr 5 bc 0), (19, int (0 : Nat)), (20, int (i : Nat))], obsPt bw ba bn bc n (gpsC B (n + 1)) (Row.aggs frC W) hu hw, gl⟩ := by
  intro z
  induction z with
  | zero =>
   intro i R DD W hw gl hi law ask lot
   have hi : i = n + 1 := by omega
   subst hi
   refine jn37e Γ bw ba bn bc (gpsC B (n + 1)) n (Row.aggs frC W) hu hw gl Q 0 (by omega) _ (comeH bw ba n B hu (by decide) (by omega) (fun R W => ∀ k, k < 6 → Rep.AskJ n k 2 ((R n).has k) W) (fun b R f W i l hi ht a k hk => Rep.AskJ.on l.cj hi ht hk (a k hk)) law (ask rfl) lot) fun W' hw' gl' h => ?_
   obtain ⟨R', DD', W2, rfl, b1, b2, b3, b4⟩ := h
   have e := b3 (by omega)
   subst e
   exact jt_loop Γ bw ba bn bc n Q B hu hn1 hn hQ v 13 1 R' DD' hw' gl' rfl (Nat.le_refl _) (b1.nil.mono (Nat.le_refl _) (Nat.le_refl _) (by omega)) (Rep.FinA.start b1.cj b2) b4
  | succ z ih2 =>
   intro i R DD W hw gl hi law ask lot
   have hin : i < n + 1 := by omega
   obtain ⟨l1, l2⟩ := tk_len n law (by omega) hin
   refine jn37 Γ bw ba bn bc (gpsC B (n + 1)) n i (Row.aggs frC W) hu hw gl Q 0 (by omega) (by omega) (B i) (gpsC_at hin) _ _ _ l1 l2 (tkH n B law lot (by omega) hin) fun D' gl' hw' h => ?_
   rw [app_frC]
   refine ih2 (i + 1) _ _ _ hw' gl' (by omega) ((law.tick (by omega) hin 2 3).mono (Nat.le_refl _) (by omega) (by omega)) (fun e k hk => ?_) h
   have e : i = n := by omega
   subst e
   exact Rep.AskJ.tick law.cj 2 3 hk
 exact inner (n + 1) 0 R DD W hw gl (by omega) (law.mono (Nat.le_refl _) (by omega) (by omega)) (fun c => by omega) lot
theorem ja_loop (hn1 : 1 ≤ n) (hn : n ≤ 4) (hQ : ∀ gl, Q (bool true) [] gl) (v : View.VS) (L : List Cb) (hL : ∀ z ∈ L, z.node < 256) : ∀ z i R DD W hw gl, i + z = 20 → JW n (n + 1) (n + 1) 2 (20 + i) (13480 + 1916 * i) (7 * i) v R W → Lot (n + 1) B R DD gl →
  wRiN1 Γ Q [kRiN0 [1,1,1,1,1,1,1,1,1,1,1,1,1,1,0,1,0], .blk 6, kRiN0 [1,1,1,1,1,1,1,1,1,1,1,1,1,1,1]] ⟨frame 192 [(2, .sl 5 (Row.aggs cbC L)), (7, .ptr 4 bn 0), (8, .ptr 1 ba 0), (11, .ptr 0 bw 0), (12, .ptr 5 bc 0), (13, .fn 23 [.ptr 1 ba 0, .ptr 4 bn 0, .ptr 0 bw 0, .ptr 5 bc 0]), (18, int (i : Nat))], obsPt bw ba bn bc n (gpsC B (n + 1)) (Row.aggs frC W) hu hw, gl⟩ := by
 have atEnd : ∀ i R DD W hw gl, i ≤ 20 → JW n (n + 1) (n + 1) 2 (20 + i) (13480 + 1916 * i) (7 * i) v R W → Lot (n + 1) B R DD gl → wRiN1 Γ Q [kRiN0 [1,1,1,1,1,1,1,1,1,1,1,1,1,1,1,0,1,0], .blk 8, kRiN0 [1,1,1,1,1,1,1,1,1,1,1,1,1,1,1,1]] ⟨frame 192 [(7, .ptr 4 bn 0), (8, .ptr 1 ba 0), (11, .ptr 0 bw 0), (12, .ptr 5 bc 0), (19, int (0 : Nat))], obsPt bw ba bn bc n (gpsC B (n + 1)) (Row.aggs frC W) hu hw, gl⟩ := fun i R DD W hw gl hi law lot =>
  jt_first Γ bw ba bn bc n Q B hu hn1 hn hQ v R DD W hw gl (law.mono (by omega) (by omega) (by omega)) lot
 intro z
 induction z with
 | zero =>
  intro i R DD W hw gl hi law lot
  exact jn29e Γ bw ba bn bc (Row.aggs cbC L) (gpsC B (n + 1)) n i (Row.aggs frC W) hu hw gl Q (.inr (by omega)) (atEnd i R DD W hw gl (by omega) law lot)
 | succ z ih =>
  intro i R DD W hw gl hi law lot
  by_cases hl : i < L.length
  rotate_left
  ·exact jn29e Γ bw ba bn bc (Row.aggs cbC L) (gpsC B (n + 1)) n i (Row.aggs frC W) hu hw gl Q (.inl (by rw [Row.aggs_len]; omega)) (atEnd i R DD W hw gl (by omega) law lot)
  obtain ⟨x, hx⟩ : ∃ x, L[i]? = some x := ⟨_, List.getElem?_eq_getElem hl⟩
  have h1 := hL x (List.mem_of_getElem? hx)
  have hin : n < n + 1 := Nat.lt_succ_self n
  obtain ⟨l1, l2⟩ := tk_len n law (by omega) hin
  refine jn29 Γ bw ba bn bc (Row.aggs cbC L) (gpsC B (n + 1)) n i (Row.aggs frC W) hu hw gl Q x (Row.aggs_at hx) (by omega) (B n) (gpsC_at hin) _ _ _ l1 l2 (tkH n B law lot (by omega) hin) fun D' gl' hw' h => ?_
  rw [app_frC]
  have law' := law.tick (by omega) hin 2 3
  refine jn32 Γ bw ba bn bc (Row.aggs cbC L) (gpsC B (n + 1)) n i _ hu hw' gl' Q x (Row.aggs_at hx) (by omega) (fun W' _ gl' => ∃ R' DD' W2, W' = Row.aggs frC W2 ∧ JW n (n + 1) (n + 1) 2 (20 + (i + 1)) (13480 + 1916 * (i + 1)) (7 * (i + 1)) v R' W2 ∧ Lot (n + 1) B R' DD' gl')
   (fun Q' hq => put_any n (n + 1) (n + 1) (20 + i) _ _ 2 v (by omega) (by omega) B x h1 hn1 (by omega) (by omega) bw ba bn bc _ _ _ hu hw' gl' law' h Q' fun R' DD' W2 hw2 gl2 b1 b2 => hq _ _ _ ⟨R', DD', W2, rfl, b1.mono (by omega) (by omega) (by omega), b2⟩) fun W' hw2 gl2 hp => ?_
  obtain ⟨R', DD', W2, rfl, b1, b2⟩ := hp
  exact ih (i + 1) R' DD' W2 hw2 gl2 (by omega) b1 b2
theorem je_loop (hn1 : 1 ≤ n) (hn : n ≤ 4) (hQ : ∀ gl, Q (bool true) [] gl) (bv : Nat) (L : List Cb) (hL : ∀ z ∈ L, z.node < 256) (R : Nat → RS) (W : List Fm) (law : JW n n (n + 1) 1 20 5440 0 (vN n) R W) : ∀ z i DD hw gl, i + z = n + 1 → Lot (n + 1) B (Rep.entR (Rep.newJ n R) (vJ n) i) DD gl →
  wRiN1 Γ Q [kRiN0 [1,1,1,1,1,1,1,1,1,1,1,1,1,0,1,0], .blk 4, kRiN0 [1,1,1,1,1,1,1,1,1,1,1,1,1,1]] ⟨frame 192 [(2, .sl 5 (Row.aggs cbC L)), (7, .ptr 4 bn 0), (8, .ptr 1 ba 0), (11, .ptr 0 bw 0), (12, .ptr 5 bc 0), (13, .fn 23 [.ptr 1 ba 0, .ptr 4 bn 0, .ptr 0 bw 0, .ptr 5 bc 0]), (15, .ptr 6 bv 0), (17, int (i : Nat))], obsPt bw ba bn bc n (gpsC B (n + 1)) (Row.aggs frC (W ++ Rep.entF (Rep.newJ n R) (vJ n) i)) hu hw ++ [(bv, .cells (X5.viewC (vJ n)))], gl⟩ := by
 have hlim : X5.lim (vJ n).ms := by
  show (vJ n).ms.length ≤ 1000000
  rw [(Rep.vJ_ms hn1 hn).1, List.length_append, X5.firstM_len, List.length_singleton]; omega
 have hlen := law.cj.len
 have hE : ∀ m, (Rep.entF (Rep.newJ n R) (vJ n) m).length ≤ 12 * m := by
  intro m
  induction m with
  | zero => exact Nat.le_refl _
  | succ m ih =>
   show (Rep.entF (Rep.newJ n R) (vJ n) m ++ (Rep.enter (Rep.newJ n R m) (vJ n)).2).length ≤ _
   rw [List.length_append]
   have := enter_len (Rep.newJ n R m) (vJ n)
   omega
 intro z
 induction z with
 | zero =>
  intro i DD hw gl hi lot
  have hi : i = n + 1 := by omega
  subst hi
  exact jn25e Γ bw ba bn bc (Row.aggs cbC L) (gpsC B (n + 1)) n _ hu hw gl Q (vJ n) bv (ja_loop Γ bw ba bn bc n Q B hu hn1 hn hQ (vJ n) L hL 20 0 _ DD _ hw gl rfl (law.enter hn1 hn (Nat.le_refl _)) lot)
 | succ z ih =>
  intro i DD hw gl hi lot
  have hin : i < n + 1 := by omega
  have hRi : Rep.entR (Rep.newJ n R) (vJ n) i i = Rep.newJ n R i := if_neg (Nat.lt_irrefl _)
  have hc := fun Q' => lot_enter lot hin (vJ n) hlim Q'
  rw [hRi, entR_put] at hc
  have h12 := enter_len (Rep.newJ n R i) (vJ n)
  have h13 := hE i
  refine jn25 Γ bw ba bn bc (Row.aggs cbC L) (gpsC B (n + 1)) n i _ hu hw gl Q (vJ n) bv (by omega) (by omega) (B i) (gpsC_at hin) (Rep.enter (Rep.newJ n R i) (vJ n)).2 (fun D' gl' => Lot (n + 1) B (Rep.entR (Rep.newJ n R) (vJ n) (i + 1)) (put DD i D') gl')
   (by rw [Row.aggs_len, List.length_append]; omega) (by omega) (fun Q' hq => hc Q' fun D' gl' h => hq D' gl' h) fun D' gl' hw' h => ?_
  rw [app_frC, List.append_assoc]
  exact ih (i + 1) _ hw' gl' (by omega) h
end
theorem vJ_may (n : Nat) (h1 : 1 ≤ n) (h4 : n ≤ 4) : View.may (vf n) (n + 1) 2 = true := by
 have hc : n = 1 ∨ n = 2 ∨ n = 3 ∨ n = 4 := by omega
 rcases hc with rfl|rfl|rfl|rfl <;> rfl
theorem vJ_add (n : Nat) (h1 : 1 ≤ n) (h4 : n ≤ 4) : View.addV (vf n) (n + 1) 2 = (vJ n, true) := by
 have hc : n = 1 ∨ n = 2 ∨ n = 3 ∨ n = 4 := by omega
 rcases hc with rfl|rfl|rfl|rfl <;> rfl
section
variable (Γ : Ctx) (bw ba bn bc : Nat) (n : Nat) (Q : T → Obs → Glb → Prop) (B : Nat → Nat)
theorem jj (hn1 : 1 ≤ n) (hn : n ≤ 4) (hQ : ∀ gl, Q (bool true) [] gl) (L : List Cb) (hL : ∀ z ∈ L, z.node < 256) (R : Nat → RS) (DD : Nat → Dr) (W : List Fm) (hu hw : Value) (gl : Glb) (law : JW n n (n + 1) 1 20 5440 0 (vN n) R W) (lot : Lot n B R DD gl) :
  wRiN1 Γ Q [kRiN0 [1,1,1,1,1,1,1,1,1]] ⟨frame 192 [(2, .sl 5 (Row.aggs cbC L)), (7, .ptr 4 bn 0), (8, .ptr 1 ba 0), (11, .ptr 0 bw 0), (12, .ptr 5 bc 0), (13, .fn 23 [.ptr 1 ba 0, .ptr 4 bn 0, .ptr 0 bw 0, .ptr 5 bc 0])], obsPt bw ba bn bc n (gpsC B n) (Row.aggs frC W) hu hw, gl⟩ := by
 refine jn18 Γ bw ba bn bc (Row.aggs cbC L) (gpsC B n) n (Row.aggs frC W) hu hw gl Q (vf n) (vJ n) (by omega) (fun Q' hq => lfirst_any n hn1 (by omega) Q' hq)
  (X5.apply_add (vf n) ⟨by show (0 : Int) ≤ 1; decide, by show (1 : Int) ≤ 4294967295; decide⟩ (show (X5.firstM n).length ≤ 1000000 by rw [X5.firstM_len]; omega) (fun h => by have := congrArg List.length h; rw [show (vf n).ms = X5.firstM n from rfl, X5.firstM_len] at this; simp at this; omega) (show (1 : Int) ≠ 4294967295 by decide) (n + 1) 2 0 0 (vJ_may n hn1 hn) _ fun r hr => by rw [hr, vJ_add n hn1 hn]; exact told_post rfl) fun bv => ?_
 refine jn21 Γ bw ba bn bc (Row.aggs cbC L) (gpsC B n) n (Row.aggs frC W) hu hw gl Q (vJ n) bv (by omega) (by rw [gpsC_len]; omega) fun b t hu' ht hb hbt => ?_
 have l2 := lot.new (n + 1) 2 false ht hb hbt
 have l3 : Lot (n + 1) (put B n b) (Rep.newJ n R) (put DD n (Dt t)) (setO (setO gl t (.cells (trC (fun _ => false) 0))) b (.cells (repC (Rep.begun (n + 1) 2 false) (Dt t)))) := l2
 rw [← gpsC_snoc]
 generalize setO (setO gl t (.cells (trC (fun _ => false) 0))) b (.cells (repC (Rep.begun (n + 1) 2 false) (Dt t))) = gl2 at *
 refine jn22 Γ bw ba bn bc (Row.aggs cbC L) (gpsC (put B n b) (n + 1)) n (Row.aggs frC W) hu' hw gl2 Q (vJ n) bv (put B n b n) (gpsC_at (Nat.lt_succ_self n)) ?_ ?_
 ·refine lot_complete l3 (Nat.lt_succ_self n) _ ?_
  rw [show Rep.newJ n R n = Rep.begun (n + 1) 2 false from Rep.put_at _ _ _]
  exact toldG_post rfl
 ·have h0 : W ++ Rep.entF (Rep.newJ n R) (vJ n) 0 = W := List.append_nil _
  have := je_loop Γ bw ba bn bc n Q (put B n b) hu' hn1 hn hQ bv L hL R W law (n + 1) 0 (put DD n (Dt t)) hw gl2 (by omega) l3
  rw [h0] at this
  exact this
theorem jb_loop (hn1 : 1 ≤ n) (hn : n ≤ 4) (hQ : ∀ gl, Q (bool true) [] gl) (hu : Value) (L1 L : List Cb) (hL1 : ∀ z ∈ L1, z.node < 256) (hL : ∀ z ∈ L, z.node < 256) : ∀ z i R DD W hw gl, i + z = 20 → JW n n (n + 1) 1 i (272 * i) 0 (vN n) R W → Lot n B R DD gl →
  wRiN1 Γ Q [kRiN0 [1,1,1,1,1,1,1,1,0,1,0], .blk 2, kRiN0 [1,1,1,1,1,1,1,1,1]] ⟨frame 192 [(1, .sl 5 (Row.aggs cbC L1)), (2, .sl 5 (Row.aggs cbC L)), (7, .ptr 4 bn 0), (8, .ptr 1 ba 0), (11, .ptr 0 bw 0), (12, .ptr 5 bc 0), (13, .fn 23 [.ptr 1 ba 0, .ptr 4 bn 0, .ptr 0 bw 0, .ptr 5 bc 0]), (14, int (i : Nat))], obsPt bw ba bn bc n (gpsC B n) (Row.aggs frC W) hu hw, gl⟩ := by
 intro z
 induction z with
 | zero =>
  intro i R DD W hw gl hi law lot
  exact jn15e Γ bw ba bn bc (Row.aggs cbC L1) (Row.aggs cbC L) (gpsC B n) n i (Row.aggs frC W) hu hw gl Q (.inr (by omega)) (jj Γ bw ba bn bc n Q B hn1 hn hQ L hL R DD W hu hw gl (law.mono (by omega) (by omega) (Nat.le_refl _)) lot)
 | succ z ih =>
  intro i R DD W hw gl hi law lot
  by_cases hl : i < L1.length
  rotate_left
  ·exact jn15e Γ bw ba bn bc (Row.aggs cbC L1) (Row.aggs cbC L) (gpsC B n) n i (Row.aggs frC W) hu hw gl Q (.inl (by rw [Row.aggs_len]; omega)) (jj Γ bw ba bn bc n Q B hn1 hn hQ L hL R DD W hu hw gl (law.mono (by omega) (by omega) (Nat.le_refl _)) lot)
  obtain ⟨x, hx⟩ : ∃ x, L1[i]? = some x := ⟨_, List.getElem?_eq_getElem hl⟩
  have h1 := hL1 x (List.mem_of_getElem? hx)
  refine jn15 Γ bw ba bn bc (Row.aggs cbC L1) (Row.aggs cbC L) (gpsC B n) n i (Row.aggs frC W) hu hw gl Q x (Row.aggs_at hx) (by omega) (fun W' _ gl' => ∃ R' DD' W2, W' = Row.aggs frC W2 ∧ JW n n (n + 1) 1 (i + 1) (272 * (i + 1)) 0 (vN n) R' W2 ∧ Lot n B R' DD' gl')
   (fun Q' hq => put_any n n (n + 1) i _ _ 1 (vN n) (by omega) (by omega) B x h1 hn1 (by omega) (Nat.le_refl _) bw ba bn bc _ _ _ hu hw gl law lot Q' fun R' DD' W2 hw2 gl2 b1 b2 => hq _ _ _ ⟨R', DD', W2, rfl, b1.mono (Nat.le_refl _) (by omega) (Nat.le_refl _), b2⟩) fun W' hw2 gl2 hp => ?_
  obtain ⟨R', DD', W2, rfl, b1, b2⟩ := hp
  exact ih (i + 1) R' DD' W2 hw2 gl2 (by omega) b1 b2
end
theorem joins_any (nodes : Nat) (h0 : nodes < 256) (L1 L : List Cb) (hL1 : ∀ z ∈ L1, z.node < 256) (hL : ∀ z ∈ L, z.node < 256) (Q : T → Obs → Glb → Prop) (hQ : ∀ gl, Q (bool true) [] gl) : TCalls Try.prog 6 [u8 nodes, .sl 5 (Row.aggs cbC L1), .sl 5 (Row.aggs cbC L)] [] none_ Q := by
 obtain ⟨n, hn⟩ : ∃ n, n = 1 + nodes % 4 := ⟨_, rfl⟩
 have hn1 : 1 ≤ n := by omega
 have hn4 : n ≤ 4 := by omega
 have lp : ∀ Γ bn ba gl, wRiN1 Γ Q [kRiN0 [1,1,1,1,0,1,0], .blk 0, kRiN0 [1,1,1,1,1]] ⟨frame 192 [(1, .sl 5 (Row.aggs cbC L1)), (2, .sl 5 (Row.aggs cbC L)), (7, .ptr 0 bn 0), (8, .ptr 1 ba 0), (9, int (0 : Nat))], [(bn, .cells [int (n : Nat)]), (ba, .cells [.v nilS])], gl⟩ := fun Γ bn ba gl => by
  have l0 := kpMake Γ bn ba (Row.aggs cbC L1) (Row.aggs cbC L) n Q hn1 (by omega) (fun B DD hd gl lot => ?_) n 0 (fun _ => 0) (fun _ => Dt 0) nilS gl (Nat.zero_add n) (Lot.nil _ _ _ _)
  ·exact TWk.imp l0 (imp_all0 bn ba n gl)
  ·refine kp11 Γ bn ba (Row.aggs cbC L1) (Row.aggs cbC L) n Q (gpsC B n) hd gl fun bw bc => ?_
   exact TWk.imp (jb_loop Γ bw ba bn bc n Q B hn1 hn4 hQ hd L1 L hL1 hL 20 0 (rN n) DD [] nilS gl rfl (JW.start hn1 (by omega) (by omega)) lot) (imp_bw (Row.aggs cbC L1) (Row.aggs cbC L) (gpsC B n) hd n bn bw bc ba gl)
 have e1 : T.v (.int .i64 (IntKind.wrap .i64 (1 + Int.tmod (IntKind.wrap .i64 (nodes : Int)) 4))) = int (n : Nat) := congrArg int (by
  rw [wrap_i64 (x := (nodes : Int)) (by omega) (by omega), show Int.tmod (nodes : Int) 4 = ((nodes % 4 : Nat) : Int) from IntWalk.up_tmod rfl rfl, wrap_i64 (by omega) (by omega)]; omega)
 clear hQ hL hL1
 generalize Row.aggs cbC L1 = a1 at *
 generalize Row.aggs cbC L = a2 at *
 refine TCalls.of Try.func6 rfl (CanCall.of Try.func6 rfl (by decide)) [] fun Γ => ?_
 let HH : Nat → Nat → Hint := fun | 1, 0 => .call false Glb (fun _ => True) [] true (fun _ => bool true) (fun _ => []) (fun a => a) | 3, 3 => .res (int (n : Nat)) | _, _ => .no
 exact run_sound ⟨HH, [((2, 6), ([1,2,7,8,9], 2))], plRiN0⟩ 400 (by kernel_rfl) (Ya (speaks_any none_ (HH 1 0).P fun gl' => ⟨gl', trivial, rfl, rfl, Nat.zero_le _, fun _ => rfl⟩) (fun (Z0 : Glb) => (fun (Z1 : True) => (Ya e1 (fun (Z2 : Nat) => (Yk 1 Z2 (fun (Z3 : Nat) => (lp Γ Z2 Z3 Z0))))))))
end X20
end Go.Proofs.Ytafcbipmmjegcaa.Vm
