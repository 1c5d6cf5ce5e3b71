/- Texts of this claim: RpQ. -/
import Derived.Test.YtafcbipmmjegcaaMg15
import Derived.Test.YtafcbipmmjegcaaMg29
namespace Go.Proofs.Ytafcbipmmjegcaa.Vm
open Go Go.RowKit
set_option maxRecDepth 100000
noncomputable abbrev kRpQ0 (l : List Nat) : It := .code (sub (bd Try.f8) l)
noncomputable abbrev wRpQ1 (Γ : Ctx) (Q : T → Obs → Glb → Prop) : List It → S → Prop := TWk Try.prog Γ (fin Try.prog Try.f8 [] Q)
namespace X20
open Rep (Stp Wrd Cel Drv Plc RS Fm Ev setP setC)
open View (Mem VS)
open X5 (viewC lim mems othV hasV firstM firstL first_any)
def txa : ByteArray := ⟨#[97]⟩
def s0 : RS := Rep.begun 1 1 true
def s1 : RS := (Rep.enter s0 (vf 1)).1
theorem s1_lim : lim s1.v.ms := by show s1.v.ms.length ≤ 1000000; decide
theorem s1_write : (Rep.write s1 3 true txa false).2 = some ⟨2, 1, 1⟩ ∧ (Rep.write s1 3 true txa false).1.2.2 = [⟨3, 1, ⟨2, 1, 1⟩⟩] ∧ cellOf (Rep.write s1 3 true txa false).1.1 3 = ⟨⟨⟨2, 1, 1⟩, true, txa, false⟩, 1⟩ ∧ (Rep.write s1 3 true txa false).1.1.has 3 = true := ⟨by rfl, by rfl, by rfl, by rfl⟩
theorem sp4 (Γ : Ctx) (b b2 b3 : Nat) (r : RS) (D : Dr) (F : List Fm) (gl : Glb) (ho : Own D r gl) (hc : cellOf r 3 = ⟨⟨⟨2, 1, 1⟩, true, txa, false⟩, 1⟩) (hh : r.has 3 = true) (Q : T → Obs → Glb → Prop) (hQ : Q (bool true) [] gl) :
    wRpQ1 Γ Q [kRpQ0 [1,1,1,1]] ⟨frame 68 [(1, .ptr 0 b 0), (2, .ptr 1 b2 0), (3, .ptr 2 b3 0), (4, bool true)], [(b, .cells (repC r D)), (b2, .cells [.sl 34 (Row.aggs frC F), .sl 5 [.agg (evC ⟨3, 1, ⟨2, 1, 1⟩⟩)]]), (b3, .cells [u32 2, u8 1, u8 1])], gl⟩ := by
  have hce := cell_any b r D 3 gl ho
  rw [hc, hh] at hce
  let HH : Nat → Nat → Hint := fun | 4, 1 => .plainAt [0] (toldG (.tup [.agg (clC ⟨⟨⟨2, 1, 1⟩, true, txa, false⟩, 1⟩), bool true]) [0] (obsR b r D) gl) | _, _ => .no
  exact run_sound ⟨HH, [], fun | 5 => some ⟨[1,2,3], [], .take true [0,1,2,3,4,5,6,7,8,9,10,11,12,13,14,15,16,17,18,19,20,21,22,23,24,25,26,27,28,29,30,31,32,33,34,35,36,37,38,39,40,41,42,43,44,45] .done⟩ | _ => none⟩ 400 (by kernel_rfl) (Ya (Ya (repC_plain r D) Yt) (Ya (hce (HH 4 1).P (toldG_post rfl)) (Yu (Ya (Ya (repC_plain r D) Yt) (fun (Z0 : Nat) => (Yk 7 Z0 (Yb b2 (Yb b2 (Ya (show (0 : Int) ≤ (0 : Int) by omega) (Yb b2 (Ya (show (0 : Int) ≤ (0 : Int) by omega) (Yb b3 (Yb b3 (Yb Z0 (Yb Z0 hQ)))))))))))))))
theorem s1_oth : (Rep.oth s1).length ≤ 1000 := by decide
theorem sp3 (Γ : Ctx) (b : Nat) (D : Dr) (gl : Glb) (ho : Own D s1 gl) (Q : T → Obs → Glb → Prop) (hQ : ∀ gl', Q (bool true) [] gl') :
    wRpQ1 Γ Q [kRpQ0 [1,1,1]] ⟨frame 68 [(1, .ptr 0 b 0)], [(b, .cells (repC s1 D))], gl⟩ := by
  have hw := write_any b s1 D 3 true txa false gl ho s1_lim s1_oth (fun _ => by decide)
  obtain ⟨g1, g2, g3, g4⟩ := s1_write
  generalize Rep.write s1 3 true txa false = o at *
  obtain ⟨⟨r, F, E⟩, s⟩ := o
  simp only at g1 g2 g3 g4 hw
  subst g1 g2
  have nx := fun Γ b2 b3 D' gl' h => sp4 Γ b b2 b3 r D' F gl' h g3 g4 Q (hQ gl')
  clear hQ
  let HH : Nat → Nat → Hint := fun | 3, 2 => .plainAt [0] (.call false (Dr × Glb) (fun a => Own a.1 r a.2) [0] true (fun _ => .tup [outT F [⟨3, 1, ⟨2, 1, 1⟩⟩], .agg (stC ⟨2, 1, 1⟩), bool true]) (fun a => obsR b r a.1) (fun a => a.2)) | _, _ => .no
  exact run_sound ⟨HH, [((0, 4), ([1,2,3,4], 3))], fun  | _ => none⟩ 400 (by kernel_rfl) (Ya (Yb true Yt) (Ya (hw (HH 3 2).P fun D' gl' h1 _ => ⟨(D', gl'), h1, rfl, rfl, Nat.le_of_ble_eq_true rfl, fun _ => rfl⟩) (fun (Z0 : Dr × Glb) => (fun (Z1 : Own Z0.fst r Z0.snd) => (Ya (Ya (repC_plain r Z0.fst) Yt) (fun (Z2 : Nat) => (fun (Z3 : Nat) => (Yk 2 Z2 (Yk 3 Z3 (nx Γ Z2 Z3 Z0.fst Z0.snd Z1))))))))))
theorem sp2 (Γ : Ctx) (b t : Nat) (gl : Glb) (ho : Own (Dt t) s0 gl) (Q : T → Obs → Glb → Prop) (hQ : ∀ gl', Q (bool true) [] gl') :
    wRpQ1 Γ Q [kRpQ0 [1,1]] ⟨frame 68 [(1, .ptr 0 b 0)], [(b, .cells (repC s0 (Dt t)))], gl⟩ := by
  have he := enter_any b s0 (Dt t) (vf 1) gl ho s1_lim
  rw [show (Rep.enter s0 (vf 1)).2 = [] by rfl, show (Rep.enter s0 (vf 1)).1 = s1 by rfl] at he
  let HH : Nat → Nat → Hint := fun | 2, 1 => told (.agg (viewC (vf 1))) [] [] | 2, 2 => .plainAt [0] (.call false (Dr × Glb) (fun a => Own a.1 s1 a.2) [0] true (fun _ => outT [] []) (fun a => obsR b s1 a.1) (fun a => a.2)) | _, _ => .no
  exact run_sound ⟨HH, [((0, 3), ([1], 1))], fun  | _ => none⟩ 400 (by kernel_rfl) (Ya (show TCalls Try.prog 11 [int (1 : Int)] [] none_ (callPost (told (T.agg (viewC (vf 1))) [] [])) from lfirst_any 1 (by decide) (by decide) _ (told_post rfl)) (Yu (Ya (Yb true Yt) (Ya (he (HH 2 2).P fun D' gl' h1 _ => ⟨(D', gl'), h1, rfl, rfl, Nat.le_of_ble_eq_true rfl, fun _ => rfl⟩) (fun (Z0 : Dr × Glb) => (fun (Z1 : Own Z0.fst s1 Z0.snd) => (Ya (Yb true Yt) (sp3 Γ b Z0.fst Z0.snd Z1 Q hQ))))))))
theorem speaks_any (gl : Glb) (Q : T → Obs → Glb → Prop) (hQ : ∀ gl', Q (bool true) [] gl') : TCalls Try.prog 8 [] [] gl Q := by
  have sp := fun Γ b t => sp2 Γ b t (setO gl t (.cells (trC (fun _ => true) 0))) (begun_own t 1 1 true gl) Q hQ
  clear hQ
  refine TCalls.of Try.func8 rfl (CanCall.of Try.func8 rfl (by decide)) [] fun Γ => ?_
  let HH : Nat → Nat → Hint := fun | 1, 0 => .call false (Nat × Nat) (fun _ => True) [] true (fun a => .ptr 0 a.1 0) (fun a => obsR a.1 s0 (Dt a.2)) (fun a => setO gl a.2 (.cells (trC (fun _ => true) 0))) | _, _ => .no
  exact run_sound ⟨HH, [((0, 2), ([1], 1))], fun  | _ => none⟩ 400 (by kernel_rfl) (Ya (new_any 1 1 true gl (HH 1 0).P fun b t _ => ⟨(b, t), trivial, rfl, rfl, Nat.zero_le _, fun _ => rfl⟩) (fun (Z0 : Nat × Nat) => (fun (Z1 : True) => (sp Γ Z0.fst Z0.snd))))
def n0 : RS := Rep.begun 9 1 true
def n1 : RS := (Rep.enter n0 (vf 3)).1
end X20
end Go.Proofs.Ytafcbipmmjegcaa.Vm
