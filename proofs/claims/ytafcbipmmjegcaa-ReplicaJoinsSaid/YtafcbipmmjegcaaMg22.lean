/- Texts of this claim: RpH. -/
import Derived.Test.YtafcbipmmjegcaaMg15
import Derived.Test.YtafcbipmmjegcaaMg21
namespace Go.Proofs.Ytafcbipmmjegcaa.Vm
open Go Go.RowKit
set_option maxRecDepth 100000
def plRpH0 : Nat → Option RPlan := fun | 2 => some ⟨[0, 4], [], .take true [0,1,2,3,4,5,6] .done⟩ | 3 => some ⟨[0, 4], [11, 16], .take true [0,1,2,3,4,5,6,7,8,9,10] (.two 11 15 (.take false [12,13,14] (.one 15 (.one 16 (.take false [17] .done)))) (.one 11 (.take false [12,13,14] (.one 16 (.take false [17] .done)))))⟩ | 5 => some ⟨[0, 4], [10, 11, 12], .take false [0,1,2,3,5,6,7,8] (.take true [4,9] (.one 10 (.one 11 (.one 12 .done))))⟩ | _ => none
def plRpH1 : Nat → Option RPlan := fun | 1 => some ⟨[0, 4], [], .take true [0,1,2,3,4,5,6,7,8] .done⟩ | 2 => some ⟨[4], [], .take true [0,1,2,3,6,7] (.one 4 (.take true [5,8,9] .done))⟩ | _ => none
def plRpH2 : Nat → Option RPlan := fun | 1 => some ⟨[0, 4], [6], .take true [0,1,2,3,4,5] (.one 6 .done)⟩ | 2 => some ⟨[0, 4], [], .take true [0,1,2,3,4,5,6] .done⟩ | 4 => some ⟨[0, 4], [13, 18], .take true [0,1,2,3,4,5,6,7,8,9,10,11,12] (.two 13 17 (.take false [14,15,16] (.one 17 (.one 18 (.take false [19] .done)))) (.one 13 (.take false [14,15,16] (.one 18 (.take false [19] .done)))))⟩ | _ => none
namespace X20
open Rep (Stp Wrd Cel Drv Plc RS Fm Ev setP setC)
open X5 (viewC lim othV hasV aheadV behindV ends_any)
def outH (b bo : Nat) (r : RS) (D : Dr) (F : List Fm) (E : List Ev) (he : Value) : Hint := .call false Value (fun _ => True) [0,1,2,3] false (fun _ => .tup []) (fun hf => obsR b r D ++ obsO 1 bo F hf E he) (fun _ => none_)
def evH (b bo : Nat) (r : RS) (D : Dr) (F : List Fm) (hf : Value) (E : List Ev) (gl : Glb) : Hint := .call false Value (fun _ => True) [0,1,2,3] true (fun _ => .tup []) (fun he => obsR b r D ++ obsO 1 bo F hf E he) (fun _ => gl)
def bothH (b bo : Nat) (r : RS) (D : Dr) (F : List Fm) (E : List Ev) (gl : Glb) : Hint := .call false (Value × Value) (fun _ => True) [0,1,2,3] true (fun _ => .tup []) (fun a => obsR b r D ++ obsO 1 bo F a.1 E a.2) (fun _ => gl)
def hdOf : Obs → Value
 | _ :: (_, Ob.cells (T.slx _ _ _ h :: _)) :: _ => h
 | _ => nilS
def heOf : Obs → Value
 | _ :: (_, Ob.cells (_ :: T.slx _ _ _ h :: _)) :: _ => h
 | _ => nilS
theorem way_self (r : RS) (k : Nat) : (Rep.way r k).1.self = r.self ∧ (Rep.way r k).1.life = r.life ∧ (Rep.way r k).1.v = r.v ∧ (Rep.way r k).1.has = r.has ∧ (Rep.way r k).1.calls = r.calls := by
 unfold Rep.way
 split
 ·exact ⟨rfl, rfl, rfl, rfl, rfl⟩
 ·split
  ·split <;> exact ⟨rfl, rfl, rfl, rfl, rfl⟩
  ·exact ⟨rfl, rfl, rfl, rfl, rfl⟩
theorem frW_eq {r r' : RS} (h1 : r'.self = r.self) (h2 : r'.v = r.v) (k n key : Nat) (w : Wrd) (fl : Bool) (d : Nat) : Rep.frW r' k n key w fl d = Rep.frW r k n key w fl d := by
 unfold Rep.frW; rw [h1, h2]
theorem way_len (r : RS) (k : Nat) : (Rep.way r k).2.length ≤ 1 := by
 unfold Rep.way
 split
 ·simp
 ·split
  ·split <;> simp
  ·simp
theorem inv_step (b bo : Nat) (r : RS) (D : Dr) (F : List Fm) (hf : Value) (E : List Ev) (he : Value) (f : Fm) (frm : Nat) (hk : f.key < 6) (gl : Glb) (ho : Own D r gl) (hl : lim r.v.ms) (hF : F.length + 3 ≤ 1000000) (hE : E.length + 1 ≤ 1000000) (Q : T → Obs → Glb → Prop) (hQ : ∀ hf' he', Q (.tup []) (obsR b (Rep.onInv r f frm).1 D ++ obsO 1 bo (F ++ (Rep.onInv r f frm).2.1) hf' (E ++ (Rep.onInv r f frm).2.2) he') gl) :
  TCalls Try.prog 49 [.ptr 0 b 0, .ptr 1 bo 0, .agg (frC f), u8 frm] (obsR b r D ++ obsO 1 bo F hf E he) gl Q := by
 have hin := inv_any (r.P f.key).c f.w
 have hso := sendon_any b bo r D F hf E he f hl (by omega)
 have hsl : (Rep.sendOn r f).length ≤ 1 := by
  unfold Rep.sendOn
  repeat' split
  all_goals simp
 obtain ⟨G, hG⟩ : ∃ G, G = F ++ Rep.sendOn r f := ⟨_, rfl⟩
 have hGl : G.length + 1 ≤ 1000000 := by rw [hG]; simp; omega
 obtain ⟨c, n, hcn⟩ : ∃ c n, Rep.inv (r.P f.key).c f.w = (c, n) := ⟨_, _, rfl⟩
 rw [hcn] at hin
 by_cases h4 : n = 4
 ·subst h4
  rw [show Rep.onInv r f frm = (r, Rep.sendOn r f ++ [Rep.frW r 1 frm f.key (r.P f.key).c.w false 0], []) by unfold Rep.onInv; rw [hcn]; rfl] at hQ
  simp only [← List.append_assoc, List.append_nil, ← hG] at hQ
  rw [← hG] at hso
  refine TCalls.of Try.func49 rfl (CanCall.of Try.func49 rfl (by decide)) [0,1,2,3] fun Γ => ?_
  let HH : Nat → Nat → Hint := fun | 1, 3 => outH b bo r D G E he | 3, 3 => .res (.agg (clC (r.P f.key).c)) | 3, 11 => told (.tup [.agg (clC c), int 4]) [] [] | 5, 9 => .res (.agg (wdC (r.P f.key).c.w)) | 5, 10 => wordedH b r D 1 frm f.key (r.P f.key).c.w | 5, 12 => sendH 1 bo G E he (Rep.frW r 1 frm f.key (r.P f.key).c.w false 0) | _, _ => .no
  let z0 := fun (Z1 : Value) => send1 bo G Z1 E he (Rep.frW r 1 frm f.key (r.P f.key).c.w false 0) hGl
  exact run_sound ⟨HH, [], plRpH0⟩ 400 (by kernel_rfl) (fun (Z0 : Nat) => (Yb Z0 (Ya (hso (HH 1 3).P fun v => ⟨v, trivial, rfl, rfl, Nat.le_of_ble_eq_true rfl, fun h => by cases h⟩) (fun (Z1 : Value) => (fun (Z2 : True) => (Yb Z0 (Yi (↑f.key : Int) 6 (by omega) (Yb b (Ya (show (if List.length (List.drop (12 + Int.toNat (↑f.key : Int) * nat_lit 9 + nat_lit 0) (repC r D)) < (fun x => x.size) Try.prog.types[57] then none else some (T.agg (List.take (nat_lit 7) (List.drop (12 + Int.toNat (↑f.key : Int) * nat_lit 9 + nat_lit 0) (repC r D))))) = some (T.agg (clC (r.P f.key).c)) by clear hin hQ hso hcn hG ho; generalize f.key = k at *; rcases six hk with rfl|rfl|rfl|rfl|rfl|rfl <;> rfl) (Yb Z0 (Yb Z0 (Yb Z0 (Ya (Ya (hin (HH 3 11).P fun _ h => told_post (by rw [h]; rfl)) (Yu (fun (Z3 : Nat) => (Yk 7 Z3 (Yb Z0 (Yb b (Ya (show (if List.length (List.drop (12 + Int.toNat (↑f.key : Int) * nat_lit 9 + nat_lit 0 + nat_lit 0) (repC r D)) < (fun x => x.size) Try.prog.types[55] then none else some (T.agg (List.take (nat_lit 6) (List.drop (12 + Int.toNat (↑f.key : Int) * nat_lit 9 + nat_lit 0 + nat_lit 0) (repC r D))))) = some (T.agg (wdC (r.P f.key).c.w)) by clear hin hQ hso hcn hG ho; generalize f.key = k at *; rcases six hk with rfl|rfl|rfl|rfl|rfl|rfl <;> rfl) (Ya (Ya (repC_plain r D) Yt) (Ya (worded_any b r D 1 frm f.key (r.P f.key).c.w (HH 5 10).P (told_post rfl)) (Yu (Ya (Ya (repC_plain r D) Yt) (Ya (z0 Z1) (fun (Z4 : Value) => (fun (Z5 : True) => (hQ Z4 he))))))))))))))) (fun (Z6 : Nat) => (Ya (hin (HH 3 11).P fun _ h => told_post (by rw [h]; rfl)) (Yu (Yk 7 Z6 (Yb Z0 (Yb b (Ya (show (if List.length (List.drop (12 + Int.toNat (↑f.key : Int) * nat_lit 9 + nat_lit 0 + nat_lit 0) (repC r D)) < (fun x => x.size) Try.prog.types[55] then none else some (T.agg (List.take (nat_lit 6) (List.drop (12 + Int.toNat (↑f.key : Int) * nat_lit 9 + nat_lit 0 + nat_lit 0) (repC r D))))) = some (T.agg (wdC (r.P f.key).c.w)) by clear hin hQ hso hcn hG ho; generalize f.key = k at *; rcases six hk with rfl|rfl|rfl|rfl|rfl|rfl <;> rfl) (Ya (Ya (repC_plain r D) Yt) (Ya (worded_any b r D 1 frm f.key (r.P f.key).c.w (HH 5 10).P (told_post rfl)) (Yu (Ya (Ya (repC_plain r D) Yt) (Ya (z0 Z1) (fun (Z7 : Value) => (fun (Z8 : True) => (hQ Z7 he))))))))))))))))))))))))))))
 ·obtain ⟨r1, hr1⟩ : ∃ r1, r1 = setC r f.key c := ⟨_, rfl⟩
  have ho1 : Own D r1 gl := by rw [hr1]; exact (ho.cell f.key _).1
  have e1 : r1.self = r.self := by rw [hr1]; rfl
  have e2 : r1.v = r.v := by rw [hr1]; rfl
  by_cases h1 : n = 1
  ·subst h1
   obtain ⟨r2, hr2⟩ : ∃ r2, r2 = (Rep.way r1 f.key).1 := ⟨_, rfl⟩
   have e3 : ∀ k n key w fl d, Rep.frW r2 k n key w fl d = Rep.frW r k n key w fl d := frW_eq (by rw [hr2, (way_self r1 f.key).1, e1]) (by rw [hr2, (way_self r1 f.key).2.2.1, e2])
   rw [show Rep.onInv r f frm = (r2, Rep.sendOn r f ++ [Rep.frW r2 2 frm f.key (Rep.zS f.w.s) false 0], (Rep.way r1 f.key).2) by unfold Rep.onInv; rw [hcn, e3, hr2, hr1]; rfl] at hQ
   simp only [← List.append_assoc, ← hG] at hQ
   rw [← hG] at hso
   have hwy := fun hf he => way_any b bo r1 D G hf E he f.key hk gl ho1 hE
   rw [← hr2] at hwy
   clear e3
   generalize E ++ (Rep.way r1 f.key).2 = E2 at *
   refine TCalls.of Try.func49 rfl (CanCall.of Try.func49 rfl (by decide)) [0,1,2,3] fun Γ => ?_
   let HH : Nat → Nat → Hint := fun | 1, 3 => outH b bo r D G E he | 3, 3 => .res (.agg (clC (r.P f.key).c)) | 3, 11 => told (.tup [.agg (clC c), int 1]) [] [] | 6, 4 => .obj (repC r1 D) | 8, 4 => .withA fun ob _ => evH b bo r2 D G (hdOf ob) E2 gl | 9, 4 => frameH b r2 D 2 frm f.key | 11, 3 => .withA fun ob _ => sendH 1 bo G E2 (heOf ob) (Rep.frW r2 2 frm f.key (Rep.zS f.w.s) false 0) | _, _ => .no
   let z0 := [u8 f.kind, u8 f.frm, u8 f.to, u32 f.epoch, u8 f.key, u32 f.w.s.n, u8 f.w.s.b, u8 f.w.s.l, bool f.w.h, T.v (Value.string f.w.t), bool f.w.r, bool f.flag, u8 f.dir, u8 (0 : Int), u32 (0 : Int), u32 (0 : Int), u8 (0 : Int), u32 (0 : Int), u8 (0 : Int), u8 (0 : Int), u8 (0 : Int), u32 (0 : Int), u32 (0 : Int), u32 (0 : Int), T.v (Value.slice none 0 0), u8 (0 : Int), u8 (0 : Int), u8 (0 : Int), u8 (0 : Int), u8 (0 : Int), u8 (0 : Int), u8 (0 : Int), u8 (0 : Int), T.v (Value.slice none 0 0)]
   let z1 := 12 + Int.toNat (↑f.key : Int) * nat_lit 9
   let z2 := 12 + Int.toNat (↑f.key : Int) * nat_lit 9 + nat_lit 0
   let z3 := List.map (fun x => T.agg (frC x)) G
   let z4 := List.map (fun x => T.agg (evC x)) E
   let z5 := [T.agg (clC c), int (1 : Int)]
   let z6 := (30, T.agg [bool f.w.h, T.v (Value.string f.w.t)])
   let z7 := Rep.frW r2 2 frm f.key (Rep.zS f.w.s) false 0
   exact run_sound ⟨HH, [], fun | 5 => some ⟨[], [10,11,12], .take false [0,1,2,3,5,6,7,8] (.take true [4,9] (.one 10 (.one 11 (.one 12 .done))))⟩ | n => plRpH0 n⟩ 400 (by kernel_rfl) (fun (Z0 : Nat) => (Yb Z0 (Ya (hso (HH 1 3).P fun v => ⟨v, trivial, rfl, rfl, Nat.le_of_ble_eq_true rfl, fun h => by cases h⟩) (fun (Z1 : Value) => (fun (Z2 : True) => (Yb Z0 (Yi (↑f.key : Int) 6 (by omega) (Yb b (Ya (show (if List.length (List.drop (12 + Int.toNat (↑f.key : Int) * nat_lit 9 + nat_lit 0) (repC r D)) < (fun x => x.size) Try.prog.types[57] then none else some (T.agg (List.take (nat_lit 7) (List.drop (12 + Int.toNat (↑f.key : Int) * nat_lit 9 + nat_lit 0) (repC r D))))) = some (T.agg (clC (r.P f.key).c)) by clear hin hQ hso hcn hG ho hwy hr1 hr2 ho1 e1 e2; generalize f.key = k at *; rcases six hk with rfl|rfl|rfl|rfl|rfl|rfl <;> rfl) (Yb Z0 (Yb Z0 (Yb Z0 (Ya (Ya (hin (HH 3 11).P fun _ h => told_post (by rw [h]; rfl)) (Yu (fun (Z3 : Nat) => (Yk 7 Z3 (Yb Z3 (Yl 7 (Yb b (Ya (show 12 + Int.toNat (↑f.key : Int) * nat_lit 9 + nat_lit 0 + nat_lit 7 ≤ 67 by clear hin hQ hso hcn hG ho hwy hr1 hr2 ho1 e1 e2; generalize f.key = k at *; rcases six hk with rfl|rfl|rfl|rfl|rfl|rfl <;> decide) (Ya (show setCells (repC r D) (12 + Int.toNat (↑f.key : Int) * nat_lit 9 + nat_lit 0) (clC c) = repC r1 D by rw [hr1]; clear hin hQ hso hcn hG ho hwy hr1 hr2 ho1 e1 e2; generalize f.key = k at *; rcases six hk with rfl|rfl|rfl|rfl|rfl|rfl <;> rfl) (Yb Z0 (Ya (hwy Z1 he (callPost (Hint.call false Value (fun x => True) [0,1,2,3] true (fun x => T.tup []) (fun he_1 => obsR b r2 D ++ obsO 1 bo G (hdOf (S.mk (frame 78 [(0, T.ptr 0 b 0), (1, T.ptr 1 bo 0), (2, T.agg z0), (3, u8 frm), (4, T.v (Value.tuple #[])), (5, T.v (Value.tuple #[])), (6, T.ptr 4 Z0 0), (7, T.v (Value.tuple #[])), (8, T.ptr 0 b z1), (9, T.ptr 5 Z3 0), (10, int (1 : Int)), (11, T.v (Value.tuple #[])), (12, T.ptr 0 b 0), (13, T.ptr 1 bo 0), (14, T.agg z0), (15, T.tup []), (16, T.ptr 0 b 0), (17, T.ptr 4 Z0 4), (18, u8 f.key), (19, T.ptr 0 b 0), (20, T.ptr 0 b 12), (21, T.ptr 0 b z1), (22, T.tup z5), (23, T.ptr 0 b z1), (24, T.ptr 0 b z1), (25, T.ptr 0 b z2), (26, T.agg (clC (r.P f.key).c)), (27, T.ptr 4 Z0 5), (28, T.agg (stC f.w.s)), (29, T.ptr 4 Z0 8), z6, (31, T.ptr 4 Z0 10), (32, bool f.w.r), (33, T.agg (wdC f.w)), (34, T.tup z5), (35, T.agg (clC c)), (36, int (1 : Int)), (37, int (1 : Int)), (38, bool false), (39, T.v (Value.tuple #[])), (40, T.v (Value.tuple #[])), (41, T.v (Value.tuple #[])), (42, T.v (Value.tuple #[])), (43, T.v (Value.tuple #[])), (44, T.v (Value.tuple #[])), (45, T.v (Value.tuple #[])), (46, T.v (Value.tuple #[])), (47, T.v (Value.tuple #[])), (48, T.v (Value.tuple #[])), (49, T.v (Value.tuple #[])), (50, T.v (Value.tuple #[])), (51, T.v (Value.tuple #[])), (52, T.ptr 0 b z1), (53, T.agg (clC c)), (54, T.ptr 0 b z1), (55, T.ptr 0 b z2), (56, int (1 : Int)), (57, bool true), (58, T.ptr 0 b 0), (59, T.ptr 1 bo 0), (60, T.ptr 4 Z0 4), (61, u8 f.key), (62, T.v (Value.tuple #[])), (63, T.v (Value.tuple #[])), (64, T.v (Value.tuple #[])), (65, T.v (Value.tuple #[])), (66, T.v (Value.tuple #[])), (67, T.v (Value.tuple #[])), (68, T.v (Value.tuple #[])), (69, T.v (Value.tuple #[])), (70, T.v (Value.tuple #[])), (71, T.v (Value.tuple #[])), (72, T.v (Value.tuple #[])), (73, T.v (Value.tuple #[])), (74, T.v (Value.tuple #[])), (75, T.v (Value.tuple #[])), (76, T.v (Value.tuple #[])), (77, T.v (Value.tuple #[]))]) [(b, Ob.cells (repC r1 D)), (bo, Ob.cells [T.slx 34 2 z3 Z1, T.slx 5 3 z4 he]), (0, Ob.room 34 70 (List.length z3) Z1), (0, Ob.room 5 73 (List.length z4) he), (Z0, Ob.cells z0), (Z3, Ob.cells (clC c))] gl).ob) E2 he_1) fun x => gl)) fun v => ⟨v, trivial, rfl, rfl, Nat.le_of_ble_eq_true rfl, fun _ => rfl⟩) (fun (Z4 : Value) => (fun (Z5 : True) => (Yb Z0 (Ya (Ya (repC_plain r2 D) Yt) (Ya (frame_any b r2 D 2 frm f.key (HH 9 4).P (told_post rfl)) (Yu (Ya (Ya (repC_plain r2 D) Yt) (fun (Z6 : Nat) => (Yk 34 Z6 (Yb Z0 (Yl 3 (Yb Z6 (Ya (Yn (8) (34) rfl) (Yl 1 (Yb Z6 (Ya (Yn (12) (34) rfl) (Yb Z6 (Ya (send1 bo G Z1 E2 Z4 z7 hGl) (fun (Z7 : Value) => (fun (Z8 : True) => (hQ Z7 Z4)))))))))))))))))))))))))))))))) (fun (Z9 : Nat) => (Ya (hin (HH 3 11).P fun _ h => told_post (by rw [h]; rfl)) (Yu (Yk 7 Z9 (Yb Z9 (Yl 7 (Yb b (Ya (show 12 + Int.toNat (↑f.key : Int) * nat_lit 9 + nat_lit 0 + nat_lit 7 ≤ 67 by clear hin hQ hso hcn hG ho hwy hr1 hr2 ho1 e1 e2; generalize f.key = k at *; rcases six hk with rfl|rfl|rfl|rfl|rfl|rfl <;> decide) (Ya (show setCells (repC r D) (12 + Int.toNat (↑f.key : Int) * nat_lit 9 + nat_lit 0) (clC c) = repC r1 D by rw [hr1]; clear hin hQ hso hcn hG ho hwy hr1 hr2 ho1 e1 e2; generalize f.key = k at *; rcases six hk with rfl|rfl|rfl|rfl|rfl|rfl <;> rfl) (Yb Z0 (Ya (hwy Z1 he (callPost (Hint.call false Value (fun x => True) [0,1,2,3] true (fun x => T.tup []) (fun he_1 => obsR b r2 D ++ obsO 1 bo G (hdOf (S.mk (frame 78 [(0, T.ptr 0 b 0), (1, T.ptr 1 bo 0), (2, T.agg z0), (3, u8 frm), (4, T.v (Value.tuple #[])), (5, T.v (Value.tuple #[])), (6, T.ptr 4 Z0 0), (7, T.v (Value.tuple #[])), (8, T.ptr 0 b z1), (9, T.ptr 5 Z9 0), (10, int (1 : Int)), (11, T.v (Value.tuple #[])), (12, T.ptr 0 b 0), (13, T.ptr 1 bo 0), (14, T.agg z0), (15, T.tup []), (16, T.ptr 0 b 0), (17, T.ptr 4 Z0 4), (18, u8 f.key), (19, T.ptr 0 b 0), (20, T.ptr 0 b 12), (21, T.ptr 0 b z1), (22, T.tup z5), (23, T.ptr 0 b z1), (24, T.ptr 0 b z1), (25, T.ptr 0 b z2), (26, T.agg (clC (r.P f.key).c)), (27, T.ptr 4 Z0 5), (28, T.agg (stC f.w.s)), (29, T.ptr 4 Z0 8), z6, (31, T.ptr 4 Z0 10), (32, bool f.w.r), (33, T.agg (wdC f.w)), (34, T.tup z5), (35, T.agg (clC c)), (36, int (1 : Int)), (37, int (1 : Int)), (38, bool false), (39, T.v (Value.tuple #[])), (40, T.v (Value.tuple #[])), (41, T.v (Value.tuple #[])), (42, T.v (Value.tuple #[])), (43, T.v (Value.tuple #[])), (44, T.v (Value.tuple #[])), (45, T.v (Value.tuple #[])), (46, T.v (Value.tuple #[])), (47, T.v (Value.tuple #[])), (48, T.v (Value.tuple #[])), (49, T.v (Value.tuple #[])), (50, T.v (Value.tuple #[])), (51, T.v (Value.tuple #[])), (52, T.ptr 0 b z1), (53, T.agg (clC c)), (54, T.ptr 0 b z1), (55, T.ptr 0 b z2), (56, int (1 : Int)), (57, bool true), (58, T.ptr 0 b 0), (59, T.ptr 1 bo 0), (60, T.ptr 4 Z0 4), (61, u8 f.key), (62, T.v (Value.tuple #[])), (63, T.v (Value.tuple #[])), (64, T.v (Value.tuple #[])), (65, T.v (Value.tuple #[])), (66, T.v (Value.tuple #[])), (67, T.v (Value.tuple #[])), (68, T.v (Value.tuple #[])), (69, T.v (Value.tuple #[])), (70, T.v (Value.tuple #[])), (71, T.v (Value.tuple #[])), (72, T.v (Value.tuple #[])), (73, T.v (Value.tuple #[])), (74, T.v (Value.tuple #[])), (75, T.v (Value.tuple #[])), (76, T.v (Value.tuple #[])), (77, T.v (Value.tuple #[]))]) [(b, Ob.cells (repC r1 D)), (bo, Ob.cells [T.slx 34 2 z3 Z1, T.slx 5 3 z4 he]), (0, Ob.room 34 70 (List.length z3) Z1), (0, Ob.room 5 73 (List.length z4) he), (Z0, Ob.cells z0), (Z9, Ob.cells (clC c))] gl).ob) E2 he_1) fun x => gl)) fun v => ⟨v, trivial, rfl, rfl, Nat.le_of_ble_eq_true rfl, fun _ => rfl⟩) (fun (Z10 : Value) => (fun (Z11 : True) => (Yb Z0 (Ya (Ya (repC_plain r2 D) Yt) (Ya (frame_any b r2 D 2 frm f.key (HH 9 4).P (told_post rfl)) (Yu (Ya (Ya (repC_plain r2 D) Yt) (fun (Z12 : Nat) => (Yk 34 Z12 (Yb Z0 (Yl 3 (Yb Z12 (Ya (Yn (8) (34) rfl) (Yl 1 (Yb Z12 (Ya (Yn (12) (34) rfl) (Yb Z12 (Ya (send1 bo G Z1 E2 Z10 z7 hGl) (fun (Z13 : Value) => (fun (Z14 : True) => (hQ Z13 Z10)))))))))))))))))))))))))))))))))))))))))))))
  ·have e3 : ∀ k n key w fl d, Rep.frW r1 k n key w fl d = Rep.frW r k n key w fl d := frW_eq e1 e2
   have hn3 : decide (n = 3) = (((n : Nat) : Int) == 3) := by rw [Bool.eq_iff_iff]; simp only [decide_eq_true_eq, beq_iff_eq]; omega
   rw [show Rep.onInv r f frm = (r1, Rep.sendOn r f ++ [Rep.frW r1 2 frm f.key (Rep.zS f.w.s) (((n : Nat) : Int) == 3) 0], []) by unfold Rep.onInv; rw [hcn, e3, hr1, if_neg h4, if_neg h1, hn3]] at hQ
   simp only [← List.append_assoc, List.append_nil, ← hG] at hQ
   rw [← hG] at hso
   clear e3 hn3
   refine TCalls.of Try.func49 rfl (CanCall.of Try.func49 rfl (by decide)) [0,1,2,3] fun Γ => ?_
   let HH : Nat → Nat → Hint := fun | 1, 3 => outH b bo r D G E he | 3, 3 => .res (.agg (clC (r.P f.key).c)) | 3, 11 => told (.tup [.agg (clC c), int n]) [] [] | 5, 9 => .res .und | 6, 4 => .obj (repC r1 D) | 9, 4 => frameH b r1 D 2 frm f.key | 11, 3 => sendH 1 bo G E he (Rep.frW r1 2 frm f.key (Rep.zS f.w.s) (((n : Nat) : Int) == 3) 0) | _, _ => .no
   let z1 := List.drop (12 + Int.toNat (↑f.key : Int) * nat_lit 9 + nat_lit 0 + nat_lit 0) (repC r D)
   let z0 := if List.length z1 < (fun x => x.size) Try.prog.types[55] then none else some (T.agg (List.take (nat_lit 6) z1))
   let z2 := fun (Z1 : Value) => send1 bo G Z1 E he (Rep.frW r1 2 frm f.key (Rep.zS f.w.s) (((n : Nat) : Int) == 3) 0) hGl
   exact run_sound ⟨HH, [], plRpH0⟩ 400 (by kernel_rfl) (fun (Z0 : Nat) => (Yb Z0 (Ya (hso (HH 1 3).P fun v => ⟨v, trivial, rfl, rfl, Nat.le_of_ble_eq_true rfl, fun h => by cases h⟩) (fun (Z1 : Value) => (fun (Z2 : True) => (Yb Z0 (Yi (↑f.key : Int) 6 (by omega) (Yb b (Ya (show (if List.length (List.drop (12 + Int.toNat (↑f.key : Int) * nat_lit 9 + nat_lit 0) (repC r D)) < (fun x => x.size) Try.prog.types[57] then none else some (T.agg (List.take (nat_lit 7) (List.drop (12 + Int.toNat (↑f.key : Int) * nat_lit 9 + nat_lit 0) (repC r D))))) = some (T.agg (clC (r.P f.key).c)) by clear hin hQ hso hcn hG ho hr1 ho1 e1 e2; generalize f.key = k at *; rcases six hk with rfl|rfl|rfl|rfl|rfl|rfl <;> rfl) (Yb Z0 (Yb Z0 (Yb Z0 (Ya (Ya (hin (HH 3 11).P fun _ h => told_post (by rw [h]; rfl)) (Yu (fun (Z3 : Nat) => (Yk 7 Z3 (Ys ((↑n : Int) == (4 : Int)) (fun Z4 => (Yb Z0 (Yb b (Ya (show z0 = some T.und by exfalso; rw [beq_iff_eq] at Z4; omega) (show False by exfalso; rw [beq_iff_eq] at Z4; omega))))) (fun Z5 => (Yb Z3 (Yl 7 (Yb b (Ya (show 12 + Int.toNat (↑f.key : Int) * nat_lit 9 + nat_lit 0 + nat_lit 7 ≤ 67 by clear hin hQ hso hcn hG ho hr1 ho1 e1 e2; generalize f.key = k at *; rcases six hk with rfl|rfl|rfl|rfl|rfl|rfl <;> decide) (Ya (show setCells (repC r D) (12 + Int.toNat (↑f.key : Int) * nat_lit 9 + nat_lit 0) (clC c) = repC r1 D by rw [hr1]; clear hin hQ hso hcn hG ho hr1 ho1 e1 e2; generalize f.key = k at *; rcases six hk with rfl|rfl|rfl|rfl|rfl|rfl <;> rfl) (Ys ((↑n : Int) == (1 : Int)) (fun Z6 => (Yb Z0 (show False by exfalso; rw [beq_iff_eq] at Z6; omega))) (fun Z7 => (Yb Z0 (Ya (Ya (repC_plain r1 D) Yt) (Ya (frame_any b r1 D 2 frm f.key (HH 9 4).P (told_post rfl)) (Yu (Ya (Ya (repC_plain r1 D) Yt) (fun (Z8 : Nat) => (Yk 34 Z8 (Yb Z0 (Yl 3 (Yb Z8 (Ya (Yn (8) (34) rfl) (Yl 1 (Yb Z8 (Ya (Yn (12) (34) rfl) (Yb Z8 (Ya (z2 Z1) (fun (Z9 : Value) => (fun (Z10 : True) => (hQ Z9 he)))))))))))))))))))))))))))))))) (fun (Z11 : Nat) => (Ya (hin (HH 3 11).P fun _ h => told_post (by rw [h]; rfl)) (Yu (Yk 7 Z11 (Ys ((↑n : Int) == (4 : Int)) (fun Z12 => (Yb Z0 (Yb b (Ya (show z0 = some T.und by exfalso; rw [beq_iff_eq] at Z12; omega) (show False by exfalso; rw [beq_iff_eq] at Z12; omega))))) (fun Z13 => (Yb Z11 (Yl 7 (Yb b (Ya (show 12 + Int.toNat (↑f.key : Int) * nat_lit 9 + nat_lit 0 + nat_lit 7 ≤ 67 by clear hin hQ hso hcn hG ho hr1 ho1 e1 e2; generalize f.key = k at *; rcases six hk with rfl|rfl|rfl|rfl|rfl|rfl <;> decide) (Ya (show setCells (repC r D) (12 + Int.toNat (↑f.key : Int) * nat_lit 9 + nat_lit 0) (clC c) = repC r1 D by rw [hr1]; clear hin hQ hso hcn hG ho hr1 ho1 e1 e2; generalize f.key = k at *; rcases six hk with rfl|rfl|rfl|rfl|rfl|rfl <;> rfl) (Ys ((↑n : Int) == (1 : Int)) (fun Z14 => (Yb Z0 (show False by exfalso; rw [beq_iff_eq] at Z14; omega))) (fun Z15 => (Yb Z0 (Ya (Ya (repC_plain r1 D) Yt) (Ya (frame_any b r1 D 2 frm f.key (HH 9 4).P (told_post rfl)) (Yu (Ya (Ya (repC_plain r1 D) Yt) (fun (Z16 : Nat) => (Yk 34 Z16 (Yb Z0 (Yl 3 (Yb Z16 (Ya (Yn (8) (34) rfl) (Yl 1 (Yb Z16 (Ya (Yn (12) (34) rfl) (Yb Z16 (Ya (z2 Z1) (fun (Z17 : Value) => (fun (Z18 : True) => (hQ Z17 he)))))))))))))))))))))))))))))))))))))))))))))
theorem repC_turn (r : RS) (D : Dr) (k : Nat) (d d' : Drv) (hd : (r.P k).dr = some d) : repC (setP r k { r.P k with dr := some d' }) D = repC r D := by
 have e : ∀ j, plC ((setP r k { r.P k with dr := some d' }).P j) (D.g j) = plC (r.P j) (D.g j) := fun j => by
  by_cases hj : j = k
  ·subst hj
   rw [P_at]
   simp only [plC, hd, dT]
  ·rw [P_ne _ _ _ hj]
 unfold repC
 rw [e, e, e, e, e, e]
 rfl
theorem look_self (r : RS) (k : Nat) : (Rep.look r k).1.self = r.self ∧ (Rep.look r k).1.life = r.life ∧ (Rep.look r k).1.v = r.v ∧ (Rep.look r k).1.has = r.has ∧ (Rep.look r k).1.calls = r.calls := by
 unfold Rep.look
 split
 ·exact ⟨rfl, rfl, rfl, rfl, rfl⟩
 ·split
  ·split <;> exact ⟨rfl, rfl, rfl, rfl, rfl⟩
  ·exact ⟨rfl, rfl, rfl, rfl, rfl⟩
theorem own_look {D : Dr} {r : RS} {gl : Glb} (h : Own D r gl) (k : Nat) : Own D (Rep.look r k).1 gl ∧ Step gl D r gl D (Rep.look r k).1 := by
 unfold Rep.look
 split
 ·exact ⟨h, Step.refl _ _ _⟩
 ·split
  ·split
   ·exact h.drop k _ rfl
   ·exact h.drop k _ rfl
  ·exact ⟨h, Step.refl _ _ _⟩
theorem own_way {D : Dr} {r : RS} {gl : Glb} (h : Own D r gl) (k : Nat) : Own D (Rep.way r k).1 gl ∧ Step gl D r gl D (Rep.way r k).1 := by
 unfold Rep.way
 split
 ·exact h.same k _ rfl
 ·split
  ·split
   ·exact h.drop k _ rfl
   ·exact h.same k _ rfl
  ·exact h.drop k _ rfl
theorem own_rest {D : Dr} {r : RS} {gl : Glb} (h : Own D r gl) (k : Nat) : Own D (Rep.rest r k) gl ∧ Step gl D r gl D (Rep.rest r k) := by
 unfold Rep.rest
 split
 ·exact h.same k _ rfl
 ·split
  ·exact h.same k _ rfl
  ·exact h.drop k _ rfl
theorem ack_end (Γ : Ctx) (b bo bf : Nat) (r : RS) (D : Dr) (F : List Fm) (hf : Value) (E : List Ev) (he : Value) (f : Fm) (gl : Glb) (lk : Rep.Out) (Q : T → Obs → Glb → Prop)
  (hlk : ∀ Q', (∀ hf' he', Q' (.tup []) (obsR b lk.1 D ++ obsO 1 bo (F ++ lk.2.1) hf' (E ++ lk.2.2) he') gl) → TCalls Try.prog 47 [.ptr 0 b 0, .ptr 1 bo 0, u8 f.key] (obsR b r D ++ obsO 1 bo F hf E he) gl Q')
  (hQ : ∀ hf' he', Q (.tup []) (obsR b lk.1 D ++ obsO 1 bo (F ++ lk.2.1) hf' (E ++ lk.2.2) he') gl) :
  TWk Try.prog Γ (fin Try.prog Try.f50 [0,1,2,3] Q) [.code (sub (bd Try.f50) [1,1,1,1])] ⟨frame 37 [(0, .ptr 0 b 0), (1, .ptr 1 bo 0), (6, .ptr 4 bf 0)], obsR b r D ++ obsO 1 bo F hf E he ++ [(bf, .cells (frC f))], gl⟩ := by
 let HH : Nat → Nat → Hint := fun | 4, 4 => bothH b bo lk.1 D (F ++ lk.2.1) (E ++ lk.2.2) gl | _, _ => .no
 exact run_sound ⟨HH, [], fun | 1 => none | 2 => some ⟨[], [], .take true [0,1,2,3,6,7] (.one 4 (.take true [5,8,9] .done))⟩ | n => plRpH1 n⟩ 400 (by kernel_rfl) (Yb bf (Ya (hlk (HH 4 4).P fun v w => ⟨(v, w), trivial, rfl, rfl, Nat.le_of_ble_eq_true rfl, fun _ => rfl⟩) (fun (Z0 : Value × Value) => (fun (Z1 : True) => (hQ Z0.fst Z0.snd)))))
theorem ack_step (b bo : Nat) (r : RS) (D : Dr) (F : List Fm) (hf : Value) (E : List Ev) (he : Value) (f : Fm) (frm : Nat) (hk : f.key < 6) (gl : Glb) (ho : Own D r gl) (hl : lim r.v.ms) (hF : F.length + (Rep.oth r).length + 1 ≤ 1000000) (hE : E.length + 1 ≤ 1000000) (Q : T → Obs → Glb → Prop) (hQ : ∀ hf' he' gl', Own D (Rep.onAck r f frm).1 gl' → Step gl D r gl' D (Rep.onAck r f frm).1 → Q (.tup []) (obsR b (Rep.onAck r f frm).1 D ++ obsO 1 bo (F ++ (Rep.onAck r f frm).2.1) hf' (E ++ (Rep.onAck r f frm).2.2) he') gl') :
  TCalls Try.prog 50 [.ptr 0 b 0, .ptr 1 bo 0, .agg (frC f), u8 frm] (obsR b r D ++ obsO 1 bo F hf E he) gl Q := by
 cases hd : (r.P f.key).dr with
 | none =>
  have hdT := dT_none hd (D.g f.key)
  rw [show Rep.onAck r f frm = (r, [], []) by unfold Rep.onAck; rw [hd]] at hQ
  have hQ := hQ hf he gl ho (Step.refl _ _ _)
  simp only [List.append_nil] at hQ
  refine TCalls.of Try.func50 rfl (CanCall.of Try.func50 rfl (by decide)) [0,1,2,3] fun Γ => ?_
  let HH : Nat → Nat → Hint := fun | 1, 7 => .res (.v (.pointer none)) | _, _ => .no
  exact run_sound ⟨HH, [], plRpH1⟩ 400 (by kernel_rfl) (fun (Z0 : Nat) => (Yb Z0 (Yi (↑f.key : Int) 6 (by omega) (Yb b (Ya (show (List.drop (12 + Int.toNat (↑f.key : Int) * nat_lit 9 + nat_lit 7) (repC r D))[0]? = some (T.v (Value.pointer none)) by rw [← hdT]; clear hQ hd ho hdT; generalize f.key = k at *; rcases six hk with rfl|rfl|rfl|rfl|rfl|rfl <;> rfl) hQ)))))
 | some d =>
  have hle := ho.dr f.key hk d hd
  have hdT : dT (r.P f.key).dr (D.g f.key) = .gp (D.g f.key) 0 := dT_some hd _
  by_cases hs : d.w.s = f.w.s
  ·obtain ⟨r1, hr1⟩ : ∃ r1, r1 = setP r f.key { r.P f.key with dr := some (Rep.ackD d frm f.flag) } := ⟨_, rfl⟩
   have hrep : repC r D = repC r1 D := by rw [hr1]; exact (repC_turn r D f.key d _ hd).symm
   have htu := fun es ck => ho.turn hk hd { r.P f.key with dr := some (Rep.ackD d frm f.flag) } (Rep.ackD d frm f.flag) rfl (D.m f.key) es ck (.inl rfl)
   rw [show ({ D with m := Rep.put D.m f.key (D.m f.key) } : Dr) = D by rw [Rep.put_self], ← hr1] at htu
   have hd1 : (r1.P f.key).dr = some (Rep.ackD d frm f.flag) := by rw [hr1, P_at]
   have hlk := fun es ck => look_any b bo r1 D F hf E he f.key hk _ hd1 _ (htu es ck).1 (by rw [hr1]; exact hl) (by rw [hr1]; exact hF) hE
   rw [show Rep.onAck r f frm = Rep.look r1 f.key by unfold Rep.onAck; rw [hd]; simp only [hs, if_true]; rw [hr1]] at hQ
   have hQ2 := fun es ck hf' he' => hQ hf' he' (setDr gl (D.g f.key) (D.m f.key) (Rep.ackD d frm f.flag) es ck) (own_look (htu es ck).1 f.key).1 ((htu es ck).2.trans (own_look (htu es ck).1 f.key).2)
   have hend := fun Γ bf es ck => ack_end Γ b bo bf r1 D F hf E he f _ (Rep.look r1 f.key) Q (hlk es ck) (hQ2 es ck)
   simp only [obsR] at hend
   rw [← hrep] at hend
   clear hQ hQ2 hlk htu
   refine TCalls.of Try.func50 rfl (CanCall.of Try.func50 rfl (by decide)) [0,1,2,3] fun Γ => ?_
   let HH : Nat → Nat → Hint := fun | 1, 7 => .res (.gp (D.g f.key) 0) | 2, 4 => wordG d gl | 3, 4 => .call false (Array MapEntry × Nat) (fun _ => True) [] true (fun _ => .tup []) (fun _ => []) (fun a => setDr gl (D.g f.key) (D.m f.key) (Rep.ackD d frm f.flag) a.1 a.2) | _, _ => .no
   exact run_sound ⟨HH, [((0, 4), ([0,1,6], 5))], plRpH1⟩ 400 (by kernel_rfl) (fun (Z0 : Nat) => (Yb Z0 (Yi (↑f.key : Int) 6 (by omega) (Yb b (Ya (show (List.drop (12 + Int.toNat (↑f.key : Int) * nat_lit 9 + nat_lit 7) (repC r D))[0]? = some (T.gp (D.g f.key) 0) by rw [← hdT]; clear hend hd ho hdT hr1 hrep hd1 hle; generalize f.key = k at *; rcases six hk with rfl|rfl|rfl|rfl|rfl|rfl <;> rfl) (Yb Z0 (Ya (dwordG hle (HH 2 4).P (toldG_post rfl)) (Yu (Ys (!((↑d.w.s.n : Int) == (↑f.w.s.n : Int) && ((↑d.w.s.b : Int) == (↑f.w.s.b : Int) && true) && ((↑d.w.s.l : Int) == (↑f.w.s.l : Int) && true))) (fun Z1 => (show Q (T.tup []) [(b, Ob.cells (repC r D)), (bo, Ob.cells [T.slx 34 2 (List.map (fun x => T.agg (frC x)) F) hf, T.slx 5 3 (List.map (fun x => T.agg (evC x)) E) he]), (0, Ob.room 34 70 (List.length (List.map (fun x => T.agg (frC x)) F)) hf), (0, Ob.room 5 73 (List.length (List.map (fun x => T.agg (evC x)) E)) he)] gl by exfalso; rw [st_eq2] at Z1; simp [hs] at Z1; done)) (fun Z2 => (Yb Z0 (Ya (dackG hle frm f.flag (HH 3 4).P fun es ck => ⟨(es, ck), trivial, rfl, rfl, Nat.zero_le _, fun _ => rfl⟩) (fun (Z3 : Array MapEntry × Nat) => (fun (Z4 : True) => (hend Γ Z0 Z3.fst Z3.snd)))))))))))))))
  ·rw [show Rep.onAck r f frm = (r, [], []) by unfold Rep.onAck; rw [hd]; simp only [hs, if_false]] at hQ
   have hQ := hQ hf he gl ho (Step.refl _ _ _)
   simp only [List.append_nil] at hQ
   refine TCalls.of Try.func50 rfl (CanCall.of Try.func50 rfl (by decide)) [0,1,2,3] fun Γ => ?_
   let HH : Nat → Nat → Hint := fun | 1, 7 => .res (.gp (D.g f.key) 0) | 2, 4 => wordG d gl | _, _ => .no
   exact run_sound ⟨HH, [((0, 3), ([0,1,3,6,8], 5))], plRpH1⟩ 400 (by kernel_rfl) (fun (Z0 : Nat) => (Yb Z0 (Yi (↑f.key : Int) 6 (by omega) (Yb b (Ya (show (List.drop (12 + Int.toNat (↑f.key : Int) * nat_lit 9 + nat_lit 7) (repC r D))[0]? = some (T.gp (D.g f.key) 0) by rw [← hdT]; clear hQ hd ho hdT hle; generalize f.key = k at *; rcases six hk with rfl|rfl|rfl|rfl|rfl|rfl <;> rfl) (Yb Z0 (Ya (dwordG hle (HH 2 4).P (toldG_post rfl)) (Yu (Ys (!((↑d.w.s.n : Int) == (↑f.w.s.n : Int) && ((↑d.w.s.b : Int) == (↑f.w.s.b : Int) && true) && ((↑d.w.s.l : Int) == (↑f.w.s.l : Int) && true))) (fun Z1 => hQ) (fun Z2 => (show TWk Try.prog Γ (fin Try.prog Try.f50 [0,1,2,3] Q) [It.code (sub (bd Try.f50) [1,1,1])] (S.mk (frame 37 [(0, T.ptr 0 b 0), (1, T.ptr 1 bo 0), (3, u8 frm), (6, T.ptr 4 Z0 0), (8, T.gp (D.g f.key) 0)]) [(b, Ob.cells (repC r D)), (bo, Ob.cells [T.slx 34 2 (List.map (fun x => T.agg (frC x)) F) hf, T.slx 5 3 (List.map (fun x => T.agg (evC x)) E) he]), (0, Ob.room 34 70 (List.length (List.map (fun x => T.agg (frC x)) F)) hf), (0, Ob.room 5 73 (List.length (List.map (fun x => T.agg (evC x)) E)) he), (Z0, Ob.cells [u8 f.kind, u8 f.frm, u8 f.to, u32 f.epoch, u8 f.key, u32 f.w.s.n, u8 f.w.s.b, u8 f.w.s.l, bool f.w.h, T.v (Value.string f.w.t), bool f.w.r, bool f.flag, u8 f.dir, u8 (0 : Int), u32 (0 : Int), u32 (0 : Int), u8 (0 : Int), u32 (0 : Int), u8 (0 : Int), u8 (0 : Int), u8 (0 : Int), u32 (0 : Int), u32 (0 : Int), u32 (0 : Int), T.v (Value.slice none 0 0), u8 (0 : Int), u8 (0 : Int), u8 (0 : Int), u8 (0 : Int), u8 (0 : Int), u8 (0 : Int), u8 (0 : Int), u8 (0 : Int), T.v (Value.slice none 0 0)])] gl) by exfalso; rw [st_eq2] at Z2; simp [hs] at Z2; done)))))))))))
theorem give_step (b bo : Nat) (r : RS) (D : Dr) (F : List Fm) (hf : Value) (E : List Ev) (he : Value) (f : Fm) (hk : f.key < 6) (gl : Glb) (ho : Own D r gl) (hE : E.length + 1 ≤ 1000000) (Q : T → Obs → Glb → Prop) (hQ : ∀ he' gl', Own D (Rep.onGive r f).1 gl' → Step gl D r gl' D (Rep.onGive r f).1 → Q (.tup []) (obsR b (Rep.onGive r f).1 D ++ obsO 1 bo F hf (E ++ (Rep.onGive r f).2) he') gl') :
  TCalls Try.prog 53 [.ptr 0 b 0, .ptr 1 bo 0, .agg (frC f)] (obsR b r D ++ obsO 1 bo F hf E he) gl Q := by
 have hgv := give_any (r.P f.key).c f.w f.flag
 obtain ⟨gl0, hgl0⟩ : ∃ gl0, gl0 = setO gl D.t (.cells (trC (Rep.put r.has f.key true) r.calls)) := ⟨_, rfl⟩
 have ho0 : Own D (Rep.got r f.key) gl0 ∧ Step gl D r gl0 D (Rep.got r f.key) := by rw [hgl0]; exact ho.trans_ _ _
 have hgot := tgotG ho.tr f.key hk
 rw [← hgl0] at hgot
 obtain ⟨c, ok, hcn⟩ : ∃ c ok, Rep.give (r.P f.key).c f.w f.flag = (c, ok) := ⟨_, _, rfl⟩
 rw [hcn] at hgv
 cases ok with
 | false =>
  rw [show Rep.onGive r f = (Rep.got r f.key, []) by unfold Rep.onGive; rw [hcn]; rfl] at hQ
  have hQ := hQ he gl0 ho0.1 ho0.2
  simp only [List.append_nil] at hQ
  clear ho0 hgl0
  refine TCalls.of Try.func53 rfl (CanCall.of Try.func53 rfl (by decide)) [0,1,2,3] fun Γ => ?_
  let HH : Nat → Nat → Hint := fun | 1, 6 => toldG (.tup []) [] [] gl0 | 3, 5 => .res (.agg (stC (r.P f.key).c.w.s)) | 4, 3 => .res (.agg (clC (r.P f.key).c)) | 4, 13 => told (.tup [.agg (clC c), bool false]) [] [] | _, _ => .no
  exact run_sound ⟨HH, [], plRpH2⟩ 400 (by kernel_rfl) (fun (Z0 : Nat) => (Yb b (Yb Z0 (Ya (hgot (HH 1 6).P (toldG_post rfl)) (Yu (Yb Z0 (Yi (↑f.key : Int) 6 (by omega) (Yb b (Ya (show (if List.length (List.drop (12 + Int.toNat (↑f.key : Int) * nat_lit 9 + nat_lit 0 + nat_lit 0 + nat_lit 0) (repC r D)) < (fun x => x.size) Try.prog.types[51] then none else some (T.agg (List.take (nat_lit 3) (List.drop (12 + Int.toNat (↑f.key : Int) * nat_lit 9 + nat_lit 0 + nat_lit 0 + nat_lit 0) (repC r D))))) = some (T.agg (stC (r.P f.key).c.w.s)) by clear hQ hgv hcn ho hgot; generalize f.key = k at *; rcases six hk with rfl|rfl|rfl|rfl|rfl|rfl <;> rfl) (fun (Z1 : Nat) => (Yk 3 Z1 (Yb b (Ya (show (if List.length (List.drop (12 + Int.toNat (↑f.key : Int) * nat_lit 9 + nat_lit 0) (repC r D)) < (fun x => x.size) Try.prog.types[57] then none else some (T.agg (List.take (nat_lit 7) (List.drop (12 + Int.toNat (↑f.key : Int) * nat_lit 9 + nat_lit 0) (repC r D))))) = some (T.agg (clC (r.P f.key).c)) by clear hQ hgv hcn ho hgot; generalize f.key = k at *; rcases six hk with rfl|rfl|rfl|rfl|rfl|rfl <;> rfl) (Yb Z0 (Yb Z0 (Yb Z0 (Yb Z0 (Ya (Ya (hgv (HH 4 13).P fun _ h => told_post (by rw [h]; rfl)) (Yu (fun (Z2 : Nat) => (Yk 7 Z2 hQ)))) (fun (Z3 : Nat) => (Ya (hgv (HH 4 13).P fun _ h => told_post (by rw [h]; rfl)) (Yu (Yk 7 Z3 hQ))))))))))))))))))))))
 | true =>
  obtain ⟨r1, hr1⟩ : ∃ r1, r1 = setC (Rep.got r f.key) f.key c := ⟨_, rfl⟩
  have ho1 : Own D r1 gl0 ∧ Step gl D r gl0 D r1 := by rw [hr1]; exact ⟨(ho0.1.cell f.key _).1, ho0.2.trans (ho0.1.cell f.key _).2⟩
  cases hls : Rep.less (r.P f.key).c.w.s c.w.s with
  | true =>
   rw [show Rep.onGive r f = Rep.way r1 f.key by unfold Rep.onGive; rw [hcn]; simp only [hls, if_true]; rw [hr1]] at hQ
   have hQ := fun he' => hQ he' gl0 (own_way ho1.1 f.key).1 (ho1.2.trans (own_way ho1.1 f.key).2)
   have hwy := way_any b bo r1 D F hf E he f.key hk gl0 ho1.1 hE
   obtain ⟨r2, hr2⟩ : ∃ r2, r2 = (Rep.way r1 f.key).1 := ⟨_, rfl⟩
   rw [← hr2] at hwy hQ
   generalize E ++ (Rep.way r1 f.key).2 = E2 at *
   clear ho0 ho1 hgl0
   refine TCalls.of Try.func53 rfl (CanCall.of Try.func53 rfl (by decide)) [0,1,2,3] fun Γ => ?_
   let HH : Nat → Nat → Hint := fun | 1, 6 => toldG (.tup []) [] [] gl0 | 3, 5 => .res (.agg (stC (r.P f.key).c.w.s)) | 4, 3 => .res (.agg (clC (r.P f.key).c)) | 4, 13 => told (.tup [.agg (clC c), bool true]) [] [] | 6, 4 => .obj (repC r1 D) | 7, 4 => told (bool true) [] [] | 8, 4 => evH b bo r2 D F hf E2 gl0 | _, _ => .no
   exact run_sound ⟨HH, [], plRpH2⟩ 400 (by kernel_rfl) (fun (Z0 : Nat) => (Yb b (Yb Z0 (Ya (hgot (HH 1 6).P (toldG_post rfl)) (Yu (Yb Z0 (Yi (↑f.key : Int) 6 (by omega) (Yb b (Ya (show (if List.length (List.drop (12 + Int.toNat (↑f.key : Int) * nat_lit 9 + nat_lit 0 + nat_lit 0 + nat_lit 0) (repC r D)) < (fun x => x.size) Try.prog.types[51] then none else some (T.agg (List.take (nat_lit 3) (List.drop (12 + Int.toNat (↑f.key : Int) * nat_lit 9 + nat_lit 0 + nat_lit 0 + nat_lit 0) (repC r D))))) = some (T.agg (stC (r.P f.key).c.w.s)) by clear hQ hgv hcn ho hgot hwy hr1 hr2 hls; generalize f.key = k at *; rcases six hk with rfl|rfl|rfl|rfl|rfl|rfl <;> rfl) (fun (Z1 : Nat) => (Yk 3 Z1 (Yb b (Ya (show (if List.length (List.drop (12 + Int.toNat (↑f.key : Int) * nat_lit 9 + nat_lit 0) (repC r D)) < (fun x => x.size) Try.prog.types[57] then none else some (T.agg (List.take (nat_lit 7) (List.drop (12 + Int.toNat (↑f.key : Int) * nat_lit 9 + nat_lit 0) (repC r D))))) = some (T.agg (clC (r.P f.key).c)) by clear hQ hgv hcn ho hgot hwy hr1 hr2 hls; generalize f.key = k at *; rcases six hk with rfl|rfl|rfl|rfl|rfl|rfl <;> rfl) (Yb Z0 (Yb Z0 (Yb Z0 (Yb Z0 (Ya (Ya (hgv (HH 4 13).P fun _ h => told_post (by rw [h]; rfl)) (Yu (fun (Z2 : Nat) => (Yk 7 Z2 (Yb Z2 (Yl 7 (Yb b (Ya (show 12 + Int.toNat (↑f.key : Int) * nat_lit 9 + nat_lit 0 + nat_lit 7 ≤ 67 by clear hQ hgv hcn ho hgot hwy hr1 hr2 hls; generalize f.key = k at *; rcases six hk with rfl|rfl|rfl|rfl|rfl|rfl <;> decide) (Ya (show setCells (repC r D) (12 + Int.toNat (↑f.key : Int) * nat_lit 9 + nat_lit 0) (clC c) = repC r1 D by rw [hr1]; clear hQ hgv hcn ho hgot hwy hr1 hr2 hls; generalize f.key = k at *; rcases six hk with rfl|rfl|rfl|rfl|rfl|rfl <;> rfl) (Yb Z1 (Yb Z2 (Ya (less_any ((r.P f.key).c.w.s) c.w.s (HH 7 4).P fun _ h => told_post (by rw [h, hls])) (Yu (Yb Z0 (Ya (hwy (HH 8 4).P fun v => ⟨v, trivial, rfl, rfl, Nat.le_of_ble_eq_true rfl, fun _ => rfl⟩) (fun (Z3 : Value) => (fun (Z4 : True) => (hQ Z3)))))))))))))))))) (fun (Z5 : Nat) => (Ya (hgv (HH 4 13).P fun _ h => told_post (by rw [h]; rfl)) (Yu (Yk 7 Z5 (Yb Z5 (Yl 7 (Yb b (Ya (show 12 + Int.toNat (↑f.key : Int) * nat_lit 9 + nat_lit 0 + nat_lit 7 ≤ 67 by clear hQ hgv hcn ho hgot hwy hr1 hr2 hls; generalize f.key = k at *; rcases six hk with rfl|rfl|rfl|rfl|rfl|rfl <;> decide) (Ya (show setCells (repC r D) (12 + Int.toNat (↑f.key : Int) * nat_lit 9 + nat_lit 0) (clC c) = repC r1 D by rw [hr1]; clear hQ hgv hcn ho hgot hwy hr1 hr2 hls; generalize f.key = k at *; rcases six hk with rfl|rfl|rfl|rfl|rfl|rfl <;> rfl) (Yb Z1 (Yb Z5 (Ya (less_any ((r.P f.key).c.w.s) c.w.s (HH 7 4).P fun _ h => told_post (by rw [h, hls])) (Yu (Yb Z0 (Ya (hwy (HH 8 4).P fun v => ⟨v, trivial, rfl, rfl, Nat.le_of_ble_eq_true rfl, fun _ => rfl⟩) (fun (Z6 : Value) => (fun (Z7 : True) => (hQ Z6))))))))))))))))))))))))))))))))))))
  | false =>
   rw [show Rep.onGive r f = (Rep.rest r1 f.key, []) by unfold Rep.onGive; rw [hcn]; simp only [hls, if_true, Bool.false_eq_true, if_false]; rw [hr1]] at hQ
   have hQ := hQ he gl0 (own_rest ho1.1 f.key).1 (ho1.2.trans (own_rest ho1.1 f.key).2)
   simp only [List.append_nil] at hQ
   have hst := settle_any b r1 D f.key hk gl0 ho1.1
   clear ho0 ho1 hgl0
   refine TCalls.of Try.func53 rfl (CanCall.of Try.func53 rfl (by decide)) [0,1,2,3] fun Γ => ?_
   let HH : Nat → Nat → Hint := fun | 1, 6 => toldG (.tup []) [] [] gl0 | 3, 5 => .res (.agg (stC (r.P f.key).c.w.s)) | 4, 3 => .res (.agg (clC (r.P f.key).c)) | 4, 13 => told (.tup [.agg (clC c), bool true]) [] [] | 6, 4 => .obj (repC r1 D) | 7, 4 => told (bool false) [] [] | 9, 1 => toldG (.tup []) [0] (obsR b (Rep.rest r1 f.key) D) gl0 | _, _ => .no
   exact run_sound ⟨HH, [], plRpH2⟩ 400 (by kernel_rfl) (fun (Z0 : Nat) => (Yb b (Yb Z0 (Ya (hgot (HH 1 6).P (toldG_post rfl)) (Yu (Yb Z0 (Yi (↑f.key : Int) 6 (by omega) (Yb b (Ya (show (if List.length (List.drop (12 + Int.toNat (↑f.key : Int) * nat_lit 9 + nat_lit 0 + nat_lit 0 + nat_lit 0) (repC r D)) < (fun x => x.size) Try.prog.types[51] then none else some (T.agg (List.take (nat_lit 3) (List.drop (12 + Int.toNat (↑f.key : Int) * nat_lit 9 + nat_lit 0 + nat_lit 0 + nat_lit 0) (repC r D))))) = some (T.agg (stC (r.P f.key).c.w.s)) by clear hQ hgv hcn ho hgot hst hr1 hls; generalize f.key = k at *; rcases six hk with rfl|rfl|rfl|rfl|rfl|rfl <;> rfl) (fun (Z1 : Nat) => (Yk 3 Z1 (Yb b (Ya (show (if List.length (List.drop (12 + Int.toNat (↑f.key : Int) * nat_lit 9 + nat_lit 0) (repC r D)) < (fun x => x.size) Try.prog.types[57] then none else some (T.agg (List.take (nat_lit 7) (List.drop (12 + Int.toNat (↑f.key : Int) * nat_lit 9 + nat_lit 0) (repC r D))))) = some (T.agg (clC (r.P f.key).c)) by clear hQ hgv hcn ho hgot hst hr1 hls; generalize f.key = k at *; rcases six hk with rfl|rfl|rfl|rfl|rfl|rfl <;> rfl) (Yb Z0 (Yb Z0 (Yb Z0 (Yb Z0 (Ya (Ya (hgv (HH 4 13).P fun _ h => told_post (by rw [h]; rfl)) (Yu (fun (Z2 : Nat) => (Yk 7 Z2 (Yb Z2 (Yl 7 (Yb b (Ya (show 12 + Int.toNat (↑f.key : Int) * nat_lit 9 + nat_lit 0 + nat_lit 7 ≤ 67 by clear hQ hgv hcn ho hgot hst hr1 hls; generalize f.key = k at *; rcases six hk with rfl|rfl|rfl|rfl|rfl|rfl <;> decide) (Ya (show setCells (repC r D) (12 + Int.toNat (↑f.key : Int) * nat_lit 9 + nat_lit 0) (clC c) = repC r1 D by rw [hr1]; clear hQ hgv hcn ho hgot hst hr1 hls; generalize f.key = k at *; rcases six hk with rfl|rfl|rfl|rfl|rfl|rfl <;> rfl) (Yb Z1 (Yb Z2 (Ya (less_any ((r.P f.key).c.w.s) c.w.s (HH 7 4).P fun _ h => told_post (by rw [h, hls])) (Yu (Ya (hst (HH 9 1).P (toldG_post rfl)) (Yu hQ))))))))))))))) (fun (Z3 : Nat) => (Ya (hgv (HH 4 13).P fun _ h => told_post (by rw [h]; rfl)) (Yu (Yk 7 Z3 (Yb Z3 (Yl 7 (Yb b (Ya (show 12 + Int.toNat (↑f.key : Int) * nat_lit 9 + nat_lit 0 + nat_lit 7 ≤ 67 by clear hQ hgv hcn ho hgot hst hr1 hls; generalize f.key = k at *; rcases six hk with rfl|rfl|rfl|rfl|rfl|rfl <;> decide) (Ya (show setCells (repC r D) (12 + Int.toNat (↑f.key : Int) * nat_lit 9 + nat_lit 0) (clC c) = repC r1 D by rw [hr1]; clear hQ hgv hcn ho hgot hst hr1 hls; generalize f.key = k at *; rcases six hk with rfl|rfl|rfl|rfl|rfl|rfl <;> rfl) (Yb Z1 (Yb Z3 (Ya (less_any ((r.P f.key).c.w.s) c.w.s (HH 7 4).P fun _ h => told_post (by rw [h, hls])) (Yu (Ya (hst (HH 9 1).P (toldG_post rfl)) (Yu hQ)))))))))))))))))))))))))))))))))
end X20
end Go.Proofs.Ytafcbipmmjegcaa.Vm
