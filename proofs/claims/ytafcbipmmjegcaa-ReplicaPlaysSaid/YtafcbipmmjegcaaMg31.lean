/- Texts of this claim: RpV. -/
import Derived.Test.YtafcbipmmjegcaaMg15
import Derived.Test.YtafcbipmmjegcaaMg30
namespace Go.Proofs.Ytafcbipmmjegcaa.Vm
open Go Go.RowKit
set_option maxRecDepth 100000
noncomputable abbrev kRpV0 (l : List Nat) : It := .code (sub (bd Try.f29) l)
noncomputable abbrev wRpV1 (Γ : Ctx) (Q : T → Obs → Glb → Prop) : List It → S → Prop := TWk Try.prog Γ (fin Try.prog Try.f29 [0, 1, 2] Q)
def plRpV0 : Nat → Option RPlan := fun | 5 => some ⟨[], [11, 14], .take false [0,1,2,3,5,6] (.take true [4] (.one 7 (.take true [8,9] (.one 10 (.one 11 (.take false [12,13] (.one 14 .done)))))))⟩ | _ => none
namespace X20
open Rep (Stp Wrd Cel Drv Plc RS Fm Ev setP setC)
open View (Mem VS)
open X5 (viewC lim mems othV hasV aheadV behindV has_any others_any ends_any)
theorem tway_any (b : Nat) (r : RS) (D : Dr) (F : List Fm) (hf : Value) (E : List Ev) (he : Value) (k : Nat) (hk : k < 6) (gl : Glb) (ho : Own D r gl) (hE : E.length + 1 ≤ 1000000) (Q : T → Obs → Glb → Prop) (hQ : ∀ he', Q (.tup []) (obsU b (Rep.way r k).1 D F hf (E ++ (Rep.way r k).2) he') gl) :
    TCalls Try.prog 72 [.ptr 0 b 0, u8 k] (obsU b r D F hf E he) gl Q := by
  obtain ⟨r0, hr0⟩ : ∃ r0, r0 = setP r k { r.P k with age := 0 } := ⟨_, rfl⟩
  obtain ⟨r1, hr1⟩ : ∃ r1, r1 = setP r k { r.P k with age := 0, dr := none } := ⟨_, rfl⟩
  cases hd : (r.P k).dr with
  | none =>
    have hdT := dT_none hd (D.g k)
    have hQ := hQ he
    rw [show Rep.way r k = (r0, []) by unfold Rep.way; rw [hd, hr0], List.append_nil] at hQ
    refine TCalls.of Try.func72 rfl (CanCall.of Try.func72 rfl (by decide)) [0,1,2] fun Γ => ?_
    let HH : Nat → Nat → Hint := fun | 0, 5 => .obj (repU r0 D F hf E he) | 1, 5 => .res (.v (.pointer none)) | _, _ => .no
    exact run_sound ⟨HH, [], plRpV0⟩ 400 (by kernel_rfl) (Yi (↑k : Int) 6 (by omega) (Yl 1 (Yb b (Ya (show 60 + Int.toNat (↑k : Int) * nat_lit 1 + nat_lit 1 ≤ 69 by rcases six hk with rfl | rfl | rfl | rfl | rfl | rfl <;> exact Nat.le_of_ble_eq_true rfl) (Ya (show setCells (repU r D F hf E he) (60 + Int.toNat (↑k : Int) * nat_lit 1) [int (0 : Int)] = repU r0 D F hf E he by rw [hr0]; rcases six hk with rfl | rfl | rfl | rfl | rfl | rfl <;> rfl) (Yi (↑k : Int) 6 (by omega) (Yb b (Ya (show (List.drop (54 + Int.toNat (↑k : Int) * nat_lit 1) (repU r0 D F hf E he))[0]? = some (T.v (Value.pointer none)) by rw [hr0, ← hdT]; rcases six hk with rfl | rfl | rfl | rfl | rfl | rfl <;> rfl) hQ))))))))
  | some d =>
    have hle := ho.dr k hk d hd
    have hdT : dT (r.P k).dr (D.g k) = .gp (D.g k) 0 := dT_some hd _
    cases hown : d.own with
    | false =>
      have hQ := hQ he
      rw [show Rep.way r k = (r1, []) by unfold Rep.way; rw [hd, hr1]; simp [hown], List.append_nil] at hQ
      refine TCalls.of Try.func72 rfl (CanCall.of Try.func72 rfl (by decide)) [0,1,2] fun Γ => ?_
      let HH : Nat → Nat → Hint := fun | 0, 5 => .obj (repU r0 D F hf E he) | 1, 5 => .res (.gp (D.g k) 0) | 2, 4 => toldG (bool false) [] [] gl | 3, 5 => .obj (repU r1 D F hf E he) | 4, 1 => toldG (bool false) [] [] gl | _, _ => .no
      exact run_sound ⟨HH, [], plRpV0⟩ 400 (by kernel_rfl) (Yi (↑k : Int) 6 (by omega) (Yl 1 (Yb b (Ya (show 60 + Int.toNat (↑k : Int) * nat_lit 1 + nat_lit 1 ≤ 69 by rcases six hk with rfl | rfl | rfl | rfl | rfl | rfl <;> exact Nat.le_of_ble_eq_true rfl) (Ya (show setCells (repU r D F hf E he) (60 + Int.toNat (↑k : Int) * nat_lit 1) [int (0 : Int)] = repU r0 D F hf E he by rw [hr0]; rcases six hk with rfl | rfl | rfl | rfl | rfl | rfl <;> rfl) (Yi (↑k : Int) 6 (by omega) (Yb b (Ya (show (List.drop (54 + Int.toNat (↑k : Int) * nat_lit 1) (repU r0 D F hf E he))[0]? = some (T.gp (D.g k) 0) by rw [hr0, ← hdT]; rcases six hk with rfl | rfl | rfl | rfl | rfl | rfl <;> rfl) (Ya (downG hle (HH 2 4).P (toldG_post (by rw [hown]))) (Yu (Yi (↑k : Int) 6 (by omega) (Yl 1 (Yb b (Ya (show 54 + Int.toNat (↑k : Int) * nat_lit 1 + nat_lit 1 ≤ 69 by rcases six hk with rfl | rfl | rfl | rfl | rfl | rfl <;> exact Nat.le_of_ble_eq_true rfl) (Ya (show setCells (repU r0 D F hf E he) (54 + Int.toNat (↑k : Int) * nat_lit 1) [T.v (Value.pointer none)] = repU r1 D F hf E he by rw [hr0, hr1]; rcases six hk with rfl | rfl | rfl | rfl | rfl | rfl <;> rfl) (Ya (downG hle (HH 2 4).P (toldG_post (by rw [hown]))) (Yu hQ)))))))))))))))))
    | true =>
      cases hrm : d.w.r with
      | false =>
        have hQ := hQ he
        rw [show Rep.way r k = (r0, []) by unfold Rep.way; rw [hd, hr0]; simp [hown, hrm], List.append_nil] at hQ
        refine TCalls.of Try.func72 rfl (CanCall.of Try.func72 rfl (by decide)) [0,1,2] fun Γ => ?_
        let HH : Nat → Nat → Hint := fun | 0, 5 => .obj (repU r0 D F hf E he) | 1, 5 => .res (.gp (D.g k) 0) | 2, 4 => toldG (bool true) [] [] gl | 2, 8 => wordG d gl | 2, 9 => .res (bool false) | _, _ => .no
        exact run_sound ⟨HH, [], plRpV0⟩ 400 (by kernel_rfl) (Yi (↑k : Int) 6 (by omega) (Yl 1 (Yb b (Ya (show 60 + Int.toNat (↑k : Int) * nat_lit 1 + nat_lit 1 ≤ 69 by rcases six hk with rfl | rfl | rfl | rfl | rfl | rfl <;> exact Nat.le_of_ble_eq_true rfl) (Ya (show setCells (repU r D F hf E he) (60 + Int.toNat (↑k : Int) * nat_lit 1) [int (0 : Int)] = repU r0 D F hf E he by rw [hr0]; rcases six hk with rfl | rfl | rfl | rfl | rfl | rfl <;> rfl) (Yi (↑k : Int) 6 (by omega) (Yb b (Ya (show (List.drop (54 + Int.toNat (↑k : Int) * nat_lit 1) (repU r0 D F hf E he))[0]? = some (T.gp (D.g k) 0) by rw [hr0, ← hdT]; rcases six hk with rfl | rfl | rfl | rfl | rfl | rfl <;> rfl) (Ya (downG hle (HH 2 4).P (toldG_post (by rw [hown]))) (Yu (Ya (dwordG hle (HH 2 8).P (toldG_post rfl)) (Yu (Ya (congrArg (fun x => some (bool x)) hrm) hQ)))))))))))))
      | true =>
        rw [show Rep.way r k = (r1, [⟨k, 2, d.w.s⟩]) by unfold Rep.way; rw [hd, hr1]; simp [hown, hrm]] at hQ
        simp only [obsU, repU, Row.aggs, List.map_append, List.map_cons, List.map_nil] at hQ
        refine TCalls.of Try.func72 rfl (CanCall.of Try.func72 rfl (by decide)) [0,1,2] fun Γ => ?_
        let HH : Nat → Nat → Hint := fun | 0, 5 => .obj (repU r0 D F hf E he) | 1, 5 => .res (.gp (D.g k) 0) | 2, 4 => toldG (bool true) [] [] gl | 2, 8 => wordG d gl | 2, 9 => .res (bool true) | 3, 5 => .obj (repU r1 D F hf E he) | 4, 1 => toldG (bool true) [] [] gl | 5, 7 => wordG d gl | _, _ => .no
        exact run_sound ⟨HH, [], fun | 5 => some ⟨[0], [11,14], .take false [0,1,2,3,5,6] (.take true [4] (.one 7 (.take true [8,9] (.one 10 (.one 11 (.take false [12,13] (.one 14 .done)))))))⟩ | n => plRpV0 n⟩ 400 (by kernel_rfl) (Yi (↑k : Int) 6 (by omega) (Yl 1 (Yb b (Ya (show 60 + Int.toNat (↑k : Int) * nat_lit 1 + nat_lit 1 ≤ 69 by simp only [List.length_map, maxLen]; omega) (Ya (show setCells (repU r D F hf E he) (60 + Int.toNat (↑k : Int) * nat_lit 1) [int (0 : Int)] = repU r0 D F hf E he by rw [hr0]; rcases six hk with rfl | rfl | rfl | rfl | rfl | rfl <;> rfl) (Yi (↑k : Int) 6 (by omega) (Yb b (Ya (show (List.drop (54 + Int.toNat (↑k : Int) * nat_lit 1) (repU r0 D F hf E he))[0]? = some (T.gp (D.g k) 0) by rw [hr0, ← hdT]; rcases six hk with rfl | rfl | rfl | rfl | rfl | rfl <;> rfl) (Ya (downG hle (HH 2 4).P (toldG_post (by rw [hown]))) (Yu (Ya (dwordG hle (HH 2 8).P (toldG_post rfl)) (Yu (Ya (congrArg (fun x => some (bool x)) hrm) (Yi (↑k : Int) 6 (by omega) (Yl 1 (Yb b (Ya (show 54 + Int.toNat (↑k : Int) * nat_lit 1 + nat_lit 1 ≤ 69 by simp only [List.length_map, maxLen]; omega) (Ya (show setCells (repU r0 D F hf E he) (54 + Int.toNat (↑k : Int) * nat_lit 1) [T.v (Value.pointer none)] = repU r1 D F hf E he by rw [hr0, hr1]; rcases six hk with rfl | rfl | rfl | rfl | rfl | rfl <;> rfl) (Ya (downG hle (HH 2 4).P (toldG_post (by rw [hown]))) (Yu (Yb b (Ya (dwordG hle (HH 2 8).P (toldG_post rfl)) (Yu (Ya (Yb he (Ye (List.length (List.map (fun x => T.agg (evC x)) E)))) (Ya (Ya (show (List.length (List.map (fun x => T.agg (evC x)) E) + 1) * nat_lit 32 ≤ 140737488355328 by simp only [List.length_map, maxLen]; omega) (show List.length (List.map (fun x => T.agg (evC x)) E) + 1 ≤ maxLen by simp only [List.length_map, maxLen]; omega)) (fun (Z0 : Value) => (Yl 1 (Yb b (Ya (Yn (69) (69) rfl) (hQ Z0))))))))))))))))))))))))))))))
theorem trest_any (b : Nat) (r : RS) (D : Dr) (F : List Fm) (hf : Value) (E : List Ev) (he : Value) (k : Nat) (hk : k < 6) (gl : Glb) (ho : Own D r gl) (Q : T → Obs → Glb → Prop) (hQ : Q (.tup []) (obsU b (Rep.rest r k) D F hf E he) gl) :
    TCalls Try.prog 75 [.ptr 0 b 0, u8 k] (obsU b r D F hf E he) gl Q := by
  obtain ⟨r0, hr0⟩ : ∃ r0, r0 = setP r k { r.P k with age := 0 } := ⟨_, rfl⟩
  obtain ⟨r1, hr1⟩ : ∃ r1, r1 = setP r k { r.P k with age := 0, dr := none } := ⟨_, rfl⟩
  cases hd : (r.P k).dr with
  | none =>
    have hdT := dT_none hd (D.g k)
    rw [show Rep.rest r k = r0 by unfold Rep.rest; rw [hd, hr0]] at hQ
    refine TCalls.of Try.func75 rfl (CanCall.of Try.func75 rfl (by decide)) [0,1,2] fun Γ => ?_
    let HH : Nat → Nat → Hint := fun | 0, 5 => .obj (repU r0 D F hf E he) | 1, 5 => .res (.v (.pointer none)) | _, _ => .no
    exact run_sound ⟨HH, [], fun  | _ => none⟩ 400 (by kernel_rfl) (Yi (↑k : Int) 6 (by omega) (Yl 1 (Yb b (Ya (show 60 + Int.toNat (↑k : Int) * nat_lit 1 + nat_lit 1 ≤ 69 by rcases six hk with rfl | rfl | rfl | rfl | rfl | rfl <;> exact Nat.le_of_ble_eq_true rfl) (Ya (show setCells (repU r D F hf E he) (60 + Int.toNat (↑k : Int) * nat_lit 1) [int (0 : Int)] = repU r0 D F hf E he by rw [hr0]; rcases six hk with rfl | rfl | rfl | rfl | rfl | rfl <;> rfl) (Yi (↑k : Int) 6 (by omega) (Yb b (Ya (show (List.drop (54 + Int.toNat (↑k : Int) * nat_lit 1) (repU r0 D F hf E he))[0]? = some (T.v (Value.pointer none)) by rw [hr0, ← hdT]; rcases six hk with rfl | rfl | rfl | rfl | rfl | rfl <;> rfl) hQ))))))))
  | some d =>
    have hle := ho.dr k hk d hd
    have hdT : dT (r.P k).dr (D.g k) = .gp (D.g k) 0 := dT_some hd _
    cases hown : d.own with
    | false =>
      rw [show Rep.rest r k = r1 by unfold Rep.rest; rw [hd, hr1]; simp [hown]] at hQ
      refine TCalls.of Try.func75 rfl (CanCall.of Try.func75 rfl (by decide)) [0,1,2] fun Γ => ?_
      let HH : Nat → Nat → Hint := fun | 0, 5 => .obj (repU r0 D F hf E he) | 1, 5 => .res (.gp (D.g k) 0) | 2, 4 => toldG (bool false) [] [] gl | 3, 5 => .obj (repU r1 D F hf E he) | _, _ => .no
      exact run_sound ⟨HH, [], fun  | _ => none⟩ 400 (by kernel_rfl) (Yi (↑k : Int) 6 (by omega) (Yl 1 (Yb b (Ya (show 60 + Int.toNat (↑k : Int) * nat_lit 1 + nat_lit 1 ≤ 69 by rcases six hk with rfl | rfl | rfl | rfl | rfl | rfl <;> exact Nat.le_of_ble_eq_true rfl) (Ya (show setCells (repU r D F hf E he) (60 + Int.toNat (↑k : Int) * nat_lit 1) [int (0 : Int)] = repU r0 D F hf E he by rw [hr0]; rcases six hk with rfl | rfl | rfl | rfl | rfl | rfl <;> rfl) (Yi (↑k : Int) 6 (by omega) (Yb b (Ya (show (List.drop (54 + Int.toNat (↑k : Int) * nat_lit 1) (repU r0 D F hf E he))[0]? = some (T.gp (D.g k) 0) by rw [hr0, ← hdT]; rcases six hk with rfl | rfl | rfl | rfl | rfl | rfl <;> rfl) (Ya (downG hle (HH 2 4).P (toldG_post (by rw [hown]))) (Yu (Yi (↑k : Int) 6 (by omega) (Yl 1 (Yb b (Ya (show 54 + Int.toNat (↑k : Int) * nat_lit 1 + nat_lit 1 ≤ 69 by rcases six hk with rfl | rfl | rfl | rfl | rfl | rfl <;> exact Nat.le_of_ble_eq_true rfl) (Ya (show setCells (repU r0 D F hf E he) (54 + Int.toNat (↑k : Int) * nat_lit 1) [T.v (Value.pointer none)] = repU r1 D F hf E he by rw [hr0, hr1]; rcases six hk with rfl | rfl | rfl | rfl | rfl | rfl <;> rfl) hQ)))))))))))))))
    | true =>
      rw [show Rep.rest r k = r0 by unfold Rep.rest; rw [hd, hr0]; simp [hown]] at hQ
      refine TCalls.of Try.func75 rfl (CanCall.of Try.func75 rfl (by decide)) [0,1,2] fun Γ => ?_
      let HH : Nat → Nat → Hint := fun | 0, 5 => .obj (repU r0 D F hf E he) | 1, 5 => .res (.gp (D.g k) 0) | 2, 4 => toldG (bool true) [] [] gl | _, _ => .no
      exact run_sound ⟨HH, [], fun  | _ => none⟩ 400 (by kernel_rfl) (Yi (↑k : Int) 6 (by omega) (Yl 1 (Yb b (Ya (show 60 + Int.toNat (↑k : Int) * nat_lit 1 + nat_lit 1 ≤ 69 by rcases six hk with rfl | rfl | rfl | rfl | rfl | rfl <;> exact Nat.le_of_ble_eq_true rfl) (Ya (show setCells (repU r D F hf E he) (60 + Int.toNat (↑k : Int) * nat_lit 1) [int (0 : Int)] = repU r0 D F hf E he by rw [hr0]; rcases six hk with rfl | rfl | rfl | rfl | rfl | rfl <;> rfl) (Yi (↑k : Int) 6 (by omega) (Yb b (Ya (show (List.drop (54 + Int.toNat (↑k : Int) * nat_lit 1) (repU r0 D F hf E he))[0]? = some (T.gp (D.g k) 0) by rw [hr0, ← hdT]; rcases six hk with rfl | rfl | rfl | rfl | rfl | rfl <;> rfl) (Ya (downG hle (HH 2 4).P (toldG_post (by rw [hown]))) (Yu hQ))))))))))
theorem repU_turn (r : RS) (D : Dr) (F : List Fm) (hf : Value) (E : List Ev) (he : Value) (k : Nat) (d d' : Drv) (hd : (r.P k).dr = some d) : repU (setP r k { r.P k with dr := some d' }) D F hf E he = repU r D F hf E he := by
  have e : ∀ j, ((setP r k { r.P k with dr := some d' }).P j).c = (r.P j).c ∧ ((setP r k { r.P k with dr := some d' }).P j).age = (r.P j).age ∧ dT ((setP r k { r.P k with dr := some d' }).P j).dr (D.g j) = dT (r.P j).dr (D.g j) := fun j => by
    by_cases hj : j = k
    · subst hj
      rw [P_at]
      simp only [hd, dT, and_self]
    · rw [P_ne _ _ _ hj]
      exact ⟨rfl, rfl, rfl⟩
  unfold repU repT
  simp only [(e 0).1, (e 0).2.1, (e 0).2.2, (e 1).1, (e 1).2.1, (e 1).2.2, (e 2).1, (e 2).2.1, (e 2).2.2, (e 3).1, (e 3).2.1, (e 3).2.2, (e 4).1, (e 4).2.1, (e 4).2.2, (e 5).1, (e 5).2.1, (e 5).2.2]
  rfl
theorem againL_out {r : RS} (h : Rep.inR r = false) : ∀ l, Rep.againL r l = (r, [])
  | [] => rfl
  | k :: l => by
    have e : Rep.again r k = (r, []) := by
      unfold Rep.again
      split
      · rfl
      · rw [h]; rfl
    unfold Rep.againL
    rw [e, againL_out h l]
    rfl
theorem ten7 (Γ : Ctx) (b : Nat) (r : RS) (D : Dr) (F : List Fm) (hf : Value) (E : List Ev) (he : Value) (i : Nat) (hi : i < 6) (d : Drv) (hd : (r.P i).dr = some d) (gl : Glb) (ho : Own D r gl) (hl : lim r.v.ms) (hF : F.length + 2 ≤ 1000000) (Q : T → Obs → Glb → Prop)
    (nx : ∀ hf', wRpV1 Γ Q [kRpV0 [1,1,1,0], .blk 0] ⟨frame 34 [(0, .ptr 0 b 0), (4, u8 (i + 1 : Nat))], obsU b r D (F ++ Rep.sent r i d.w) hf' E he, gl⟩) :
    wRpV1 Γ Q [kRpV0 [1,1,1,0,0,1,0,0,1,0,1], .blk 1, kRpV0 [1,1,1,0,0,1,1], kRpV0 [1,1,1,0], .blk 0] ⟨frame 34 [(0, .ptr 0 b 0), (4, u8 i)], obsU b r D F hf E he, gl⟩ := by
  have hs := tout_any b r D F hf E he i hi d hd gl (ho.dr i hi d hd) hl hF
  have hw : IntKind.wrap .u8 ((i : Int) + 1) = ((i + 1 : Nat) : Int) := by rw [IntWalk.u8_in _ (by omega)]; omega
  generalize F ++ Rep.sent r i d.w = G at *
  let HH : Nat → Nat → Hint := fun | 7, 2 => .call false Value (fun _ => True) [0,1,2] true (fun _ => .tup []) (fun hf => obsU b r D G hf E he) (fun _ => gl) | 4, 1 => .res (u8 (i + 1 : Nat)) | _, _ => .no
  exact run_sound ⟨HH, [((2, 3), ([0,4], 3))], fun  | _ => none⟩ 400 (by kernel_rfl) (Ya (hs (HH 7 2).P fun v => ⟨v, trivial, rfl, rfl, Nat.le_of_ble_eq_true rfl, fun _ => rfl⟩) (fun (Z0 : Value) => (fun (Z1 : True) => (Ya (congrArg u8 hw) (nx Z0)))))
theorem ten_loop (Γ : Ctx) (b : Nat) (E : List Ev) (he : Value) (Q : T → Obs → Glb → Prop) : ∀ (n i : Nat) (r : RS) (D : Dr) (F : List Fm) (hf : Value) (gl : Glb), i + n = 6 → Own D r gl → lim r.v.ms → F.length + 2 * n ≤ 100000 →
    (∀ D' gl' hf', Own D' (Rep.againL r (List.range' i n)).1 gl' → Step gl D r gl' D' (Rep.againL r (List.range' i n)).1 → Q (.tup []) (obsU b (Rep.againL r (List.range' i n)).1 D' (F ++ (Rep.againL r (List.range' i n)).2) hf' E he) gl') →
    wRpV1 Γ Q [kRpV0 [1,1,1,0], .blk 0] ⟨frame 34 [(0, .ptr 0 b 0), (4, u8 i)], obsU b r D F hf E he, gl⟩ := by
  intro n
  induction n with
  | zero =>
    intro i r D F hf gl hi ho hl hF hQ
    have hi : i = 6 := by omega
    subst hi
    have hQ := hQ D gl hf ho (Step.refl _ _ _)
    rw [show Rep.againL r (List.range' 6 0) = (r, []) from rfl, List.append_nil] at hQ
    let HH : Nat → Nat → Hint := fun _ _ => .no
    exact run_sound ⟨HH, [], fun _ => none⟩ 400 (by kernel_rfl) hQ
  | succ n ih =>
    intro i r D F hf gl hi ho hl hF hQ
    have hi6 : i < 6 := by omega
    have hw : IntKind.wrap .u8 ((i : Int) + 1) = ((i + 1 : Nat) : Int) := by rw [IntWalk.u8_in _ (by omega)]; omega
    have hin := tin_any b r D F hf E he hl
    have hag : ∀ x : RS × List Fm, Rep.again r i = x → Rep.againL r (List.range' i (n + 1)) = ((Rep.againL x.1 (List.range' (i + 1) n)).1, x.2 ++ (Rep.againL x.1 (List.range' (i + 1) n)).2) := fun x hx => by
      rw [show List.range' i (n + 1) = i :: List.range' (i + 1) n from List.range'_succ, Rep.againL, hx]
    cases hir : Rep.inR r with
    | false =>
      rw [hir] at hin
      rw [againL_out hir, List.append_nil] at hQ
      have hQ := hQ D gl hf ho (Step.refl _ _ _)
      clear ih hag
      let HH : Nat → Nat → Hint := fun | 3, 4 => told (bool false) [0,1,2] (obsU b r D F hf E he) | _, _ => .no
      exact run_sound ⟨HH, [], fun  | _ => none⟩ 400 (by kernel_rfl) (Ys (decide ((↑i : Int) < (6 : Int))) (fun Z0 => (Ya (hin (HH 3 4).P (told_post rfl)) (Yu hQ))) (fun Z1 => hQ))
    | true =>
      rw [hir] at hin
      cases hd : (r.P i).dr with
      | none =>
        have hdT := dT_none hd (D.g i)
        rw [hag (r, []) (by unfold Rep.again; rw [hd])] at hQ
        have nx := ih (i + 1) r D F hf gl (by omega) ho hl (by omega) (fun D' gl' hf' h1 h2 => by have := hQ D' gl' hf' h1 h2; simpa only [List.nil_append] using this)
        clear ih hQ hag
        let HH : Nat → Nat → Hint := fun | 3, 4 => told (bool true) [0,1,2] (obsU b r D F hf E he) | 5, 5 => .res (.v (.pointer none)) | 4, 1 => .res (u8 (i + 1 : Nat)) | _, _ => .no
        exact run_sound ⟨HH, [((2, 3), ([0,4], 3))], fun  | _ => none⟩ 400 (by kernel_rfl) (Ys (decide ((↑i : Int) < (6 : Int))) (fun Z0 => (Ya (hin (HH 3 4).P (told_post rfl)) (Yu (Yi (↑i : Int) 6 (by omega) (Yb b (Ya (show (List.drop (54 + Int.toNat (↑i : Int) * nat_lit 1) (repU r D F hf E he))[0]? = some (T.v (Value.pointer none)) by rw [← hdT]; rcases six hi6 with rfl | rfl | rfl | rfl | rfl | rfl <;> rfl) (Ya (congrArg u8 hw) nx))))))) (fun Z1 => (show Q (T.tup []) [(b, Ob.cells (repU r D F hf E he)), (0, Ob.room 34 70 (List.length (List.map (fun x => T.agg (frC x)) F)) hf), (0, Ob.room 5 73 (List.length (List.map (fun x => T.agg (evC x)) E)) he)] gl by exfalso; have := of_decide_eq_false Z1; omega)))
      | some d =>
        have hdT : dT (r.P i).dr (D.g i) = .gp (D.g i) 0 := dT_some hd _
        have hle := ho.dr i hi6 d hd
        obtain ⟨r1, hr1⟩ : ∃ r1, r1 = setP r i { r.P i with dr := some (Rep.newD d.w d.own) } := ⟨_, rfl⟩
        have ho1 := fun m es ck hm => own_again ho hi6 hd m hm es ck
        rw [← hr1] at ho1
        rw [hag (r1, Rep.sent r i d.w) (by unfold Rep.again; rw [hd, hir, hr1]; rfl)] at hQ
        have hrep : repU r D F hf E he = repU r1 D F hf E he := by rw [hr1]; exact (repU_turn r D F hf E he i d _ hd).symm
        have nx : ∀ m es ck, gl m = none → wRpV1 Γ Q [kRpV0 [1,1,1,0,0,1,0,0,1,0,1], .blk 1, kRpV0 [1,1,1,0,0,1,1], kRpV0 [1,1,1,0], .blk 0] ⟨frame 34 [(0, .ptr 0 b 0), (4, u8 i)], obsU b r D F hf E he, setDr gl (D.g i) m (Rep.newD d.w d.own) es ck⟩ := fun m es ck hm => by
          have h12 := ten7 Γ b r1 { D with m := Rep.put D.m i m } F hf E he i hi6 (Rep.newD d.w d.own) (by rw [hr1, P_at]) _ (ho1 m es ck hm).1 (by rw [hr1]; exact hl) (by omega) Q fun hf' => ih (i + 1) r1 { D with m := Rep.put D.m i m } (F ++ Rep.sent r1 i (Rep.newD d.w d.own).w) hf' _ (by omega) (ho1 m es ck hm).1 (by rw [hr1]; exact hl) (by have := sent_len r1 i (Rep.newD d.w d.own).w; simp; omega) fun D' gl' hf2 h1 h2 => by
              have := hQ D' gl' hf2 h1 (Step.trans (ho1 m es ck hm).2 h2)
              rw [show Rep.sent r1 i (Rep.newD d.w d.own).w = Rep.sent r i d.w by rw [hr1]; rfl]
              rwa [← List.append_assoc] at this
          simp only [obsU] at h12 ⊢
          rw [hrep]
          exact h12
        clear ih hQ hag
        let HH : Nat → Nat → Hint := fun | 3, 4 => told (bool true) [0,1,2] (obsU b r D F hf E he) | 5, 5 => .res (.gp (D.g i) 0) | 6, 5 => .res (.gp (D.g i) 0) | 6, 6 => .call false (Nat × Array MapEntry × Nat) (fun a => gl a.1 = none) [] true (fun _ => .tup []) (fun _ => []) (fun a => setDr gl (D.g i) a.1 (Rep.newD d.w d.own) a.2.1 a.2.2) | _, _ => .no
        exact run_sound ⟨HH, [((0, 7), ([0,4], 3))], fun  | _ => none⟩ 400 (by kernel_rfl) (Ys (decide ((↑i : Int) < (6 : Int))) (fun Z0 => (Ya (hin (HH 3 4).P (told_post rfl)) (Yu (Yi (↑i : Int) 6 (by omega) (Yb b (Ya (show (List.drop (54 + Int.toNat (↑i : Int) * nat_lit 1) (repU r D F hf E he))[0]? = some (T.gp (D.g i) 0) by rw [← hdT]; rcases six hi6 with rfl | rfl | rfl | rfl | rfl | rfl <;> rfl) (Yi (↑i : Int) 6 (by omega) (Yb b (Ya (show (List.drop (54 + Int.toNat (↑i : Int) * nat_lit 1) (repU r D F hf E he))[0]? = some (T.gp (D.g i) 0) by rw [← hdT]; rcases six hi6 with rfl | rfl | rfl | rfl | rfl | rfl <;> rfl) (Ya (dagainG hle (HH 6 6).P fun m es ck hm => ⟨(m, es, ck), hm, rfl, rfl, Nat.zero_le _, fun _ => rfl⟩) (fun (Z1 : Nat × Array MapEntry × Nat) => (fun (Z2 : gl Z1.fst = none) => (nx Z1.fst Z1.snd.fst Z1.snd.snd Z2))))))))))))) (fun Z3 => (show Q (T.tup []) [(b, Ob.cells (repU r D F hf E he)), (0, Ob.room 34 70 (List.length (List.map (fun x => T.agg (frC x)) F)) hf), (0, Ob.room 5 73 (List.length (List.map (fun x => T.agg (evC x)) E)) he)] gl by exfalso; have := of_decide_eq_false Z3; omega)))
theorem tenter_any (b : Nat) (r : RS) (D : Dr) (F : List Fm) (hf : Value) (E : List Ev) (he : Value) (v : VS) (gl : Glb) (ho : Own D r gl) (hv : lim v.ms) (hF : F.length ≤ 90000) (Q : T → Obs → Glb → Prop)
    (hQ : ∀ D' gl' hf', Own D' (Rep.enter r v).1 gl' → Step gl D r gl' D' (Rep.enter r v).1 → Q (.tup []) (obsU b (Rep.enter r v).1 D' (F ++ (Rep.enter r v).2) hf' E he) gl') :
    TCalls Try.prog 29 [.ptr 0 b 0, .agg (viewC v)] (obsU b r D F hf E he) gl Q := by
  obtain ⟨r1, hr1⟩ : ∃ r1, r1 = { r with v := v } := ⟨_, rfl⟩
  have ho1 : Own D r1 gl ∧ Step gl D r gl D r1 := by rw [hr1]; exact ho.view v
  rw [show Rep.enter r v = Rep.againL r1 (List.range' 0 6) by rw [hr1]; rfl] at hQ
  have lp := fun Γ => ten_loop Γ b E he Q 6 0 r1 D F hf gl rfl ho1.1 (by rw [hr1]; exact hv) (by omega) fun D' gl' hf' h1 h2 => hQ D' gl' hf' h1 (Step.trans ho1.2 h2)
  clear hQ ho1
  refine TCalls.of Try.func29 rfl (CanCall.of Try.func29 rfl (by decide)) [0,1,2] fun Γ => ?_
  let HH : Nat → Nat → Hint := fun | 1, 4 => .obj (repU r1 D F hf E he) | _, _ => .no
  exact run_sound ⟨HH, [((2, 3), ([0,4], 3))], fun  | _ => none⟩ 400 (by kernel_rfl) (fun (Z0 : Nat) => (Yb Z0 (Yl 10 (Yb b (Ya (Yn (12) (69) rfl) (Ya (show [u8 r.self, u8 r.life, u32 v.e, T.sl 3 (mems v.ms), u8 (v.L 0), u8 (v.L 1), u8 (v.L 2), u8 (v.L 3), u8 (v.L 4), u8 (v.L 5), u8 (v.L 6), u8 (v.L 7), u32 (r.P 0).c.w.s.n, u8 (r.P 0).c.w.s.b, u8 (r.P 0).c.w.s.l, bool ((r.P 0).c.w.h), T.v (Value.string (r.P 0).c.w.t), bool ((r.P 0).c.w.r), int (r.P 0).c.st, u32 (r.P 1).c.w.s.n, u8 (r.P 1).c.w.s.b, u8 (r.P 1).c.w.s.l, bool ((r.P 1).c.w.h), T.v (Value.string (r.P 1).c.w.t), bool ((r.P 1).c.w.r), int (r.P 1).c.st, u32 (r.P 2).c.w.s.n, u8 (r.P 2).c.w.s.b, u8 (r.P 2).c.w.s.l, bool ((r.P 2).c.w.h), T.v (Value.string (r.P 2).c.w.t), bool ((r.P 2).c.w.r), int (r.P 2).c.st, u32 (r.P 3).c.w.s.n, u8 (r.P 3).c.w.s.b, u8 (r.P 3).c.w.s.l, bool ((r.P 3).c.w.h), T.v (Value.string (r.P 3).c.w.t), bool ((r.P 3).c.w.r), int (r.P 3).c.st, u32 (r.P 4).c.w.s.n, u8 (r.P 4).c.w.s.b, u8 (r.P 4).c.w.s.l, bool ((r.P 4).c.w.h), T.v (Value.string (r.P 4).c.w.t), bool ((r.P 4).c.w.r), int (r.P 4).c.st, u32 (r.P 5).c.w.s.n, u8 (r.P 5).c.w.s.b, u8 (r.P 5).c.w.s.l, bool ((r.P 5).c.w.h), T.v (Value.string (r.P 5).c.w.t), bool ((r.P 5).c.w.r), int (r.P 5).c.st, dT (r.P 0).dr (D.g 0), dT (r.P 1).dr (D.g 1), dT (r.P 2).dr (D.g 2), dT (r.P 3).dr (D.g 3), dT (r.P 4).dr (D.g 4), dT (r.P 5).dr (D.g 5), int (r.P 0).age, int (r.P 1).age, int (r.P 2).age, int (r.P 3).age, int (r.P 4).age, int (r.P 5).age, T.gp D.t 0, T.slx 34 1 (List.map (fun x => T.agg (frC x)) F) hf, T.slx 5 2 (List.map (fun x => T.agg (evC x)) E) he] = repU r1 D F hf E he by rw [hr1]; rfl) (lp Γ)))))))
end X20
end Go.Proofs.Ytafcbipmmjegcaa.Vm
