/- Texts of this claim: RpX. -/
import Derived.Test.YtafcbipmmjegcaaMg15
import Derived.Test.YtafcbipmmjegcaaMg32
namespace Go.Proofs.Ytafcbipmmjegcaa.Vm
open Go Go.RowKit
set_option maxRecDepth 100000
noncomputable abbrev kRpX0 (l : List Nat) : It := .code (sub (bd Try.f27) l)
noncomputable abbrev wRpX1 (Γ : Ctx) (Q : T → Obs → Glb → Prop) : List It → S → Prop := TWk Try.prog Γ (fin Try.prog Try.f27 [0, 1, 2] Q)
def plRpX0 : Nat → Option RPlan := fun | 2 => some ⟨[], [13], .take true [0,1,2,3,4,5,6,7,8,9,10,11] (.one 12 (.one 13 (.take false [14] .done)))⟩ | 6 => some ⟨[], [12], .take true [0,1,2,3,4,5,6,7,8,9,10,11] (.one 12 .done)⟩ | 18 => some ⟨[], [10], .take true [0,1,2,3,4,5,6,7,8,9] (.one 10 .done)⟩ | 21 => some ⟨[], [17], .take true [0,1,2,3,4,5,6,7,8,9,10,11,12,13,14,15,16] (.one 17 (.take false [18] .done))⟩ | 24 => some ⟨[], [4, 8], .take false [0,1,2,5,6] (.take true [3] (.one 4 (.take false [7] (.one 8 .done))))⟩ | _ => none
namespace X20
open Rep (Stp Wrd Cel Drv Plc RS Fm Ev setP setC)
open View (Mem VS)
open X5 (viewC lim mems othV hasV aheadV behindV has_any others_any)
theorem setU_g (r : RS) (D : Dr) (F : List Fm) (hf : Value) (E : List Ev) (he : Value) (k : Nat) (hk : k < 6) (d : Drv) (g m : Nat) : setCells (repU r D F hf E he) (54 + (k : Int).toNat * 1) [.gp g 0] = repU (setP r k { r.P k with dr := some d }) (Dn D k g m) F hf E he := by
  rcases six hk with rfl | rfl | rfl | rfl | rfl | rfl <;> rfl
theorem tb15 (Γ : Ctx) (b : Nat) (r : RS) (D : Dr) (F : List Fm) (hf : Value) (E : List Ev) (he : Value) (k : Nat) (hk : k < 6) (every replay : Nat) (lease : Bool) (gl : Glb) (ho : Own D r gl) (hl : lim r.v.ms) (Q : T → Obs → Glb → Prop) (d : Drv) (hd : (r.P k).dr = some d) (hF : F.length + 2 ≤ 1000000)
    (nx : ∀ hf', wRpX1 Γ Q [kRpX0 [1,1,1,0,0,1,1], kRpX0 [1,1,1,0], .blk 2] ⟨frame 180 [(0, .ptr 0 b 0), (1, int every), (2, int replay), (3, bool lease), (10, u8 k)], obsU b r D (F ++ Rep.sent r k d.w) hf' E he, gl⟩) :
    wRpX1 Γ Q [kRpX0 [1,1,1,0,0,1,0,0,0,1,0,1,0,1,1,0], kRpX0 [1,1,1,0,0,1,0,0,0,1,0,1,1], kRpX0 [1,1,1,0,0,1,0,0,1], .blk 3, kRpX0 [1,1,1,0,0,1,1], kRpX0 [1,1,1,0], .blk 2] ⟨frame 180 [(0, .ptr 0 b 0), (1, int every), (2, int replay), (3, bool lease), (10, u8 k)], obsU b r D F hf E he, gl⟩ := by
  have hs := tout_any b r D F hf E he k hk d hd gl (ho.dr k hk d hd) hl hF
  generalize F ++ Rep.sent r k d.w = G at *
  let HH : Nat → Nat → Hint := fun | 15, 2 => .call false Value (fun _ => True) [0,1,2] true (fun _ => .tup []) (fun hf => obsU b r D G hf E he) (fun _ => gl) | _, _ => .no
  exact run_sound ⟨HH, [((0, 9), ([0,1,2,3,10], 3))], plRpX0⟩ 400 (by kernel_rfl) (Ya (hs (HH 15 2).P fun v => ⟨v, trivial, rfl, rfl, Nat.le_of_ble_eq_true rfl, fun _ => rfl⟩) (fun (Z0 : Value) => (fun (Z1 : True) => (nx Z0))))
theorem tb25 (Γ : Ctx) (b : Nat) (r : RS) (D : Dr) (F : List Fm) (hf : Value) (E : List Ev) (he : Value) (k : Nat) (hk : k < 6) (every replay : Nat) (lease : Bool) (gl : Glb) (ho : Own D r gl) (hl : lim r.v.ms) (Q : T → Obs → Glb → Prop) (bc : Nat) (c : Cel) (d : Drv) (hd : (r.P k).dr = some d) (hF : F.length + 2 ≤ 1000000)
    (nx : ∀ hf', wRpX1 Γ Q [kRpX0 [1,1,1,0,0,1,1], kRpX0 [1,1,1,0], .blk 2] ⟨frame 180 [(0, .ptr 0 b 0), (1, int every), (2, int replay), (3, bool lease), (10, u8 k)], obsU b r D (F ++ Rep.sent r k d.w) hf' E he, gl⟩) :
    wRpX1 Γ Q [kRpX0 [1,1,1,0,0,1,0,0,1,1,1,1,1,1,1,1], .blk 3, kRpX0 [1,1,1,0,0,1,1], kRpX0 [1,1,1,0], .blk 2] ⟨frame 180 [(0, .ptr 0 b 0), (1, int every), (2, int replay), (3, bool lease), (10, u8 k)], obsU b r D F hf E he ++ [(bc, .cells (clC c))], gl⟩ := by
  have hs := tout_any b r D F hf E he k hk d hd gl (ho.dr k hk d hd) hl hF
  generalize F ++ Rep.sent r k d.w = G at *
  let HH : Nat → Nat → Hint := fun | 25, 2 => .call false Value (fun _ => True) [0,1,2] true (fun _ => .tup []) (fun hf => obsU b r D G hf E he) (fun _ => gl) | _, _ => .no
  exact run_sound ⟨HH, [((0, 9), ([0,1,2,3,10], 3))], plRpX0⟩ 400 (by kernel_rfl) (Ya (hs (HH 25 2).P fun v => ⟨v, trivial, rfl, rfl, Nat.le_of_ble_eq_true rfl, fun _ => rfl⟩) (fun (Z0 : Value) => (fun (Z1 : True) => (nx Z0))))
theorem tb13 (Γ : Ctx) (b : Nat) (r : RS) (D : Dr) (F : List Fm) (hf : Value) (E : List Ev) (he : Value) (k : Nat) (hk : k < 6) (every replay : Nat) (lease : Bool) (gl : Glb) (ho : Own D r gl) (hl : lim r.v.ms) (Q : T → Obs → Glb → Prop) (hF : F.length + 2 ≤ 1000000) (ht : ∀ d, (r.P k).dr = some d → d.tk ≤ 1000000)
    (nx : ∀ gl' hf', Own D (Rep.beat r k every).1 gl' → Step gl D r gl' D (Rep.beat r k every).1 → wRpX1 Γ Q [kRpX0 [1,1,1,0,0,1,1], kRpX0 [1,1,1,0], .blk 2] ⟨frame 180 [(0, .ptr 0 b 0), (1, int every), (2, int replay), (3, bool lease), (10, u8 k)], obsU b (Rep.beat r k every).1 D (F ++ (Rep.beat r k every).2) hf' E he, gl'⟩) :
    wRpX1 Γ Q [kRpX0 [1,1,1,0,0,1,0,0,0,1,0,1], kRpX0 [1,1,1,0,0,1,0,0,1], .blk 3, kRpX0 [1,1,1,0,0,1,1], kRpX0 [1,1,1,0], .blk 2] ⟨frame 180 [(0, .ptr 0 b 0), (1, int every), (2, int replay), (3, bool lease), (10, u8 k)], obsU b r D F hf E he, gl⟩ := by
  cases hd : (r.P k).dr with
  | none =>
    have hdT := dT_none hd (D.g k)
    rw [show Rep.beat r k every = (r, []) by unfold Rep.beat; rw [hd]] at nx
    have nx := nx gl hf ho (Step.refl _ _ _)
    simp only [List.append_nil] at nx
    let HH : Nat → Nat → Hint := fun | 13, 5 => .res (.v (.pointer none)) | _, _ => .no
    exact run_sound ⟨HH, [((0, 9), ([0,1,2,3,10], 3))], plRpX0⟩ 400 (by kernel_rfl) (Yi (↑k : Int) 6 (by omega) (Yb b (Ya (show (List.drop (54 + Int.toNat (↑k : Int) * nat_lit 1) (repU r D F hf E he))[0]? = some (T.v (Value.pointer none)) by rw [← hdT]; rcases six hk with rfl | rfl | rfl | rfl | rfl | rfl <;> rfl) nx)))
  | some d =>
    have hle := ho.dr k hk d hd
    have hdT : dT (r.P k).dr (D.g k) = .gp (D.g k) 0 := dT_some hd _
    obtain ⟨r1, hr1⟩ : ∃ r1, r1 = setP r k { r.P k with dr := some (Rep.tickD d every).1 } := ⟨_, rfl⟩
    have htu := fun es ck => ho.turn hk hd { r.P k with dr := some (Rep.tickD d every).1 } (Rep.tickD d every).1 rfl (D.m k) es ck (.inl rfl)
    rw [show ({ D with m := Rep.put D.m k (D.m k) } : Dr) = D by rw [Rep.put_self], ← hr1] at htu
    have hrep : ∀ F hf, repU r D F hf E he = repU r1 D F hf E he := fun F hf => by rw [hr1]; exact (repU_turn r D F hf E he k d _ hd).symm
    have htk := dtickG hle every (ht d hd)
    rw [beat_some hd, ← hr1] at nx
    cases h2 : (Rep.tickD d every).2 with
    | false =>
      rw [h2] at nx
      have hq : ∀ es ck, wRpX1 Γ Q [kRpX0 [1,1,1,0,0,1,1], kRpX0 [1,1,1,0], .blk 2] ⟨frame 180 [(0, .ptr 0 b 0), (1, int every), (2, int replay), (3, bool lease), (10, u8 k)], obsU b r D F hf E he, (setDr gl (D.g k) (D.m k) (Rep.tickD d every).1 es ck)⟩ := fun es ck => by
        have := nx _ hf (htu es ck).1 (htu es ck).2
        simp only [Bool.false_eq_true, if_false, List.append_nil, obsU] at this
        unfold obsU
        rw [hrep]; exact this
      clear nx
      let HH : Nat → Nat → Hint := fun | 13, 5 => .res (.gp (D.g k) 0) | 14, 5 => .call false (Array MapEntry × Nat) (fun _ => True) [] true (fun _ => bool false) (fun _ => []) (fun a => setDr gl (D.g k) (D.m k) (Rep.tickD d every).1 a.1 a.2) | _, _ => .no
      exact run_sound ⟨HH, [((0, 9), ([0,1,2,3,10], 3))], plRpX0⟩ 400 (by kernel_rfl) (Yi (↑k : Int) 6 (by omega) (Yb b (Ya (show (List.drop (54 + Int.toNat (↑k : Int) * nat_lit 1) (repU r D F hf E he))[0]? = some (T.gp (D.g k) 0) by rw [← hdT]; rcases six hk with rfl | rfl | rfl | rfl | rfl | rfl <;> rfl) (Ya (htk (HH 14 5).P fun es ck => ⟨(es, ck), trivial, by rw [h2], rfl, Nat.zero_le _, fun _ => rfl⟩) (fun (Z0 : Array MapEntry × Nat) => (fun (Z1 : True) => (hq Z0.fst Z0.snd)))))))
    | true =>
      rw [h2] at nx
      have hq : ∀ es ck, wRpX1 Γ Q [kRpX0 [1,1,1,0,0,1,0,0,0,1,0,1,0,1,1,0], kRpX0 [1,1,1,0,0,1,0,0,0,1,0,1,1], kRpX0 [1,1,1,0,0,1,0,0,1], .blk 3, kRpX0 [1,1,1,0,0,1,1], kRpX0 [1,1,1,0], .blk 2] ⟨frame 180 [(0, .ptr 0 b 0), (1, int every), (2, int replay), (3, bool lease), (10, u8 k)], obsU b r D F hf E he, setDr gl (D.g k) (D.m k) (Rep.tickD d every).1 es ck⟩ := fun es ck => by
        unfold obsU
        rw [hrep]
        refine tb15 Γ b r1 D F hf E he k hk every replay lease _ (htu es ck).1 (by rw [hr1]; exact hl) Q (Rep.tickD d every).1 (by rw [hr1, P_at]) hF fun hf' => ?_
        have := nx _ hf' (htu es ck).1 (htu es ck).2
        rw [tickD_w, show Rep.sent r1 k d.w = Rep.sent r k d.w by rw [hr1]; rfl]
        exact this
      clear nx
      let HH : Nat → Nat → Hint := fun | 13, 5 => .res (.gp (D.g k) 0) | 14, 5 => .call false (Array MapEntry × Nat) (fun _ => True) [] true (fun _ => bool true) (fun _ => []) (fun a => setDr gl (D.g k) (D.m k) (Rep.tickD d every).1 a.1 a.2) | _, _ => .no
      exact run_sound ⟨HH, [((0, 15), ([0,1,2,3,10], 3))], plRpX0⟩ 400 (by kernel_rfl) (Yi (↑k : Int) 6 (by omega) (Yb b (Ya (show (List.drop (54 + Int.toNat (↑k : Int) * nat_lit 1) (repU r D F hf E he))[0]? = some (T.gp (D.g k) 0) by rw [← hdT]; rcases six hk with rfl | rfl | rfl | rfl | rfl | rfl <;> rfl) (Ya (htk (HH 14 5).P fun es ck => ⟨(es, ck), trivial, by rw [h2], rfl, Nat.zero_le _, fun _ => rfl⟩) (fun (Z0 : Array MapEntry × Nat) => (fun (Z1 : True) => (hq Z0.fst Z0.snd)))))))
theorem tk20 (Γ : Ctx) (b : Nat) (r : RS) (D : Dr) (F : List Fm) (hf : Value) (E : List Ev) (he : Value) (k : Nat) (hk : k < 6) (every replay : Nat) (lease : Bool) (gl : Glb) (ho : Own D r gl) (hl : lim r.v.ms) (Q : T → Obs → Glb → Prop) (bc : Nat) (hF : F.length + 2 ≤ 1000000)
    (nx0 : ¬ replays r k → ∀ hf', wRpX1 Γ Q [kRpX0 [1,1,1,0,0,1,1], kRpX0 [1,1,1,0], .blk 2] ⟨frame 180 [(0, .ptr 0 b 0), (1, int every), (2, int replay), (3, bool lease), (10, u8 k)], obsU b (setP r k { r.P k with age := 0 }) D (F ++ if (r.P k).c.w.s.b = r.self then [] else [Rep.fr r 4 (r.P k).c.w.s.b k]) hf' E he, gl⟩)
    (nx1 : replays r k → ∀ g m gl' hf', Own (Dn D k g m) (setP r k { r.P k with age := 0, dr := some (Rep.newD (r.P k).c.w false) }) gl' → Step gl D r gl' (Dn D k g m) (setP r k { r.P k with age := 0, dr := some (Rep.newD (r.P k).c.w false) }) →
      wRpX1 Γ Q [kRpX0 [1,1,1,0,0,1,1], kRpX0 [1,1,1,0], .blk 2] ⟨frame 180 [(0, .ptr 0 b 0), (1, int every), (2, int replay), (3, bool lease), (10, u8 k)], obsU b (setP r k { r.P k with age := 0, dr := some (Rep.newD (r.P k).c.w false) }) (Dn D k g m) (F ++ Rep.sent r k (r.P k).c.w) hf' E he, gl'⟩) :
    wRpX1 Γ Q [kRpX0 [1,1,1,0,0,1,0,0,1,1,1,1,1], .blk 3, kRpX0 [1,1,1,0,0,1,1], kRpX0 [1,1,1,0], .blk 2] ⟨frame 180 [(0, .ptr 0 b 0), (1, int every), (2, int replay), (3, bool lease), (10, u8 k), (12, .ptr 3 bc 0)], obsU b r D F hf E he ++ [(bc, .cells (clC (r.P k).c))], gl⟩ := by
  obtain ⟨r0, hr0⟩ : ∃ r0, r0 = setP r k { r.P k with age := 0 } := ⟨_, rfl⟩
  have e0 : (r0.P k).c = (r.P k).c ∧ r0.self = r.self ∧ r0.v = r.v := by rw [hr0, P_at]; exact ⟨rfl, rfl, rfl⟩
  by_cases hr : replays r k
  · have nx1 := nx1 hr
    clear nx0
    have hlp : ∀ g m es ck, gl g = none → gl m = none → g ≠ m → wRpX1 Γ Q [kRpX0 [1,1,1,0,0,1,0,0,1,1,1,1,1,1,1,1], .blk 3, kRpX0 [1,1,1,0,0,1,1], kRpX0 [1,1,1,0], .blk 2] ⟨frame 180 [(0, .ptr 0 b 0), (1, int every), (2, int replay), (3, bool lease), (10, u8 k)], [(b, .cells (setCells (repU r0 D F hf E he) (54 + (k : Int).toNat * 1) [.gp g 0])), (0, .room 34 70 (Row.aggs frC F).length hf), (0, .room 5 73 (Row.aggs evC E).length he), (bc, .cells (clC (r.P k).c))], setDr gl g m (Rep.newD (r.P k).c.w false) es ck⟩ := fun g m es ck h1 h2 h3 => by
      have hn := ho.new hk { r.P k with age := 0, dr := some (Rep.newD (r.P k).c.w false) } (Rep.newD (r.P k).c.w false) rfl g m es ck h1 h2 h3
      have er : setP r0 k { r0.P k with dr := some (Rep.newD (r.P k).c.w false) } = setP r k { r.P k with age := 0, dr := some (Rep.newD (r.P k).c.w false) } := by
        rw [hr0, P_at]; unfold setP; simp only [Rep.put_put]
      rw [setU_g r0 D F hf E he k hk (Rep.newD (r.P k).c.w false) g m, er]
      exact tb25 Γ b _ (Dn D k g m) F hf E he k hk every replay lease _ hn.1 hl Q bc _ (Rep.newD (r.P k).c.w false) (by rw [P_at]) hF fun hf' => nx1 g m _ hf' hn.1 hn.2
    clear nx1
    let HH : Nat → Nat → Hint := fun | 20, 5 => .obj (repU r0 D F hf E he) | 21, 17 => told (bool (hasV r.v.ms (r.P k).c.w.s.b (r.P k).c.w.s.l)) [] [] | 24, 4 => .call false (Nat × Nat × Array MapEntry × Nat) (fun a => gl a.1 = none ∧ gl a.2.1 = none ∧ a.1 ≠ a.2.1) [] true (fun a => .gp a.1 0) (fun _ => []) (fun a => setDr gl a.1 a.2.1 (Rep.newD (r.P k).c.w false) a.2.2.1 a.2.2.2) | _, _ => .no
    exact run_sound ⟨HH, [((0, 25), ([0,1,2,3,10], 4)), ((0, 22), ([0,1,2,3,10,12], 1))], fun | 21 => some ⟨[0,3], [17], .take true [0,1,2,3,4,5,6,7,8,9,10,11,12,13,14,15,16] (.one 17 (.take false [18] .done))⟩ | 24 => some ⟨[3], [4,8], .take false [0,1,2,5,6] (.take true [3] (.one 4 (.take false [7] (.one 8 .done))))⟩ | n => plRpX0 n⟩ 400 (by kernel_rfl) (Yi (↑k : Int) 6 (by omega) (Yl 1 (Yb b (Ya (show 60 + Int.toNat (↑k : Int) * nat_lit 1 + nat_lit 1 ≤ 69 by rcases six hk with rfl | rfl | rfl | rfl | rfl | rfl <;> decide) (Ya (show setCells (repU r D F hf E he) (60 + Int.toNat (↑k : Int) * nat_lit 1) [int (0 : Int)] = repU r0 D F hf E he by rw [hr0]; rcases six hk with rfl | rfl | rfl | rfl | rfl | rfl <;> rfl) (Yb bc (Ys ((r.P k).c.w.r) (fun Z0 => (Yb b (Yb bc (Yb bc (Ya (show TCalls Try.prog 69 [T.agg (viewC r0.v), u8 (r.P k).c.w.s.b, u8 (r.P k).c.w.s.l] [] none_ (callPost (told (bool (hasV r.v.ms (r.P k).c.w.s.b (r.P k).c.w.s.l)) [] [])) from has_any r0.v _ _ (by rw [e0.2.2]; exact hl) _ fun _ h => told_post (by rw [h, e0.2.2])) (Yu (Ys (hasV r.v.ms (r.P k).c.w.s.b (r.P k).c.w.s.l) (fun Z1 => (show wRpX1 Γ Q [kRpX0 [1,1,1,0,0,1,0,0,1,1,1,1,1,1,0,1,0], kRpX0 [1,1,1,0,0,1,0,0,1,1,1,1,1,1,1], It.blk 3, kRpX0 [1,1,1,0,0,1,1], kRpX0 [1,1,1,0], It.blk 2] (S.mk (frame 180 [(0, T.ptr 0 b 0), (1, int every), (2, int replay), (3, bool lease), (10, u8 k), (12, T.ptr 3 bc 0)]) [(b, Ob.cells (repU r0 D F hf E he))] gl) by exfalso; exact hr ⟨Z0, Z1⟩)) (fun Z2 => (Yb bc (Ya (dnewG (r.P k).c.w false gl (HH 24 4).P fun g m es ck h1 h2 h3 => ⟨(g, m, es, ck), ⟨h1, h2, h3⟩, rfl, rfl, Nat.zero_le _, fun _ => rfl⟩) (fun (Z3 : Nat × Nat × Array MapEntry × Nat) => (fun (Z4 : gl Z3.fst = none ∧ gl Z3.snd.fst = none ∧ Z3.fst ≠ Z3.snd.fst) => (Yi (↑k : Int) 6 (by omega) (Yl 1 (Yb b (Ya (show 54 + Int.toNat (↑k : Int) * nat_lit 1 + nat_lit 1 ≤ 69 by rcases six hk with rfl | rfl | rfl | rfl | rfl | rfl <;> decide) (hlp Z3.1 Z3.2.1 Z3.2.2.1 Z3.2.2.2 Z4.1 Z4.2.1 Z4.2.2))))))))))))))))) (fun Z5 => (Yb bc (Ya (dnewG (r.P k).c.w false gl (HH 24 4).P fun g m es ck h1 h2 h3 => ⟨(g, m, es, ck), ⟨h1, h2, h3⟩, rfl, rfl, Nat.zero_le _, fun _ => rfl⟩) (fun (Z6 : Nat × Nat × Array MapEntry × Nat) => (fun (Z7 : gl Z6.fst = none ∧ gl Z6.snd.fst = none ∧ Z6.fst ≠ Z6.snd.fst) => (Yi (↑k : Int) 6 (by omega) (Yl 1 (Yb b (Ya (show 54 + Int.toNat (↑k : Int) * nat_lit 1 + nat_lit 1 ≤ 69 by rcases six hk with rfl | rfl | rfl | rfl | rfl | rfl <;> decide) (hlp Z6.1 Z6.2.1 Z6.2.2.1 Z6.2.2.2 Z7.1 Z7.2.1 Z7.2.2)))))))))))))))))
  · have nx0 := nx0 hr
    clear nx1
    have hr : (r.P k).c.w.r = true ∧ hasV r.v.ms (r.P k).c.w.s.b (r.P k).c.w.s.l = true := Classical.byContradiction fun h => hr h
    rw [← hr0] at nx0
    have hfr : Rep.fr r 4 (r.P k).c.w.s.b k = Rep.fr r0 4 (r.P k).c.w.s.b k := by rw [hr0]; rfl
    rw [hfr] at nx0
    have hrr := hr.1
    have hcc : (r0.P k).c = (r.P k).c := e0.1
    generalize (r.P k).c = c at *
    by_cases hself : c.w.s.b = r.self
    · rw [if_pos hself, List.append_nil] at nx0
      have nx0 := nx0 hf
      let HH : Nat → Nat → Hint := fun | 20, 5 => .obj (repU r0 D F hf E he) | 21, 17 => told (bool true) [] [] | _, _ => .no
      let z0 := S.mk (frame 180 [(0, T.ptr 0 b 0), (1, int every), (2, int replay), (3, bool lease), (10, u8 k), (12, T.ptr 3 bc 0)]) [(b, Ob.cells (repU r0 D F hf E he))] gl
      let z1 := sub (bd Try.f27) [1,1,1,0,0,1,0,0,1,1,1,1,1,1,1]
      exact run_sound ⟨HH, [((0, 9), ([0,1,2,3,10], 3)), ((0, 23), ([0,1,2,3,10,12], 1)), ((0, 24), ([0,1,2,3,10,12], 1))], fun | 21 => some ⟨[0,3], [17], .take true [0,1,2,3,4,5,6,7,8,9,10,11,12,13,14,15,16] (.one 17 (.take false [18] .done))⟩ | 22 => some ⟨[0,3], [], .take true [0,1,2,3,4,5,6,7,8,9] .done⟩ | n => plRpX0 n⟩ 400 (by kernel_rfl) (Yi (↑k : Int) 6 (by omega) (Yl 1 (Yb b (Ya (show 60 + Int.toNat (↑k : Int) * nat_lit 1 + nat_lit 1 ≤ 69 by rcases six hk with rfl | rfl | rfl | rfl | rfl | rfl <;> decide) (Ya (show setCells (repU r D F hf E he) (60 + Int.toNat (↑k : Int) * nat_lit 1) [int (0 : Int)] = repU r0 D F hf E he by rw [hr0]; rcases six hk with rfl | rfl | rfl | rfl | rfl | rfl <;> rfl) (Yb bc (Ys (c.w.r) (fun Z0 => (Yb b (Yb bc (Yb bc (Ya (show TCalls Try.prog 69 [T.agg (viewC r0.v), u8 c.w.s.b, u8 c.w.s.l] [] none_ (callPost (told (bool true) [] [])) from has_any r0.v _ _ (by rw [e0.2.2]; exact hl) _ fun _ h => told_post (by rw [h, e0.2.2, hr.2])) (Yu (Yb bc (Yb b (Ys ((↑c.w.s.b : Int) != (↑r0.self : Int)) (fun Z1 => (show wRpX1 Γ Q [kRpX0 [1,1,1,0,0,1,0,0,1,1,1,1,1,1,0,1,0,0,1,0], kRpX0 [1,1,1,0,0,1,0,0,0,1,0,1,1], It.code z1, It.blk 3, kRpX0 [1,1,1,0,0,1,1], kRpX0 [1,1,1,0], It.blk 2] z0 by exfalso; rw [bne_iff_ne] at Z1; have : r0.self = r.self := e0.2.1; omega)) (fun Z2 => nx0)))))))))) (fun Z3 => (show wRpX1 Γ Q [It.code z1, It.blk 3, kRpX0 [1,1,1,0,0,1,1], kRpX0 [1,1,1,0], It.blk 2] z0 by exfalso; rw [hrr] at Z3; cases Z3)))))))))
    · rw [if_neg hself] at nx0
      have hsd := tsend1 b r0 D F hf E he 4 c.w.s.b k Rep.z0 false 0 0 0 0 0 (by omega)
      let HH : Nat → Nat → Hint := fun | 20, 5 => .obj (repU r0 D F hf E he) | 21, 17 => told (bool true) [] [] | 23, 8 => tsH b r0 D F E he (Rep.fr r0 4 c.w.s.b k) | _, _ => .no
      exact run_sound ⟨HH, [((0, 9), ([0,1,2,3,10], 3)), ((0, 24), ([0,1,2,3,10,12], 1))], fun | 21 => some ⟨[0,3], [17], .take true [0,1,2,3,4,5,6,7,8,9,10,11,12,13,14,15,16] (.one 17 (.take false [18] .done))⟩ | 22 => some ⟨[0,3], [], .take true [0,1,2,3,4,5,6,7,8,9] .done⟩ | n => plRpX0 n⟩ 400 (by kernel_rfl) (Yi (↑k : Int) 6 (by omega) (Yl 1 (Yb b (Ya (show 60 + Int.toNat (↑k : Int) * nat_lit 1 + nat_lit 1 ≤ 69 by rcases six hk with rfl | rfl | rfl | rfl | rfl | rfl <;> decide) (Ya (show setCells (repU r D F hf E he) (60 + Int.toNat (↑k : Int) * nat_lit 1) [int (0 : Int)] = repU r0 D F hf E he by rw [hr0]; rcases six hk with rfl | rfl | rfl | rfl | rfl | rfl <;> rfl) (Yb bc (Ys (c.w.r) (fun Z0 => (Yb b (Yb bc (Yb bc (Ya (show TCalls Try.prog 69 [T.agg (viewC r0.v), u8 c.w.s.b, u8 c.w.s.l] [] none_ (callPost (told (bool true) [] [])) from has_any r0.v _ _ (by rw [e0.2.2]; exact hl) _ fun _ h => told_post (by rw [h, e0.2.2, hr.2])) (Yu (Yb bc (Yb b (Ys ((↑c.w.s.b : Int) != (↑r0.self : Int)) (fun Z1 => (Yb bc (Ya hsd (fun (Z2 : Value) => (fun (Z3 : True) => (nx0 Z2)))))) (fun Z4 => (show wRpX1 Γ Q [kRpX0 [1,1,1,0,0,1,1], kRpX0 [1,1,1,0], It.blk 2] (S.mk (frame 180 [(0, T.ptr 0 b 0), (1, int every), (2, int replay), (3, bool lease), (10, u8 k)]) [(b, Ob.cells (repU r0 D F hf E he)), (0, Ob.room 34 70 (List.length (List.map (fun x => T.agg (frC x)) F)) hf), (0, Ob.room 5 73 (List.length (List.map (fun x => T.agg (evC x)) E)) he)] gl) by exfalso; rw [bne_eq_false_iff_eq] at Z4; have : r0.self = r.self := e0.2.1; omega))))))))))) (fun Z5 => (show wRpX1 Γ Q [kRpX0 [1,1,1,0,0,1,0,0,1,1,1,1,1,1,1], It.blk 3, kRpX0 [1,1,1,0,0,1,1], kRpX0 [1,1,1,0], It.blk 2] (S.mk (frame 180 [(0, T.ptr 0 b 0), (1, int every), (2, int replay), (3, bool lease), (10, u8 k), (12, T.ptr 3 bc 0)]) [(b, Ob.cells (repU r0 D F hf E he))] gl) by exfalso; rw [hrr] at Z5; cases Z5)))))))))
theorem ttk (Γ : Ctx) (b : Nat) (r : RS) (D : Dr) (F : List Fm) (hf : Value) (E : List Ev) (he : Value) (k : Nat) (hk : k < 6) (every replay : Nat) (lease : Bool) (gl : Glb) (ho : Own D r gl) (hl : lim r.v.ms) (Q : T → Obs → Glb → Prop) (hF : F.length + (Rep.oth r).length + 3 ≤ 1000000) (hE : E.length + 1 ≤ 1000000) (ht : ∀ d, (r.P k).dr = some d → d.tk ≤ 1000000) (ha : (r.P k).age ≤ 999999)
    (nx : ∀ D' gl' hf' he', Own D' (Rep.tickK r k every replay lease).1 gl' → Step gl D r gl' D' (Rep.tickK r k every replay lease).1 → wRpX1 Γ Q [kRpX0 [1,1,1,0,0,1,1], kRpX0 [1,1,1,0], .blk 2] ⟨frame 180 [(0, .ptr 0 b 0), (1, int every), (2, int replay), (3, bool lease), (10, u8 k)], obsU b (Rep.tickK r k every replay lease).1 D' (F ++ (Rep.tickK r k every replay lease).2.1) hf' (E ++ (Rep.tickK r k every replay lease).2.2) he', gl'⟩) :
    wRpX1 Γ Q [kRpX0 [1,1,1,0,0,1,0,0], .blk 3, kRpX0 [1,1,1,0,0,1,1], kRpX0 [1,1,1,0], .blk 2] ⟨frame 180 [(0, .ptr 0 b 0), (1, int every), (2, int replay), (3, bool lease), (10, u8 k)], obsU b r D F hf E he, gl⟩ := by
  cases hd : (r.P k).dr with
  | some d =>
    have hdT : dT (r.P k).dr (D.g k) = .gp (D.g k) 0 := dT_some hd _
    cases lease with
    | false =>
      rw [show Rep.tickK r k every replay false = ((Rep.beat r k every).1, (Rep.beat r k every).2, []) by unfold Rep.tickK; rw [hd]; rfl] at nx
      have lp := tb13 Γ b r D F hf E he k hk every replay false gl ho hl Q (by omega) ht fun gl' hf' h1 h2 => by
        have := nx D gl' hf' he h1 h2
        simpa only [List.append_nil] using this
      clear nx
      let HH : Nat → Nat → Hint := fun | 10, 5 => .res (.gp (D.g k) 0) | _, _ => .no
      exact run_sound ⟨HH, [((0, 13), ([0,1,2,3,10], 3))], plRpX0⟩ 400 (by kernel_rfl) (Yi (↑k : Int) 6 (by omega) (Yb b (Ya (show (List.drop (54 + Int.toNat (↑k : Int) * nat_lit 1) (repU r D F hf E he))[0]? = some (T.gp (D.g k) 0) by rw [← hdT]; rcases six hk with rfl | rfl | rfl | rfl | rfl | rfl <;> rfl) lp)))
    | true =>
      have hlk := tlook_any b r D F hf E he k hk d hd gl ho hl (by omega) hE
      rw [show Rep.tickK r k every replay true = ((Rep.beat (Rep.look r k).1 k every).1, (Rep.look r k).2.1 ++ (Rep.beat (Rep.look r k).1 k every).2, (Rep.look r k).2.2) by unfold Rep.tickK; rw [hd]; rfl] at nx
      have lp := fun hf' he' => tb13 Γ b (Rep.look r k).1 D (F ++ (Rep.look r k).2.1) hf' (E ++ (Rep.look r k).2.2) he' k hk every replay true gl (own_look ho k).1 (by rw [(look_self r k).2.2.1]; exact hl) Q (by have := (look_ev r k).2; simp; omega) (fun d h => ht d (look_dr h)) fun gl' hf' h1 h2 => by
        have := nx D gl' hf' he' h1 ((own_look ho k).2.trans h2)
        rwa [← List.append_assoc] at this
      clear nx
      generalize Rep.look r k = lk at *
      let HH : Nat → Nat → Hint := fun | 10, 5 => .res (.gp (D.g k) 0) | 12, 2 => .call false (Value × Value) (fun _ => True) [0,1,2] true (fun _ => .tup []) (fun a => obsU b lk.1 D (F ++ lk.2.1) a.1 (E ++ lk.2.2) a.2) (fun _ => gl) | _, _ => .no
      exact run_sound ⟨HH, [((0, 13), ([0,1,2,3,10], 3))], plRpX0⟩ 400 (by kernel_rfl) (Yi (↑k : Int) 6 (by omega) (Yb b (Ya (show (List.drop (54 + Int.toNat (↑k : Int) * nat_lit 1) (repU r D F hf E he))[0]? = some (T.gp (D.g k) 0) by rw [← hdT]; rcases six hk with rfl | rfl | rfl | rfl | rfl | rfl <;> rfl) (Ya (hlk (HH 12 2).P fun v w => ⟨(v, w), trivial, rfl, rfl, Nat.le_of_ble_eq_true rfl, fun _ => rfl⟩) (fun (Z0 : Value × Value) => (fun (Z1 : True) => (lp Z0.fst Z0.snd)))))))
  | none =>
    have hdT := dT_none hd (D.g k)
    rw [show Rep.tickK r k every replay lease = ((Rep.stall r k replay lease).1, (Rep.stall r k replay lease).2, []) by unfold Rep.tickK; rw [hd]] at nx
    have hh := thasG ho.tr k
    rw [decide_eq_true hk, Bool.true_and] at hh
    by_cases hs : r.has k = true ∧ (r.P k).c.st = 2
    · obtain ⟨r1, hr1⟩ : ∃ r1, r1 = setP r k { r.P k with age := (r.P k).age + 1 } := ⟨_, rfl⟩
      have ho1 : Own D r1 gl ∧ Step gl D r gl D r1 := by rw [hr1]; exact ho.same k _ rfl
      have hw : IntKind.wrap .i64 (((r.P k).age : Int) + 1) = (((r.P k).age + 1 : Nat) : Int) := by rw [wrap_i64 (by omega) (by omega)]; omega
      have e1 : (r1.P k).c = (r.P k).c ∧ r1.self = r.self ∧ r1.v = r.v := by rw [hr1, P_at]; exact ⟨rfl, rfl, rfl⟩
      have nx9 : ¬ ((r.P k).age + 1 ≥ replay ∧ lease = true) → wRpX1 Γ Q [kRpX0 [1,1,1,0,0,1,1], kRpX0 [1,1,1,0], .blk 2] ⟨frame 180 [(0, .ptr 0 b 0), (1, int every), (2, int replay), (3, bool lease), (10, u8 k)], obsU b r1 D F hf E he, gl⟩ := fun hn => by
        rw [show Rep.stall r k replay lease = (r1, []) by unfold Rep.stall; rw [if_pos hs, if_neg hn, hr1]] at nx
        have nx := nx D gl hf he ho1.1 ho1.2
        simpa only [List.append_nil] using nx
      have nx20 : (r.P k).age + 1 ≥ replay ∧ lease = true → ∀ bc, wRpX1 Γ Q [kRpX0 [1,1,1,0,0,1,0,0,1,1,1,1,1], .blk 3, kRpX0 [1,1,1,0,0,1,1], kRpX0 [1,1,1,0], .blk 2] ⟨frame 180 [(0, .ptr 0 b 0), (1, int every), (2, int replay), (3, bool lease), (10, u8 k), (12, .ptr 3 bc 0)], obsU b r1 D F hf E he ++ [(bc, .cells (clC (r.P k).c))], gl⟩ := fun hn bc => by
        have e2 : ∀ o, setP r1 k { r1.P k with age := 0, dr := o } = setP r k { r.P k with age := 0, dr := o } := fun o => by
          rw [hr1, P_at]; unfold setP; simp only [Rep.put_put]
        rw [← e1.1]
        refine tk20 Γ b r1 D F hf E he k hk every replay lease gl ho1.1 (by rw [e1.2.2]; exact hl) Q bc (by omega) (fun hrp hf' => ?_) (fun hrp g m gl' hf' h1 h2 => ?_)
        · have hn2 : (r.P k).c.w.r = true ∧ hasV r.v.ms (r.P k).c.w.s.b (r.P k).c.w.s.l = true := by
            refine Classical.byContradiction fun h => hrp ?_
            unfold replays; rwa [e1.1, e1.2.2]
          rw [show Rep.stall r k replay lease = (setP r k { r.P k with age := 0 }, if (r.P k).c.w.s.b = r.self then [] else [Rep.fr r 4 (r.P k).c.w.s.b k]) by unfold Rep.stall; rw [if_pos hs, if_pos hn, if_pos hn2]] at nx
          have hr2' : setP r1 k { r1.P k with age := 0 } = setP r k { r.P k with age := 0 } := by
            rw [hr1, P_at]; unfold setP; simp only [Rep.put_put]
          have ho2 := ho.same k { r.P k with age := 0 } rfl
          have nx := nx D gl hf' he ho2.1 ho2.2
          rw [e1.1, e1.2.1, hr2', show Rep.fr r1 4 (r.P k).c.w.s.b k = Rep.fr r 4 (r.P k).c.w.s.b k by rw [hr1]; rfl]
          simpa only [List.append_nil] using nx
        · have hn2 : ¬ ((r.P k).c.w.r = true ∧ hasV r.v.ms (r.P k).c.w.s.b (r.P k).c.w.s.l = true) := by
            have := hrp; unfold replays at this; rwa [e1.1, e1.2.2] at this
          rw [show Rep.stall r k replay lease = (setP r k { r.P k with age := 0, dr := some (Rep.newD (r.P k).c.w false) }, Rep.sent r k (r.P k).c.w) by unfold Rep.stall; rw [if_pos hs, if_pos hn, if_neg hn2]] at nx
          rw [e1.1, e2] at h1 h2 ⊢
          rw [show Rep.sent r1 k (r.P k).c.w = Rep.sent r k (r.P k).c.w by rw [hr1]; rfl]
          have nx := nx _ gl' hf' he h1 (ho1.2.trans h2)
          simpa only [List.append_nil] using nx
      clear nx ho1
      rw [hs.1] at hh
      let HH : Nat → Nat → Hint := fun | 10, 5 => .res (.v (.pointer none)) | 16, 5 => .res (.agg (clC (r.P k).c)) | 17, 5 => toldG (bool true) [] [] gl | 18, 5 => .res (int (r.P k).age) | 18, 10 => .obj (repU r1 D F hf E he) | 19, 5 => .res (int ((r.P k).age + 1 : Nat)) | _, _ => .no
      let z5 := frame 180 [(0, T.ptr 0 b 0), (1, int every), (2, int replay), (3, bool lease), (10, u8 k)]
      let z2 := (0, Ob.room 34 70 (List.length (List.map (fun x => T.agg (frC x)) F)) hf)
      let z3 := (0, Ob.room 5 73 (List.length (List.map (fun x => T.agg (evC x)) E)) he)
      let z0 := S.mk z5 [(b, Ob.cells (repU r1 D F hf E he)), z2, z3] gl
      let z1 := [kRpX0 [1,1,1,0,0,1,1], kRpX0 [1,1,1,0], It.blk 2]
      let z4 := fin Try.prog Try.f27 [0,1,2] Q
      exact run_sound ⟨HH, [((0, 9), ([0,1,2,3,10], 3)), ((0, 20), ([0,1,2,3,10,12], 4))], fun | 18 => some ⟨[0], [10], .take true [0,1,2,3,4,5,6,7,8,9] (.one 10 .done)⟩ | n => plRpX0 n⟩ 400 (by kernel_rfl) (Yi (↑k : Int) 6 (by omega) (Yb b (Ya (show (List.drop (54 + Int.toNat (↑k : Int) * nat_lit 1) (repU r D F hf E he))[0]? = some (T.v (Value.pointer none)) by rw [← hdT]; rcases six hk with rfl | rfl | rfl | rfl | rfl | rfl <;> rfl) (Yi (↑k : Int) 6 (by omega) (Yb b (Ya (show (if List.length (List.drop (12 + Int.toNat (↑k : Int) * nat_lit 7) (repU r D F hf E he)) < (fun x => x.size) Try.prog.types[57] then none else some (T.agg (List.take (nat_lit 7) (List.drop (12 + Int.toNat (↑k : Int) * nat_lit 7) (repU r D F hf E he))))) = some (T.agg (clC (r.P k).c)) by rcases six hk with rfl | rfl | rfl | rfl | rfl | rfl <;> rfl) (fun (Z0 : Nat) => (Yk 7 Z0 (Yb b (Ya (hh (HH 17 5).P (toldG_post rfl)) (Yu (Yb Z0 (Ys ((↑(r.P k).c.st : Int) != (2 : Int)) (fun Z1 => (show TWk Try.prog Γ z4 z1 (S.mk z5 [(b, Ob.cells (repU r D F hf E he)), z2, z3] gl) by exfalso; rw [bne_iff_ne] at Z1; have := hs.2; omega)) (fun Z2 => (Yi (↑k : Int) 6 (by omega) (Yb b (Ya (show (List.drop (60 + Int.toNat (↑k : Int) * nat_lit 1) (repU r D F hf E he))[0]? = some (int (r.P k).age) by rcases six hk with rfl | rfl | rfl | rfl | rfl | rfl <;> rfl) (Yi (↑k : Int) 6 (by omega) (Yl 1 (Yb b (Ya (show 60 + Int.toNat (↑k : Int) * nat_lit 1 + nat_lit 1 ≤ 69 by rcases six hk with rfl | rfl | rfl | rfl | rfl | rfl <;> decide) (Ya (show setCells (repU r D F hf E he) (60 + Int.toNat (↑k : Int) * nat_lit 1) [int (IntKind.wrap IntKind.i64 ((↑(r.P k).age : Int) + (1 : Int)))] = repU r1 D F hf E he by simp only [hw] at *; rw [hr1]; rcases six hk with rfl | rfl | rfl | rfl | rfl | rfl <;> rfl) (Yi (↑k : Int) 6 (by omega) (Yb b (Ya (show (List.drop (60 + Int.toNat (↑k : Int) * nat_lit 1) (repU r1 D F hf E he))[0]? = some (int ((r.P k).age + 1)) by rw [hr1]; rcases six hk with rfl | rfl | rfl | rfl | rfl | rfl <;> rfl) (Ys (decide ((↑((r.P k).age + 1) : Int) < (↑replay : Int))) (fun Z3 => (show TWk Try.prog Γ z4 z1 z0 from nx9 (by have := of_decide_eq_true Z3; omega))) (fun Z4 => (Ys (!lease) (fun Z5 => (show TWk Try.prog Γ z4 z1 z0 from nx9 (by simp at Z5; rw [Z5]; simp))) (fun Z6 => (show TWk Try.prog Γ z4 [kRpX0 [1,1,1,0,0,1,0,0,1,1,1,1,1], It.blk 3, kRpX0 [1,1,1,0,0,1,1], kRpX0 [1,1,1,0], It.blk 2] (S.mk (frame 180 [(0, T.ptr 0 b 0), (1, int every), (2, int replay), (3, bool lease), (10, u8 k), (12, T.ptr 3 Z0 0)]) [(b, Ob.cells (repU r1 D F hf E he)), z2, z3, (Z0, Ob.cells (clC (r.P k).c))] gl) from nx20 (by have := of_decide_eq_false Z4; simp at Z6; exact ⟨by omega, Z6⟩) _))))))))))))))))))))))))))))))
    · rw [show Rep.stall r k replay lease = (r, []) by unfold Rep.stall; rw [if_neg hs]] at nx
      have nx := nx D gl hf he ho (Step.refl _ _ _)
      simp only [List.append_nil] at nx
      cases hhk : r.has k with
      | false =>
        rw [hhk] at hh
        let HH : Nat → Nat → Hint := fun | 10, 5 => .res (.v (.pointer none)) | 16, 5 => .res (.agg (clC (r.P k).c)) | 17, 5 => toldG (bool false) [] [] gl | _, _ => .no
        exact run_sound ⟨HH, [((0, 9), ([0,1,2,3,10], 3))], plRpX0⟩ 400 (by kernel_rfl) (Yi (↑k : Int) 6 (by omega) (Yb b (Ya (show (List.drop (54 + Int.toNat (↑k : Int) * nat_lit 1) (repU r D F hf E he))[0]? = some (T.v (Value.pointer none)) by rw [← hdT]; rcases six hk with rfl | rfl | rfl | rfl | rfl | rfl <;> rfl) (Yi (↑k : Int) 6 (by omega) (Yb b (Ya (show (if List.length (List.drop (12 + Int.toNat (↑k : Int) * nat_lit 7) (repU r D F hf E he)) < (fun x => x.size) Try.prog.types[57] then none else some (T.agg (List.take (nat_lit 7) (List.drop (12 + Int.toNat (↑k : Int) * nat_lit 7) (repU r D F hf E he))))) = some (T.agg (clC (r.P k).c)) by rcases six hk with rfl | rfl | rfl | rfl | rfl | rfl <;> rfl) (fun (Z0 : Nat) => (Yk 7 Z0 (Yb b (Ya (hh (HH 17 5).P (toldG_post rfl)) (Yu nx)))))))))))
      | true =>
        rw [hhk] at hh
        let HH : Nat → Nat → Hint := fun | 10, 5 => .res (.v (.pointer none)) | 16, 5 => .res (.agg (clC (r.P k).c)) | 17, 5 => toldG (bool true) [] [] gl | _, _ => .no
        exact run_sound ⟨HH, [((0, 9), ([0,1,2,3,10], 3)), ((0, 18), ([0,1,2,3,10,12], 1))], plRpX0⟩ 400 (by kernel_rfl) (Yi (↑k : Int) 6 (by omega) (Yb b (Ya (show (List.drop (54 + Int.toNat (↑k : Int) * nat_lit 1) (repU r D F hf E he))[0]? = some (T.v (Value.pointer none)) by rw [← hdT]; rcases six hk with rfl | rfl | rfl | rfl | rfl | rfl <;> rfl) (Yi (↑k : Int) 6 (by omega) (Yb b (Ya (show (if List.length (List.drop (12 + Int.toNat (↑k : Int) * nat_lit 7) (repU r D F hf E he)) < (fun x => x.size) Try.prog.types[57] then none else some (T.agg (List.take (nat_lit 7) (List.drop (12 + Int.toNat (↑k : Int) * nat_lit 7) (repU r D F hf E he))))) = some (T.agg (clC (r.P k).c)) by rcases six hk with rfl | rfl | rfl | rfl | rfl | rfl <;> rfl) (fun (Z0 : Nat) => (Yk 7 Z0 (Yb b (Ya (hh (HH 17 5).P (toldG_post rfl)) (Yu (Yb Z0 (Ys ((↑(r.P k).c.st : Int) != (2 : Int)) (fun Z1 => nx) (fun Z2 => (show wRpX1 Γ Q [kRpX0 [1,1,1,0,0,1,0,0,1,1,1], It.blk 3, kRpX0 [1,1,1,0,0,1,1], kRpX0 [1,1,1,0], It.blk 2] (S.mk (frame 180 [(0, T.ptr 0 b 0), (1, int every), (2, int replay), (3, bool lease), (10, u8 k), (12, T.ptr 3 Z0 0)]) [(b, Ob.cells (repU r D F hf E he))] gl) by exfalso; rw [bne_eq_false_iff_eq] at Z2; exact hs ⟨hhk, by omega⟩)))))))))))))))
theorem ttl_loop (Γ : Ctx) (b : Nat) (every replay : Nat) (lease : Bool) (Q : T → Obs → Glb → Prop) : ∀ (n i : Nat) (r : RS) (D : Dr) (F : List Fm) (hf : Value) (E : List Ev) (he : Value) (gl : Glb), i + n = 6 → Own D r gl → lim r.v.ms → (Rep.oth r).length ≤ 1000 → F.length + 2000 * n ≤ 100000 → E.length + n ≤ 1000 → Bd 999000 r i →
    (∀ D' gl' hf' he', Own D' (Rep.tickL r every replay lease (List.range' i n)).1 gl' → Step gl D r gl' D' (Rep.tickL r every replay lease (List.range' i n)).1 → Q (.tup []) (obsU b (Rep.tickL r every replay lease (List.range' i n)).1 D' (F ++ (Rep.tickL r every replay lease (List.range' i n)).2.1) hf' (E ++ (Rep.tickL r every replay lease (List.range' i n)).2.2) he') gl') →
    wRpX1 Γ Q [kRpX0 [1,1,1,0], .blk 2] ⟨frame 180 [(0, .ptr 0 b 0), (1, int every), (2, int replay), (3, bool lease), (10, u8 i)], obsU b r D F hf E he, gl⟩ := by
  intro n
  induction n with
  | zero =>
    intro i r D F hf E he gl hi ho hl ho5 hF hE hB hQ
    have hi : i = 6 := by omega
    subst hi
    have hQ := hQ D gl hf he ho (Step.refl _ _ _)
    rw [show Rep.tickL r every replay lease (List.range' 6 0) = (r, [], []) from rfl, List.append_nil, List.append_nil] at hQ
    let HH : Nat → Nat → Hint := fun  | _, _ => .no
    exact run_sound ⟨HH, [], plRpX0⟩ 400 (by kernel_rfl) hQ
  | succ n ih =>
    intro i r D F hf E he gl hi ho hl ho5 hF hE hB hQ
    have hw : IntKind.wrap .u8 ((i : Int) + 1) = ((i + 1 : Nat) : Int) := by rw [IntWalk.u8_in _ (by omega)]; omega
    have hBi := hB i (Nat.le_refl _) (by omega)
    obtain ⟨g1, g2, g3, g4, g5⟩ := tickK_self r i every replay lease
    have hlen := tickK_len r i every replay lease
    have nx := fun D' gl' hf' he' (h1 : Own D' (Rep.tickK r i every replay lease).1 gl') (h2 : Step gl D r gl' D' (Rep.tickK r i every replay lease).1) => ih (i + 1) (Rep.tickK r i every replay lease).1 D' (F ++ (Rep.tickK r i every replay lease).2.1) hf' (E ++ (Rep.tickK r i every replay lease).2.2) he' gl' (by omega) h1 (by rw [g3]; exact hl) (by unfold Rep.oth; rw [g1, g3]; exact ho5) (by simp; omega) (by simp; omega) (fun j hj hj6 => by rw [tickK_ne r i every replay lease (by omega)]; exact hB j (by omega) hj6) (fun D2 gl2 hf2 he2 k1 k2 => by
      have := hQ D2 gl2 hf2 he2
      rw [show List.range' i (n + 1) = i :: List.range' (i + 1) n from List.range'_succ] at this
      simp only [Rep.tickL, ← List.append_assoc] at this
      exact this k1 (Step.trans h2 k2))
    have lp := ttk Γ b r D F hf E he i (by omega) every replay lease gl ho hl Q (by omega) (by omega) (fun d hd => by have := hBi.2 d hd; omega) (by have := hBi.1; omega) fun D' gl' hf' he' h1 h2 => by
      have nx := nx D' gl' hf' he' h1 h2
      clear ih hQ hBi hlen g1 g2 g3 g4 g5 h1 h2
      generalize Rep.tickK r i every replay lease = o at *
      let HH : Nat → Nat → Hint := fun | 9, 0 => .res (u8 i) | 9, 2 => .res (u8 (i + 1 : Nat)) | _, _ => .no
      exact run_sound ⟨HH, [((2, 8), ([0,1,2,3,10], 3))], plRpX0⟩ 400 (by kernel_rfl) (Yb (some (u8 i)) (Ya (show some (u8 (IntKind.wrap IntKind.u8 ((↑i : Int) + (1 : Int)))) = some (u8 (i + 1)) by simp only [hw] <;> rfl) nx))
    clear ih hQ nx
    let HH : Nat → Nat → Hint := fun  | _, _ => .no
    exact run_sound ⟨HH, [((0, 10), ([0,1,2,3,10], 3))], plRpX0⟩ 400 (by kernel_rfl) (Ys (decide ((↑i : Int) < (6 : Int))) (fun Z0 => lp) (fun Z1 => (show Q (T.tup []) [(b, Ob.cells (repU r D F hf E he)), (0, Ob.room 34 70 (List.length (List.map (fun x => T.agg (frC x)) F)) hf), (0, Ob.room 5 73 (List.length (List.map (fun x => T.agg (evC x)) E)) he)] gl by exfalso; have := of_decide_eq_false Z1; omega)))
theorem ttl0 (Γ : Ctx) (b : Nat) (every replay : Nat) (lease : Bool) (Q : T → Obs → Glb → Prop) (r : RS) (D : Dr) (F : List Fm) (hf : Value) (E : List Ev) (he : Value) (gl : Glb) (ho : Own D r gl) (hl : lim r.v.ms) (ho5 : (Rep.oth r).length ≤ 1000) (hF : F.length ≤ 80000) (hE : E.length ≤ 900) (hB : Bd 999000 r 0)
    (hQ : ∀ D' gl' hf' he', Own D' (Rep.tickL r every replay lease [0,1,2,3,4,5]).1 gl' → Step gl D r gl' D' (Rep.tickL r every replay lease [0,1,2,3,4,5]).1 → Q (.tup []) (obsU b (Rep.tickL r every replay lease [0,1,2,3,4,5]).1 D' (F ++ (Rep.tickL r every replay lease [0,1,2,3,4,5]).2.1) hf' (E ++ (Rep.tickL r every replay lease [0,1,2,3,4,5]).2.2) he') gl') :
    wRpX1 Γ Q [kRpX0 [1,1]] ⟨frame 180 [(0, .ptr 0 b 0), (1, int every), (2, int replay), (3, bool lease)], obsU b r D F hf E he, gl⟩ := by
  rw [range6] at hQ
  have lp := ttl_loop Γ b every replay lease Q 6 0 r D F hf E he gl rfl ho hl ho5 (by omega) (by omega) hB hQ
  clear hQ
  let HH : Nat → Nat → Hint := fun  | _, _ => .no
  exact run_sound ⟨HH, [((2, 8), ([0,1,2,3,10], 3))], plRpX0⟩ 400 (by kernel_rfl) lp
theorem tnd_loop (Γ : Ctx) (b : Nat) (every replay : Nat) (lease : Bool) (r : RS) (D : Dr) (F0 : List Fm) (E : List Ev) (he : Value) (gl : Glb) (N : List (Nat × Nat)) (hN : N.length ≤ 1000) (hF0 : F0.length ≤ 1000) (Q : T → Obs → Glb → Prop)
    (hend : ∀ hf, wRpX1 Γ Q [kRpX0 [1,1]] ⟨frame 180 [(0, .ptr 0 b 0), (1, int every), (2, int replay), (3, bool lease)], obsU b r D (F0 ++ asks r N) hf E he, gl⟩) :
    ∀ (x d : List (Nat × Nat)) (i : Int) (hf : Value), N = d ++ x → i = d.length →
    wRpX1 Γ Q [kRpX0 [1,0,1,0,1,1,0], .blk 0, kRpX0 [1,1]] ⟨frame 180 [(0, .ptr 0 b 0), (1, int every), (2, int replay), (3, bool lease), (8, .sl 2 (Row.aggs neC N)), (9, int i)], obsU b r D (F0 ++ asks r d) hf E he, gl⟩ := by
  intro x
  induction x with
  | nil =>
    intro d i hf h1 hi
    have hLi : (N.length : Int) = i := by rw [h1, hi]; simp
    have hend := hend hf
    rw [show d = N by simp [h1]]
    have l1 : ((Row.aggs neC N).length : Int) = i := by rw [Row.aggs_len N]; exact hLi
    clear h1 hi hLi
    generalize Row.aggs neC N = U at *
    generalize F0 ++ asks r N = G at *
    let HH : Nat → Nat → Hint := fun  | _, _ => .no
    exact run_sound ⟨HH, [((0, 7), ([0,1,2,3], 3)), ((0, 6), ([0,1,2,3,8,9], 3))], plRpX0⟩ 400 (by kernel_rfl) (Ys (decide (i < (↑(List.length U) : Int))) (fun Z0 => (show wRpX1 Γ Q [kRpX0 [1,0,1,0,1,1,0,0,1,0,0], It.blk 1, kRpX0 [1,0,1,0,1,1,0,0,1,1], kRpX0 [1,0,1,0,1,1,0], It.blk 0, kRpX0 [1,1]] (S.mk (frame 180 [(0, T.ptr 0 b 0), (1, int every), (2, int replay), (3, bool lease), (8, T.sl 2 U), (9, int i)]) [(b, Ob.cells (repU r D G hf E he)), (0, Ob.room 34 70 (List.length (List.map (fun x => T.agg (frC x)) G)) hf), (0, Ob.room 5 73 (List.length (List.map (fun x => T.agg (evC x)) E)) he)] gl) by exfalso; have := of_decide_eq_true Z0; omega)) (fun Z1 => hend))
  | cons y x ih =>
    intro d i hf h1 hi
    have hLi : i < (N.length : Int) := by rw [h1, hi]; simp; omega
    have hw : IntKind.wrap .i64 (i + 1) = i + 1 := wrap_i64 (by omega) (by omega)
    have e1 : (Row.aggs neC N)[i.toNat]? = some (.agg (neC y)) := Row.aggs_at (by rw [h1, hi]; simp)
    have l1 : (Row.aggs neC N).length = N.length := Row.aggs_len N
    have hl : (F0 ++ asks r d).length + 1 ≤ 1000000 := by
      have : N.length = d.length + (x.length + 1) := by rw [h1]; simp
      simp [asks]; omega
    have nx := fun hf => ih (d ++ [y]) (i + 1) hf (by simp [h1]) (by simp [hi])
    rw [show asks r (d ++ [y]) = asks r d ++ [Rep.fr r 4 y.2 y.1] by simp [asks], ← List.append_assoc] at nx
    have h0 : 0 ≤ i := by omega
    clear ih h1 hend hi
    obtain ⟨y1, y2⟩ := y
    generalize Row.aggs neC N = U at *
    generalize F0 ++ asks r d = G at *
    have hsd := tsend1 b r D G hf E he 4 y2 y1 Rep.z0 false 0 0 0 0 0 hl
    let HH : Nat → Nat → Hint := fun | 6, 3 => .res (.agg (neC (y1, y2))) | 6, 8 => .res (.agg (neC (y1, y2))) | 6, 12 => tsH b r D G E he (Rep.fr r 4 y2 y1) | 5, 2 => .res (int (i + 1)) | 5, 1 => .res (int (i + 1)) | _, _ => .no
    exact run_sound ⟨HH, [((2, 4), ([0,1,2,3,8,9], 3)), ((0, 7), ([0,1,2,3], 1))], plRpX0⟩ 400 (by kernel_rfl) (Ys (decide (i < (↑(List.length U) : Int))) (fun Z0 => (Ya (show (0 : Int) ≤ i by omega) (Ya e1 (Ya (show (0 : Int) ≤ i by omega) (Ya e1 (Ya hsd (fun (Z1 : Value) => (fun (Z2 : True) => (Ya (congrArg int hw) (Ya (Ye (some (int (i + (1 : Int))))) (nx Z1))))))))))) (fun Z3 => (show wRpX1 Γ Q [kRpX0 [1,1]] (S.mk (frame 180 [(0, T.ptr 0 b 0), (1, int every), (2, int replay), (3, bool lease)]) [(b, Ob.cells (repU r D G hf E he))] gl) by exfalso; have := of_decide_eq_false Z3; omega)))
theorem ttick_any (b : Nat) (every replay : Nat) (lease : Bool) (r : RS) (D : Dr) (F : List Fm) (hf : Value) (E : List Ev) (he : Value) (gl : Glb) (ho : Own D r gl) (hl : lim r.v.ms) (ho5 : (Rep.oth r).length ≤ 1000) (hF : F.length ≤ 1000) (hE : E.length ≤ 900) (hB : Bd 999000 r 0) (hc : r.calls ≤ 999000) (Q : T → Obs → Glb → Prop)
    (hQ : ∀ D' gl' hf' he', Own D' (Rep.tick r every replay lease).1 gl' → Step gl D r gl' D' (Rep.tick r every replay lease).1 → Q (.tup []) (obsU b (Rep.tick r every replay lease).1 D' (F ++ (Rep.tick r every replay lease).2.1) hf' (E ++ (Rep.tick r every replay lease).2.2) he') gl') :
    TCalls Try.prog 27 [.ptr 0 b 0, int every, int replay, bool lease] (obsU b r D F hf E he) gl Q := by
  have hin := tin_any b r D F hf E he hl
  cases hi : Rep.inR r with
  | false =>
    rw [show Rep.tick r every replay lease = (r, [], []) by unfold Rep.tick; rw [hi]; rfl] at hQ
    have hQ := hQ D gl hf he ho (Step.refl _ _ _)
    simp only [List.append_nil] at hQ
    rw [hi] at hin
    refine TCalls.of Try.func27 rfl (CanCall.of Try.func27 rfl (by decide)) [0,1,2] fun Γ => ?_
    let HH : Nat → Nat → Hint := fun | 0, 1 => told (bool false) [0,1,2] (obsU b r D F hf E he) | _, _ => .no
    exact run_sound ⟨HH, [], plRpX0⟩ 400 (by kernel_rfl) (Ya (hin (HH 0 1).P (told_post rfl)) (Yu hQ))
  | true =>
    rw [hi] at hin
    have hcp := tcompleteG ho.tr
    rw [show (r.has 0 && (r.has 1 && (r.has 2 && (r.has 3 && (r.has 4 && r.has 5))))) = Rep.complete r from rfl] at hcp
    cases hcm : Rep.complete r with
    | true =>
      rw [hcm] at hcp
      rw [show Rep.tick r every replay lease = Rep.tickL r every replay lease [0,1,2,3,4,5] by unfold Rep.tick Rep.asked; rw [hi, hcm]; rfl] at hQ
      have lp := fun Γ => ttl0 Γ b every replay lease Q r D F hf E he gl ho hl ho5 (by omega) (by omega) hB hQ
      clear hQ
      refine TCalls.of Try.func27 rfl (CanCall.of Try.func27 rfl (by decide)) [0,1,2] fun Γ => ?_
      let HH : Nat → Nat → Hint := fun | 0, 1 => told (bool true) [0,1,2] (obsU b r D F hf E he) | 1, 4 => toldG (bool true) [] [] gl | _, _ => .no
      exact run_sound ⟨HH, [((0, 7), ([0,1,2,3], 3))], plRpX0⟩ 400 (by kernel_rfl) (Ya (hin (HH 0 1).P (told_post rfl)) (Yu (Yb b (Ya (hcp (HH 1 4).P (toldG_post rfl)) (Yu (lp Γ))))))
    | false =>
      rw [hcm] at hcp
      obtain ⟨r1, hr1⟩ : ∃ r1, r1 = { r with calls := r.calls + 1 } := ⟨_, rfl⟩
      obtain ⟨gl1, hgl1⟩ : ∃ gl1, gl1 = setO gl D.t (.cells (trC r.has (r.calls + 1))) := ⟨_, rfl⟩
      have ho1 : Own D r1 gl1 ∧ Step gl D r gl1 D r1 := by rw [hr1, hgl1]; exact ho.trans_ r.has (r.calls + 1)
      have hnd := tneedsG ho.tr (Rep.oth r) (Nat.le_trans (X5.othV_len _ _) hl) (by omega)
      rw [needs_nl, ← hgl1] at hnd
      rw [show Rep.tick r every replay lease = ((Rep.tickL r1 every replay lease [0,1,2,3,4,5]).1, asks r1 (Rep.needs r) ++ (Rep.tickL r1 every replay lease [0,1,2,3,4,5]).2.1, (Rep.tickL r1 every replay lease [0,1,2,3,4,5]).2.2) by unfold Rep.tick Rep.asked; rw [hi, hcm, hr1]; rfl] at hQ
      have hrep : repU r D F hf E he = repU r1 D F hf E he := by rw [hr1]; rfl
      have hnl := needs_len r
      have e1 : Rep.oth r1 = Rep.oth r := by rw [hr1]; rfl
      have lp := fun Γ => tnd_loop Γ b every replay lease r1 D F E he gl1 (Rep.needs r) (by omega) hF Q (fun hf => ttl0 Γ b every replay lease Q r1 D (F ++ asks r1 (Rep.needs r)) hf E he gl1 ho1.1 (by rw [hr1]; exact hl) (by rw [e1]; exact ho5) (by simp [asks]; omega) (by omega) (by rw [hr1]; exact hB) (fun D' gl' hf' he' h1 h2 => by
        have := hQ D' gl' hf' he' h1 (Step.trans ho1.2 h2)
        rwa [← List.append_assoc] at this)) (Rep.needs r) [] 0 hf rfl rfl
      rw [show asks r1 [] = [] from rfl, List.append_nil] at lp
      simp only [obsU] at lp
      rw [← hrep] at lp
      have hot := fun Q => others_any r.v r.self hl Q
      clear hQ
      generalize Row.aggs neC (Rep.needs r) = U at *
      refine TCalls.of Try.func27 rfl (CanCall.of Try.func27 rfl (by decide)) [0,1,2] fun Γ => ?_
      let HH : Nat → Nat → Hint := fun | 0, 1 => told (bool true) [0,1,2] (obsU b r D F hf E he) | 1, 4 => toldG (bool false) [] [] gl | 2, 12 => told (.sl 1 (X5.u8s (Rep.oth r))) [] [] | 2, 13 => toldG (.sl 2 U) [] [] gl1 | _, _ => .no
      exact run_sound ⟨HH, [((2, 4), ([0,1,2,3,8,9], 3))], fun | 2 => some ⟨[0], [13], .take true [0,1,2,3,4,5,6,7,8,9,10,11] (.one 12 (.one 13 (.take false [14] .done)))⟩ | n => plRpX0 n⟩ 400 (by kernel_rfl) (Ya (hin (HH 0 1).P (told_post rfl)) (Yu (Yb b (Ya (hcp (HH 1 4).P (toldG_post rfl)) (Yu (Yb b (Yb b (Yb b (Ya (hot (HH 2 12).P fun _ h => told_post h) (Yu (Ya (hnd (HH 2 13).P (toldG_post rfl)) (Yu (lp Γ)))))))))))))
end X20
end Go.Proofs.Ytafcbipmmjegcaa.Vm
