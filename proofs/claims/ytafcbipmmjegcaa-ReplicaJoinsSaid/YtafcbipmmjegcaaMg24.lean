/- Texts of this claim: RpK. -/
import Derived.Test.YtafcbipmmjegcaaMg15
import Derived.Test.YtafcbipmmjegcaaMg22
namespace Go.Proofs.Ytafcbipmmjegcaa.Vm
open Go Go.RowKit
set_option maxRecDepth 100000
noncomputable abbrev kRpK0 (l : List Nat) : It := .code (sub (bd Try.f41) l)
noncomputable abbrev kRpK1 (l : List Nat) : It := .code (sub (bd Try.f80) l)
noncomputable abbrev wRpK2 (Γ : Ctx) (Q : T → Obs → Glb → Prop) : List It → S → Prop := TWk Try.prog Γ (fin Try.prog Try.f80 [0, 1, 2, 3] Q)
noncomputable abbrev wRpK3 (Γ : Ctx) (Q : T → Obs → Glb → Prop) : List It → S → Prop := TWk Try.prog Γ (fin Try.prog Try.f41 [0, 1, 2, 3] Q)
def plRpK0 : Nat → Option RPlan := fun | 2 => some ⟨[0], [27], .take true [0,1,2,3,4,5,6,7,8,9,10,11,12,13,14,15,16,17,18,19,20,21,22,23,24,25,26] (.one 27 (.take false [28,29,30] .done))⟩ | _ => none
namespace X20
open Rep (Stp Wrd Cel Drv Plc RS Fm Ev setP setC)
open X5 (viewC lim othV hasV aheadV behindV ends_any has_any)
def Dn (D : Dr) (k g m : Nat) : Dr := { D with g := Rep.put D.g k g, m := Rep.put D.m k m }
theorem set_dr (r : RS) (D : Dr) (k : Nat) (hk : k < 6) (d : Drv) (g m : Nat) : setCells (repC r D) (12 + (k : Int).toNat * 9 + 7) [.gp g 0] = repC (setP r k { r.P k with dr := some d }) (Dn D k g m) := by
 rcases six hk with rfl|rfl|rfl|rfl|rfl|rfl <;> rfl
theorem stalled_any (b : Nat) (r : RS) (D : Dr) (k : Nat) (hk : k < 6) (replay : Nat) (lease : Bool) (gl : Glb) (ho : Own D r gl) (ha : (r.P k).age ≤ 1000000) (Q : T → Obs → Glb → Prop)
  (hQ0 : ¬ (r.has k = true ∧ (r.P k).c.st = 2) → Q (bool false) (obsR b r D) gl)
  (hQ1 : r.has k = true ∧ (r.P k).c.st = 2 → Q (bool (decide (replay ≤ (r.P k).age + 1) && lease)) (obsR b (setP r k { r.P k with age := (r.P k).age + 1 }) D) gl) :
  TCalls Try.prog 79 [.ptr 0 b 0, u8 k, int replay, bool lease] (obsR b r D) gl Q := by
 obtain ⟨r1, hr1⟩ : ∃ r1, r1 = setP r k { r.P k with age := (r.P k).age + 1 } := ⟨_, rfl⟩
 have hw : IntKind.wrap .i64 (((r.P k).age : Int) + 1) = (((r.P k).age + 1 : Nat) : Int) := by rw [wrap_i64 (by omega) (by omega)]; omega
 rw [← hr1] at hQ1
 cases hh : r.has k with
 | false =>
  have hQ := hQ0 (by simp [hh])
  clear hQ0 hQ1
  refine TCalls.of Try.func79 rfl (CanCall.of Try.func79 rfl (by decide)) [0] fun Γ => ?_
  let HH : Nat → Nat → Hint := fun | 2, 5 => toldG (bool false) [] [] gl | 2, 12 => .res (int (r.P k).c.st) | _, _ => .no
  exact run_sound ⟨HH, [], fun  | _ => none⟩ 400 (by kernel_rfl) (Yi (↑k : Int) 6 (by omega) (Yb b (Ya (thasG ho.tr k (HH 2 5).P (toldG_post (by rw [hh, Bool.and_false]))) (Yu hQ))))
 | true =>
  by_cases hs : (r.P k).c.st = 2
  ·have hQ := hQ1 ⟨hh, hs⟩
   rw [show decide (replay ≤ (r.P k).age + 1) = decide ((((r.P k).age + 1 : Nat) : Int) ≥ (replay : Int)) by rw [Bool.eq_iff_iff]; simp only [decide_eq_true_eq, ge_iff_le]; omega] at hQ
   clear hQ0 hQ1
   refine TCalls.of Try.func79 rfl (CanCall.of Try.func79 rfl (by decide)) [0] fun Γ => ?_
   let HH : Nat → Nat → Hint := fun | 2, 5 => toldG (bool true) [] [] gl | 2, 12 => .res (int 2) | 4, 3 => .res (int (r.P k).age) | 4, 7 => .obj (repC r1 D) | 5, 3 => .res (int ((r.P k).age + 1 : Nat)) | _, _ => .no
   exact run_sound ⟨HH, [], fun  | _ => none⟩ 400 (by kernel_rfl) (Yi (↑k : Int) 6 (by omega) (Yb b (Ya (thasG ho.tr k (HH 2 5).P (toldG_post (by rw [hh, decide_eq_true hk]; rfl))) (Yu (Yb b (Ya (show (List.drop (12 + Int.toNat (↑k : Int) * nat_lit 9 + nat_lit 0 + nat_lit 6) (repC r D))[0]? = some (int (2 : Int)) by rcases six hk with rfl|rfl|rfl|rfl|rfl|rfl <;> exact congrArg (fun n : Nat => some (int n)) hs) (Yb b (Ya (show (List.drop (12 + Int.toNat (↑k : Int) * nat_lit 9 + nat_lit 8) (repC r D))[0]? = some (int (r.P k).age) by rcases six hk with rfl|rfl|rfl|rfl|rfl|rfl <;> rfl) (Yl 1 (Yb b (Ya (show 12 + Int.toNat (↑k : Int) * nat_lit 9 + nat_lit 8 + nat_lit 1 ≤ 67 by rcases six hk with rfl|rfl|rfl|rfl|rfl|rfl <;> decide) (Ya (show setCells (repC r D) (12 + Int.toNat (↑k : Int) * nat_lit 9 + nat_lit 8) [int (IntKind.wrap IntKind.i64 ((↑(r.P k).age : Int) + (1 : Int)))] = repC r1 D by simp only [hw] at *; rw [hr1]; rcases six hk with rfl|rfl|rfl|rfl|rfl|rfl <;> rfl) (Yb b (Ya (show (List.drop (12 + Int.toNat (↑k : Int) * nat_lit 9 + nat_lit 8) (repC r1 D))[0]? = some (int ((r.P k).age + 1)) by rw [hr1]; rcases six hk with rfl|rfl|rfl|rfl|rfl|rfl <;> rfl) (Ys (decide ((↑((r.P k).age + 1) : Int) ≥ (↑replay : Int))) (fun Z0 => (show Q (bool lease) [(b, Ob.cells (repC r1 D))] gl by rw [Z0, Bool.true_and] at hQ; exact hQ)) (fun Z1 => (show Q (bool false) [(b, Ob.cells (repC r1 D))] gl by rw [Z1, Bool.false_and] at hQ; exact hQ)))))))))))))))))
  ·have hQ := hQ0 (fun h => hs h.2)
   clear hQ0 hQ1
   refine TCalls.of Try.func79 rfl (CanCall.of Try.func79 rfl (by decide)) [0] fun Γ => ?_
   let HH : Nat → Nat → Hint := fun | 2, 5 => toldG (bool true) [] [] gl | 2, 12 => .res (int (r.P k).c.st) | 4, 3 => .res .und | 4, 7 => .obj (repC r1 D) | 5, 3 => .res .und | _, _ => .no
   exact run_sound ⟨HH, [((0, 4), ([2,3,9], 1))], fun  | _ => none⟩ 400 (by kernel_rfl) (Yi (↑k : Int) 6 (by omega) (Yb b (Ya (thasG ho.tr k (HH 2 5).P (toldG_post (by rw [hh, decide_eq_true hk]; rfl))) (Yu (Yb b (Ya (show (List.drop (12 + Int.toNat (↑k : Int) * nat_lit 9 + nat_lit 0 + nat_lit 6) (repC r D))[0]? = some (int (r.P k).c.st) by rcases six hk with rfl|rfl|rfl|rfl|rfl|rfl <;> rfl) (Ys ((↑(r.P k).c.st : Int) != (2 : Int)) (fun Z0 => hQ) (fun Z1 => (show TWk Try.prog Γ (fin Try.prog Try.f79 [0] Q) [It.code (sub (bd Try.f79) [1,1,1])] (S.mk (frame 46 [(2, int replay), (3, bool lease), (9, T.ptr 0 b (12 + Int.toNat (↑k : Int) * nat_lit 9))]) [(b, Ob.cells (repC r D))] gl) by exfalso; rw [bne_eq_false_iff_eq] at Z1; omega)))))))))
theorem ag4 (Γ : Ctx) (b bo : Nat) (r : RS) (D : Dr) (F : List Fm) (hf : Value) (E : List Ev) (he : Value) (k : Nat) (hk : k < 6) (d : Drv) (hd : (r.P k).dr = some d) (gl : Glb) (ho : Own D r gl) (hl : lim r.v.ms) (hF : F.length + 2 ≤ 1000000) (Q : T → Obs → Glb → Prop) (hQ : ∀ hf', Q (.tup []) (obsR b r D ++ obsO 1 bo (F ++ Rep.sent r k d.w) hf' E he) gl) :
  wRpK2 Γ Q [kRpK1 [1,1,0,1,0,1], .blk 0] ⟨frame 87 [(0, .ptr 0 b 0), (1, .ptr 1 bo 0), (2, u8 k)], obsR b r D ++ obsO 1 bo F hf E he, gl⟩ := by
 have hs := sendout_any b bo r D F hf E he k hk d hd gl ho hl hF
 generalize F ++ Rep.sent r k d.w = G at *
 let HH : Nat → Nat → Hint := fun | 4, 3 => .call false Value (fun _ => True) [0,1,2,3] true (fun _ => .tup []) (fun hf => obsR b r D ++ obsO 1 bo G hf E he) (fun _ => gl) | _, _ => .no
 exact run_sound ⟨HH, [], fun | 2 => some ⟨[], [27], .take true [0,1,2,3,4,5,6,7,8,9,10,11,12,13,14,15,16,17,18,19,20,21,22,23,24,25,26] (.one 27 (.take false [28,29,30] .done))⟩ | n => plRpK0 n⟩ 400 (by kernel_rfl) (Ya (hs (HH 4 3).P fun v => ⟨v, trivial, rfl, rfl, Nat.le_of_ble_eq_true rfl, fun _ => rfl⟩) (fun (Z0 : Value) => (fun (Z1 : True) => (hQ Z0))))
def replays (r : RS) (k : Nat) : Prop := ¬ ((r.P k).c.w.r = true ∧ hasV r.v.ms (r.P k).c.w.s.b (r.P k).c.w.s.l = true)
theorem again_any (b bo : Nat) (r : RS) (D : Dr) (F : List Fm) (hf : Value) (E : List Ev) (he : Value) (k : Nat) (hk : k < 6) (gl : Glb) (ho : Own D r gl) (hl : lim r.v.ms) (hF : F.length + 2 ≤ 1000000) (Q : T → Obs → Glb → Prop)
  (hQ0 : ¬ replays r k → ∀ hf', Q (.tup []) (obsR b (setP r k { r.P k with age := 0 }) D ++ obsO 1 bo (F ++ if (r.P k).c.w.s.b = r.self then [] else [Rep.fr r 4 (r.P k).c.w.s.b k]) hf' E he) gl)
  (hQ1 : replays r k → ∀ g m gl' hf', Own (Dn D k g m) (setP r k { r.P k with age := 0, dr := some (Rep.newD (r.P k).c.w false) }) gl' → Step gl D r gl' (Dn D k g m) (setP r k { r.P k with age := 0, dr := some (Rep.newD (r.P k).c.w false) }) →
   Q (.tup []) (obsR b (setP r k { r.P k with age := 0, dr := some (Rep.newD (r.P k).c.w false) }) (Dn D k g m) ++ obsO 1 bo (F ++ Rep.sent r k (r.P k).c.w) hf' E he) gl') :
  TCalls Try.prog 80 [.ptr 0 b 0, .ptr 1 bo 0, u8 k] (obsR b r D ++ obsO 1 bo F hf E he) gl Q := by
 obtain ⟨r0, hr0⟩ : ∃ r0, r0 = setP r k { r.P k with age := 0 } := ⟨_, rfl⟩
 have e0 : (r0.P k).c = (r.P k).c ∧ r0.self = r.self ∧ r0.v = r.v := by rw [hr0, P_at]; exact ⟨rfl, rfl, rfl⟩
 by_cases hr : replays r k
 ·have hQ1 := hQ1 hr
  clear hQ0
  have hlp : ∀ Γ g m es ck, gl g = none → gl m = none → g ≠ m → wRpK2 Γ Q [kRpK1 [1,1,0,1,0,1], .blk 0] ⟨frame 87 [(0, .ptr 0 b 0), (1, .ptr 1 bo 0), (2, u8 k)], [(b, .cells (setCells (repC r0 D) (12 + (k : Int).toNat * 9 + 7) [.gp g 0]))] ++ obsO 1 bo F hf E he, setDr gl g m (Rep.newD (r.P k).c.w false) es ck⟩ := fun Γ g m es ck h1 h2 h3 => by
   have hn := ho.new hk { r.P k with age := 0, dr := some (Rep.newD (r.P k).c.w false) } (Rep.newD (r.P k).c.w false) rfl g m es ck h1 h2 h3
   have er : setP r0 k { r0.P k with dr := some (Rep.newD (r.P k).c.w false) } = setP r k { r.P k with age := 0, dr := some (Rep.newD (r.P k).c.w false) } := by
    rw [hr0, P_at]; unfold setP; simp only [Rep.put_put]
   rw [set_dr r0 D k hk (Rep.newD (r.P k).c.w false) g m, er]
   exact ag4 Γ b bo _ (Dn D k g m) F hf E he k hk (Rep.newD (r.P k).c.w false) (by rw [P_at]) _ hn.1 hl hF Q fun hf' => hQ1 g m _ hf' hn.1 hn.2
  clear hQ1
  refine TCalls.of Try.func80 rfl (CanCall.of Try.func80 rfl (by decide)) [0,1,2,3] fun Γ => ?_
  let HH : Nat → Nat → Hint := fun | 1, 3 => .obj (repC r0 D) | 2, 5 => .res (bool (r.P k).c.w.r) | 2, 19 => .res (u8 (r.P k).c.w.s.b) | 2, 26 => .res (u8 (r.P k).c.w.s.l) | 2, 27 => told (bool (hasV r.v.ms (r.P k).c.w.s.b (r.P k).c.w.s.l)) [] [] | 3, 5 => .res (.agg (wdC (r.P k).c.w)) | 3, 6 => .call false (Nat × Nat × Array MapEntry × Nat) (fun a => gl a.1 = none ∧ gl a.2.1 = none ∧ a.1 ≠ a.2.1) [] true (fun a => .gp a.1 0) (fun _ => []) (fun a => setDr gl a.1 a.2.1 (Rep.newD (r.P k).c.w false) a.2.2.1 a.2.2.2) | _, _ => .no
  exact run_sound ⟨HH, [((0, 4), ([0,1,2], 4)), ((0, 5), ([0,1,2,6], 4))], plRpK0⟩ 400 (by kernel_rfl) (Yi (↑k : Int) 6 (by omega) (Yl 1 (Yb b (Ya (show 12 + Int.toNat (↑k : Int) * nat_lit 9 + nat_lit 8 + nat_lit 1 ≤ 67 by rcases six hk with rfl|rfl|rfl|rfl|rfl|rfl <;> decide) (Ya (show setCells (repC r D) (12 + Int.toNat (↑k : Int) * nat_lit 9 + nat_lit 8) [int (0 : Int)] = repC r0 D by rw [hr0]; rcases six hk with rfl|rfl|rfl|rfl|rfl|rfl <;> rfl) (Yb b (Ya (show (List.drop (12 + Int.toNat (↑k : Int) * nat_lit 9 + nat_lit 0 + nat_lit 0 + nat_lit 5) (repC r0 D))[0]? = some (bool ((r.P k).c.w.r)) by rw [hr0]; rcases six hk with rfl|rfl|rfl|rfl|rfl|rfl <;> rfl) (Ys (!(r.P k).c.w.r) (fun Z0 => (Yb b (Ya (show (if List.length (List.drop (12 + Int.toNat (↑k : Int) * nat_lit 9 + nat_lit 0 + nat_lit 0) (repC r0 D)) < (fun x => x.size) Try.prog.types[55] then none else some (T.agg (List.take (nat_lit 6) (List.drop (12 + Int.toNat (↑k : Int) * nat_lit 9 + nat_lit 0 + nat_lit 0) (repC r0 D))))) = some (T.agg (wdC (r.P k).c.w)) by rw [hr0]; rcases six hk with rfl|rfl|rfl|rfl|rfl|rfl <;> rfl) (Ya (dnewG (r.P k).c.w false gl (HH 3 6).P fun g m es ck h1 h2 h3 => ⟨(g, m, es, ck), ⟨h1, h2, h3⟩, rfl, rfl, Nat.zero_le _, fun _ => rfl⟩) (fun (Z1 : Nat × Nat × Array MapEntry × Nat) => (fun (Z2 : gl Z1.fst = none ∧ gl Z1.snd.fst = none ∧ Z1.fst ≠ Z1.snd.fst) => (Yl 1 (Yb b (Ya (show 12 + Int.toNat (↑k : Int) * nat_lit 9 + nat_lit 7 + nat_lit 1 ≤ 67 by rcases six hk with rfl|rfl|rfl|rfl|rfl|rfl <;> decide) (hlp Γ Z1.1 Z1.2.1 Z1.2.2.1 Z1.2.2.2 Z2.1 Z2.2.1 Z2.2.2)))))))))) (fun Z3 => (Yb b (Yb b (Ya (show (List.drop (12 + Int.toNat (↑k : Int) * nat_lit 9 + nat_lit 0 + nat_lit 0 + nat_lit 0 + nat_lit 0 + nat_lit 1) (repC r0 D))[0]? = some (u8 (r.P k).c.w.s.b) by rw [hr0]; rcases six hk with rfl|rfl|rfl|rfl|rfl|rfl <;> rfl) (Yb b (Ya (show (List.drop (12 + Int.toNat (↑k : Int) * nat_lit 9 + nat_lit 0 + nat_lit 0 + nat_lit 0 + nat_lit 2) (repC r0 D))[0]? = some (u8 (r.P k).c.w.s.l) by rw [hr0]; rcases six hk with rfl|rfl|rfl|rfl|rfl|rfl <;> rfl) (Ya (show TCalls Try.prog 69 [T.agg [u32 r0.v.e, T.sl 3 (X5.mems r0.v.ms), u8 (r0.v.L 0), u8 (r0.v.L 1), u8 (r0.v.L 2), u8 (r0.v.L 3), u8 (r0.v.L 4), u8 (r0.v.L 5), u8 (r0.v.L 6), u8 (r0.v.L 7)], u8 (r.P k).c.w.s.b, u8 (r.P k).c.w.s.l] [] none_ (callPost (told (bool (hasV r.v.ms (r.P k).c.w.s.b (r.P k).c.w.s.l)) [] [])) from has_any r0.v _ _ (by rw [e0.2.2]; exact hl) _ fun _ h => told_post (by rw [h, e0.2.2])) (Yu (Ys (!hasV r.v.ms (r.P k).c.w.s.b (r.P k).c.w.s.l) (fun Z4 => (Yb b (Ya (show (if List.length (List.drop (12 + Int.toNat (↑k : Int) * nat_lit 9 + nat_lit 0 + nat_lit 0) (repC r0 D)) < (fun x => x.size) Try.prog.types[55] then none else some (T.agg (List.take (nat_lit 6) (List.drop (12 + Int.toNat (↑k : Int) * nat_lit 9 + nat_lit 0 + nat_lit 0) (repC r0 D))))) = some (T.agg (wdC (r.P k).c.w)) by rw [hr0]; rcases six hk with rfl|rfl|rfl|rfl|rfl|rfl <;> rfl) (Ya (dnewG (r.P k).c.w false gl (HH 3 6).P fun g m es ck h1 h2 h3 => ⟨(g, m, es, ck), ⟨h1, h2, h3⟩, rfl, rfl, Nat.zero_le _, fun _ => rfl⟩) (fun (Z5 : Nat × Nat × Array MapEntry × Nat) => (fun (Z6 : gl Z5.fst = none ∧ gl Z5.snd.fst = none ∧ Z5.fst ≠ Z5.snd.fst) => (Yl 1 (Yb b (Ya (show 12 + Int.toNat (↑k : Int) * nat_lit 9 + nat_lit 7 + nat_lit 1 ≤ 67 by rcases six hk with rfl|rfl|rfl|rfl|rfl|rfl <;> decide) (hlp Γ Z5.1 Z5.2.1 Z5.2.2.1 Z5.2.2.2 Z6.1 Z6.2.1 Z6.2.2)))))))))) (fun Z7 => (show wRpK2 Γ Q [kRpK1 [1,1,0,1,1], It.blk 0] (S.mk (frame 87 [(0, T.ptr 0 b 0), (1, T.ptr 1 bo 0), (2, u8 k), (6, T.ptr 0 b (12 + Int.toNat (↑k : Int) * nat_lit 9))]) [(b, Ob.cells (repC r0 D)), (bo, Ob.cells [T.slx 34 2 (List.map (fun x => T.agg (frC x)) F) hf, T.slx 5 3 (List.map (fun x => T.agg (evC x)) E) he]), (0, Ob.room 34 70 (List.length (List.map (fun x => T.agg (frC x)) F)) hf), (0, Ob.room 5 73 (List.length (List.map (fun x => T.agg (evC x)) E)) he)] gl) by exfalso; simp only [Bool.not_eq_false'] at Z3 Z7; exact hr ⟨Z3, Z7⟩)))))))))))))))))))
 ·have hQ0 := hQ0 hr
  clear hQ1
  have hr : (r.P k).c.w.r = true ∧ hasV r.v.ms (r.P k).c.w.s.b (r.P k).c.w.s.l = true := Classical.byContradiction fun h => hr h
  rw [← hr0] at hQ0
  have hfr : Rep.fr r 4 (r.P k).c.w.s.b k = Rep.fr r0 4 (r.P k).c.w.s.b k := by rw [hr0]; rfl
  rw [hfr] at hQ0
  by_cases hself : (r.P k).c.w.s.b = r.self
  ·rw [if_pos hself, List.append_nil] at hQ0
   have hQ0 := hQ0 hf
   refine TCalls.of Try.func80 rfl (CanCall.of Try.func80 rfl (by decide)) [0,1,2,3] fun Γ => ?_
   let HH : Nat → Nat → Hint := fun | 1, 3 => .obj (repC r0 D) | 2, 5 => .res (bool true) | 2, 19 => .res (u8 (r.P k).c.w.s.b) | 2, 26 => .res (u8 (r.P k).c.w.s.l) | 2, 27 => told (bool true) [] [] | 5, 7 => .res (u8 (r.P k).c.w.s.b) | 6, 9 => .res .und | _, _ => .no
   exact run_sound ⟨HH, [((0, 6), ([0,1,2,6], 4))], plRpK0⟩ 400 (by kernel_rfl) (Yi (↑k : Int) 6 (by omega) (Yl 1 (Yb b (Ya (show 12 + Int.toNat (↑k : Int) * nat_lit 9 + nat_lit 8 + nat_lit 1 ≤ 67 by rcases six hk with rfl|rfl|rfl|rfl|rfl|rfl <;> decide) (Ya (show setCells (repC r D) (12 + Int.toNat (↑k : Int) * nat_lit 9 + nat_lit 8) [int (0 : Int)] = repC r0 D by rw [hr0]; rcases six hk with rfl|rfl|rfl|rfl|rfl|rfl <;> rfl) (Yb b (Ya (show (List.drop (12 + Int.toNat (↑k : Int) * nat_lit 9 + nat_lit 0 + nat_lit 0 + nat_lit 5) (repC r0 D))[0]? = some (bool true) by rw [hr0]; rcases six hk with rfl|rfl|rfl|rfl|rfl|rfl <;> exact congrArg (fun b => some (bool b)) hr.1) (Yb b (Yb b (Ya (show (List.drop (12 + Int.toNat (↑k : Int) * nat_lit 9 + nat_lit 0 + nat_lit 0 + nat_lit 0 + nat_lit 0 + nat_lit 1) (repC r0 D))[0]? = some (u8 (r.P k).c.w.s.b) by rw [hr0]; rcases six hk with rfl|rfl|rfl|rfl|rfl|rfl <;> rfl) (Yb b (Ya (show (List.drop (12 + Int.toNat (↑k : Int) * nat_lit 9 + nat_lit 0 + nat_lit 0 + nat_lit 0 + nat_lit 2) (repC r0 D))[0]? = some (u8 (r.P k).c.w.s.l) by rw [hr0]; rcases six hk with rfl|rfl|rfl|rfl|rfl|rfl <;> rfl) (Ya (show TCalls Try.prog 69 [T.agg [u32 r0.v.e, T.sl 3 (X5.mems r0.v.ms), u8 (r0.v.L 0), u8 (r0.v.L 1), u8 (r0.v.L 2), u8 (r0.v.L 3), u8 (r0.v.L 4), u8 (r0.v.L 5), u8 (r0.v.L 6), u8 (r0.v.L 7)], u8 (r.P k).c.w.s.b, u8 (r.P k).c.w.s.l] [] none_ (callPost (told (bool true) [] [])) from has_any r0.v _ _ (by rw [e0.2.2]; exact hl) _ fun _ h => told_post (by rw [h, e0.2.2, hr.2])) (Yu (Yb b (Ya (show (List.drop (12 + Int.toNat (↑k : Int) * nat_lit 9 + nat_lit 0 + nat_lit 0 + nat_lit 0 + nat_lit 0 + nat_lit 1) (repC r0 D))[0]? = some (u8 (r.P k).c.w.s.b) by rw [hr0]; rcases six hk with rfl|rfl|rfl|rfl|rfl|rfl <;> rfl) (Yb b (Ys ((↑(r.P k).c.w.s.b : Int) != (↑r0.self : Int)) (fun Z0 => (show wRpK2 Γ Q [kRpK1 [1,1,0,1,1,1,0], It.blk 0] (S.mk (frame 87 [(0, T.ptr 0 b 0), (1, T.ptr 1 bo 0), (2, u8 k), (6, T.ptr 0 b (12 + Int.toNat (↑k : Int) * nat_lit 9))]) [(b, Ob.cells (repC r0 D)), (bo, Ob.cells [T.slx 34 2 (List.map (fun x => T.agg (frC x)) F) hf, T.slx 5 3 (List.map (fun x => T.agg (evC x)) E) he]), (0, Ob.room 34 70 (List.length (List.map (fun x => T.agg (frC x)) F)) hf), (0, Ob.room 5 73 (List.length (List.map (fun x => T.agg (evC x)) E)) he)] gl) by exfalso; rw [bne_iff_ne] at Z0; have : r0.self = r.self := e0.2.1; omega)) (fun Z1 => hQ0)))))))))))))))))))
  ·rw [if_neg hself] at hQ0
   refine TCalls.of Try.func80 rfl (CanCall.of Try.func80 rfl (by decide)) [0,1,2,3] fun Γ => ?_
   let HH : Nat → Nat → Hint := fun | 1, 3 => .obj (repC r0 D) | 2, 5 => .res (bool true) | 2, 19 => .res (u8 (r.P k).c.w.s.b) | 2, 26 => .res (u8 (r.P k).c.w.s.l) | 2, 27 => told (bool true) [] [] | 5, 7 => .res (u8 (r.P k).c.w.s.b) | 6, 9 => .res (u8 (r.P k).c.w.s.b) | 6, 11 => frameH b r0 D 4 (r.P k).c.w.s.b k | 6, 13 => sendH 1 bo F E he (Rep.fr r0 4 (r.P k).c.w.s.b k) | _, _ => .no
   let z0 := Rep.fr r0 4 (r.P k).c.w.s.b k
   let z1 := List.map (fun x => T.agg (frC x)) F
   let z2 := List.map (fun x => T.agg (evC x)) E
   exact run_sound ⟨HH, [], plRpK0⟩ 400 (by kernel_rfl) (Yi (↑k : Int) 6 (by omega) (Yl 1 (Yb b (Ya (show 12 + Int.toNat (↑k : Int) * nat_lit 9 + nat_lit 8 + nat_lit 1 ≤ 67 by rcases six hk with rfl|rfl|rfl|rfl|rfl|rfl <;> decide) (Ya (show setCells (repC r D) (12 + Int.toNat (↑k : Int) * nat_lit 9 + nat_lit 8) [int (0 : Int)] = repC r0 D by rw [hr0]; rcases six hk with rfl|rfl|rfl|rfl|rfl|rfl <;> rfl) (Yb b (Ya (show (List.drop (12 + Int.toNat (↑k : Int) * nat_lit 9 + nat_lit 0 + nat_lit 0 + nat_lit 5) (repC r0 D))[0]? = some (bool true) by rw [hr0]; rcases six hk with rfl|rfl|rfl|rfl|rfl|rfl <;> exact congrArg (fun b => some (bool b)) hr.1) (Yb b (Yb b (Ya (show (List.drop (12 + Int.toNat (↑k : Int) * nat_lit 9 + nat_lit 0 + nat_lit 0 + nat_lit 0 + nat_lit 0 + nat_lit 1) (repC r0 D))[0]? = some (u8 (r.P k).c.w.s.b) by rw [hr0]; rcases six hk with rfl|rfl|rfl|rfl|rfl|rfl <;> rfl) (Yb b (Ya (show (List.drop (12 + Int.toNat (↑k : Int) * nat_lit 9 + nat_lit 0 + nat_lit 0 + nat_lit 0 + nat_lit 2) (repC r0 D))[0]? = some (u8 (r.P k).c.w.s.l) by rw [hr0]; rcases six hk with rfl|rfl|rfl|rfl|rfl|rfl <;> rfl) (Ya (show TCalls Try.prog 69 [T.agg [u32 r0.v.e, T.sl 3 (X5.mems r0.v.ms), u8 (r0.v.L 0), u8 (r0.v.L 1), u8 (r0.v.L 2), u8 (r0.v.L 3), u8 (r0.v.L 4), u8 (r0.v.L 5), u8 (r0.v.L 6), u8 (r0.v.L 7)], u8 (r.P k).c.w.s.b, u8 (r.P k).c.w.s.l] [] none_ (callPost (told (bool true) [] [])) from has_any r0.v _ _ (by rw [e0.2.2]; exact hl) _ fun _ h => told_post (by rw [h, e0.2.2, hr.2])) (Yu (Yb b (Ya (show (List.drop (12 + Int.toNat (↑k : Int) * nat_lit 9 + nat_lit 0 + nat_lit 0 + nat_lit 0 + nat_lit 0 + nat_lit 1) (repC r0 D))[0]? = some (u8 (r.P k).c.w.s.b) by rw [hr0]; rcases six hk with rfl|rfl|rfl|rfl|rfl|rfl <;> rfl) (Yb b (Ys ((↑(r.P k).c.w.s.b : Int) != (↑r0.self : Int)) (fun Z0 => (Yb b (Ya (show (List.drop (12 + Int.toNat (↑k : Int) * nat_lit 9 + nat_lit 0 + nat_lit 0 + nat_lit 0 + nat_lit 0 + nat_lit 1) (repC r0 D))[0]? = some (u8 (r.P k).c.w.s.b) by rw [hr0]; rcases six hk with rfl|rfl|rfl|rfl|rfl|rfl <;> rfl) (Ya (Ya (repC_plain r0 D) Yt) (Ya (frame_any b r0 D 4 (r.P k).c.w.s.b k (HH 6 11).P (told_post rfl)) (Yu (Ya (Ya (repC_plain r0 D) Yt) (Ya (show TCalls Try.prog 39 [T.ptr 0 bo 0, T.sl 34 [T.agg [u8 z0.kind, u8 z0.frm, u8 z0.to, u32 (z0.epoch), u8 z0.key, u32 z0.w.s.n, u8 z0.w.s.b, u8 z0.w.s.l, bool false, T.v (Value.string z0.w.t), bool false, bool false, u8 z0.dir, u8 (0 : Int), u32 (0 : Int), u32 (0 : Int), u8 (0 : Int), u32 (0 : Int), u8 (0 : Int), u8 (0 : Int), u8 (0 : Int), u32 (0 : Int), u32 (0 : Int), u32 (0 : Int), T.v (Value.slice none 0 0), u8 (0 : Int), u8 (0 : Int), u8 (0 : Int), u8 (0 : Int), u8 (0 : Int), u8 (0 : Int), u8 (0 : Int), u8 (0 : Int), T.v (Value.slice none 0 0)]]] [(bo, Ob.cells [T.slx 34 1 z1 hf, T.slx 5 2 z2 he]), (0, Ob.room 34 70 (List.length z1) hf), (0, Ob.room 5 73 (List.length z2) he)] none_ (callPost (Hint.call false Value (fun x => True) [1, 1 + 1, 1 + 2] false (fun x => T.tup []) (fun hf => obsO 0 bo (F ++ [Rep.fr r0 4 (r.P k).c.w.s.b k]) hf E he) fun x => none_)) from send1 bo F hf E he z0 (by omega)) (fun (Z1 : Value) => (fun (Z2 : True) => (hQ0 Z1))))))))))) (fun Z3 => (show Q (T.tup []) [(b, Ob.cells (repC r0 D)), (bo, Ob.cells [T.slx 34 2 z1 hf, T.slx 5 3 z2 he]), (0, Ob.room 34 70 (List.length z1) hf), (0, Ob.room 5 73 (List.length z2) he)] gl by exfalso; rw [bne_eq_false_iff_eq] at Z3; have : r0.self = r.self := e0.2.1; omega))))))))))))))))))))
theorem beat_some {r : RS} {k : Nat} {d : Drv} (hd : (r.P k).dr = some d) (every : Nat) : Rep.beat r k every = (setP r k { r.P k with dr := some (Rep.tickD d every).1 }, if (Rep.tickD d every).2 then Rep.sent r k d.w else []) := by
 unfold Rep.beat; rw [hd]
theorem tickD_w (d : Drv) (every : Nat) : (Rep.tickD d every).1.w = d.w := by unfold Rep.tickD; split <;> rfl
theorem tk5 (Γ : Ctx) (b bo : Nat) (r : RS) (D : Dr) (F : List Fm) (hf : Value) (E : List Ev) (he : Value) (k : Nat) (hk : k < 6) (d : Drv) (hd : (r.P k).dr = some d) (gl : Glb) (ho : Own D r gl) (hl : lim r.v.ms) (hF : F.length + 2 ≤ 1000000) (Q : T → Obs → Glb → Prop) (hQ : ∀ hf', Q (.tup []) (obsR b r D ++ obsO 1 bo (F ++ Rep.sent r k d.w) hf' E he) gl) :
  wRpK3 Γ Q [kRpK0 [1,0,1,0,1,0,1,0], kRpK0 [1,0,1,0,1,1], kRpK0 [1,1]] ⟨frame 54 [(0, .ptr 0 b 0), (1, .ptr 1 bo 0), (2, u8 k)], obsR b r D ++ obsO 1 bo F hf E he, gl⟩ := by
 have hs := sendout_any b bo r D F hf E he k hk d hd gl ho hl hF
 generalize F ++ Rep.sent r k d.w = G at *
 let HH : Nat → Nat → Hint := fun | 5, 3 => .call false Value (fun _ => True) [0,1,2,3] true (fun _ => .tup []) (fun hf => obsR b r D ++ obsO 1 bo G hf E he) (fun _ => gl) | _, _ => .no
 exact run_sound ⟨HH, [], fun  | _ => none⟩ 400 (by kernel_rfl) (Ya (hs (HH 5 3).P fun v => ⟨v, trivial, rfl, rfl, Nat.le_of_ble_eq_true rfl, fun _ => rfl⟩) (fun (Z0 : Value) => (fun (Z1 : True) => (hQ Z0))))
theorem tk4 (Γ : Ctx) (b bo : Nat) (r : RS) (D : Dr) (F : List Fm) (hf : Value) (E : List Ev) (he : Value) (k : Nat) (hk : k < 6) (every : Nat) (gl : Glb) (ho : Own D r gl) (hl : lim r.v.ms) (hF : F.length + 2 ≤ 1000000) (ht : ∀ d, (r.P k).dr = some d → d.tk ≤ 1000000) (Q : T → Obs → Glb → Prop)
  (hQ : ∀ gl' hf', Own D (Rep.beat r k every).1 gl' → Step gl D r gl' D (Rep.beat r k every).1 → Q (.tup []) (obsR b (Rep.beat r k every).1 D ++ obsO 1 bo (F ++ (Rep.beat r k every).2) hf' E he) gl') :
  wRpK3 Γ Q [kRpK0 [1,0,1,0,1], kRpK0 [1,1]] ⟨frame 54 [(0, .ptr 0 b 0), (1, .ptr 1 bo 0), (2, u8 k), (3, int every), (12, .ptr 0 b (12 + (k : Int).toNat * 9))], obsR b r D ++ obsO 1 bo F hf E he, gl⟩ := by
 cases hd : (r.P k).dr with
 | none =>
  have hdT := dT_none hd (D.g k)
  rw [show Rep.beat r k every = (r, []) by unfold Rep.beat; rw [hd]] at hQ
  have hQ := hQ gl hf ho (Step.refl _ _ _)
  simp only [List.append_nil] at hQ
  let HH : Nat → Nat → Hint := fun | 4, 3 => .res (.v (.pointer none)) | _, _ => .no
  exact run_sound ⟨HH, [], fun  | _ => none⟩ 400 (by kernel_rfl) (Yb b (Ya (show (List.drop (12 + Int.toNat (↑k : Int) * 9 + nat_lit 7) (repC r D))[0]? = some (T.v (Value.pointer none)) by rw [← hdT]; rcases six hk with rfl|rfl|rfl|rfl|rfl|rfl <;> rfl) hQ))
 | some d =>
  have hle := ho.dr k hk d hd
  have hdT : dT (r.P k).dr (D.g k) = .gp (D.g k) 0 := dT_some hd _
  obtain ⟨r1, hr1⟩ : ∃ r1, r1 = setP r k { r.P k with dr := some (Rep.tickD d every).1 } := ⟨_, rfl⟩
  have htu := fun es ck => ho.turn hk hd { r.P k with dr := some (Rep.tickD d every).1 } (Rep.tickD d every).1 rfl (D.m k) es ck (.inl rfl)
  rw [show ({ D with m := Rep.put D.m k (D.m k) } : Dr) = D by rw [Rep.put_self], ← hr1] at htu
  have hrep : repC r D = repC r1 D := by rw [hr1]; exact (repC_turn r D k d _ hd).symm
  have htk := dtickG hle every (ht d hd)
  rw [beat_some hd, ← hr1] at hQ
  cases h2 : (Rep.tickD d every).2 with
  | false =>
   rw [h2] at hQ
   have hq : ∀ es ck, Q (.tup []) ([(b, .cells (repC r D))] ++ obsO 1 bo F hf E he) (setDr gl (D.g k) (D.m k) (Rep.tickD d every).1 es ck) := fun es ck => by
    have := hQ _ hf (htu es ck).1 (htu es ck).2
    simp only [Bool.false_eq_true, if_false, List.append_nil, obsR] at this
    rw [hrep]; exact this
   clear hQ
   let HH : Nat → Nat → Hint := fun | 4, 3 => .res (.gp (D.g k) 0) | 4, 9 => .res (.gp (D.g k) 0) | 4, 11 => .call false (Array MapEntry × Nat) (fun _ => True) [] true (fun _ => bool false) (fun _ => []) (fun a => setDr gl (D.g k) (D.m k) (Rep.tickD d every).1 a.1 a.2) | _, _ => .no
   exact run_sound ⟨HH, [], fun  | _ => none⟩ 400 (by kernel_rfl) (Yb b (Ya (show (List.drop (12 + Int.toNat (↑k : Int) * 9 + nat_lit 7) (repC r D))[0]? = some (T.gp (D.g k) 0) by rw [← hdT]; rcases six hk with rfl|rfl|rfl|rfl|rfl|rfl <;> rfl) (Yb b (Ya (show (List.drop (12 + Int.toNat (↑k : Int) * 9 + nat_lit 7) (repC r D))[0]? = some (T.gp (D.g k) 0) by rw [← hdT]; rcases six hk with rfl|rfl|rfl|rfl|rfl|rfl <;> rfl) (Ya (htk (HH 4 11).P fun es ck => ⟨(es, ck), trivial, by rw [h2], rfl, Nat.zero_le _, fun _ => rfl⟩) (fun (Z0 : Array MapEntry × Nat) => (fun (Z1 : True) => (hq Z0.fst Z0.snd))))))))
  | true =>
   rw [h2] at hQ
   have hq : ∀ es ck, wRpK3 Γ Q [kRpK0 [1,0,1,0,1,0,1,0], kRpK0 [1,0,1,0,1,1], kRpK0 [1,1]] ⟨frame 54 [(0, .ptr 0 b 0), (1, .ptr 1 bo 0), (2, u8 k)], [(b, .cells (repC r D))] ++ obsO 1 bo F hf E he, setDr gl (D.g k) (D.m k) (Rep.tickD d every).1 es ck⟩ := fun es ck => by
    rw [hrep]
    refine tk5 Γ b bo r1 D F hf E he k hk (Rep.tickD d every).1 (by rw [hr1, P_at]) _ (htu es ck).1 (by rw [hr1]; exact hl) hF Q fun hf' => ?_
    have := hQ _ hf' (htu es ck).1 (htu es ck).2
    rw [tickD_w, show Rep.sent r1 k d.w = Rep.sent r k d.w by rw [hr1]; rfl]
    exact this
   clear hQ
   let HH : Nat → Nat → Hint := fun | 4, 3 => .res (.gp (D.g k) 0) | 4, 9 => .res (.gp (D.g k) 0) | 4, 11 => .call false (Array MapEntry × Nat) (fun _ => True) [] true (fun _ => bool true) (fun _ => []) (fun a => setDr gl (D.g k) (D.m k) (Rep.tickD d every).1 a.1 a.2) | _, _ => .no
   exact run_sound ⟨HH, [((0, 5), ([0,1,2], 4))], fun  | _ => none⟩ 400 (by kernel_rfl) (Yb b (Ya (show (List.drop (12 + Int.toNat (↑k : Int) * 9 + nat_lit 7) (repC r D))[0]? = some (T.gp (D.g k) 0) by rw [← hdT]; rcases six hk with rfl|rfl|rfl|rfl|rfl|rfl <;> rfl) (Yb b (Ya (show (List.drop (12 + Int.toNat (↑k : Int) * 9 + nat_lit 7) (repC r D))[0]? = some (T.gp (D.g k) 0) by rw [← hdT]; rcases six hk with rfl|rfl|rfl|rfl|rfl|rfl <;> rfl) (Ya (htk (HH 4 11).P fun es ck => ⟨(es, ck), trivial, by rw [h2], rfl, Nat.zero_le _, fun _ => rfl⟩) (fun (Z0 : Array MapEntry × Nat) => (fun (Z1 : True) => (hq Z0.fst Z0.snd))))))))
theorem look_dr {r : RS} {k : Nat} {d : Drv} (h : ((Rep.look r k).1.P k).dr = some d) : (r.P k).dr = some d := by
 unfold Rep.look at h
 split at h
 ·exact h
 ·split at h
  ·split at h
   ·rw [P_at] at h; cases h
   ·rw [P_at] at h; cases h
  ·exact h
theorem look_ev (r : RS) (k : Nat) : (Rep.look r k).2.2.length ≤ 1 ∧ (Rep.look r k).2.1.length ≤ (Rep.oth r).length := by
 unfold Rep.look
 split
 ·simp
 ·split
  ·split
   ·refine ⟨?_, by simp⟩
    show (if _ then _ else _ : List Ev).length ≤ 1
    split <;> simp
   ·refine ⟨?_, by simp⟩
    show (if _ then _ else _ : List Ev).length ≤ 1
    split <;> simp
  ·simp
theorem tickK_any (b bo : Nat) (r : RS) (D : Dr) (F : List Fm) (hf : Value) (E : List Ev) (he : Value) (k : Nat) (hk : k < 6) (every replay : Nat) (lease : Bool) (gl : Glb) (ho : Own D r gl) (hl : lim r.v.ms) (hF : F.length + (Rep.oth r).length + 3 ≤ 1000000) (hE : E.length + 1 ≤ 1000000) (ht : ∀ d, (r.P k).dr = some d → d.tk ≤ 1000000) (ha : (r.P k).age ≤ 999999) (Q : T → Obs → Glb → Prop)
  (hQ : ∀ D' gl' hf' he', Own D' (Rep.tickK r k every replay lease).1 gl' → Step gl D r gl' D' (Rep.tickK r k every replay lease).1 → Q (.tup []) (obsR b (Rep.tickK r k every replay lease).1 D' ++ obsO 1 bo (F ++ (Rep.tickK r k every replay lease).2.1) hf' (E ++ (Rep.tickK r k every replay lease).2.2) he') gl') :
  TCalls Try.prog 41 [.ptr 0 b 0, .ptr 1 bo 0, u8 k, int every, int replay, bool lease] (obsR b r D ++ obsO 1 bo F hf E he) gl Q := by
 cases hd : (r.P k).dr with
 | some d =>
  have hdT : dT (r.P k).dr (D.g k) = .gp (D.g k) 0 := dT_some hd _
  cases lease with
  | false =>
   rw [show Rep.tickK r k every replay false = ((Rep.beat r k every).1, (Rep.beat r k every).2, []) by unfold Rep.tickK; rw [hd]; rfl] at hQ
   have lp := fun Γ => tk4 Γ b bo r D F hf E he k hk every gl ho hl (by omega) ht Q fun gl' hf' h1 h2 => by
    have := hQ D gl' hf' he h1 h2
    simpa only [List.append_nil] using this
   clear hQ
   refine TCalls.of Try.func41 rfl (CanCall.of Try.func41 rfl (by decide)) [0,1,2,3] fun Γ => ?_
   let HH : Nat → Nat → Hint := fun | 1, 3 => .res (.gp (D.g k) 0) | _, _ => .no
   exact run_sound ⟨HH, [((0, 4), ([0,1,2,3,12], 4))], fun  | _ => none⟩ 400 (by kernel_rfl) (Yi (↑k : Int) 6 (by omega) (Yb b (Ya (show (List.drop (12 + Int.toNat (↑k : Int) * nat_lit 9 + nat_lit 7) (repC r D))[0]? = some (T.gp (D.g k) 0) by rw [← hdT]; rcases six hk with rfl|rfl|rfl|rfl|rfl|rfl <;> rfl) (lp Γ))))
  | true =>
   have hlk := look_any b bo r D F hf E he k hk d hd gl ho hl (by omega) hE
   rw [show Rep.tickK r k every replay true = ((Rep.beat (Rep.look r k).1 k every).1, (Rep.look r k).2.1 ++ (Rep.beat (Rep.look r k).1 k every).2, (Rep.look r k).2.2) by unfold Rep.tickK; rw [hd]; rfl] at hQ
   have lp := fun Γ hf' he' => tk4 Γ b bo (Rep.look r k).1 D (F ++ (Rep.look r k).2.1) hf' (E ++ (Rep.look r k).2.2) he' k hk every gl (own_look ho k).1 (by rw [(look_self r k).2.2.1]; exact hl) (by have := (look_ev r k).2; simp; omega) (fun d h => ht d (look_dr h)) Q fun gl' hf' h1 h2 => by
    have := hQ D gl' hf' he' h1 ((own_look ho k).2.trans h2)
    rwa [← List.append_assoc] at this
   clear hQ
   generalize Rep.look r k = lk at *
   refine TCalls.of Try.func41 rfl (CanCall.of Try.func41 rfl (by decide)) [0,1,2,3] fun Γ => ?_
   let HH : Nat → Nat → Hint := fun | 1, 3 => .res (.gp (D.g k) 0) | 3, 3 => bothH b bo lk.1 D (F ++ lk.2.1) (E ++ lk.2.2) gl | _, _ => .no
   exact run_sound ⟨HH, [((0, 4), ([0,1,2,3,12], 4))], fun  | _ => none⟩ 400 (by kernel_rfl) (Yi (↑k : Int) 6 (by omega) (Yb b (Ya (show (List.drop (12 + Int.toNat (↑k : Int) * nat_lit 9 + nat_lit 7) (repC r D))[0]? = some (T.gp (D.g k) 0) by rw [← hdT]; rcases six hk with rfl|rfl|rfl|rfl|rfl|rfl <;> rfl) (Ya (hlk (HH 3 3).P fun v w => ⟨(v, w), trivial, rfl, rfl, Nat.le_of_ble_eq_true rfl, fun _ => rfl⟩) (fun (Z0 : Value × Value) => (fun (Z1 : True) => (lp Γ Z0.fst Z0.snd)))))))
 | none =>
  have hdT := dT_none hd (D.g k)
  rw [show Rep.tickK r k every replay lease = ((Rep.stall r k replay lease).1, (Rep.stall r k replay lease).2, []) by unfold Rep.tickK; rw [hd]] at hQ
  have hsta := stalled_any b r D k hk replay lease gl ho (by omega)
  by_cases hs : r.has k = true ∧ (r.P k).c.st = 2
  ·obtain ⟨r1, hr1⟩ : ∃ r1, r1 = setP r k { r.P k with age := (r.P k).age + 1 } := ⟨_, rfl⟩
   have ho1 : Own D r1 gl ∧ Step gl D r gl D r1 := by rw [hr1]; exact ho.same k _ rfl
   have hsta := fun Q hq => hsta Q (fun h => absurd hs h) (fun _ => hq)
   rw [← hr1] at hsta
   cases hv : (decide (replay ≤ (r.P k).age + 1) && lease) with
   | false =>
    have hn : ¬ ((r.P k).age + 1 ≥ replay ∧ lease = true) := fun h => by
     rw [decide_eq_true (show replay ≤ (r.P k).age + 1 from h.1), h.2] at hv; cases hv
    rw [show Rep.stall r k replay lease = (r1, []) by unfold Rep.stall; rw [if_pos hs, if_neg hn, hr1]] at hQ
    have hQ := hQ D gl hf he ho1.1 ho1.2
    simp only [List.append_nil] at hQ
    rw [hv] at hsta
    clear ho1
    refine TCalls.of Try.func41 rfl (CanCall.of Try.func41 rfl (by decide)) [0,1,2,3] fun Γ => ?_
    let HH : Nat → Nat → Hint := fun | 1, 3 => .res (.v (.pointer none)) | 6, 4 => .plainAt [0] (toldG (bool false) [0] (obsR b r1 D) gl) | _, _ => .no
    exact run_sound ⟨HH, [], fun  | _ => none⟩ 400 (by kernel_rfl) (Yi (↑k : Int) 6 (by omega) (Yb b (Ya (show (List.drop (12 + Int.toNat (↑k : Int) * nat_lit 9 + nat_lit 7) (repC r D))[0]? = some (T.v (Value.pointer none)) by rw [← hdT]; rcases six hk with rfl|rfl|rfl|rfl|rfl|rfl <;> rfl) (Ya (Ya (repC_plain r D) Yt) (Ya (hsta (HH 6 4).P (toldG_post rfl)) (Yu (Ya (Ya (repC_plain r1 D) Yt) hQ)))))))
   | true =>
    have hn : (r.P k).age + 1 ≥ replay ∧ lease = true := by simpa using hv
    rw [hv] at hsta
    have e1 : (r1.P k).c = (r.P k).c ∧ r1.self = r.self ∧ r1.v = r.v := by rw [hr1, P_at]; exact ⟨rfl, rfl, rfl⟩
    have e2 : ∀ o, setP r1 k { r1.P k with age := 0, dr := o } = setP r k { r.P k with age := 0, dr := o } := fun o => by
     rw [hr1, P_at]; unfold setP; simp only [Rep.put_put]
    have hag := again_any b bo r1 D F hf E he k hk gl ho1.1 (by rw [e1.2.2]; exact hl) (by omega)
    by_cases hrp : replays r1 k
    ·have hn2 : ¬ ((r.P k).c.w.r = true ∧ hasV r.v.ms (r.P k).c.w.s.b (r.P k).c.w.s.l = true) := by
      have := hrp; unfold replays at this; rwa [e1.1, e1.2.2] at this
     rw [show Rep.stall r k replay lease = (setP r k { r.P k with age := 0, dr := some (Rep.newD (r.P k).c.w false) }, Rep.sent r k (r.P k).c.w) by unfold Rep.stall; rw [if_pos hs, if_pos hn, if_neg hn2]] at hQ
     obtain ⟨r2, hr2⟩ : ∃ r2, r2 = setP r k { r.P k with age := 0, dr := some (Rep.newD (r.P k).c.w false) } := ⟨_, rfl⟩
     have hag := fun Q hq => hag Q (fun h => absurd hrp h) (fun _ => hq)
     rw [e1.1, e2, ← hr2, show Rep.sent r1 k (r.P k).c.w = Rep.sent r k (r.P k).c.w by rw [hr1]; rfl] at hag
     rw [← hr2] at hQ
     simp only [List.append_nil] at hQ
     generalize F ++ Rep.sent r k (r.P k).c.w = G at *
     refine TCalls.of Try.func41 rfl (CanCall.of Try.func41 rfl (by decide)) [0,1,2,3] fun Γ => ?_
     let HH : Nat → Nat → Hint := fun | 1, 3 => .res (.v (.pointer none)) | 6, 4 => .plainAt [0] (toldG (bool true) [0] (obsR b r1 D) gl) | 7, 3 => .call false (Nat × Nat × Glb × Value) (fun a => Own (Dn D k a.1 a.2.1) r2 a.2.2.1 ∧ Step gl D r1 a.2.2.1 (Dn D k a.1 a.2.1) r2) [0,1,2,3] true (fun _ => .tup []) (fun a => obsR b r2 (Dn D k a.1 a.2.1) ++ obsO 1 bo G a.2.2.2 E he) (fun a => a.2.2.1) | _, _ => .no
     exact run_sound ⟨HH, [], fun  | _ => none⟩ 400 (by kernel_rfl) (Yi (↑k : Int) 6 (by omega) (Yb b (Ya (show (List.drop (12 + Int.toNat (↑k : Int) * nat_lit 9 + nat_lit 7) (repC r D))[0]? = some (T.v (Value.pointer none)) by rw [← hdT]; rcases six hk with rfl|rfl|rfl|rfl|rfl|rfl <;> rfl) (Ya (Ya (repC_plain r D) Yt) (Ya (hsta (HH 6 4).P (toldG_post rfl)) (Yu (Ya (Ya (repC_plain r1 D) Yt) (Ya (hag (HH 7 3).P fun g m gl' hf' h1 h2 => ⟨(g, m, gl', hf'), ⟨h1, h2⟩, rfl, rfl, Nat.le_of_ble_eq_true rfl, fun _ => rfl⟩) (fun (Z0 : Nat × Nat × Glb × Value) => (fun (Z1 : Own (Dn D k Z0.fst Z0.snd.fst) r2 Z0.snd.snd.fst ∧ Step gl D r1 Z0.snd.snd.fst (Dn D k Z0.fst Z0.snd.fst) r2) => (hQ (Dn D k Z0.1 Z0.2.1) Z0.2.2.1 Z0.2.2.2 he Z1.1 (ho1.2.trans Z1.2))))))))))))
    ·have hn2 : (r.P k).c.w.r = true ∧ hasV r.v.ms (r.P k).c.w.s.b (r.P k).c.w.s.l = true := by
      refine Classical.byContradiction fun h => hrp ?_
      unfold replays; rwa [e1.1, e1.2.2]
     rw [show Rep.stall r k replay lease = (setP r k { r.P k with age := 0 }, if (r.P k).c.w.s.b = r.self then [] else [Rep.fr r 4 (r.P k).c.w.s.b k]) by unfold Rep.stall; rw [if_pos hs, if_pos hn, if_pos hn2]] at hQ
     have hag := fun Q hq => hag Q (fun _ => hq) (fun h => absurd h hrp)
     have hr2' : setP r1 k { r1.P k with age := 0 } = setP r k { r.P k with age := 0 } := by
      rw [hr1, P_at]; unfold setP; simp only [Rep.put_put]
     have ho2 := ho.same k { r.P k with age := 0 } rfl
     obtain ⟨r2, hr2⟩ : ∃ r2, r2 = setP r k { r.P k with age := 0 } := ⟨_, rfl⟩
     rw [e1.1, e1.2.1, hr2', ← hr2, show Rep.fr r1 4 (r.P k).c.w.s.b k = Rep.fr r 4 (r.P k).c.w.s.b k by rw [hr1]; rfl] at hag
     rw [← hr2] at hQ ho2
     have hQ := fun hf' => hQ D gl hf' he ho2.1 ho2.2
     simp only [List.append_nil] at hQ
     generalize F ++ (if (r.P k).c.w.s.b = r.self then [] else [Rep.fr r 4 (r.P k).c.w.s.b k]) = G at *
     refine TCalls.of Try.func41 rfl (CanCall.of Try.func41 rfl (by decide)) [0,1,2,3] fun Γ => ?_
     let HH : Nat → Nat → Hint := fun | 1, 3 => .res (.v (.pointer none)) | 6, 4 => .plainAt [0] (toldG (bool true) [0] (obsR b r1 D) gl) | 7, 3 => .call false Value (fun _ => True) [0,1,2,3] true (fun _ => .tup []) (fun hf => obsR b r2 D ++ obsO 1 bo G hf E he) (fun _ => gl) | _, _ => .no
     exact run_sound ⟨HH, [], fun  | _ => none⟩ 400 (by kernel_rfl) (Yi (↑k : Int) 6 (by omega) (Yb b (Ya (show (List.drop (12 + Int.toNat (↑k : Int) * nat_lit 9 + nat_lit 7) (repC r D))[0]? = some (T.v (Value.pointer none)) by rw [← hdT]; rcases six hk with rfl|rfl|rfl|rfl|rfl|rfl <;> rfl) (Ya (Ya (repC_plain r D) Yt) (Ya (hsta (HH 6 4).P (toldG_post rfl)) (Yu (Ya (Ya (repC_plain r1 D) Yt) (Ya (hag (HH 7 3).P fun v => ⟨v, trivial, rfl, rfl, Nat.le_of_ble_eq_true rfl, fun _ => rfl⟩) (fun (Z0 : Value) => (fun (Z1 : True) => (hQ Z0)))))))))))
  ·rw [show Rep.stall r k replay lease = (r, []) by unfold Rep.stall; rw [if_neg hs]] at hQ
   have hQ := hQ D gl hf he ho (Step.refl _ _ _)
   simp only [List.append_nil] at hQ
   have hsta := fun Q hq => hsta Q (fun _ => hq) (fun h => absurd h hs)
   refine TCalls.of Try.func41 rfl (CanCall.of Try.func41 rfl (by decide)) [0,1,2,3] fun Γ => ?_
   let HH : Nat → Nat → Hint := fun | 1, 3 => .res (.v (.pointer none)) | 6, 4 => .plainAt [0] (toldG (bool false) [0] (obsR b r D) gl) | _, _ => .no
   exact run_sound ⟨HH, [], fun  | _ => none⟩ 400 (by kernel_rfl) (Yi (↑k : Int) 6 (by omega) (Yb b (Ya (show (List.drop (12 + Int.toNat (↑k : Int) * nat_lit 9 + nat_lit 7) (repC r D))[0]? = some (T.v (Value.pointer none)) by rw [← hdT]; rcases six hk with rfl|rfl|rfl|rfl|rfl|rfl <;> rfl) (Ya (Ya (repC_plain r D) Yt) (Ya (hsta (HH 6 4).P (toldG_post rfl)) (Yu (Ya (Ya (repC_plain r D) Yt) hQ)))))))
end X20
end Go.Proofs.Ytafcbipmmjegcaa.Vm
