/- Texts of this claim: RpM. -/
import Derived.Test.YtafcbipmmjegcaaMg15
import Derived.Test.YtafcbipmmjegcaaMg25
namespace Go.Proofs.Ytafcbipmmjegcaa.Vm
open Go Go.RowKit
set_option maxRecDepth 100000
noncomputable abbrev kRpM0 (l : List Nat) : It := .code (sub (bd Try.f10) l)
noncomputable abbrev wRpM1 (Γ : Ctx) (Q : T → Obs → Glb → Prop) : List It → S → Prop := TWk Try.prog Γ (fin Try.prog Try.f10 [0] Q)
def plRpM0 : Nat → Option RPlan := fun | 3 => some ⟨[0], [13], .take true [0,1,2,3,4,5,6,7,8,9,10,11] (.one 12 (.one 13 (.take false [14] .done)))⟩ | _ => none
namespace X20
open Rep (Stp Wrd Cel Drv Plc RS Fm Ev setP setC)
open View (Mem VS)
open X5 (viewC lim mems othV hasV aheadV behindV)
def obsE (b bv br bo : Nat) (r : RS) (D : Dr) (v : VS) (F : List Fm) (hf : Value) (E : List Ev) (he : Value) : Obs := [(b, .cells (repC r D)), (bv, .cells (viewC v)), (br, .cells [.v nilS, .v nilS]),
  (bo, .cells [.slx 34 4 (Row.aggs frC F) hf, .slx 5 5 (Row.aggs evC E) he]), (0, .room 34 70 (Row.aggs frC F).length hf), (0, .room 5 73 (Row.aggs evC E).length he)]
theorem en_end (Γ : Ctx) (b bv br bo : Nat) (r : RS) (D : Dr) (v : VS) (F : List Fm) (hf : Value) (E : List Ev) (he : Value) (gl : Glb) (Q : T → Obs → Glb → Prop) (hQ : Q (outT F E) (obsR b r D) gl) :
    wRpM1 Γ Q [kRpM0 [1,1,1,1,1,0,1,0], .blk 0, kRpM0 [1,1,1,1,1,1]] ⟨frame 42 [(0, .ptr 0 b 0), (4, .ptr 2 br 0), (5, .ptr 3 bo 0), (19, u8 (6 : Nat))], obsE b bv br bo r D v F hf E he, gl⟩ := by
  let HH : Nat → Nat → Hint := fun _ _ => .no
  exact run_sound ⟨HH, [], fun _ => none⟩ 400 (by kernel_rfl) (Yb bo (Yk 2 br (Yb br hQ)))
theorem en12 (Γ : Ctx) (b bv br bo : Nat) (r : RS) (D : Dr) (v : VS) (F : List Fm) (hf : Value) (E : List Ev) (he : Value) (i : Nat) (hi : i < 6) (d : Drv) (hd : (r.P i).dr = some d) (gl : Glb) (ho : Own D r gl) (hl : lim r.v.ms) (hF : F.length + 2 ≤ 1000000) (Q : T → Obs → Glb → Prop)
    (nx : ∀ hf', wRpM1 Γ Q [kRpM0 [1,1,1,1,1,0,1,0], .blk 0, kRpM0 [1,1,1,1,1,1]] ⟨frame 42 [(0, .ptr 0 b 0), (4, .ptr 2 br 0), (5, .ptr 3 bo 0), (19, u8 (i + 1 : Nat))], obsE b bv br bo r D v (F ++ Rep.sent r i d.w) hf' E he, gl⟩) :
    wRpM1 Γ Q [kRpM0 [1,1,1,1,1,0,1,0,0,1,1,0,0,1,1,1,0,1], .blk 1, kRpM0 [1,1,1,1,1,0,1,0,0,1,1,1], kRpM0 [1,1,1,1,1,0,1,0], .blk 0, kRpM0 [1,1,1,1,1,1]] ⟨frame 42 [(0, .ptr 0 b 0), (4, .ptr 2 br 0), (5, .ptr 3 bo 0), (6, u8 i), (19, u8 i)], obsE b bv br bo r D v F hf E he, gl⟩ := by
  have hs := sendout_any b bo r D F hf E he i hi d hd gl ho hl hF
  have hw : IntKind.wrap .u8 ((i : Int) + 1) = ((i + 1 : Nat) : Int) := by rw [IntWalk.u8_in _ (by omega)]; omega
  generalize F ++ Rep.sent r i d.w = G at *
  let HH : Nat → Nat → Hint := fun | 12, 2 => .plainAt [0] (.call false Value (fun _ => True) [0,3,4,5] true (fun _ => .tup []) (fun hf => obsR b r D ++ obsO 1 bo G hf E he) (fun _ => gl)) | 13, 0 => .res (u8 (i + 1 : Nat)) | _, _ => .no
  exact run_sound ⟨HH, [((2, 7), ([0,4,5,19], 6))], fun  | _ => none⟩ 400 (by kernel_rfl) (Ya (Ya (repC_plain r D) Yt) (Ya (hs (HH 12 2).P fun v => ⟨v, trivial, rfl, rfl, Nat.le_of_ble_eq_true rfl, fun _ => rfl⟩) (fun (Z0 : Value) => (fun (Z1 : True) => (Ya (Ya (repC_plain r D) Yt) (Ya (congrArg u8 hw) (nx Z0)))))))
theorem own_again {D : Dr} {r : RS} {gl : Glb} (h : Own D r gl) {k : Nat} (hk : k < 6) {d : Drv} (hd : (r.P k).dr = some d) (m : Nat) (hm : gl m = none) (es : Array MapEntry) (ck : Nat) :
    Own { D with m := Rep.put D.m k m } (setP r k { r.P k with dr := some (Rep.newD d.w d.own) }) (setDr gl (D.g k) m (Rep.newD d.w d.own) es ck) ∧ Step gl D r (setDr gl (D.g k) m (Rep.newD d.w d.own) es ck) { D with m := Rep.put D.m k m } (setP r k { r.P k with dr := some (Rep.newD d.w d.own) }) :=
  h.turn hk hd _ _ rfl m es ck (.inr hm)
theorem again_self (r : RS) (k : Nat) : (Rep.again r k).1.self = r.self ∧ (Rep.again r k).1.life = r.life ∧ (Rep.again r k).1.v = r.v ∧ (Rep.again r k).1.has = r.has ∧ (Rep.again r k).1.calls = r.calls := by
  unfold Rep.again
  split
  · exact ⟨rfl, rfl, rfl, rfl, rfl⟩
  · split <;> exact ⟨rfl, rfl, rfl, rfl, rfl⟩
theorem en_loop (Γ : Ctx) (b bv br bo : Nat) (v : VS) (E : List Ev) (he : Value) (Q : T → Obs → Glb → Prop) : ∀ (n i : Nat) (r : RS) (D : Dr) (F : List Fm) (hf : Value) (gl : Glb), i + n = 6 → Own D r gl → lim r.v.ms → F.length + 2 * n ≤ 100000 →
    (∀ D' gl' , Own D' (Rep.againL r (List.range' i n)).1 gl' → Step gl D r gl' D' (Rep.againL r (List.range' i n)).1 → Q (outT (F ++ (Rep.againL r (List.range' i n)).2) E) (obsR b (Rep.againL r (List.range' i n)).1 D') gl') →
    wRpM1 Γ Q [kRpM0 [1,1,1,1,1,0,1,0], .blk 0, kRpM0 [1,1,1,1,1,1]] ⟨frame 42 [(0, .ptr 0 b 0), (4, .ptr 2 br 0), (5, .ptr 3 bo 0), (19, u8 i)], obsE b bv br bo r D v F hf E he, gl⟩ := by
  intro n
  induction n with
  | zero =>
    intro i r D F hf gl hi ho hl hF hQ
    have hi : i = 6 := by omega
    subst hi
    have hQ := hQ D gl ho (Step.refl _ _ _)
    rw [show Rep.againL r (List.range' 6 0) = (r, []) from rfl, List.append_nil] at hQ
    exact en_end Γ b bv br bo r D v F hf E he gl Q hQ
  | succ n ih =>
    intro i r D F hf gl hi ho hl hF hQ
    have hi6 : i < 6 := by omega
    have hw : IntKind.wrap .u8 ((i : Int) + 1) = ((i + 1 : Nat) : Int) := by rw [IntWalk.u8_in _ (by omega)]; omega
    have hin := in_any b r D hl
    have hag : ∀ x : RS × List Fm, Rep.again r i = x → Rep.againL r (List.range' i (n + 1)) = ((Rep.againL x.1 (List.range' (i + 1) n)).1, x.2 ++ (Rep.againL x.1 (List.range' (i + 1) n)).2) := fun x hx => by
      rw [show List.range' i (n + 1) = i :: List.range' (i + 1) n from List.range'_succ, Rep.againL, hx]
    cases hd : (r.P i).dr with
    | none =>
      have hdT := dT_none hd (D.g i)
      rw [hag (r, []) (by unfold Rep.again; rw [hd])] at hQ
      have nx := ih (i + 1) r D F hf gl (by omega) ho hl (by omega) (fun D' gl' h1 h2 => by have := hQ D' gl' h1 h2; simpa only [List.nil_append] using this)
      clear ih hQ hag
      let HH : Nat → Nat → Hint := fun | 9, 6 => .res (.v (.pointer none)) | 13, 0 => .res (u8 (i + 1 : Nat)) | _, _ => .no
      exact run_sound ⟨HH, [((2, 7), ([0,4,5,19], 6))], fun  | _ => none⟩ 400 (by kernel_rfl) (Ys (decide ((↑i : Int) < (6 : Int))) (fun Z0 => (Yi (↑i : Int) 6 (by omega) (Yb b (Ya (show (List.drop (12 + Int.toNat (↑i : Int) * nat_lit 9 + nat_lit 7) (repC r D))[0]? = some (T.v (Value.pointer none)) by rw [← hdT]; rcases six hi6 with rfl | rfl | rfl | rfl | rfl | rfl <;> rfl) (Ya (congrArg u8 hw) nx))))) (fun Z1 => (Yb bo (Yk 2 br (Yb br (show Q (T.agg [T.sl 34 (List.map (fun x => T.agg (frC x)) F), T.sl 5 (List.map (fun x => T.agg (evC x)) E)]) [(b, Ob.cells (repC r D))] gl by exfalso; have := of_decide_eq_false Z1; omega))))))
    | some d =>
      have hdT : dT (r.P i).dr (D.g i) = .gp (D.g i) 0 := dT_some hd _
      have hle := ho.dr i hi6 d hd
      cases hir : Rep.inR r with
      | false =>
        rw [hir] at hin
        rw [hag (r, []) (by unfold Rep.again; rw [hd, hir]; rfl)] at hQ
        have nx := ih (i + 1) r D F hf gl (by omega) ho hl (by omega) (fun D' gl' h1 h2 => by have := hQ D' gl' h1 h2; simpa only [List.nil_append] using this)
        clear ih hQ hag
        let HH : Nat → Nat → Hint := fun | 9, 6 => .res (.gp (D.g i) 0) | 10, 4 => .plainAt [0] (told (bool false) [0] (obsR b r D)) | 13, 0 => .res (u8 (i + 1 : Nat)) | _, _ => .no
        exact run_sound ⟨HH, [((2, 7), ([0,4,5,19], 6))], fun  | _ => none⟩ 400 (by kernel_rfl) (Ys (decide ((↑i : Int) < (6 : Int))) (fun Z0 => (Yi (↑i : Int) 6 (by omega) (Yb b (Ya (show (List.drop (12 + Int.toNat (↑i : Int) * nat_lit 9 + nat_lit 7) (repC r D))[0]? = some (T.gp (D.g i) 0) by rw [← hdT]; rcases six hi6 with rfl | rfl | rfl | rfl | rfl | rfl <;> rfl) (Ya (Ya (repC_plain r D) Yt) (Ya (hin (HH 10 4).P (told_post rfl)) (Yu (Ya (Ya (repC_plain r D) Yt) (Ya (congrArg u8 hw) nx))))))))) (fun Z1 => (Yb bo (Yk 2 br (Yb br (show Q (T.agg [T.sl 34 (List.map (fun x => T.agg (frC x)) F), T.sl 5 (List.map (fun x => T.agg (evC x)) E)]) [(b, Ob.cells (repC r D))] gl by exfalso; have := of_decide_eq_false Z1; omega))))))
      | true =>
        rw [hir] at hin
        obtain ⟨r1, hr1⟩ : ∃ r1, r1 = setP r i { r.P i with dr := some (Rep.newD d.w d.own) } := ⟨_, rfl⟩
        have ho1 := fun m es ck hm => own_again ho hi6 hd m hm es ck
        rw [← hr1] at ho1
        rw [hag (r1, Rep.sent r i d.w) (by unfold Rep.again; rw [hd, hir, hr1]; rfl)] at hQ
        have hrep : repC r D = repC r1 D := by rw [hr1]; exact (repC_turn r D i d _ hd).symm
        have nx : ∀ m es ck, gl m = none → wRpM1 Γ Q [kRpM0 [1,1,1,1,1,0,1,0,0,1,1,0,0,1,1,1,0,1], .blk 1, kRpM0 [1,1,1,1,1,0,1,0,0,1,1,1], kRpM0 [1,1,1,1,1,0,1,0], .blk 0, kRpM0 [1,1,1,1,1,1]] ⟨frame 42 [(0, .ptr 0 b 0), (4, .ptr 2 br 0), (5, .ptr 3 bo 0), (6, u8 i), (19, u8 i)], obsE b bv br bo r D v F hf E he, setDr gl (D.g i) m (Rep.newD d.w d.own) es ck⟩ := fun m es ck hm => by
          have h12 := en12 Γ b bv br bo r1 { D with m := Rep.put D.m i m } v F hf E he i hi6 (Rep.newD d.w d.own) (by rw [hr1, P_at]) _ (ho1 m es ck hm).1 (by rw [hr1]; exact hl) (by omega) Q fun hf' => ih (i + 1) r1 { D with m := Rep.put D.m i m } (F ++ Rep.sent r1 i (Rep.newD d.w d.own).w) hf' _ (by omega) (ho1 m es ck hm).1 (by rw [hr1]; exact hl) (by have := sent_len r1 i (Rep.newD d.w d.own).w; simp; omega) fun D' gl' h1 h2 => by
              have := hQ D' gl' h1 (Step.trans (ho1 m es ck hm).2 h2)
              rw [show Rep.sent r1 i (Rep.newD d.w d.own).w = Rep.sent r i d.w by rw [hr1]; rfl]
              rwa [← List.append_assoc] at this
          simp only [obsE] at h12 ⊢
          rw [hrep]
          exact h12
        clear ih hQ hag
        let HH : Nat → Nat → Hint := fun | 9, 6 => .res (.gp (D.g i) 0) | 10, 4 => .plainAt [0] (told (bool true) [0] (obsR b r D)) | 11, 1 => .call false (Nat × Array MapEntry × Nat) (fun a => gl a.1 = none) [] true (fun _ => .tup []) (fun _ => []) (fun a => setDr gl (D.g i) a.1 (Rep.newD d.w d.own) a.2.1 a.2.2) | _, _ => .no
        exact run_sound ⟨HH, [((0, 12), ([0,4,5,6,19], 6))], fun  | _ => none⟩ 400 (by kernel_rfl) (Ys (decide ((↑i : Int) < (6 : Int))) (fun Z0 => (Yi (↑i : Int) 6 (by omega) (Yb b (Ya (show (List.drop (12 + Int.toNat (↑i : Int) * nat_lit 9 + nat_lit 7) (repC r D))[0]? = some (T.gp (D.g i) 0) by rw [← hdT]; rcases six hi6 with rfl | rfl | rfl | rfl | rfl | rfl <;> rfl) (Ya (Ya (repC_plain r D) Yt) (Ya (hin (HH 10 4).P (told_post rfl)) (Yu (Ya (Ya (repC_plain r D) Yt) (Ya (dagainG hle (HH 11 1).P fun m es ck hm => ⟨(m, es, ck), hm, rfl, rfl, Nat.zero_le _, fun _ => rfl⟩) (fun (Z1 : Nat × Array MapEntry × Nat) => (fun (Z2 : gl Z1.fst = none) => (nx Z1.fst Z1.snd.fst Z1.snd.snd Z2)))))))))))) (fun Z3 => (Yb bo (Yk 2 br (Yb br (show Q (T.agg [T.sl 34 (List.map (fun x => T.agg (frC x)) F), T.sl 5 (List.map (fun x => T.agg (evC x)) E)]) [(b, Ob.cells (repC r D))] gl by exfalso; have := of_decide_eq_false Z3; omega))))))
theorem imp_outE {ts : List T} {gl : Glb} (x y z : Nat × Ob) (bo : Nat) : Imp ts [x, y, z, (bo, .cells [.v nilS, .v nilS])] gl ts [x, y, z, (bo, .cells [.slx 34 4 [] nilS, .slx 5 5 [] nilS]), (0, .room 34 70 0 nilS), (0, .room 5 73 0 nilS)] gl := imp_out x y z bo
theorem enter_any (b : Nat) (r : RS) (D : Dr) (v : VS) (gl : Glb) (ho : Own D r gl) (hv : lim v.ms) (Q : T → Obs → Glb → Prop)
    (hQ : ∀ D' gl', Own D' (Rep.enter r v).1 gl' → Step gl D r gl' D' (Rep.enter r v).1 → Q (outT (Rep.enter r v).2 []) (obsR b (Rep.enter r v).1 D') gl') :
    TCalls Try.prog 10 [.ptr 0 b 0, .agg (viewC v)] (obsR b r D) gl Q := by
  obtain ⟨r1, hr1⟩ : ∃ r1, r1 = { r with v := v } := ⟨_, rfl⟩
  have ho1 : Own D r1 gl ∧ Step gl D r gl D r1 := by rw [hr1]; exact ho.view v
  rw [show Rep.enter r v = Rep.againL r1 (List.range' 0 6) by rw [hr1]; rfl] at hQ
  have lp : ∀ Γ bv br bo, wRpM1 Γ Q [kRpM0 [1,1,1,1,1,0,1,0], .blk 0, kRpM0 [1,1,1,1,1,1]] ⟨frame 42 [(0, .ptr 0 b 0), (4, .ptr 2 br 0), (5, .ptr 3 bo 0), (19, u8 (0 : Nat))], [(b, .cells (repC r1 D)), (bv, .cells (viewC v)), (br, .cells [.v nilS, .v nilS]), (bo, .cells [.v nilS, .v nilS])], gl⟩ := fun Γ bv br bo =>
    TWk.imp (s' := ⟨_, obsE b bv br bo r1 D v [] nilS [] nilS, gl⟩) (en_loop Γ b bv br bo v [] nilS Q 6 0 r1 D [] nilS gl rfl ho1.1 (by rw [hr1]; exact hv) (by simp) fun D' gl' h1 h2 => hQ D' gl' h1 (Step.trans ho1.2 h2)) (imp_outE (b, .cells (repC r1 D)) (bv, .cells (viewC v)) (br, .cells [.v nilS, .v nilS]) bo)
  clear hQ ho1
  refine TCalls.of Try.func10 rfl (CanCall.of Try.func10 rfl (by decide)) [0] fun Γ => ?_
  let HH : Nat → Nat → Hint := fun | 4, 2 => told (.sl 3 (mems v.ms)) [] [] | 5, 4 => .obj (repC r1 D) | _, _ => .no
  exact run_sound ⟨HH, [((2, 7), ([0,4,5,19], 4))], fun  | _ => none⟩ 400 (by kernel_rfl) (fun (Z0 : Nat) => (fun (Z1 : Nat) => (fun (Z2 : Nat) => (Yb Z0 (Ya (clone_sl v.ms hv (HH 4 2).P (told_post rfl)) (Yu (Yl 1 (Yb Z0 (Ya (Yn (2) (10) rfl) (Yb Z0 (Yl 10 (Yb b (Ya (Yn (12) (67) rfl) (Ya (show [u8 r.self, u8 r.life, u32 v.e, T.sl 3 (mems v.ms), u8 (v.L 0), u8 (v.L 1), u8 (v.L 2), u8 (v.L 3), u8 (v.L 4), u8 (v.L 5), u8 (v.L 6), u8 (v.L 7), u32 (r.P 0).c.w.s.n, u8 (r.P 0).c.w.s.b, u8 (r.P 0).c.w.s.l, bool ((r.P 0).c.w.h), T.v (Value.string (r.P 0).c.w.t), bool ((r.P 0).c.w.r), int (r.P 0).c.st, dT (r.P 0).dr (D.g 0), int (r.P 0).age, u32 (r.P 1).c.w.s.n, u8 (r.P 1).c.w.s.b, u8 (r.P 1).c.w.s.l, bool ((r.P 1).c.w.h), T.v (Value.string (r.P 1).c.w.t), bool ((r.P 1).c.w.r), int (r.P 1).c.st, dT (r.P 1).dr (D.g 1), int (r.P 1).age, u32 (r.P 2).c.w.s.n, u8 (r.P 2).c.w.s.b, u8 (r.P 2).c.w.s.l, bool ((r.P 2).c.w.h), T.v (Value.string (r.P 2).c.w.t), bool ((r.P 2).c.w.r), int (r.P 2).c.st, dT (r.P 2).dr (D.g 2), int (r.P 2).age, u32 (r.P 3).c.w.s.n, u8 (r.P 3).c.w.s.b, u8 (r.P 3).c.w.s.l, bool ((r.P 3).c.w.h), T.v (Value.string (r.P 3).c.w.t), bool ((r.P 3).c.w.r), int (r.P 3).c.st, dT (r.P 3).dr (D.g 3), int (r.P 3).age, u32 (r.P 4).c.w.s.n, u8 (r.P 4).c.w.s.b, u8 (r.P 4).c.w.s.l, bool ((r.P 4).c.w.h), T.v (Value.string (r.P 4).c.w.t), bool ((r.P 4).c.w.r), int (r.P 4).c.st, dT (r.P 4).dr (D.g 4), int (r.P 4).age, u32 (r.P 5).c.w.s.n, u8 (r.P 5).c.w.s.b, u8 (r.P 5).c.w.s.l, bool ((r.P 5).c.w.h), T.v (Value.string (r.P 5).c.w.t), bool ((r.P 5).c.w.r), int (r.P 5).c.st, dT (r.P 5).dr (D.g 5), int (r.P 5).age, T.gp D.t 0] = repC r1 D by rw [hr1]; rfl) (lp Γ Z0 Z1 Z2)))))))))))))))
def zC : Cel := ⟨Rep.z0, 0⟩
def cellOf (r : RS) (k : Nat) : Cel := if k < 6 then (r.P k).c else zC
theorem cell_any (b : Nat) (r : RS) (D : Dr) (k : Nat) (gl : Glb) (ho : Own D r gl) (Q : T → Obs → Glb → Prop) (hQ : Q (.tup [.agg (clC (cellOf r k)), bool (decide (k < 6) && r.has k)]) (obsR b r D) gl) : TCalls Try.prog 13 [.ptr 0 b 0, u8 k] (obsR b r D) gl Q := by
  have hh := thasG ho.tr k
  by_cases hk : k < 6
  · rw [cellOf, if_pos hk] at hQ
    refine TCalls.of Try.func13 rfl (CanCall.of Try.func13 rfl (by decide)) [0] fun Γ => ?_
    let HH : Nat → Nat → Hint := fun | 3, 6 => .res (.agg (clC (r.P k).c)) | 3, 12 => toldG (bool (decide (k < 6) && r.has k)) [] [] gl | _, _ => .no
    exact run_sound ⟨HH, [], plRpM0⟩ 400 (by kernel_rfl) (fun (Z0 : Nat) => (Ys (decide ((↑k : Int) ≥ (6 : Int))) (fun Z1 => (Yk 7 Z0 (Yb Z0 (show Q (T.tup [T.agg [u32 (0 : Int), u8 (0 : Int), u8 (0 : Int), bool false, T.v (Value.string (ByteArray.mk #[])), bool false, int (0 : Int)], bool false]) [(b, Ob.cells (repC r D))] gl by exfalso; have := of_decide_eq_true Z1; omega)))) (fun Z2 => (Yi (↑k : Int) 6 (by omega) (Yb b (Ya (show (if List.length (List.drop (12 + Int.toNat (↑k : Int) * nat_lit 9 + nat_lit 0) (repC r D)) < (fun x => x.size) Try.prog.types[57] then none else some (T.agg (List.take (nat_lit 7) (List.drop (12 + Int.toNat (↑k : Int) * nat_lit 9 + nat_lit 0) (repC r D))))) = some (T.agg (clC (r.P k).c)) by rcases six hk with rfl | rfl | rfl | rfl | rfl | rfl <;> rfl) (Yb b (Ya (hh (HH 3 12).P (toldG_post rfl)) (Yu (Yk 7 Z0 (Yb Z0 hQ)))))))))))
  · rw [cellOf, if_neg hk, decide_eq_false hk, Bool.false_and] at hQ
    refine TCalls.of Try.func13 rfl (CanCall.of Try.func13 rfl (by decide)) [0] fun Γ => ?_
    let HH : Nat → Nat → Hint := fun | 3, 6 => .res .und | _, _ => .no
    exact run_sound ⟨HH, [((0, 3), ([0,1,4], 2))], plRpM0⟩ 400 (by kernel_rfl) (fun (Z0 : Nat) => (Ys (decide ((↑k : Int) ≥ (6 : Int))) (fun Z1 => (Yk 7 Z0 (Yb Z0 hQ))) (fun Z2 => (show TWk Try.prog Γ (fin Try.prog Try.f13 [0] Q) [It.code (sub (bd Try.f13) [1,1])] (S.mk (frame 26 [(0, T.ptr 0 b 0), (1, u8 k), (4, T.ptr 1 Z0 0)]) [(b, Ob.cells (repC r D)), (Z0, Ob.cells [u32 (0 : Int), u8 (0 : Int), u8 (0 : Int), bool false, T.v (Value.string (ByteArray.mk #[])), bool false, int (0 : Int)])] gl) by exfalso; have := of_decide_eq_false Z2; omega))))
def drvT (r : RS) (k : Nat) : T := match (if k < 6 then (r.P k).dr else none) with
  | some d => .tup [.agg (stC d.w.s), bool d.own, bool true]
  | none => .tup [.agg [u32 0, u8 0, u8 0], bool false, bool false]
theorem driving_any (b : Nat) (r : RS) (D : Dr) (k : Nat) (gl : Glb) (ho : Own D r gl) (Q : T → Obs → Glb → Prop) (hQ : Q (drvT r k) (obsR b r D) gl) : TCalls Try.prog 18 [.ptr 0 b 0, u8 k] (obsR b r D) gl Q := by
  by_cases hk : k < 6
  · cases hd : (r.P k).dr with
    | none =>
      have hdT := dT_none hd (D.g k)
      rw [drvT, if_pos hk, hd] at hQ
      refine TCalls.of Try.func18 rfl (CanCall.of Try.func18 rfl (by decide)) [0] fun Γ => ?_
      let HH : Nat → Nat → Hint := fun | 1, 13 => .res (.v (.pointer none)) | _, _ => .no
      exact run_sound ⟨HH, [], fun  | _ => none⟩ 400 (by kernel_rfl) (fun (Z0 : Nat) => (Ys (decide ((↑k : Int) ≥ (6 : Int))) (fun Z1 => (Yk 3 Z0 (Yb Z0 hQ))) (fun Z2 => (Yi (↑k : Int) 6 (by omega) (Yb b (Ya (show (List.drop (12 + Int.toNat (↑k : Int) * nat_lit 9 + nat_lit 7) (repC r D))[0]? = some (T.v (Value.pointer none)) by rw [← hdT]; rcases six hk with rfl | rfl | rfl | rfl | rfl | rfl <;> rfl) (Yk 3 Z0 (Yb Z0 hQ))))))))
    | some d =>
      have hdT : dT (r.P k).dr (D.g k) = .gp (D.g k) 0 := dT_some hd _
      have hle := ho.dr k hk d hd
      rw [drvT, if_pos hk, hd] at hQ
      refine TCalls.of Try.func18 rfl (CanCall.of Try.func18 rfl (by decide)) [0] fun Γ => ?_
      let HH : Nat → Nat → Hint := fun | 1, 13 => .res (.gp (D.g k) 0) | 3, 6 => .res (.gp (D.g k) 0) | 4, 1 => wordG d gl | 4, 4 => toldG (bool d.own) [] [] gl | _, _ => .no
      exact run_sound ⟨HH, [], fun  | _ => none⟩ 400 (by kernel_rfl) (fun (Z0 : Nat) => (Ys (decide ((↑k : Int) ≥ (6 : Int))) (fun Z1 => (Yk 3 Z0 (Yb Z0 (show Q (T.tup [T.agg [u32 (0 : Int), u8 (0 : Int), u8 (0 : Int)], bool false, bool false]) [(b, Ob.cells (repC r D))] gl by exfalso; have := of_decide_eq_true Z1; omega)))) (fun Z2 => (Yi (↑k : Int) 6 (by omega) (Yb b (Ya (show (List.drop (12 + Int.toNat (↑k : Int) * nat_lit 9 + nat_lit 7) (repC r D))[0]? = some (T.gp (D.g k) 0) by rw [← hdT]; rcases six hk with rfl | rfl | rfl | rfl | rfl | rfl <;> rfl) (Yi (↑k : Int) 6 (by omega) (Yb b (Ya (show (List.drop (12 + Int.toNat (↑k : Int) * nat_lit 9 + nat_lit 7) (repC r D))[0]? = some (T.gp (D.g k) 0) by rw [← hdT]; rcases six hk with rfl | rfl | rfl | rfl | rfl | rfl <;> rfl) (Ya (dwordG hle (HH 4 1).P (toldG_post rfl)) (Yu (Ya (downG hle (HH 4 4).P (toldG_post rfl)) (Yu (Yk 3 Z0 (Yb Z0 hQ)))))))))))))))
  · rw [drvT, if_neg hk] at hQ
    refine TCalls.of Try.func18 rfl (CanCall.of Try.func18 rfl (by decide)) [0] fun Γ => ?_
    let HH : Nat → Nat → Hint := fun | 1, 13 => .res .und | _, _ => .no
    exact run_sound ⟨HH, [((0, 3), ([0,1,4], 2))], fun  | _ => none⟩ 400 (by kernel_rfl) (fun (Z0 : Nat) => (Ys (decide ((↑k : Int) ≥ (6 : Int))) (fun Z1 => (Yk 3 Z0 (Yb Z0 hQ))) (fun Z2 => (Ya (Ya (show (0 : Int) ≤ (↑k : Int) by omega) (show (↑k : Int) < (↑(6 : Nat) : Int) by exfalso; have := of_decide_eq_false Z2; omega)) (Yb b (Ya (show (List.drop (12 + Int.toNat (↑k : Int) * nat_lit 9 + nat_lit 7) (repC r D))[0]? = some T.und by exfalso; have := of_decide_eq_false Z2; omega) (show False by exfalso; have := of_decide_eq_false Z2; omega)))))))
theorem free_any (b : Nat) (r : RS) (D : Dr) (k : Nat) (gl : Glb) (ho : Own D r gl) (hl : lim r.v.ms) (Q : T → Obs → Glb → Prop) (hQ : Q (bool (Rep.free r k)) (obsR b r D) gl) : TCalls Try.prog 43 [.ptr 0 b 0, u8 k] (obsR b r D) gl Q := by
  have hin := in_any b r D hl
  have hh := thasG ho.tr k
  cases hi : Rep.inR r with
  | false =>
    rw [show Rep.free r k = false by unfold Rep.free; rw [hi]; rfl] at hQ
    rw [hi] at hin
    refine TCalls.of Try.func43 rfl (CanCall.of Try.func43 rfl (by decide)) [0] fun Γ => ?_
    let HH : Nat → Nat → Hint := fun | 1, 1 => .plainAt [0] (told (bool false) [0] (obsR b r D)) | _, _ => .no
    exact run_sound ⟨HH, [], fun  | _ => none⟩ 400 (by kernel_rfl) (Ya (Ya (repC_plain r D) Yt) (Ya (hin (HH 1 1).P (told_post rfl)) (Yu (Ya (Ya (repC_plain r D) Yt) hQ))))
  | true =>
    rw [hi] at hin
    by_cases hk : k < 6
    · rw [decide_eq_true hk, Bool.true_and] at hh
      cases hd : (r.P k).dr with
      | none =>
        have hdT := dT_none hd (D.g k)
        have e : Rep.free r k = (r.has k && (((r.P k).c.st : Nat) : Int) == 1) := by
          unfold Rep.free
          rw [hi, decide_eq_true hk, hd, show decide ((r.P k).c.st = 1) = ((((r.P k).c.st : Nat) : Int) == 1) by rw [Bool.eq_iff_iff]; simp only [decide_eq_true_eq, beq_iff_eq]; omega]
          simp
        rw [e] at hQ
        refine TCalls.of Try.func43 rfl (CanCall.of Try.func43 rfl (by decide)) [0] fun Γ => ?_
        let HH : Nat → Nat → Hint := fun | 1, 1 => .plainAt [0] (told (bool true) [0] (obsR b r D)) | 1, 12 => toldG (bool (r.has k)) [] [] gl | 1, 22 => .res (int (r.P k).c.st) | 1, 32 => .res (.v (.pointer none)) | _, _ => .no
        exact run_sound ⟨HH, [], fun  | _ => none⟩ 400 (by kernel_rfl) (Ya (Ya (repC_plain r D) Yt) (Ya (hin (HH 1 1).P (told_post rfl)) (Yu (Ya (Ya (repC_plain r D) Yt) (Ys (decide ((↑k : Int) < (6 : Int))) (fun Z0 => (Yb b (Ya (hh (HH 1 12).P (toldG_post rfl)) (Yu (Ys (r.has k) (fun Z1 => (Yi (↑k : Int) 6 (by omega) (Yb b (Ya (show (List.drop (12 + Int.toNat (↑k : Int) * nat_lit 9 + nat_lit 0 + nat_lit 6) (repC r D))[0]? = some (int (r.P k).c.st) by rcases six hk with rfl | rfl | rfl | rfl | rfl | rfl <;> rfl) (Ys ((↑(r.P k).c.st : Int) == (1 : Int)) (fun Z2 => (Yi (↑k : Int) 6 (by omega) (Yb b (Ya (show (List.drop (12 + Int.toNat (↑k : Int) * nat_lit 9 + nat_lit 7) (repC r D))[0]? = some (T.v (Value.pointer none)) by rw [← hdT]; rcases six hk with rfl | rfl | rfl | rfl | rfl | rfl <;> rfl) (show Q (bool true) [(b, Ob.cells (repC r D))] gl by rw [Z1, Z2] at hQ; exact hQ))))) (fun Z3 => (show Q (bool false) [(b, Ob.cells (repC r D))] gl by rw [Z1, Z3] at hQ; exact hQ))))))) (fun Z4 => (show Q (bool false) [(b, Ob.cells (repC r D))] gl by rw [Z4] at hQ; exact hQ))))))) (fun Z5 => (show Q (bool false) [(b, Ob.cells (repC r D))] gl by exfalso; have := of_decide_eq_false Z5; omega)))))))
      | some d =>
        have hdT : dT (r.P k).dr (D.g k) = .gp (D.g k) 0 := dT_some hd _
        rw [show Rep.free r k = false by unfold Rep.free; rw [hd]; simp] at hQ
        refine TCalls.of Try.func43 rfl (CanCall.of Try.func43 rfl (by decide)) [0] fun Γ => ?_
        let HH : Nat → Nat → Hint := fun | 1, 1 => .plainAt [0] (told (bool true) [0] (obsR b r D)) | 1, 12 => toldG (bool (r.has k)) [] [] gl | 1, 22 => .res (int (r.P k).c.st) | 1, 32 => .res (.gp (D.g k) 0) | _, _ => .no
        exact run_sound ⟨HH, [], fun  | _ => none⟩ 400 (by kernel_rfl) (Ya (Ya (repC_plain r D) Yt) (Ya (hin (HH 1 1).P (told_post rfl)) (Yu (Ya (Ya (repC_plain r D) Yt) (Ys (decide ((↑k : Int) < (6 : Int))) (fun Z0 => (Yb b (Ya (hh (HH 1 12).P (toldG_post rfl)) (Yu (Ys (r.has k) (fun Z1 => (Yi (↑k : Int) 6 (by omega) (Yb b (Ya (show (List.drop (12 + Int.toNat (↑k : Int) * nat_lit 9 + nat_lit 0 + nat_lit 6) (repC r D))[0]? = some (int (r.P k).c.st) by rcases six hk with rfl | rfl | rfl | rfl | rfl | rfl <;> rfl) (Ys ((↑(r.P k).c.st : Int) == (1 : Int)) (fun Z2 => (Yi (↑k : Int) 6 (by omega) (Yb b (Ya (show (List.drop (12 + Int.toNat (↑k : Int) * nat_lit 9 + nat_lit 7) (repC r D))[0]? = some (T.gp (D.g k) 0) by rw [← hdT]; rcases six hk with rfl | rfl | rfl | rfl | rfl | rfl <;> rfl) hQ)))) (fun Z3 => hQ)))))) (fun Z4 => hQ)))))) (fun Z5 => hQ))))))
    · rw [show Rep.free r k = false by unfold Rep.free; rw [decide_eq_false hk]; simp] at hQ
      refine TCalls.of Try.func43 rfl (CanCall.of Try.func43 rfl (by decide)) [0] fun Γ => ?_
      let HH : Nat → Nat → Hint := fun | 1, 1 => .plainAt [0] (told (bool true) [0] (obsR b r D)) | _, _ => .no
      exact run_sound ⟨HH, [], fun  | _ => none⟩ 400 (by kernel_rfl) (Ya (Ya (repC_plain r D) Yt) (Ya (hin (HH 1 1).P (told_post rfl)) (Yu (Ya (Ya (repC_plain r D) Yt) (Ys (decide ((↑k : Int) < (6 : Int))) (fun Z0 => (Yb b (show False by exfalso; have := of_decide_eq_true Z0; omega))) (fun Z1 => hQ))))))
end X20
end Go.Proofs.Ytafcbipmmjegcaa.Vm
