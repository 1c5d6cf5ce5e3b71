/- Replicas by the engine: a view is entered. -/
import Derived.Test.YtafcbipmmjegcaaRpL
namespace Go.Proofs.Ytafcbipmmjegcaa.Vm
open Go Go.RowKit
set_option maxRecDepth 100000
namespace X20
open Rep (Stp Wrd Cel Drv Plc RS Fm Ev setP setC)
open View (Mem VS)
open X5 (viewC lim mems othV hasV aheadV behindV)
def obsE (b bv br bo : Nat) (r : RS) (D : Dr) (v : VS) (F : List Fm) (hf : Value) (E : List Ev) (he : Value) : Obs := [(b, .cells (repC r D)), (bv, .cells (viewC v)), (br, .cells [.v nilS, .v nilS]),
  (bo, .cells [.slx 34 4 (Row.aggs frC F) hf, .slx 5 5 (Row.aggs evC E) he]), (0, .room 34 70 (Row.aggs frC F).length hf), (0, .room 5 73 (Row.aggs evC E).length he)]
theorem en_end (Γ : Ctx) (b bv br bo : Nat) (r : RS) (D : Dr) (v : VS) (F : List Fm) (hf : Value) (E : List Ev) (he : Value) (gl : Glb) (Q : T → Obs → Glb → Prop) (hQ : Q (outT F E) (obsR b r D) gl) :
    TWk Try.prog Γ (fin Try.prog Try.f10 [0] Q) [.code (sub (bd Try.f10) [1, 1, 1, 1, 1, 0, 1, 0]), .blk 0, .code (sub (bd Try.f10) [1, 1, 1, 1, 1, 1])] ⟨frame 42 [(0, .ptr 0 b 0), (4, .ptr 2 br 0), (5, .ptr 3 bo 0), (19, u8 (6 : Nat))], obsE b bv br bo r D v F hf E he, gl⟩ := by
  refine run_sound (⟨fun _ _ => .no, [], fun _ => none⟩) 400 (B := bo = bo ∧ ((2 : Nat) = nat_lit 2 ∧ List.all [T.slx (34 : Nat) (4 : Nat) (List.map (fun x => T.agg (frC x)) F) hf, T.slx (5 : Nat) (5 : Nat) (List.map (fun x => T.agg (evC x)) E) he] T.one = true) ∧ br = br ∧ (0 : Nat) + nat_lit 2 ≤ (2 : Nat) ∧ br = br ∧ Q (T.agg [T.sl (34 : Nat) (List.map (fun x => T.agg (frC x)) F), T.sl (5 : Nat) (List.map (fun x => T.agg (evC x)) E)]) [(b, Ob.cells (repC r D))] gl) (by kernel_rfl) ?_
  repeat' (first | exact rfl | exact Nat.le_of_ble_eq_true rfl | refine And.intro ?_ ?_ | intro _ | refine bsplit_mk (fun _ => ?_) (fun _ => ?_))
  exact hQ
theorem en12 (Γ : Ctx) (b bv br bo : Nat) (r : RS) (D : Dr) (v : VS) (F : List Fm) (hf : Value) (E : List Ev) (he : Value) (i : Nat) (hi : i < 6) (d : Drv) (hd : (r.P i).dr = some d) (gl : Glb) (ho : Own D r gl) (hl : lim r.v.ms) (hF : F.length + 2 ≤ 1000000) (Q : T → Obs → Glb → Prop)
    (nx : ∀ hf', TWk Try.prog Γ (fin Try.prog Try.f10 [0] Q) [.code (sub (bd Try.f10) [1, 1, 1, 1, 1, 0, 1, 0]), .blk 0, .code (sub (bd Try.f10) [1, 1, 1, 1, 1, 1])] ⟨frame 42 [(0, .ptr 0 b 0), (4, .ptr 2 br 0), (5, .ptr 3 bo 0), (19, u8 (i + 1 : Nat))], obsE b bv br bo r D v (F ++ Rep.sent r i d.w) hf' E he, gl⟩) :
    TWk Try.prog Γ (fin Try.prog Try.f10 [0] Q) [.code (sub (bd Try.f10) [1, 1, 1, 1, 1, 0, 1, 0, 0, 1, 1, 0, 0, 1, 1, 1, 0, 1]), .blk 1, .code (sub (bd Try.f10) [1, 1, 1, 1, 1, 0, 1, 0, 0, 1, 1, 1]), .code (sub (bd Try.f10) [1, 1, 1, 1, 1, 0, 1, 0]), .blk 0, .code (sub (bd Try.f10) [1, 1, 1, 1, 1, 1])] ⟨frame 42 [(0, .ptr 0 b 0), (4, .ptr 2 br 0), (5, .ptr 3 bo 0), (6, u8 i), (19, u8 i)], obsE b bv br bo r D v F hf E he, gl⟩ := by
  have hs := sendout_any b bo r D F hf E he i hi d hd gl ho hl hF
  have hw : IntKind.wrap .u8 ((i : Int) + 1) = ((i + 1 : Nat) : Int) := by rw [IntWalk.u8_in _ (by omega)]; omega
  generalize F ++ Rep.sent r i d.w = G at *
  refine run_sound (⟨fun | 12, 2 => .plainAt [0] (.call false Value (fun _ => True) [0, 3, 4, 5] true (fun _ => .tup []) (fun hf => obsR b r D ++ obsO 1 bo G hf E he) (fun _ => gl)) | 13, 0 => .res (u8 (i + 1 : Nat)) | _, _ => .no, [((2, 7), ([0, 4, 5, 19], 6))], fun  | _ => none⟩) 400 (B := (List.all (repC r D) noIx = true ∧ True) ∧ TCalls Try.prog 35 [T.ptr 0 b 0, T.ptr 1 bo 0, u8 i] [(b, Ob.cells (repC r D)), (bo, Ob.cells [T.slx 34 2 (List.map (fun x => T.agg (frC x)) F) hf, T.slx 5 3 (List.map (fun x => T.agg (evC x)) E) he]), (0, Ob.room 34 70 (List.length (List.map (fun x => T.agg (frC x)) F)) hf), (0, Ob.room 5 73 (List.length (List.map (fun x => T.agg (evC x)) E)) he)] gl (callPost (Hint.call false Value (fun x => True) [0, 3, 4, 5] true (fun x => T.tup []) (fun hf => obsR b r D ++ obsO 1 bo G hf E he) fun x => gl)) ∧ ∀ (a : Value), True → (List.all (repC r D) noIx = true ∧ True) ∧ u8 (IntKind.wrap IntKind.u8 ((↑i : Int) + (1 : Int))) = u8 (i + 1) ∧ TWk Try.prog Γ (fin Try.prog Try.f10 [0] Q) [It.code (sub (bd Try.f10) [1, 1, 1, 1, 1, 0, 1, 0]), It.blk 0, It.code (sub (bd Try.f10) [1, 1, 1, 1, 1, 1])] { fr := frame 42 [(0, T.ptr 0 b 0), (4, T.ptr 2 br 0), (5, T.ptr 3 bo 0), (19, u8 (i + 1))], ob := [(b, Ob.cells (repC r D)), (bv, Ob.cells [u32 (VS.e v), T.sl 3 (mems (VS.ms v)), u8 (VS.L v 0), u8 (VS.L v 1), u8 (VS.L v 2), u8 (VS.L v 3), u8 (VS.L v 4), u8 (VS.L v 5), u8 (VS.L v 6), u8 (VS.L v 7)]), (br, Ob.cells [T.v (Value.slice none 0 0), T.v (Value.slice none 0 0)]), (bo, Ob.cells [T.slx 34 4 (List.map (fun x => T.agg (frC x)) G) a, T.slx 5 5 (List.map (fun x => T.agg (evC x)) E) he]), (0, Ob.room 34 70 (List.length (List.map (fun x => T.agg (frC x)) G)) a), (0, Ob.room 5 73 (List.length (List.map (fun x => T.agg (evC x)) E)) he)], gl := gl }) (by kernel_rfl) ?_
  repeat' (first | exact rfl | exact Nat.le_of_ble_eq_true rfl | refine And.intro ?_ ?_ | intro _ | refine bsplit_mk (fun _ => ?_) (fun _ => ?_))
  all_goals first
    | exact repC_plain _ _
    | exact True.intro
    | exact hs _ fun v => ⟨v, trivial, rfl, rfl, Nat.le_of_ble_eq_true rfl, fun _ => rfl⟩
    | exact congrArg u8 hw
    | exact nx _
    | trace_state
theorem own_again {D : Dr} {r : RS} {gl : Glb} (h : Own D r gl) {k : Nat} (hk : k < 6) {d : Drv} (hd : (r.P k).dr = some d) (m : Nat) (hm : gl m = none) (es : Array MapEntry) (ck : Nat) :
    Own { D with m := Rep.put D.m k m } (setP r k { r.P k with dr := some (Rep.newD d.w d.own) }) (setDr gl (D.g k) m (Rep.newD d.w d.own) es ck) ∧ Step gl D r (setDr gl (D.g k) m (Rep.newD d.w d.own) es ck) { D with m := Rep.put D.m k m } (setP r k { r.P k with dr := some (Rep.newD d.w d.own) }) :=
  h.turn hk hd _ _ rfl m es ck (.inr hm)
theorem again_self (r : RS) (k : Nat) : (Rep.again r k).1.self = r.self ∧ (Rep.again r k).1.life = r.life ∧ (Rep.again r k).1.v = r.v ∧ (Rep.again r k).1.has = r.has ∧ (Rep.again r k).1.calls = r.calls := by
  unfold Rep.again
  split
  · exact ⟨rfl, rfl, rfl, rfl, rfl⟩
  · split <;> exact ⟨rfl, rfl, rfl, rfl, rfl⟩
theorem en_loop (Γ : Ctx) (b bv br bo : Nat) (v : VS) (E : List Ev) (he : Value) (Q : T → Obs → Glb → Prop) : ∀ (n i : Nat) (r : RS) (D : Dr) (F : List Fm) (hf : Value) (gl : Glb), i + n = 6 → Own D r gl → lim r.v.ms → F.length + 2 * n ≤ 100000 →
    (∀ D' gl' , Own D' (Rep.againL r (List.range' i n)).1 gl' → Step gl D r gl' D' (Rep.againL r (List.range' i n)).1 → Q (outT (F ++ (Rep.againL r (List.range' i n)).2) E) (obsR b (Rep.againL r (List.range' i n)).1 D') gl') →
    TWk Try.prog Γ (fin Try.prog Try.f10 [0] Q) [.code (sub (bd Try.f10) [1, 1, 1, 1, 1, 0, 1, 0]), .blk 0, .code (sub (bd Try.f10) [1, 1, 1, 1, 1, 1])] ⟨frame 42 [(0, .ptr 0 b 0), (4, .ptr 2 br 0), (5, .ptr 3 bo 0), (19, u8 i)], obsE b bv br bo r D v F hf E he, gl⟩ := by
  intro n
  induction n with
  | zero =>
    intro i r D F hf gl hi ho hl hF hQ
    have hi : i = 6 := by omega
    subst hi
    have hQ := hQ D gl ho (Step.refl _ _ _)
    rw [show Rep.againL r (List.range' 6 0) = (r, []) from rfl, List.append_nil] at hQ
    exact en_end Γ b bv br bo r D v F hf E he gl Q hQ
  | succ n ih =>
    intro i r D F hf gl hi ho hl hF hQ
    have hi6 : i < 6 := by omega
    have hw : IntKind.wrap .u8 ((i : Int) + 1) = ((i + 1 : Nat) : Int) := by rw [IntWalk.u8_in _ (by omega)]; omega
    have hin := in_any b r D hl
    have hag : ∀ x : RS × List Fm, Rep.again r i = x → Rep.againL r (List.range' i (n + 1)) = ((Rep.againL x.1 (List.range' (i + 1) n)).1, x.2 ++ (Rep.againL x.1 (List.range' (i + 1) n)).2) := fun x hx => by
      rw [show List.range' i (n + 1) = i :: List.range' (i + 1) n from List.range'_succ, Rep.againL, hx]
    cases hd : (r.P i).dr with
    | none =>
      have hdT := dT_none hd (D.g i)
      rw [hag (r, []) (by unfold Rep.again; rw [hd])] at hQ
      have nx := ih (i + 1) r D F hf gl (by omega) ho hl (by omega) (fun D' gl' h1 h2 => by have := hQ D' gl' h1 h2; simpa only [List.nil_append] using this)
      clear ih hQ hag
      refine run_sound (⟨fun | 9, 6 => .res (.v (.pointer none)) | 13, 0 => .res (u8 (i + 1 : Nat)) | _, _ => .no, [((2, 7), ([0, 4, 5, 19], 6))], fun  | _ => none⟩) 400 (B := bsplit (decide ((↑i : Int) < (6 : Int))) (((0 : Int) ≤ (↑i : Int) ∧ (↑i : Int) < (↑(6 : Nat) : Int)) ∧ b = b ∧ (List.drop (12 + Int.toNat (↑i : Int) * nat_lit 9 + nat_lit 7) (repC r D))[0]? = some (T.v (Value.pointer none)) ∧ u8 (IntKind.wrap IntKind.u8 ((↑i : Int) + (1 : Int))) = u8 (i + 1) ∧ TWk Try.prog Γ (fin Try.prog Try.f10 [0] Q) [It.code (sub (bd Try.f10) [1, 1, 1, 1, 1, 0, 1, 0]), It.blk 0, It.code (sub (bd Try.f10) [1, 1, 1, 1, 1, 1])] { fr := frame 42 [(0, T.ptr 0 b 0), (4, T.ptr 2 br 0), (5, T.ptr 3 bo 0), (19, u8 (i + 1))], ob := [(b, Ob.cells (repC r D)), (bv, Ob.cells [u32 (VS.e v), T.sl 3 (mems (VS.ms v)), u8 (VS.L v 0), u8 (VS.L v 1), u8 (VS.L v 2), u8 (VS.L v 3), u8 (VS.L v 4), u8 (VS.L v 5), u8 (VS.L v 6), u8 (VS.L v 7)]), (br, Ob.cells [T.v (Value.slice none 0 0), T.v (Value.slice none 0 0)]), (bo, Ob.cells [T.slx 34 4 (List.map (fun x => T.agg (frC x)) F) hf, T.slx 5 5 (List.map (fun x => T.agg (evC x)) E) he]), (0, Ob.room 34 70 (List.length (List.map (fun x => T.agg (frC x)) F)) hf), (0, Ob.room 5 73 (List.length (List.map (fun x => T.agg (evC x)) E)) he)], gl := gl }) (bo = bo ∧ (2 = nat_lit 2 ∧ List.all [T.slx 34 4 (List.map (fun x => T.agg (frC x)) F) hf, T.slx 5 5 (List.map (fun x => T.agg (evC x)) E) he] T.one = true) ∧ br = br ∧ 0 + nat_lit 2 ≤ 2 ∧ br = br ∧ Q (T.agg [T.sl 34 (List.map (fun x => T.agg (frC x)) F), T.sl 5 (List.map (fun x => T.agg (evC x)) E)]) [(b, Ob.cells (repC r D))] gl)) (by kernel_rfl) ?_
      repeat' (first | exact rfl | exact Nat.le_of_ble_eq_true rfl | refine And.intro ?_ ?_ | intro _ | refine bsplit_mk (fun _ => ?_) (fun _ => ?_))
      all_goals first
        | omega
        | exact congrArg u8 hw
        | exact nx
        | (rw [← hdT]; rcases six hi6 with rfl | rfl | rfl | rfl | rfl | rfl <;> rfl)
        | (exfalso; rename_i h; have := of_decide_eq_false h; omega)
        | trace_state
    | some d =>
      have hdT : dT (r.P i).dr (D.g i) = .gp (D.g i) 0 := dT_some hd _
      have hle := ho.dr i hi6 d hd
      cases hir : Rep.inR r with
      | false =>
        rw [hir] at hin
        rw [hag (r, []) (by unfold Rep.again; rw [hd, hir]; rfl)] at hQ
        have nx := ih (i + 1) r D F hf gl (by omega) ho hl (by omega) (fun D' gl' h1 h2 => by have := hQ D' gl' h1 h2; simpa only [List.nil_append] using this)
        clear ih hQ hag
        refine run_sound (⟨fun | 9, 6 => .res (.gp (D.g i) 0) | 10, 4 => .plainAt [0] (told (bool false) [0] (obsR b r D)) | 13, 0 => .res (u8 (i + 1 : Nat)) | _, _ => .no, [((2, 7), ([0, 4, 5, 19], 6))], fun  | _ => none⟩) 400 (B := bsplit (decide ((↑i : Int) < (6 : Int))) (((0 : Int) ≤ (↑i : Int) ∧ (↑i : Int) < (↑(6 : Nat) : Int)) ∧ b = b ∧ (List.drop (12 + Int.toNat (↑i : Int) * nat_lit 9 + nat_lit 7) (repC r D))[0]? = some (T.gp (Dr.g D i) 0) ∧ (List.all (repC r D) noIx = true ∧ True) ∧ TCalls Try.prog 33 [T.ptr 0 b 0] [(b, Ob.cells (repC r D))] (fun x => none) (callPost (Hint.call false Unit (fun x => True) [0] false (fun x => bool false) (fun x => obsR b r D) fun x => none_)) ∧ ∀ (a : Unit), True → (List.all (repC r D) noIx = true ∧ True) ∧ u8 (IntKind.wrap IntKind.u8 ((↑i : Int) + (1 : Int))) = u8 (i + 1) ∧ TWk Try.prog Γ (fin Try.prog Try.f10 [0] Q) [It.code (sub (bd Try.f10) [1, 1, 1, 1, 1, 0, 1, 0]), It.blk 0, It.code (sub (bd Try.f10) [1, 1, 1, 1, 1, 1])] { fr := frame 42 [(0, T.ptr 0 b 0), (4, T.ptr 2 br 0), (5, T.ptr 3 bo 0), (19, u8 (i + 1))], ob := [(b, Ob.cells (repC r D)), (bv, Ob.cells [u32 (VS.e v), T.sl 3 (mems (VS.ms v)), u8 (VS.L v 0), u8 (VS.L v 1), u8 (VS.L v 2), u8 (VS.L v 3), u8 (VS.L v 4), u8 (VS.L v 5), u8 (VS.L v 6), u8 (VS.L v 7)]), (br, Ob.cells [T.v (Value.slice none 0 0), T.v (Value.slice none 0 0)]), (bo, Ob.cells [T.slx 34 4 (List.map (fun x => T.agg (frC x)) F) hf, T.slx 5 5 (List.map (fun x => T.agg (evC x)) E) he]), (0, Ob.room 34 70 (List.length (List.map (fun x => T.agg (frC x)) F)) hf), (0, Ob.room 5 73 (List.length (List.map (fun x => T.agg (evC x)) E)) he)], gl := gl }) (bo = bo ∧ (2 = nat_lit 2 ∧ List.all [T.slx 34 4 (List.map (fun x => T.agg (frC x)) F) hf, T.slx 5 5 (List.map (fun x => T.agg (evC x)) E) he] T.one = true) ∧ br = br ∧ 0 + nat_lit 2 ≤ 2 ∧ br = br ∧ Q (T.agg [T.sl 34 (List.map (fun x => T.agg (frC x)) F), T.sl 5 (List.map (fun x => T.agg (evC x)) E)]) [(b, Ob.cells (repC r D))] gl)) (by kernel_rfl) ?_
        repeat' (first | exact rfl | exact Nat.le_of_ble_eq_true rfl | refine And.intro ?_ ?_ | intro _ | refine bsplit_mk (fun _ => ?_) (fun _ => ?_))
        all_goals first
          | omega
          | exact congrArg u8 hw
          | exact nx
          | exact repC_plain _ _
          | exact True.intro
          | exact hin _ (told_post rfl)
          | (rw [← hdT]; rcases six hi6 with rfl | rfl | rfl | rfl | rfl | rfl <;> rfl)
          | (exfalso; rename_i h; have := of_decide_eq_false h; omega)
          | trace_state
      | true =>
        rw [hir] at hin
        obtain ⟨r1, hr1⟩ : ∃ r1, r1 = setP r i { r.P i with dr := some (Rep.newD d.w d.own) } := ⟨_, rfl⟩
        have ho1 := fun m es ck hm => own_again ho hi6 hd m hm es ck
        rw [← hr1] at ho1
        rw [hag (r1, Rep.sent r i d.w) (by unfold Rep.again; rw [hd, hir, hr1]; rfl)] at hQ
        have hrep : repC r D = repC r1 D := by rw [hr1]; exact (repC_turn r D i d _ hd).symm
        have nx : ∀ m es ck, gl m = none → TWk Try.prog Γ (fin Try.prog Try.f10 [0] Q) [.code (sub (bd Try.f10) [1, 1, 1, 1, 1, 0, 1, 0, 0, 1, 1, 0, 0, 1, 1, 1, 0, 1]), .blk 1, .code (sub (bd Try.f10) [1, 1, 1, 1, 1, 0, 1, 0, 0, 1, 1, 1]), .code (sub (bd Try.f10) [1, 1, 1, 1, 1, 0, 1, 0]), .blk 0, .code (sub (bd Try.f10) [1, 1, 1, 1, 1, 1])] ⟨frame 42 [(0, .ptr 0 b 0), (4, .ptr 2 br 0), (5, .ptr 3 bo 0), (6, u8 i), (19, u8 i)], obsE b bv br bo r D v F hf E he, setDr gl (D.g i) m (Rep.newD d.w d.own) es ck⟩ := fun m es ck hm => by
          have h12 := en12 Γ b bv br bo r1 { D with m := Rep.put D.m i m } v F hf E he i hi6 (Rep.newD d.w d.own) (by rw [hr1, P_at]) _ (ho1 m es ck hm).1 (by rw [hr1]; exact hl) (by omega) Q fun hf' => ih (i + 1) r1 { D with m := Rep.put D.m i m } (F ++ Rep.sent r1 i (Rep.newD d.w d.own).w) hf' _ (by omega) (ho1 m es ck hm).1 (by rw [hr1]; exact hl) (by have := sent_len r1 i (Rep.newD d.w d.own).w; simp; omega) fun D' gl' h1 h2 => by
              have := hQ D' gl' h1 (Step.trans (ho1 m es ck hm).2 h2)
              rw [show Rep.sent r1 i (Rep.newD d.w d.own).w = Rep.sent r i d.w by rw [hr1]; rfl]
              rwa [← List.append_assoc] at this
          simp only [obsE] at h12 ⊢
          rw [hrep]
          exact h12
        clear ih hQ hag
        refine run_sound (⟨fun | 9, 6 => .res (.gp (D.g i) 0) | 10, 4 => .plainAt [0] (told (bool true) [0] (obsR b r D)) | 11, 1 => .call false (Nat × Array MapEntry × Nat) (fun a => gl a.1 = none) [] true (fun _ => .tup []) (fun _ => []) (fun a => setDr gl (D.g i) a.1 (Rep.newD d.w d.own) a.2.1 a.2.2) | _, _ => .no, [((0, 12), ([0, 4, 5, 6, 19], 6))], fun  | _ => none⟩) 400 (B := bsplit (decide ((↑i : Int) < (6 : Int))) (((0 : Int) ≤ (↑i : Int) ∧ (↑i : Int) < (↑(6 : Nat) : Int)) ∧ b = b ∧ (List.drop (12 + Int.toNat (↑i : Int) * nat_lit 9 + nat_lit 7) (repC r D))[0]? = some (T.gp (Dr.g D i) 0) ∧ (List.all (repC r D) noIx = true ∧ True) ∧ TCalls Try.prog 33 [T.ptr 0 b 0] [(b, Ob.cells (repC r D))] (fun x => none) (callPost (Hint.call false Unit (fun x => True) [0] false (fun x => bool true) (fun x => obsR b r D) fun x => none_)) ∧ ∀ (a : Unit), True → (List.all (repC r D) noIx = true ∧ True) ∧ TCalls Try.prog 34 [T.gp (Dr.g D i) 0] [] gl (callPost (Hint.call false (Nat × Array MapEntry × Nat) (fun a => gl (Prod.fst a) = none) [] true (fun x => T.tup []) (fun x => []) fun a => setDr gl (Dr.g D i) (Prod.fst a) (Rep.newD (Drv.w d) (Drv.own d)) (Prod.fst (Prod.snd a)) (Prod.snd (Prod.snd a)))) ∧ ∀ (a : Nat × Array MapEntry × Nat), gl (Prod.fst a) = none → TWk Try.prog Γ (fin Try.prog Try.f10 [0] Q) [It.code (sub (bd Try.f10) [1, 1, 1, 1, 1, 0, 1, 0, 0, 1, 1, 0, 0, 1, 1, 1, 0, 1]), It.blk 1, It.code (sub (bd Try.f10) [1, 1, 1, 1, 1, 0, 1, 0, 0, 1, 1, 1]), It.code (sub (bd Try.f10) [1, 1, 1, 1, 1, 0, 1, 0]), It.blk 0, It.code (sub (bd Try.f10) [1, 1, 1, 1, 1, 1])] { fr := frame 42 [(0, T.ptr 0 b 0), (4, T.ptr 2 br 0), (5, T.ptr 3 bo 0), (6, u8 i), (19, u8 i)], ob := [(b, Ob.cells (repC r D)), (bv, Ob.cells [u32 (VS.e v), T.sl 3 (mems (VS.ms v)), u8 (VS.L v 0), u8 (VS.L v 1), u8 (VS.L v 2), u8 (VS.L v 3), u8 (VS.L v 4), u8 (VS.L v 5), u8 (VS.L v 6), u8 (VS.L v 7)]), (br, Ob.cells [T.v (Value.slice none 0 0), T.v (Value.slice none 0 0)]), (bo, Ob.cells [T.slx 34 4 (List.map (fun x => T.agg (frC x)) F) hf, T.slx 5 5 (List.map (fun x => T.agg (evC x)) E) he]), (0, Ob.room 34 70 (List.length (List.map (fun x => T.agg (frC x)) F)) hf), (0, Ob.room 5 73 (List.length (List.map (fun x => T.agg (evC x)) E)) he)], gl := fun j => if j = Dr.g D i then some (gD (Prod.fst a) (Rep.newD (Drv.w d) (Drv.own d))) else setO gl (Prod.fst a) (Ob.map IntKind.u8 (ackF (Drv.acks (Rep.newD (Drv.w d) (Drv.own d)))) (Prod.fst (Prod.snd a)) (Prod.snd (Prod.snd a))) j }) (bo = bo ∧ (2 = nat_lit 2 ∧ List.all [T.slx 34 4 (List.map (fun x => T.agg (frC x)) F) hf, T.slx 5 5 (List.map (fun x => T.agg (evC x)) E) he] T.one = true) ∧ br = br ∧ 0 + nat_lit 2 ≤ 2 ∧ br = br ∧ Q (T.agg [T.sl 34 (List.map (fun x => T.agg (frC x)) F), T.sl 5 (List.map (fun x => T.agg (evC x)) E)]) [(b, Ob.cells (repC r D))] gl)) (by kernel_rfl) ?_
        repeat' (first | exact rfl | exact Nat.le_of_ble_eq_true rfl | refine And.intro ?_ ?_ | intro _ | refine bsplit_mk (fun _ => ?_) (fun _ => ?_))
        all_goals first
          | omega
          | (rename_i h; exact nx _ _ _ h)
          | exact repC_plain _ _
          | exact True.intro
          | exact hin _ (told_post rfl)
          | exact dagainG hle _ fun m es ck hm => ⟨(m, es, ck), hm, rfl, rfl, Nat.zero_le _, fun _ => rfl⟩
          | (rw [← hdT]; rcases six hi6 with rfl | rfl | rfl | rfl | rfl | rfl <;> rfl)
          | (exfalso; rename_i h; have := of_decide_eq_false h; omega)
          | trace_state
theorem imp_outE {ts : List T} {gl : Glb} (x y z : Nat × Ob) (bo : Nat) : Imp ts [x, y, z, (bo, .cells [.v nilS, .v nilS])] gl ts [x, y, z, (bo, .cells [.slx 34 4 [] nilS, .slx 5 5 [] nilS]), (0, .room 34 70 0 nilS), (0, .room 5 73 0 nilS)] gl := imp_out x y z bo
theorem enter_any (b : Nat) (r : RS) (D : Dr) (v : VS) (gl : Glb) (ho : Own D r gl) (hv : lim v.ms) (Q : T → Obs → Glb → Prop)
    (hQ : ∀ D' gl', Own D' (Rep.enter r v).1 gl' → Step gl D r gl' D' (Rep.enter r v).1 → Q (outT (Rep.enter r v).2 []) (obsR b (Rep.enter r v).1 D') gl') :
    TCalls Try.prog 10 [.ptr 0 b 0, .agg (viewC v)] (obsR b r D) gl Q := by
  obtain ⟨r1, hr1⟩ : ∃ r1, r1 = { r with v := v } := ⟨_, rfl⟩
  have ho1 : Own D r1 gl ∧ Step gl D r gl D r1 := by rw [hr1]; exact ho.view v
  rw [show Rep.enter r v = Rep.againL r1 (List.range' 0 6) by rw [hr1]; rfl] at hQ
  have lp : ∀ Γ bv br bo, TWk Try.prog Γ (fin Try.prog Try.f10 [0] Q) [.code (sub (bd Try.f10) [1, 1, 1, 1, 1, 0, 1, 0]), .blk 0, .code (sub (bd Try.f10) [1, 1, 1, 1, 1, 1])] ⟨frame 42 [(0, .ptr 0 b 0), (4, .ptr 2 br 0), (5, .ptr 3 bo 0), (19, u8 (0 : Nat))], [(b, .cells (repC r1 D)), (bv, .cells (viewC v)), (br, .cells [.v nilS, .v nilS]), (bo, .cells [.v nilS, .v nilS])], gl⟩ := fun Γ bv br bo =>
    TWk.imp (s' := ⟨_, obsE b bv br bo r1 D v [] nilS [] nilS, gl⟩) (en_loop Γ b bv br bo v [] nilS Q 6 0 r1 D [] nilS gl rfl ho1.1 (by rw [hr1]; exact hv) (by simp) fun D' gl' h1 h2 => hQ D' gl' h1 (Step.trans ho1.2 h2)) (imp_outE (b, .cells (repC r1 D)) (bv, .cells (viewC v)) (br, .cells [.v nilS, .v nilS]) bo)
  clear hQ ho1
  refine TCalls.of Try.func10 rfl (CanCall.of Try.func10 rfl (by decide)) [0] fun Γ => ?_
  refine run_sound (⟨fun | 4, 2 => told (.sl 3 (mems v.ms)) [] [] | 5, 4 => .obj (repC r1 D) | _, _ => .no, [((2, 7), ([0, 4, 5, 19], 4))], fun  | _ => none⟩) 400 (B := ∀ (b_1 b_2 b_3 : Nat), b_1 = b_1 ∧ TCalls Try.prog 32 [T.sl 3 (mems (VS.ms v))] [] (fun x => none) (callPost (Hint.call false Unit (fun x => True) [] false (fun x => T.sl 3 (mems (VS.ms v))) (fun x => []) fun x => none_)) ∧ ∀ (a : Unit), True → (1 = nat_lit 1 ∧ List.all [T.sl 3 (mems (VS.ms v))] T.one = true) ∧ b_1 = b_1 ∧ 1 + nat_lit 1 ≤ 10 ∧ b_1 = b_1 ∧ (10 = nat_lit 10 ∧ List.all [u32 (VS.e v), T.sl 3 (mems (VS.ms v)), u8 (VS.L v 0), u8 (VS.L v 1), u8 (VS.L v 2), u8 (VS.L v 3), u8 (VS.L v 4), u8 (VS.L v 5), u8 (VS.L v 6), u8 (VS.L v 7)] T.one = true) ∧ b = b ∧ 2 + nat_lit 10 ≤ 67 ∧ [u8 (RS.self r), u8 (RS.life r), u32 (VS.e v), T.sl 3 (mems (VS.ms v)), u8 (VS.L v 0), u8 (VS.L v 1), u8 (VS.L v 2), u8 (VS.L v 3), u8 (VS.L v 4), u8 (VS.L v 5), u8 (VS.L v 6), u8 (VS.L v 7), u32 (Stp.n (Wrd.s (Cel.w (Plc.c (RS.P r 0))))), u8 (Stp.b (Wrd.s (Cel.w (Plc.c (RS.P r 0))))), u8 (Stp.l (Wrd.s (Cel.w (Plc.c (RS.P r 0))))), bool (Wrd.h (Cel.w (Plc.c (RS.P r 0)))), T.v (Value.string (Wrd.t (Cel.w (Plc.c (RS.P r 0))))), bool (Wrd.r (Cel.w (Plc.c (RS.P r 0)))), int (Cel.st (Plc.c (RS.P r 0))), dT (Plc.dr (RS.P r 0)) (Dr.g D 0), int (Plc.age (RS.P r 0)), u32 (Stp.n (Wrd.s (Cel.w (Plc.c (RS.P r 1))))), u8 (Stp.b (Wrd.s (Cel.w (Plc.c (RS.P r 1))))), u8 (Stp.l (Wrd.s (Cel.w (Plc.c (RS.P r 1))))), bool (Wrd.h (Cel.w (Plc.c (RS.P r 1)))), T.v (Value.string (Wrd.t (Cel.w (Plc.c (RS.P r 1))))), bool (Wrd.r (Cel.w (Plc.c (RS.P r 1)))), int (Cel.st (Plc.c (RS.P r 1))), dT (Plc.dr (RS.P r 1)) (Dr.g D 1), int (Plc.age (RS.P r 1)), u32 (Stp.n (Wrd.s (Cel.w (Plc.c (RS.P r 2))))), u8 (Stp.b (Wrd.s (Cel.w (Plc.c (RS.P r 2))))), u8 (Stp.l (Wrd.s (Cel.w (Plc.c (RS.P r 2))))), bool (Wrd.h (Cel.w (Plc.c (RS.P r 2)))), T.v (Value.string (Wrd.t (Cel.w (Plc.c (RS.P r 2))))), bool (Wrd.r (Cel.w (Plc.c (RS.P r 2)))), int (Cel.st (Plc.c (RS.P r 2))), dT (Plc.dr (RS.P r 2)) (Dr.g D 2), int (Plc.age (RS.P r 2)), u32 (Stp.n (Wrd.s (Cel.w (Plc.c (RS.P r 3))))), u8 (Stp.b (Wrd.s (Cel.w (Plc.c (RS.P r 3))))), u8 (Stp.l (Wrd.s (Cel.w (Plc.c (RS.P r 3))))), bool (Wrd.h (Cel.w (Plc.c (RS.P r 3)))), T.v (Value.string (Wrd.t (Cel.w (Plc.c (RS.P r 3))))), bool (Wrd.r (Cel.w (Plc.c (RS.P r 3)))), int (Cel.st (Plc.c (RS.P r 3))), dT (Plc.dr (RS.P r 3)) (Dr.g D 3), int (Plc.age (RS.P r 3)), u32 (Stp.n (Wrd.s (Cel.w (Plc.c (RS.P r 4))))), u8 (Stp.b (Wrd.s (Cel.w (Plc.c (RS.P r 4))))), u8 (Stp.l (Wrd.s (Cel.w (Plc.c (RS.P r 4))))), bool (Wrd.h (Cel.w (Plc.c (RS.P r 4)))), T.v (Value.string (Wrd.t (Cel.w (Plc.c (RS.P r 4))))), bool (Wrd.r (Cel.w (Plc.c (RS.P r 4)))), int (Cel.st (Plc.c (RS.P r 4))), dT (Plc.dr (RS.P r 4)) (Dr.g D 4), int (Plc.age (RS.P r 4)), u32 (Stp.n (Wrd.s (Cel.w (Plc.c (RS.P r 5))))), u8 (Stp.b (Wrd.s (Cel.w (Plc.c (RS.P r 5))))), u8 (Stp.l (Wrd.s (Cel.w (Plc.c (RS.P r 5))))), bool (Wrd.h (Cel.w (Plc.c (RS.P r 5)))), T.v (Value.string (Wrd.t (Cel.w (Plc.c (RS.P r 5))))), bool (Wrd.r (Cel.w (Plc.c (RS.P r 5)))), int (Cel.st (Plc.c (RS.P r 5))), dT (Plc.dr (RS.P r 5)) (Dr.g D 5), int (Plc.age (RS.P r 5)), T.gp (Dr.t D) 0] = repC r1 D ∧ TWk Try.prog Γ (fin Try.prog Try.f10 [0] Q) [It.code (sub (bd Try.f10) [1, 1, 1, 1, 1, 0, 1, 0]), It.blk 0, It.code (sub (bd Try.f10) [1, 1, 1, 1, 1, 1])] { fr := frame 42 [(0, T.ptr 0 b 0), (4, T.ptr 2 b_2 0), (5, T.ptr 3 b_3 0), (19, u8 (0 : Int))], ob := [(b, Ob.cells (repC r1 D)), (b_1, Ob.cells [u32 (VS.e v), T.sl 3 (mems (VS.ms v)), u8 (VS.L v 0), u8 (VS.L v 1), u8 (VS.L v 2), u8 (VS.L v 3), u8 (VS.L v 4), u8 (VS.L v 5), u8 (VS.L v 6), u8 (VS.L v 7)]), (b_2, Ob.cells [T.v (Value.slice none 0 0), T.v (Value.slice none 0 0)]), (b_3, Ob.cells [T.v (Value.slice none 0 0), T.v (Value.slice none 0 0)])], gl := gl }) (by kernel_rfl) ?_
  repeat' (first | exact rfl | exact Nat.le_of_ble_eq_true rfl | refine And.intro ?_ ?_ | intro _ | refine bsplit_mk (fun _ => ?_) (fun _ => ?_))
  all_goals first
    | exact clone_sl v.ms hv _ (told_post rfl)
    | exact lp _ _ _ _
    | (rw [hr1]; rfl)
    | trace_state
def zC : Cel := ⟨Rep.z0, 0⟩
def cellOf (r : RS) (k : Nat) : Cel := if k < 6 then (r.P k).c else zC
theorem cell_any (b : Nat) (r : RS) (D : Dr) (k : Nat) (gl : Glb) (ho : Own D r gl) (Q : T → Obs → Glb → Prop) (hQ : Q (.tup [.agg (clC (cellOf r k)), bool (decide (k < 6) && r.has k)]) (obsR b r D) gl) : TCalls Try.prog 13 [.ptr 0 b 0, u8 k] (obsR b r D) gl Q := by
  have hh := thasG ho.tr k
  by_cases hk : k < 6
  · rw [cellOf, if_pos hk] at hQ
    refine TCalls.of Try.func13 rfl (CanCall.of Try.func13 rfl (by decide)) [0] fun Γ => ?_
    refine run_sound (⟨fun | 3, 6 => .res (.agg (clC (r.P k).c)) | 3, 12 => toldG (bool (decide (k < 6) && r.has k)) [] [] gl | _, _ => .no, [], fun | 3 => some ⟨[0], [13], .take true [0,1,2,3,4,5,6,7,8,9,10,11] (.one 12 (.one 13 (.take false [14] .done)))⟩ | _ => none⟩) 400 (B := ∀ (b_1 : Nat), bsplit (decide ((↑k : Int) ≥ (6 : Int))) ((7 = nat_lit 7 ∧ List.all [u32 (0 : Int), u8 (0 : Int), u8 (0 : Int), bool false, T.v (Value.string (ByteArray.mk (#[]))), bool false, int (0 : Int)] T.one = true) ∧ b_1 = b_1 ∧ 0 + nat_lit 7 ≤ 7 ∧ b_1 = b_1 ∧ Q (T.tup [T.agg [u32 (0 : Int), u8 (0 : Int), u8 (0 : Int), bool false, T.v (Value.string (ByteArray.mk (#[]))), bool false, int (0 : Int)], bool false]) [(b, Ob.cells (repC r D))] gl) (((0 : Int) ≤ (↑k : Int) ∧ (↑k : Int) < (↑(6 : Nat) : Int)) ∧ b = b ∧ (if List.length (List.drop (12 + Int.toNat (↑k : Int) * nat_lit 9 + nat_lit 0) (repC r D)) < (fun x => TypeInfo.size x) (Tables.types (Program.toTables Try.prog))[57] then none else some (T.agg (List.take (nat_lit 7) (List.drop (12 + Int.toNat (↑k : Int) * nat_lit 9 + nat_lit 0) (repC r D))))) = some (T.agg [u32 (Stp.n (Wrd.s (Cel.w (Plc.c (RS.P r k))))), u8 (Stp.b (Wrd.s (Cel.w (Plc.c (RS.P r k))))), u8 (Stp.l (Wrd.s (Cel.w (Plc.c (RS.P r k))))), bool (Wrd.h (Cel.w (Plc.c (RS.P r k)))), T.v (Value.string (Wrd.t (Cel.w (Plc.c (RS.P r k))))), bool (Wrd.r (Cel.w (Plc.c (RS.P r k)))), int (Cel.st (Plc.c (RS.P r k)))]) ∧ b = b ∧ TCalls Try.prog 42 [T.gp (Dr.t D) 0, u8 k] [] gl (callPost (Hint.call false Unit (fun x => True) [] true (fun x => bool (decide (k < 6) && RS.has r k)) (fun x => []) fun x => gl)) ∧ ∀ (a : Unit), True → (7 = nat_lit 7 ∧ List.all [u32 (Stp.n (Wrd.s (Cel.w (Plc.c (RS.P r k))))), u8 (Stp.b (Wrd.s (Cel.w (Plc.c (RS.P r k))))), u8 (Stp.l (Wrd.s (Cel.w (Plc.c (RS.P r k))))), bool (Wrd.h (Cel.w (Plc.c (RS.P r k)))), T.v (Value.string (Wrd.t (Cel.w (Plc.c (RS.P r k))))), bool (Wrd.r (Cel.w (Plc.c (RS.P r k)))), int (Cel.st (Plc.c (RS.P r k)))] T.one = true) ∧ b_1 = b_1 ∧ 0 + nat_lit 7 ≤ 7 ∧ b_1 = b_1 ∧ Q (T.tup [T.agg [u32 (Stp.n (Wrd.s (Cel.w (Plc.c (RS.P r k))))), u8 (Stp.b (Wrd.s (Cel.w (Plc.c (RS.P r k))))), u8 (Stp.l (Wrd.s (Cel.w (Plc.c (RS.P r k))))), bool (Wrd.h (Cel.w (Plc.c (RS.P r k)))), T.v (Value.string (Wrd.t (Cel.w (Plc.c (RS.P r k))))), bool (Wrd.r (Cel.w (Plc.c (RS.P r k)))), int (Cel.st (Plc.c (RS.P r k)))], bool (decide (k < 6) && RS.has r k)]) [(b, Ob.cells (repC r D))] gl)) (by kernel_rfl) ?_
    repeat' (first | exact rfl | exact Nat.le_of_ble_eq_true rfl | refine And.intro ?_ ?_ | intro _ | refine bsplit_mk (fun _ => ?_) (fun _ => ?_))
    all_goals first
      | omega
      | exact hh _ (toldG_post rfl)
      | exact hQ
      | (rcases six hk with rfl | rfl | rfl | rfl | rfl | rfl <;> rfl)
      | (exfalso; rename_i h; have := of_decide_eq_true h; omega)
      | trace_state
  · rw [cellOf, if_neg hk, decide_eq_false hk, Bool.false_and] at hQ
    refine TCalls.of Try.func13 rfl (CanCall.of Try.func13 rfl (by decide)) [0] fun Γ => ?_
    refine run_sound (⟨fun | 3, 6 => .res .und | _, _ => .no, [((0, 3), ([0, 1, 4], 2))], fun | 3 => some ⟨[0], [13], .take true [0,1,2,3,4,5,6,7,8,9,10,11] (.one 12 (.one 13 (.take false [14] .done)))⟩ | _ => none⟩) 400 (B := ∀ (b_1 : Nat), bsplit (decide ((↑k : Int) ≥ (6 : Int))) ((7 = nat_lit 7 ∧ List.all [u32 (0 : Int), u8 (0 : Int), u8 (0 : Int), bool false, T.v (Value.string (ByteArray.mk (#[]))), bool false, int (0 : Int)] T.one = true) ∧ b_1 = b_1 ∧ 0 + nat_lit 7 ≤ 7 ∧ b_1 = b_1 ∧ Q (T.tup [T.agg [u32 (0 : Int), u8 (0 : Int), u8 (0 : Int), bool false, T.v (Value.string (ByteArray.mk (#[]))), bool false, int (0 : Int)], bool false]) [(b, Ob.cells (repC r D))] gl) (TWk Try.prog Γ (fin Try.prog Try.f13 [0] Q) [It.code (sub (bd Try.f13) [1, 1])] { fr := frame 26 [(0, T.ptr 0 b 0), (1, u8 k), (4, T.ptr 1 b_1 0)], ob := [(b, Ob.cells (repC r D)), (b_1, Ob.cells [u32 (0 : Int), u8 (0 : Int), u8 (0 : Int), bool false, T.v (Value.string (ByteArray.mk (#[]))), bool false, int (0 : Int)])], gl := gl })) (by kernel_rfl) ?_
    repeat' (first | exact rfl | exact Nat.le_of_ble_eq_true rfl | refine And.intro ?_ ?_ | intro _ | refine bsplit_mk (fun _ => ?_) (fun _ => ?_))
    all_goals first
      | exact hQ
      | (exfalso; rename_i h; have := of_decide_eq_false h; omega)
      | trace_state
def drvT (r : RS) (k : Nat) : T := match (if k < 6 then (r.P k).dr else none) with
  | some d => .tup [.agg (stC d.w.s), bool d.own, bool true]
  | none => .tup [.agg [u32 0, u8 0, u8 0], bool false, bool false]
theorem driving_any (b : Nat) (r : RS) (D : Dr) (k : Nat) (gl : Glb) (ho : Own D r gl) (Q : T → Obs → Glb → Prop) (hQ : Q (drvT r k) (obsR b r D) gl) : TCalls Try.prog 18 [.ptr 0 b 0, u8 k] (obsR b r D) gl Q := by
  by_cases hk : k < 6
  · cases hd : (r.P k).dr with
    | none =>
      have hdT := dT_none hd (D.g k)
      rw [drvT, if_pos hk, hd] at hQ
      refine TCalls.of Try.func18 rfl (CanCall.of Try.func18 rfl (by decide)) [0] fun Γ => ?_
      refine run_sound (⟨fun | 1, 13 => .res (.v (.pointer none)) | _, _ => .no, [], fun  | _ => none⟩) 400 (B := ∀ (b_1 : Nat), bsplit (decide ((↑k : Int) ≥ (6 : Int))) ((3 = nat_lit 3 ∧ List.all [u32 (0 : Int), u8 (0 : Int), u8 (0 : Int)] T.one = true) ∧ b_1 = b_1 ∧ 0 + nat_lit 3 ≤ 3 ∧ b_1 = b_1 ∧ Q (T.tup [T.agg [u32 (0 : Int), u8 (0 : Int), u8 (0 : Int)], bool false, bool false]) [(b, Ob.cells (repC r D))] gl) (((0 : Int) ≤ (↑k : Int) ∧ (↑k : Int) < (↑(6 : Nat) : Int)) ∧ b = b ∧ (List.drop (12 + Int.toNat (↑k : Int) * nat_lit 9 + nat_lit 7) (repC r D))[0]? = some (T.v (Value.pointer none)) ∧ (3 = nat_lit 3 ∧ List.all [u32 (0 : Int), u8 (0 : Int), u8 (0 : Int)] T.one = true) ∧ b_1 = b_1 ∧ 0 + nat_lit 3 ≤ 3 ∧ b_1 = b_1 ∧ Q (T.tup [T.agg [u32 (0 : Int), u8 (0 : Int), u8 (0 : Int)], bool false, bool false]) [(b, Ob.cells (repC r D))] gl)) (by kernel_rfl) ?_
      repeat' (first | exact rfl | exact Nat.le_of_ble_eq_true rfl | refine And.intro ?_ ?_ | intro _ | refine bsplit_mk (fun _ => ?_) (fun _ => ?_))
      all_goals first
        | omega
        | exact hQ
        | (rw [← hdT]; rcases six hk with rfl | rfl | rfl | rfl | rfl | rfl <;> rfl)
        | trace_state
    | some d =>
      have hdT : dT (r.P k).dr (D.g k) = .gp (D.g k) 0 := dT_some hd _
      have hle := ho.dr k hk d hd
      rw [drvT, if_pos hk, hd] at hQ
      refine TCalls.of Try.func18 rfl (CanCall.of Try.func18 rfl (by decide)) [0] fun Γ => ?_
      refine run_sound (⟨fun | 1, 13 => .res (.gp (D.g k) 0) | 3, 6 => .res (.gp (D.g k) 0) | 4, 1 => wordG d gl | 4, 4 => toldG (bool d.own) [] [] gl | _, _ => .no, [], fun  | _ => none⟩) 400 (B := ∀ (b_1 : Nat), bsplit (decide ((↑k : Int) ≥ (6 : Int))) ((3 = nat_lit 3 ∧ List.all [u32 (0 : Int), u8 (0 : Int), u8 (0 : Int)] T.one = true) ∧ b_1 = b_1 ∧ 0 + nat_lit 3 ≤ 3 ∧ b_1 = b_1 ∧ Q (T.tup [T.agg [u32 (0 : Int), u8 (0 : Int), u8 (0 : Int)], bool false, bool false]) [(b, Ob.cells (repC r D))] gl) (((0 : Int) ≤ (↑k : Int) ∧ (↑k : Int) < (↑(6 : Nat) : Int)) ∧ b = b ∧ (List.drop (12 + Int.toNat (↑k : Int) * nat_lit 9 + nat_lit 7) (repC r D))[0]? = some (T.gp (Dr.g D k) 0) ∧ ((0 : Int) ≤ (↑k : Int) ∧ (↑k : Int) < (↑(6 : Nat) : Int)) ∧ b = b ∧ (List.drop (12 + Int.toNat (↑k : Int) * nat_lit 9 + nat_lit 7) (repC r D))[0]? = some (T.gp (Dr.g D k) 0) ∧ TCalls Try.prog 55 [T.gp (Dr.g D k) 0] [] gl (callPost (Hint.call false Unit (fun x => True) [] true (fun x => T.agg (wdC (Drv.w d))) (fun x => []) fun x => gl)) ∧ ∀ (a : Unit), True → TCalls Try.prog 56 [T.gp (Dr.g D k) 0] [] gl (callPost (Hint.call false Unit (fun x => True) [] true (fun x => bool (Drv.own d)) (fun x => []) fun x => gl)) ∧ ∀ (a : Unit), True → (3 = nat_lit 3 ∧ List.all [u32 (Stp.n (Wrd.s (Drv.w d))), u8 (Stp.b (Wrd.s (Drv.w d))), u8 (Stp.l (Wrd.s (Drv.w d)))] T.one = true) ∧ b_1 = b_1 ∧ 0 + nat_lit 3 ≤ 3 ∧ b_1 = b_1 ∧ Q (T.tup [T.agg [u32 (Stp.n (Wrd.s (Drv.w d))), u8 (Stp.b (Wrd.s (Drv.w d))), u8 (Stp.l (Wrd.s (Drv.w d)))], bool (Drv.own d), bool true]) [(b, Ob.cells (repC r D))] gl)) (by kernel_rfl) ?_
      repeat' (first | exact rfl | exact Nat.le_of_ble_eq_true rfl | refine And.intro ?_ ?_ | intro _ | refine bsplit_mk (fun _ => ?_) (fun _ => ?_))
      all_goals first
        | omega
        | exact dwordG hle _ (toldG_post rfl)
        | exact downG hle _ (toldG_post rfl)
        | exact hQ
        | (rw [← hdT]; rcases six hk with rfl | rfl | rfl | rfl | rfl | rfl <;> rfl)
        | (exfalso; rename_i h; have := of_decide_eq_true h; omega)
        | trace_state
  · rw [drvT, if_neg hk] at hQ
    refine TCalls.of Try.func18 rfl (CanCall.of Try.func18 rfl (by decide)) [0] fun Γ => ?_
    refine run_sound (⟨fun | 1, 13 => .res .und | _, _ => .no, [((0, 3), ([0, 1, 4], 2))], fun  | _ => none⟩) 400 (B := ∀ (b_1 : Nat), bsplit (decide ((↑k : Int) ≥ (6 : Int))) ((3 = nat_lit 3 ∧ List.all [u32 (0 : Int), u8 (0 : Int), u8 (0 : Int)] T.one = true) ∧ b_1 = b_1 ∧ 0 + nat_lit 3 ≤ 3 ∧ b_1 = b_1 ∧ Q (T.tup [T.agg [u32 (0 : Int), u8 (0 : Int), u8 (0 : Int)], bool false, bool false]) [(b, Ob.cells (repC r D))] gl) (((0 : Int) ≤ (↑k : Int) ∧ (↑k : Int) < (↑(6 : Nat) : Int)) ∧ b = b ∧ (List.drop (12 + Int.toNat (↑k : Int) * nat_lit 9 + nat_lit 7) (repC r D))[0]? = some T.und ∧ False)) (by kernel_rfl) ?_
    repeat' (first | exact rfl | exact Nat.le_of_ble_eq_true rfl | refine And.intro ?_ ?_ | intro _ | refine bsplit_mk (fun _ => ?_) (fun _ => ?_))
    all_goals first
      | exact hQ
      | (exfalso; rename_i h; have := of_decide_eq_false h; omega)
      | trace_state
theorem free_any (b : Nat) (r : RS) (D : Dr) (k : Nat) (gl : Glb) (ho : Own D r gl) (hl : lim r.v.ms) (Q : T → Obs → Glb → Prop) (hQ : Q (bool (Rep.free r k)) (obsR b r D) gl) : TCalls Try.prog 43 [.ptr 0 b 0, u8 k] (obsR b r D) gl Q := by
  have hin := in_any b r D hl
  have hh := thasG ho.tr k
  cases hi : Rep.inR r with
  | false =>
    rw [show Rep.free r k = false by unfold Rep.free; rw [hi]; rfl] at hQ
    rw [hi] at hin
    refine TCalls.of Try.func43 rfl (CanCall.of Try.func43 rfl (by decide)) [0] fun Γ => ?_
    refine run_sound (⟨fun | 1, 1 => .plainAt [0] (told (bool false) [0] (obsR b r D)) | _, _ => .no, [], fun  | _ => none⟩) 400 (B := (List.all (repC r D) noIx = true ∧ True) ∧ TCalls Try.prog (33 : Nat) [T.ptr (0 : Nat) b (0 : Nat)] [(b, Ob.cells (repC r D))] (fun x => none) (callPost (Hint.call false Unit (fun x => True) [(0 : Nat)] false (fun x => bool false) (fun x => obsR b r D) fun x => none_)) ∧ ∀ (a : Unit), True → (List.all (repC r D) noIx = true ∧ True) ∧ Q (T.v (Value.bool false)) [(b, Ob.cells (repC r D))] gl) (by kernel_rfl) ?_
    repeat' (first | exact rfl | exact Nat.le_of_ble_eq_true rfl | refine And.intro ?_ ?_ | intro _ | refine bsplit_mk (fun _ => ?_) (fun _ => ?_))
    all_goals first
      | exact hin _ (told_post rfl)
      | exact repC_plain _ _
      | exact True.intro
      | exact hQ
      | trace_state
  | true =>
    rw [hi] at hin
    by_cases hk : k < 6
    · rw [decide_eq_true hk, Bool.true_and] at hh
      cases hd : (r.P k).dr with
      | none =>
        have hdT := dT_none hd (D.g k)
        have e : Rep.free r k = (r.has k && (((r.P k).c.st : Nat) : Int) == 1) := by
          unfold Rep.free
          rw [hi, decide_eq_true hk, hd, show decide ((r.P k).c.st = 1) = ((((r.P k).c.st : Nat) : Int) == 1) by rw [Bool.eq_iff_iff]; simp only [decide_eq_true_eq, beq_iff_eq]; omega]
          simp
        rw [e] at hQ
        refine TCalls.of Try.func43 rfl (CanCall.of Try.func43 rfl (by decide)) [0] fun Γ => ?_
        refine run_sound (⟨fun | 1, 1 => .plainAt [0] (told (bool true) [0] (obsR b r D)) | 1, 12 => toldG (bool (r.has k)) [] [] gl | 1, 22 => .res (int (r.P k).c.st) | 1, 32 => .res (.v (.pointer none)) | _, _ => .no, [], fun  | _ => none⟩) 400 (B := (List.all (repC r D) noIx = true ∧ True) ∧ TCalls Try.prog 33 [T.ptr 0 b 0] [(b, Ob.cells (repC r D))] (fun x => none) (callPost (Hint.call false Unit (fun x => True) [0] false (fun x => bool true) (fun x => obsR b r D) fun x => none_)) ∧ ∀ (a : Unit), True → (List.all (repC r D) noIx = true ∧ True) ∧ bsplit (decide ((↑k : Int) < (6 : Int))) (b = b ∧ TCalls Try.prog 42 [T.gp (Dr.t D) 0, u8 k] [] gl (callPost (Hint.call false Unit (fun x => True) [] true (fun x => bool (RS.has r k)) (fun x => []) fun x => gl)) ∧ ∀ (a : Unit), True → bsplit (RS.has r k) (((0 : Int) ≤ (↑k : Int) ∧ (↑k : Int) < (↑(6 : Nat) : Int)) ∧ b = b ∧ (List.drop (12 + Int.toNat (↑k : Int) * nat_lit 9 + nat_lit 0 + nat_lit 6) (repC r D))[0]? = some (int (Cel.st (Plc.c (RS.P r k)))) ∧ bsplit ((↑(Cel.st (Plc.c (RS.P r k))) : Int) == (1 : Int)) (((0 : Int) ≤ (↑k : Int) ∧ (↑k : Int) < (↑(6 : Nat) : Int)) ∧ b = b ∧ (List.drop (12 + Int.toNat (↑k : Int) * nat_lit 9 + nat_lit 7) (repC r D))[0]? = some (T.v (Value.pointer none)) ∧ Q (bool true) [(b, Ob.cells (repC r D))] gl) (Q (bool false) [(b, Ob.cells (repC r D))] gl)) (Q (bool false) [(b, Ob.cells (repC r D))] gl)) (Q (bool false) [(b, Ob.cells (repC r D))] gl)) (by kernel_rfl) ?_
        repeat' (first | exact rfl | exact Nat.le_of_ble_eq_true rfl | refine And.intro ?_ ?_ | intro _ | refine bsplit_mk (fun _ => ?_) (fun _ => ?_))
        all_goals first
          | omega
          | exact hin _ (told_post rfl)
          | exact hh _ (toldG_post rfl)
          | exact repC_plain _ _
          | exact True.intro
          | (rename_i h1 h2; rw [h1, h2] at hQ; exact hQ)
          | (rename_i h1; rw [h1] at hQ; exact hQ)
          | (rename_i h1 _; rw [h1] at hQ; exact hQ)
          | (rcases six hk with rfl | rfl | rfl | rfl | rfl | rfl <;> rfl)
          | (rw [← hdT]; rcases six hk with rfl | rfl | rfl | rfl | rfl | rfl <;> rfl)
          | (exfalso; rename_i h; have := of_decide_eq_false h; omega)
          | trace_state
      | some d =>
        have hdT : dT (r.P k).dr (D.g k) = .gp (D.g k) 0 := dT_some hd _
        rw [show Rep.free r k = false by unfold Rep.free; rw [hd]; simp] at hQ
        refine TCalls.of Try.func43 rfl (CanCall.of Try.func43 rfl (by decide)) [0] fun Γ => ?_
        refine run_sound (⟨fun | 1, 1 => .plainAt [0] (told (bool true) [0] (obsR b r D)) | 1, 12 => toldG (bool (r.has k)) [] [] gl | 1, 22 => .res (int (r.P k).c.st) | 1, 32 => .res (.gp (D.g k) 0) | _, _ => .no, [], fun  | _ => none⟩) 400 (B := (List.all (repC r D) noIx = true ∧ True) ∧ TCalls Try.prog 33 [T.ptr 0 b 0] [(b, Ob.cells (repC r D))] (fun x => none) (callPost (Hint.call false Unit (fun x => True) [0] false (fun x => bool true) (fun x => obsR b r D) fun x => none_)) ∧ ∀ (a : Unit), True → (List.all (repC r D) noIx = true ∧ True) ∧ bsplit (decide ((↑k : Int) < (6 : Int))) (b = b ∧ TCalls Try.prog 42 [T.gp (Dr.t D) 0, u8 k] [] gl (callPost (Hint.call false Unit (fun x => True) [] true (fun x => bool (RS.has r k)) (fun x => []) fun x => gl)) ∧ ∀ (a : Unit), True → bsplit (RS.has r k) (((0 : Int) ≤ (↑k : Int) ∧ (↑k : Int) < (↑(6 : Nat) : Int)) ∧ b = b ∧ (List.drop (12 + Int.toNat (↑k : Int) * nat_lit 9 + nat_lit 0 + nat_lit 6) (repC r D))[0]? = some (int (Cel.st (Plc.c (RS.P r k)))) ∧ bsplit ((↑(Cel.st (Plc.c (RS.P r k))) : Int) == (1 : Int)) (((0 : Int) ≤ (↑k : Int) ∧ (↑k : Int) < (↑(6 : Nat) : Int)) ∧ b = b ∧ (List.drop (12 + Int.toNat (↑k : Int) * nat_lit 9 + nat_lit 7) (repC r D))[0]? = some (T.gp (Dr.g D k) 0) ∧ Q (bool false) [(b, Ob.cells (repC r D))] gl) (Q (bool false) [(b, Ob.cells (repC r D))] gl)) (Q (bool false) [(b, Ob.cells (repC r D))] gl)) (Q (bool false) [(b, Ob.cells (repC r D))] gl)) (by kernel_rfl) ?_
        repeat' (first | exact rfl | exact Nat.le_of_ble_eq_true rfl | refine And.intro ?_ ?_ | intro _ | refine bsplit_mk (fun _ => ?_) (fun _ => ?_))
        all_goals first
          | omega
          | exact hin _ (told_post rfl)
          | exact hh _ (toldG_post rfl)
          | exact repC_plain _ _
          | exact True.intro
          | exact hQ
          | (rcases six hk with rfl | rfl | rfl | rfl | rfl | rfl <;> rfl)
          | (rw [← hdT]; rcases six hk with rfl | rfl | rfl | rfl | rfl | rfl <;> rfl)
          | (exfalso; rename_i h; have := of_decide_eq_false h; omega)
          | trace_state
    · rw [show Rep.free r k = false by unfold Rep.free; rw [decide_eq_false hk]; simp] at hQ
      refine TCalls.of Try.func43 rfl (CanCall.of Try.func43 rfl (by decide)) [0] fun Γ => ?_
      refine run_sound (⟨fun | 1, 1 => .plainAt [0] (told (bool true) [0] (obsR b r D)) | _, _ => .no, [], fun  | _ => none⟩) 400 (B := (List.all (repC r D) noIx = true ∧ True) ∧ TCalls Try.prog 33 [T.ptr 0 b 0] [(b, Ob.cells (repC r D))] (fun x => none) (callPost (Hint.call false Unit (fun x => True) [0] false (fun x => bool true) (fun x => obsR b r D) fun x => none_)) ∧ ∀ (a : Unit), True → (List.all (repC r D) noIx = true ∧ True) ∧ bsplit (decide ((↑k : Int) < (6 : Int))) (b = b ∧ False) (Q (bool false) [(b, Ob.cells (repC r D))] gl)) (by kernel_rfl) ?_
      repeat' (first | exact rfl | exact Nat.le_of_ble_eq_true rfl | refine And.intro ?_ ?_ | intro _ | refine bsplit_mk (fun _ => ?_) (fun _ => ?_))
      all_goals first
        | exact hin _ (told_post rfl)
        | exact repC_plain _ _
        | exact True.intro
        | exact hQ
        | (exfalso; rename_i h; have := of_decide_eq_true h; omega)
        | trace_state
end X20
end Go.Proofs.Ytafcbipmmjegcaa.Vm
