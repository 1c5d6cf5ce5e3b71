/- Texts of this claim: RpL, RpM. -/
import Derived.Test.YtafcbipmmjegcaaMg15
import Derived.Test.YtafcbipmmjegcaaMg23
import Derived.Test.YtafcbipmmjegcaaMg24
namespace Go.Proofs.Ytafcbipmmjegcaa.Vm
open Go Go.RowKit
set_option maxRecDepth 100000
noncomputable abbrev kRpL0 (l : List Nat) : It := .code (sub (bd Try.f12) l)
noncomputable abbrev wRpL1 (Γ : Ctx) (Q : T → Obs → Glb → Prop) : List It → S → Prop := TWk Try.prog Γ (fin Try.prog Try.f12 [0] Q)
def plRpL0 : Nat → Option RPlan := fun | 5 => some ⟨[], [6], .take true [0,1,2,3,4] (.take false [8] (.one 5 (.one 6 (.take false [7] .done))))⟩ | _ => none
namespace X20
open Rep (Stp Wrd Cel Drv Plc RS Fm Ev setP setC)
open View (Mem VS)
open X5 (viewC lim mems othV hasV aheadV behindV clone_any clone_nil flat)
theorem clone_sl (l : List Mem) (hl : lim l) (Q : T → Obs → Glb → Prop) (hQ : Q (.sl 3 (mems l)) [] none_) : TCalls Try.prog 32 [.sl 3 (mems l)] [] none_ Q := by
 by_cases he : l = []
 ·subst he
  refine TCalls.post (clone_nil (fun r ob gl => r = .s0 ∧ ob = [] ∧ gl = none_) ⟨rfl, rfl, rfl⟩) ?_
  rintro r ob gl ⟨rfl, rfl, rfl⟩
  refine ⟨.sl 3 [], [], none_, Imp.slotR (ts := [.s0]) (j := 0) (t' := .sl 3 []) rfl (fun M v h => ?_), hQ⟩
  simp only [Rel] at h ⊢
  obtain ⟨A, h⟩ := h
  exact ⟨A, 0, h, ⟨Nat.le_refl _, by omega, fun _ => ⟨rfl, rfl⟩, fun a _ h => absurd h (by omega)⟩, by simp [El], fun _ _ _ => by simp only [RelE]⟩
 ·refine TCalls.postM (clone_any l hl (fun r ob gl => ∃ g cap, r = .sa 0 g 0 l.length cap ∧ ob = [(g, .cells (flat l ++ List.replicate ((cap - l.length) * 3) T.und))] ∧ gl = none_) (fun h => absurd h he) (fun h => absurd h he) (fun _ g cap _ _ => ⟨g, cap, rfl, rfl, rfl⟩)) ?_
  rintro r ob gl ⟨g, cap, rfl, rfl, rfl⟩
  refine ⟨.sl 3 (mems l), [], none_, (ImpM.slot (ts := [.sa 0 g 0 l.length cap]) (i := 0) (b := g) true 3 0 (mems l) rfl rfl (fun h => by cases h) (Row.fz_len (C := X5.memC) (fun _ => rfl) rfl rfl) (Row.fz_one (C := X5.memC) (fun _ => rfl) (fun _ => rfl) rfl rfl) (Row.fz_es (C := X5.memC) (fun _ => rfl) rfl rfl)).trans (Imp.toM (Imp.take 0)), hQ⟩
theorem complete_any (b : Nat) (r : RS) (D : Dr) (gl : Glb) (ho : Own D r gl) (Q : T → Obs → Glb → Prop) (hQ : Q (bool (Rep.complete r)) (obsR b r D) gl) : TCalls Try.prog 19 [.ptr 0 b 0] (obsR b r D) gl Q := by
 refine TCalls.of Try.func19 rfl (CanCall.of Try.func19 rfl (by decide)) [0] fun Γ => ?_
 let HH : Nat → Nat → Hint := fun | 1, 7 => toldG (bool (Rep.complete r)) [] [] gl | _, _ => .no
 exact run_sound ⟨HH, [], fun  | _ => none⟩ 400 (by kernel_rfl) (Yb b (Ya (tcompleteG ho.tr (HH 1 7).P (toldG_post rfl)) (Yu hQ)))
def obsT2 (b br bo : Nat) (r : RS) (D : Dr) (F : List Fm) (hf : Value) (E : List Ev) (he : Value) : Obs := [(b, .cells (repC r D)), (br, .cells [.v nilS, .v nilS]),
 (bo, .cells [.slx 34 3 (Row.aggs frC F) hf, .slx 5 4 (Row.aggs evC E) he]), (0, .room 34 70 (Row.aggs frC F).length hf), (0, .room 5 73 (Row.aggs evC E).length he)]
theorem tl_end (Γ : Ctx) (b br bo : Nat) (r : RS) (D : Dr) (F : List Fm) (hf : Value) (E : List Ev) (he : Value) (every replay : Nat) (lease : Bool) (gl : Glb) (Q : T → Obs → Glb → Prop) (hQ : Q (outT F E) (obsR b r D) gl) :
  wRpL1 Γ Q [kRpL0 [1,1,1,1,0,1,0], .blk 2, kRpL0 [1,1,1,1,1]] ⟨frame 52 [(0, .ptr 0 b 0), (1, int every), (2, int replay), (3, bool lease), (8, .ptr 1 br 0), (9, .ptr 2 bo 0), (41, u8 (6 : Nat))], obsT2 b br bo r D F hf E he, gl⟩ := by
 let HH : Nat → Nat → Hint := fun  | _, _ => .no
 exact run_sound ⟨HH, [], plRpL0⟩ 400 (by kernel_rfl) (Yb bo (Yk 2 br (Yb br hQ)))
theorem tickK_ne (r : RS) (k : Nat) (every replay : Nat) (lease : Bool) {j : Nat} (hj : j ≠ k) : (Rep.tickK r k every replay lease).1.P j = r.P j := by
 have hl : ∀ r : RS, (Rep.look r k).1.P j = r.P j := fun r => by
  unfold Rep.look
  split
  ·rfl
  ·split
   ·split <;> exact P_ne _ _ _ hj
   ·rfl
 have hb : ∀ r : RS, (Rep.beat r k every).1.P j = r.P j := fun r => by
  unfold Rep.beat
  split
  ·rfl
  ·exact P_ne _ _ _ hj
 unfold Rep.tickK
 split
 ·split
  ·exact (hb _).trans (hl _)
  ·exact hb _
 ·unfold Rep.stall
  split
  ·split
   ·split <;> exact P_ne _ _ _ hj
   ·exact P_ne _ _ _ hj
  ·rfl
theorem tickK_self (r : RS) (k : Nat) (every replay : Nat) (lease : Bool) : (Rep.tickK r k every replay lease).1.self = r.self ∧ (Rep.tickK r k every replay lease).1.life = r.life ∧ (Rep.tickK r k every replay lease).1.v = r.v ∧ (Rep.tickK r k every replay lease).1.has = r.has ∧ (Rep.tickK r k every replay lease).1.calls = r.calls := by
 have hb : ∀ r : RS, (Rep.beat r k every).1.self = r.self ∧ (Rep.beat r k every).1.life = r.life ∧ (Rep.beat r k every).1.v = r.v ∧ (Rep.beat r k every).1.has = r.has ∧ (Rep.beat r k every).1.calls = r.calls := fun r => by
  unfold Rep.beat
  split <;> exact ⟨rfl, rfl, rfl, rfl, rfl⟩
 unfold Rep.tickK
 split
 ·split
  ·obtain ⟨h1, h2, h3, h4, h5⟩ := hb (Rep.look r k).1
   obtain ⟨g1, g2, g3, g4, g5⟩ := look_self r k
   exact ⟨h1.trans g1, h2.trans g2, h3.trans g3, h4.trans g4, h5.trans g5⟩
  ·exact hb r
 ·unfold Rep.stall
  split
  ·split
   ·split <;> exact ⟨rfl, rfl, rfl, rfl, rfl⟩
   ·exact ⟨rfl, rfl, rfl, rfl, rfl⟩
  ·exact ⟨rfl, rfl, rfl, rfl, rfl⟩
theorem sent_len (r : RS) (k : Nat) (w : Wrd) : (Rep.sent r k w).length ≤ 2 := by
 unfold Rep.sent
 split <;> split <;> simp
theorem tickK_len (r : RS) (k : Nat) (every replay : Nat) (lease : Bool) : (Rep.tickK r k every replay lease).2.1.length ≤ (Rep.oth r).length + 2 ∧ (Rep.tickK r k every replay lease).2.2.length ≤ 1 := by
 have hb : ∀ r : RS, (Rep.beat r k every).2.length ≤ 2 := fun r => by
  unfold Rep.beat
  split
  ·simp
  ·show (if _ then _ else _ : List Fm).length ≤ 2
   split
   ·exact sent_len _ _ _
   ·simp
 obtain ⟨h1, h2⟩ := look_ev r k
 unfold Rep.tickK
 split
 ·split
  ·have := hb (Rep.look r k).1
   refine ⟨?_, h1⟩
   simp only [List.length_append]
   omega
  ·have := hb r
   exact ⟨by simp only; omega, by simp⟩
 ·refine ⟨?_, by simp⟩
  unfold Rep.stall
  split
  ·split
   ·split
    ·simp only; split <;> simp
    ·have := sent_len r k (r.P k).c.w; simp only; omega
   ·simp
  ·simp
def Bd (N : Nat) (r : RS) (i : Nat) : Prop := ∀ j, i ≤ j → j < 6 → (r.P j).age ≤ N ∧ ∀ d, (r.P j).dr = some d → d.tk ≤ N
theorem tl_loop (Γ : Ctx) (b br bo : Nat) (every replay : Nat) (lease : Bool) (Q : T → Obs → Glb → Prop) : ∀ (n i : Nat) (r : RS) (D : Dr) (F : List Fm) (hf : Value) (E : List Ev) (he : Value) (gl : Glb), i + n = 6 → Own D r gl → lim r.v.ms → (Rep.oth r).length ≤ 1000 → F.length + 2000 * n ≤ 100000 → E.length + n ≤ 1000 → Bd 999000 r i →
  (∀ D' gl', Own D' (Rep.tickL r every replay lease (List.range' i n)).1 gl' → Step gl D r gl' D' (Rep.tickL r every replay lease (List.range' i n)).1 → Q (outT (F ++ (Rep.tickL r every replay lease (List.range' i n)).2.1) (E ++ (Rep.tickL r every replay lease (List.range' i n)).2.2)) (obsR b (Rep.tickL r every replay lease (List.range' i n)).1 D') gl') →
  wRpL1 Γ Q [kRpL0 [1,1,1,1,0,1,0], .blk 2, kRpL0 [1,1,1,1,1]] ⟨frame 52 [(0, .ptr 0 b 0), (1, int every), (2, int replay), (3, bool lease), (8, .ptr 1 br 0), (9, .ptr 2 bo 0), (41, u8 i)], obsT2 b br bo r D F hf E he, gl⟩ := by
 intro n
 induction n with
 | zero =>
  intro i r D F hf E he gl hi ho hl ho5 hF hE hB hQ
  have hi : i = 6 := by omega
  subst hi
  have hQ := hQ D gl ho (Step.refl _ _ _)
  rw [show Rep.tickL r every replay lease (List.range' 6 0) = (r, [], []) from rfl, List.append_nil, List.append_nil] at hQ
  exact tl_end Γ b br bo r D F hf E he every replay lease gl Q hQ
 | succ n ih =>
  intro i r D F hf E he gl hi ho hl ho5 hF hE hB hQ
  have hw : IntKind.wrap .u8 ((i : Int) + 1) = ((i + 1 : Nat) : Int) := by rw [IntWalk.u8_in _ (by omega)]; omega
  have hBi := hB i (Nat.le_refl _) (by omega)
  have htk := tickK_any b bo r D F hf E he i (by omega) every replay lease gl ho hl (by omega) (by omega) (fun d hd => by have := hBi.2 d hd; omega) (by have := hBi.1; omega)
  obtain ⟨g1, g2, g3, g4, g5⟩ := tickK_self r i every replay lease
  have hlen := tickK_len r i every replay lease
  have nx := fun D' gl' hf' he' (h1 : Own D' (Rep.tickK r i every replay lease).1 gl') (h2 : Step gl D r gl' D' (Rep.tickK r i every replay lease).1) => ih (i + 1) (Rep.tickK r i every replay lease).1 D' (F ++ (Rep.tickK r i every replay lease).2.1) hf' (E ++ (Rep.tickK r i every replay lease).2.2) he' gl' (by omega) h1 (by rw [g3]; exact hl) (by unfold Rep.oth; rw [g1, g3]; exact ho5) (by simp; omega) (by simp; omega) (fun j hj hj6 => by rw [tickK_ne r i every replay lease (by omega)]; exact hB j (by omega) hj6) (fun D2 gl2 k1 k2 => by
   have := hQ D2 gl2
   rw [show List.range' i (n + 1) = i :: List.range' (i + 1) n from List.range'_succ] at this
   simp only [Rep.tickL, ← List.append_assoc] at this
   exact this k1 (Step.trans h2 k2))
  clear ih hQ
  generalize Rep.tickK r i every replay lease = o at *
  let HH : Nat → Nat → Hint := fun | 13, 5 => .plainAt [0] (.call false (Dr × Glb × Value × Value) (fun a => Own a.1 o.1 a.2.1 ∧ Step gl D r a.2.1 a.1 o.1) [0,2,3,4] true (fun _ => .tup []) (fun a => obsR b o.1 a.1 ++ obsO 1 bo (F ++ o.2.1) a.2.2.1 (E ++ o.2.2) a.2.2.2) (fun a => a.2.1)) | 14, 0 => .res (u8 (i + 1 : Nat)) | _, _ => .no
  exact run_sound ⟨HH, [((2, 11), ([0,1,2,3,8,9,41], 5))], plRpL0⟩ 400 (by kernel_rfl) (Ys (decide ((↑i : Int) < (6 : Int))) (fun Z0 => (Ya (Ya (repC_plain r D) Yt) (Ya (htk (HH 13 5).P fun D' gl' hf' he' h1 h2 => ⟨(D', gl', hf', he'), ⟨h1, h2⟩, rfl, rfl, Nat.le_of_ble_eq_true rfl, fun _ => rfl⟩) (fun (Z1 : Dr × Glb × Value × Value) => (fun (Z2 : Own Z1.fst o.fst Z1.snd.fst ∧ Step gl D r Z1.snd.fst Z1.fst o.fst) => (Ya (Ya (repC_plain o.fst Z1.fst) Yt) (Ya (congrArg u8 hw) (nx Z1.fst Z1.snd.fst Z1.snd.snd.fst Z1.snd.snd.snd Z2.1 Z2.2)))))))) (fun Z3 => (Yb bo (Yk 2 br (Yb br (show Q (T.agg [T.sl 34 (List.map (fun x => T.agg (frC x)) F), T.sl 5 (List.map (fun x => T.agg (evC x)) E)]) [(b, Ob.cells (repC r D))] gl by exfalso; have := of_decide_eq_false Z3; omega))))))
theorem range6 : ([0,1,2,3,4,5] : List Nat) = List.range' 0 6 := rfl
theorem tl0 (Γ : Ctx) (b br bo : Nat) (every replay : Nat) (lease : Bool) (Q : T → Obs → Glb → Prop) (r : RS) (D : Dr) (F : List Fm) (hf : Value) (E : List Ev) (he : Value) (gl : Glb) (ho : Own D r gl) (hl : lim r.v.ms) (ho5 : (Rep.oth r).length ≤ 1000) (hF : F.length ≤ 80000) (hE : E.length ≤ 900) (hB : Bd 999000 r 0)
  (hQ : ∀ D' gl', Own D' (Rep.tickL r every replay lease [0,1,2,3,4,5]).1 gl' → Step gl D r gl' D' (Rep.tickL r every replay lease [0,1,2,3,4,5]).1 → Q (outT (F ++ (Rep.tickL r every replay lease [0,1,2,3,4,5]).2.1) (E ++ (Rep.tickL r every replay lease [0,1,2,3,4,5]).2.2)) (obsR b (Rep.tickL r every replay lease [0,1,2,3,4,5]).1 D') gl') :
  wRpL1 Γ Q [kRpL0 [1,1,1,1]] ⟨frame 52 [(0, .ptr 0 b 0), (1, int every), (2, int replay), (3, bool lease), (8, .ptr 1 br 0), (9, .ptr 2 bo 0)], obsT2 b br bo r D F hf E he, gl⟩ := by
 rw [range6] at hQ
 have lp := tl_loop Γ b br bo every replay lease Q 6 0 r D F hf E he gl rfl ho hl ho5 (by omega) (by omega) hB hQ
 clear hQ
 let HH : Nat → Nat → Hint := fun  | _, _ => .no
 exact run_sound ⟨HH, [((2, 11), ([0,1,2,3,8,9,41], 5))], plRpL0⟩ 400 (by kernel_rfl) lp
def asks (r : RS) (l : List (Nat × Nat)) : List Fm := l.map fun n => Rep.fr r 4 n.2 n.1
theorem nd_loop (Γ : Ctx) (b br bo : Nat) (every replay : Nat) (lease : Bool) (r : RS) (D : Dr) (E : List Ev) (he : Value) (gl : Glb) (N : List (Nat × Nat)) (hN : N.length ≤ 1000) (Q : T → Obs → Glb → Prop)
  (hend : ∀ hf, wRpL1 Γ Q [kRpL0 [1,1,1,1]] ⟨frame 52 [(0, .ptr 0 b 0), (1, int every), (2, int replay), (3, bool lease), (8, .ptr 1 br 0), (9, .ptr 2 bo 0)], obsT2 b br bo r D (asks r N) hf E he, gl⟩) :
  ∀ (x d : List (Nat × Nat)) (i : Int) (hf : Value), N = d ++ x → i = d.length →
  wRpL1 Γ Q [kRpL0 [1,1,1,0,1,0,1,0], .blk 0, kRpL0 [1,1,1,1]] ⟨frame 52 [(0, .ptr 0 b 0), (1, int every), (2, int replay), (3, bool lease), (8, .ptr 1 br 0), (9, .ptr 2 bo 0), (26, .sl 2 (Row.aggs neC N)), (27, int N.length), (28, int i)], obsT2 b br bo r D (asks r d) hf E he, gl⟩ := by
 intro x
 induction x with
 | nil =>
  intro d i hf h1 hi
  have hLi : (N.length : Int) = i := by rw [h1, hi]; simp
  have hend := hend hf
  rw [show d = N by simp [h1]]
  clear h1
  generalize Row.aggs neC N = U at *
  generalize (N.length : Int) = n at *
  subst hLi
  generalize asks r N = G at *
  let HH : Nat → Nat → Hint := fun | 7, 0 => .res (.agg (neC (0, 0))) | 8, 5 => .no | 8, 7 => .no | _, _ => .no
  exact run_sound ⟨HH, [((2, 6), ([0,1,2,3,8,9,26,27,28], 5)), ((0, 10), ([0,1,2,3,8,9], 5))], plRpL0⟩ 400 (by kernel_rfl) (Ys (decide (n < n)) (fun Z0 => (Ya (show (0 : Int) ≤ n by omega) (Ya (show U[Int.toNat n]? = some (T.agg [u8 (0, 0).fst, u8 (0, 0).snd]) by exfalso; simp at *; done) (fun (Z1 : Nat) => (Yk 2 Z1 (Yb Z1 (Yb Z1 (show False by exfalso; simp at *; done)))))))) (fun Z2 => hend))
 | cons y x ih =>
  intro d i hf h1 hi
  have hLi : i < (N.length : Int) := by rw [h1, hi]; simp; omega
  have hw : IntKind.wrap .i64 (i + 1) = i + 1 := wrap_i64 (by omega) (by omega)
  have e1 : (Row.aggs neC N)[i.toNat]? = some (.agg (neC y)) := Row.aggs_at (by rw [h1, hi]; simp)
  have l1 : (Row.aggs neC N).length = N.length := Row.aggs_len N
  have hl : (asks r d).length + 1 ≤ 1000000 := by
   have : N.length = d.length + (x.length + 1) := by rw [h1]; simp
   simp [asks]; omega
  have nx := fun hf => ih (d ++ [y]) (i + 1) hf (by simp [h1]) (by simp [hi])
  rw [show asks r (d ++ [y]) = asks r d ++ [Rep.fr r 4 y.2 y.1] by simp [asks]] at nx
  clear ih h1 hend
  obtain ⟨y1, y2⟩ := y
  generalize Row.aggs neC N = U at *
  generalize (N.length : Int) = n at *
  generalize asks r d = G at *
  let HH : Nat → Nat → Hint := fun | 7, 0 => .res (.agg (neC (y1, y2))) | 8, 5 => frameH b r D 4 y2 y1 | 8, 7 => sendH 2 bo G E he (Rep.fr r 4 y2 y1) | 9, 0 => .res (int (i + 1)) | _, _ => .no
  exact run_sound ⟨HH, [((2, 6), ([0,1,2,3,8,9,26,27,28], 5))], plRpL0⟩ 400 (by kernel_rfl) (Ys (decide (i < n)) (fun Z0 => (Ya (show (0 : Int) ≤ i by omega) (Ya e1 (fun (Z1 : Nat) => (Yk 2 Z1 (Yb Z1 (Yb Z1 (Ya (Ya (repC_plain r D) Yt) (Ya (frame_any b r D 4 y2 y1 (HH 8 5).P (told_post rfl)) (Yu (Ya (Ya (repC_plain r D) Yt) (Ya (send1 bo G hf E he (Rep.fr r 4 y2 y1) hl) (fun (Z2 : Value) => (fun (Z3 : True) => (Ya (congrArg int hw) (nx Z2)))))))))))))))) (fun Z4 => (show False by exfalso; have := of_decide_eq_false Z4; omega)))
theorem imp_out2 {ts : List T} {gl : Glb} (x y : Nat × Ob) (bo : Nat) : Imp ts [x, y, (bo, .cells [.v nilS, .v nilS])] gl ts [x, y, (bo, .cells [.slx 34 3 [] nilS, .slx 5 4 [] nilS]), (0, .room 34 70 0 nilS), (0, .room 5 73 0 nilS)] gl := by
 refine (Imp.room 34 70).trans ?_
 refine (Imp.room 5 73).trans ?_
 refine (Imp.cell (i := 2) (b := bo) (j := 0) 34 3 rfl rfl).trans ?_
 exact Imp.cell (i := 2) (b := bo) (j := 1) (cs := [.slx 34 3 [] nilS, .v nilS]) 5 4 rfl rfl
theorem needs_len (r : RS) : (Rep.needs r).length ≤ 6 := by
 unfold Rep.needs
 split
 ·simp
 ·rw [List.length_map]; exact Nat.le_trans (List.length_filter_le _ _) (by simp)
theorem needs_nl (r : RS) : (if Rep.oth r = [] then [] else nl r.has r.calls (Rep.oth r) 0 6) = Rep.needs r := by
 by_cases h : Rep.oth r = []
 ·rw [if_pos h]; unfold Rep.needs; rw [if_pos h]
 ·rw [if_neg h, nl_needs r h]
theorem tick2 (Γ : Ctx) (b br bo : Nat) (every replay : Nat) (lease : Bool) (Q : T → Obs → Glb → Prop) (r : RS) (D : Dr) (gl : Glb) (ho : Own D r gl) (hl : lim r.v.ms) (ho5 : (Rep.oth r).length ≤ 1000) (hB : Bd 999000 r 0) (hc : r.calls ≤ 999000)
  (hQ : ∀ D' gl', Own D' (Rep.tick r every replay lease).1 gl' → Step gl D r gl' D' (Rep.tick r every replay lease).1 → Q (outT (Rep.tick r every replay lease).2.1 (Rep.tick r every replay lease).2.2) (obsR b (Rep.tick r every replay lease).1 D') gl') :
  wRpL1 Γ Q [kRpL0 [1,1]] ⟨frame 52 [(0, .ptr 0 b 0), (1, int every), (2, int replay), (3, bool lease), (8, .ptr 1 br 0), (9, .ptr 2 bo 0)], obsT2 b br bo r D [] nilS [] nilS, gl⟩ := by
 have hin := in_any b r D hl
 cases hi : Rep.inR r with
 | false =>
  rw [show Rep.tick r every replay lease = (r, [], []) by unfold Rep.tick; rw [hi]; rfl] at hQ
  have hQ := hQ D gl ho (Step.refl _ _ _)
  rw [hi] at hin
  let HH : Nat → Nat → Hint := fun | 2, 1 => .plainAt [0] (told (bool false) [0] (obsR b r D)) | _, _ => .no
  exact run_sound ⟨HH, [], plRpL0⟩ 400 (by kernel_rfl) (Ya (Ya (repC_plain r D) Yt) (Ya (hin (HH 2 1).P (told_post rfl)) (Yu (Ya (Ya (repC_plain r D) Yt) (Yb bo (Yk 2 br (Yb br hQ)))))))
 | true =>
  rw [hi] at hin
  have hcp := complete_any b r D gl ho
  cases hcm : Rep.complete r with
  | true =>
   rw [hcm] at hcp
   rw [show Rep.tick r every replay lease = Rep.tickL r every replay lease [0,1,2,3,4,5] by unfold Rep.tick Rep.asked; rw [hi, hcm]; rfl] at hQ
   have lp := tl0 Γ b br bo every replay lease Q r D [] nilS [] nilS gl ho hl ho5 (by simp) (by simp) hB hQ
   clear hQ
   let HH : Nat → Nat → Hint := fun | 2, 1 => .plainAt [0] (told (bool true) [0] (obsR b r D)) | 4, 1 => .plainAt [0] (toldG (bool true) [0] (obsR b r D) gl) | _, _ => .no
   exact run_sound ⟨HH, [((0, 10), ([0,1,2,3,8,9], 5))], plRpL0⟩ 400 (by kernel_rfl) (Ya (Ya (repC_plain r D) Yt) (Ya (hin (HH 2 1).P (told_post rfl)) (Yu (Ya (Ya (repC_plain r D) Yt) (Ya (Ya (repC_plain r D) Yt) (Ya (hcp (HH 4 1).P (toldG_post rfl)) (Yu (Ya (Ya (repC_plain r D) Yt) lp))))))))
  | false =>
   rw [hcm] at hcp
   obtain ⟨r1, hr1⟩ : ∃ r1, r1 = { r with calls := r.calls + 1 } := ⟨_, rfl⟩
   obtain ⟨gl1, hgl1⟩ : ∃ gl1, gl1 = setO gl D.t (.cells (trC r.has (r.calls + 1))) := ⟨_, rfl⟩
   have ho1 : Own D r1 gl1 ∧ Step gl D r gl1 D r1 := by rw [hr1, hgl1]; exact ho.trans_ r.has (r.calls + 1)
   have hnd := tneedsG ho.tr (Rep.oth r) (Nat.le_trans (X5.othV_len _ _) hl) (by omega)
   rw [needs_nl, ← hgl1] at hnd
   rw [show Rep.tick r every replay lease = ((Rep.tickL r1 every replay lease [0,1,2,3,4,5]).1, asks r1 (Rep.needs r) ++ (Rep.tickL r1 every replay lease [0,1,2,3,4,5]).2.1, (Rep.tickL r1 every replay lease [0,1,2,3,4,5]).2.2) by unfold Rep.tick Rep.asked; rw [hi, hcm, hr1]; rfl] at hQ
   have hrep : repC r D = repC r1 D := by rw [hr1]; rfl
   have hnl := needs_len r
   have e1 : Rep.oth r1 = Rep.oth r := by rw [hr1]; rfl
   have lp := nd_loop Γ b br bo every replay lease r1 D [] nilS gl1 (Rep.needs r) (by omega) Q (fun hf => tl0 Γ b br bo every replay lease Q r1 D (asks r1 (Rep.needs r)) hf [] nilS gl1 ho1.1 (by rw [hr1]; exact hl) (by rw [e1]; exact ho5) (by simp [asks]; omega) (by simp) (by rw [hr1]; exact hB) (fun D' gl' h1 h2 => hQ D' gl' h1 (Step.trans ho1.2 h2))) (Rep.needs r) [] 0 nilS rfl rfl
   rw [show asks r1 [] = [] from rfl] at lp
   simp only [obsT2] at lp
   rw [← hrep, ← Row.aggs_len (C := neC) (Rep.needs r)] at lp
   have hot := oth_any b r D hl
   clear hQ
   generalize Row.aggs neC (Rep.needs r) = U at *
   let HH : Nat → Nat → Hint := fun | 2, 1 => .plainAt [0] (told (bool true) [0] (obsR b r D)) | 4, 1 => .plainAt [0] (toldG (bool false) [0] (obsR b r D) gl) | 5, 5 => othH b r D | 5, 6 => toldG (.sl 2 U) [] [] gl1 | _, _ => .no
   exact run_sound ⟨HH, [((2, 6), ([0,1,2,3,8,9,26,27,28], 5))], fun | 5 => some ⟨[], [5,6], .take false [0,1,2,4,8] (.two 3 5 (.one 5 (.one 6 (.take false [7] .done))) (.one 3 (.one 6 (.take false [7] .done))))⟩ | n => plRpL0 n⟩ 400 (by kernel_rfl) (Ya (Ya (repC_plain r D) Yt) (Ya (hin (HH 2 1).P (told_post rfl)) (Yu (Ya (Ya (repC_plain r D) Yt) (Ya (Ya (repC_plain r D) Yt) (Ya (hcp (HH 4 1).P (toldG_post rfl)) (Yu (Ya (Ya (repC_plain r D) Yt) (Ya (Yb b (Ya (hot (HH 5 5).P (told_post rfl)) (Yu (Ya (hnd (HH 5 6).P (toldG_post rfl)) (Yu lp))))) (Ya (hot (HH 5 5).P (told_post rfl)) (Yu (Yb b (Ya (hnd (HH 5 6).P (toldG_post rfl)) (Yu lp))))))))))))))
theorem tick_any (b : Nat) (every replay : Nat) (lease : Bool) (Q : T → Obs → Glb → Prop) (r : RS) (D : Dr) (gl : Glb) (ho : Own D r gl) (hl : lim r.v.ms) (ho5 : (Rep.oth r).length ≤ 1000) (hB : Bd 999000 r 0) (hc : r.calls ≤ 999000)
  (hQ : ∀ D' gl', Own D' (Rep.tick r every replay lease).1 gl' → Step gl D r gl' D' (Rep.tick r every replay lease).1 → Q (outT (Rep.tick r every replay lease).2.1 (Rep.tick r every replay lease).2.2) (obsR b (Rep.tick r every replay lease).1 D') gl') :
  TCalls Try.prog 12 [.ptr 0 b 0, int every, int replay, bool lease] (obsR b r D) gl Q := by
 have lp : ∀ Γ br bo, wRpL1 Γ Q [kRpL0 [1,1]] ⟨frame 52 [(0, .ptr 0 b 0), (1, int every), (2, int replay), (3, bool lease), (8, .ptr 1 br 0), (9, .ptr 2 bo 0)], [(b, .cells (repC r D)), (br, .cells [.v nilS, .v nilS]), (bo, .cells [.v nilS, .v nilS])], gl⟩ := fun Γ br bo =>
  TWk.imp (s' := ⟨_, obsT2 b br bo r D [] nilS [] nilS, gl⟩) (tick2 Γ b br bo every replay lease Q r D gl ho hl ho5 hB hc hQ) (imp_out2 (b, .cells (repC r D)) (br, .cells [.v nilS, .v nilS]) bo)
 clear hQ
 refine TCalls.of Try.func12 rfl (CanCall.of Try.func12 rfl (by decide)) [0] fun Γ => ?_
 let HH : Nat → Nat → Hint := fun  | _, _ => .no
 exact run_sound ⟨HH, [((0, 2), ([0,1,2,3,8,9], 3))], plRpL0⟩ 400 (by kernel_rfl) (fun (Z0 : Nat) => (fun (Z1 : Nat) => (lp Γ Z0 Z1)))
end X20
end Go.Proofs.Ytafcbipmmjegcaa.Vm
namespace Go.Proofs.Ytafcbipmmjegcaa.Vm
open Go Go.RowKit
set_option maxRecDepth 100000
noncomputable abbrev kRpM0 (l : List Nat) : It := .code (sub (bd Try.f10) l)
noncomputable abbrev wRpM1 (Γ : Ctx) (Q : T → Obs → Glb → Prop) : List It → S → Prop := TWk Try.prog Γ (fin Try.prog Try.f10 [0] Q)
def plRpM0 : Nat → Option RPlan := fun | 3 => some ⟨[0], [13], .take true [0,1,2,3,4,5,6,7,8,9,10,11] (.one 12 (.one 13 (.take false [14] .done)))⟩ | _ => none
namespace X20
open Rep (Stp Wrd Cel Drv Plc RS Fm Ev setP setC)
open View (Mem VS)
open X5 (viewC lim mems othV hasV aheadV behindV)
def obsE (b bv br bo : Nat) (r : RS) (D : Dr) (v : VS) (F : List Fm) (hf : Value) (E : List Ev) (he : Value) : Obs := [(b, .cells (repC r D)), (bv, .cells (viewC v)), (br, .cells [.v nilS, .v nilS]),
 (bo, .cells [.slx 34 4 (Row.aggs frC F) hf, .slx 5 5 (Row.aggs evC E) he]), (0, .room 34 70 (Row.aggs frC F).length hf), (0, .room 5 73 (Row.aggs evC E).length he)]
theorem en_end (Γ : Ctx) (b bv br bo : Nat) (r : RS) (D : Dr) (v : VS) (F : List Fm) (hf : Value) (E : List Ev) (he : Value) (gl : Glb) (Q : T → Obs → Glb → Prop) (hQ : Q (outT F E) (obsR b r D) gl) :
  wRpM1 Γ Q [kRpM0 [1,1,1,1,1,0,1,0], .blk 0, kRpM0 [1,1,1,1,1,1]] ⟨frame 42 [(0, .ptr 0 b 0), (4, .ptr 2 br 0), (5, .ptr 3 bo 0), (19, u8 (6 : Nat))], obsE b bv br bo r D v F hf E he, gl⟩ := by
 let HH : Nat → Nat → Hint := fun _ _ => .no
 exact run_sound ⟨HH, [], fun _ => none⟩ 400 (by kernel_rfl) (Yb bo (Yk 2 br (Yb br hQ)))
theorem en12 (Γ : Ctx) (b bv br bo : Nat) (r : RS) (D : Dr) (v : VS) (F : List Fm) (hf : Value) (E : List Ev) (he : Value) (i : Nat) (hi : i < 6) (d : Drv) (hd : (r.P i).dr = some d) (gl : Glb) (ho : Own D r gl) (hl : lim r.v.ms) (hF : F.length + 2 ≤ 1000000) (Q : T → Obs → Glb → Prop)
  (nx : ∀ hf', wRpM1 Γ Q [kRpM0 [1,1,1,1,1,0,1,0], .blk 0, kRpM0 [1,1,1,1,1,1]] ⟨frame 42 [(0, .ptr 0 b 0), (4, .ptr 2 br 0), (5, .ptr 3 bo 0), (19, u8 (i + 1 : Nat))], obsE b bv br bo r D v (F ++ Rep.sent r i d.w) hf' E he, gl⟩) :
  wRpM1 Γ Q [kRpM0 [1,1,1,1,1,0,1,0,0,1,1,0,0,1,1,1,0,1], .blk 1, kRpM0 [1,1,1,1,1,0,1,0,0,1,1,1], kRpM0 [1,1,1,1,1,0,1,0], .blk 0, kRpM0 [1,1,1,1,1,1]] ⟨frame 42 [(0, .ptr 0 b 0), (4, .ptr 2 br 0), (5, .ptr 3 bo 0), (6, u8 i), (19, u8 i)], obsE b bv br bo r D v F hf E he, gl⟩ := by
 have hs := sendout_any b bo r D F hf E he i hi d hd gl ho hl hF
 have hw : IntKind.wrap .u8 ((i : Int) + 1) = ((i + 1 : Nat) : Int) := by rw [IntWalk.u8_in _ (by omega)]; omega
 generalize F ++ Rep.sent r i d.w = G at *
 let HH : Nat → Nat → Hint := fun | 12, 2 => .plainAt [0] (.call false Value (fun _ => True) [0,3,4,5] true (fun _ => .tup []) (fun hf => obsR b r D ++ obsO 1 bo G hf E he) (fun _ => gl)) | 13, 0 => .res (u8 (i + 1 : Nat)) | _, _ => .no
 exact run_sound ⟨HH, [((2, 7), ([0,4,5,19], 6))], fun  | _ => none⟩ 400 (by kernel_rfl) (Ya (Ya (repC_plain r D) Yt) (Ya (hs (HH 12 2).P fun v => ⟨v, trivial, rfl, rfl, Nat.le_of_ble_eq_true rfl, fun _ => rfl⟩) (fun (Z0 : Value) => (fun (Z1 : True) => (Ya (Ya (repC_plain r D) Yt) (Ya (congrArg u8 hw) (nx Z0)))))))
theorem own_again {D : Dr} {r : RS} {gl : Glb} (h : Own D r gl) {k : Nat} (hk : k < 6) {d : Drv} (hd : (r.P k).dr = some d) (m : Nat) (hm : gl m = none) (es : Array MapEntry) (ck : Nat) :
  Own { D with m := Rep.put D.m k m } (setP r k { r.P k with dr := some (Rep.newD d.w d.own) }) (setDr gl (D.g k) m (Rep.newD d.w d.own) es ck) ∧ Step gl D r (setDr gl (D.g k) m (Rep.newD d.w d.own) es ck) { D with m := Rep.put D.m k m } (setP r k { r.P k with dr := some (Rep.newD d.w d.own) }) :=
 h.turn hk hd _ _ rfl m es ck (.inr hm)
theorem again_self (r : RS) (k : Nat) : (Rep.again r k).1.self = r.self ∧ (Rep.again r k).1.life = r.life ∧ (Rep.again r k).1.v = r.v ∧ (Rep.again r k).1.has = r.has ∧ (Rep.again r k).1.calls = r.calls := by
 unfold Rep.again
 split
 ·exact ⟨rfl, rfl, rfl, rfl, rfl⟩
 ·split <;> exact ⟨rfl, rfl, rfl, rfl, rfl⟩
theorem en_loop (Γ : Ctx) (b bv br bo : Nat) (v : VS) (E : List Ev) (he : Value) (Q : T → Obs → Glb → Prop) : ∀ (n i : Nat) (r : RS) (D : Dr) (F : List Fm) (hf : Value) (gl : Glb), i + n = 6 → Own D r gl → lim r.v.ms → F.length + 2 * n ≤ 100000 →
  (∀ D' gl' , Own D' (Rep.againL r (List.range' i n)).1 gl' → Step gl D r gl' D' (Rep.againL r (List.range' i n)).1 → Q (outT (F ++ (Rep.againL r (List.range' i n)).2) E) (obsR b (Rep.againL r (List.range' i n)).1 D') gl') →
  wRpM1 Γ Q [kRpM0 [1,1,1,1,1,0,1,0], .blk 0, kRpM0 [1,1,1,1,1,1]] ⟨frame 42 [(0, .ptr 0 b 0), (4, .ptr 2 br 0), (5, .ptr 3 bo 0), (19, u8 i)], obsE b bv br bo r D v F hf E he, gl⟩ := by
 intro n
 induction n with
 | zero =>
  intro i r D F hf gl hi ho hl hF hQ
  have hi : i = 6 := by omega
  subst hi
  have hQ := hQ D gl ho (Step.refl _ _ _)
  rw [show Rep.againL r (List.range' 6 0) = (r, []) from rfl, List.append_nil] at hQ
  exact en_end Γ b bv br bo r D v F hf E he gl Q hQ
 | succ n ih =>
  intro i r D F hf gl hi ho hl hF hQ
  have hi6 : i < 6 := by omega
  have hw : IntKind.wrap .u8 ((i : Int) + 1) = ((i + 1 : Nat) : Int) := by rw [IntWalk.u8_in _ (by omega)]; omega
  have hin := in_any b r D hl
  have hag : ∀ x : RS × List Fm, Rep.again r i = x → Rep.againL r (List.range' i (n + 1)) = ((Rep.againL x.1 (List.range' (i + 1) n)).1, x.2 ++ (Rep.againL x.1 (List.range' (i + 1) n)).2) := fun x hx => by
   rw [show List.range' i (n + 1) = i :: List.range' (i + 1) n from List.range'_succ, Rep.againL, hx]
  cases hd : (r.P i).dr with
  | none =>
   have hdT := dT_none hd (D.g i)
   rw [hag (r, []) (by unfold Rep.again; rw [hd])] at hQ
   have nx := ih (i + 1) r D F hf gl (by omega) ho hl (by omega) (fun D' gl' h1 h2 => by have := hQ D' gl' h1 h2; simpa only [List.nil_append] using this)
   clear ih hQ hag
   let HH : Nat → Nat → Hint := fun | 9, 6 => .res (.v (.pointer none)) | 13, 0 => .res (u8 (i + 1 : Nat)) | _, _ => .no
   exact run_sound ⟨HH, [((2, 7), ([0,4,5,19], 6))], fun  | _ => none⟩ 400 (by kernel_rfl) (Ys (decide ((↑i : Int) < (6 : Int))) (fun Z0 => (Yi (↑i : Int) 6 (by omega) (Yb b (Ya (show (List.drop (12 + Int.toNat (↑i : Int) * nat_lit 9 + nat_lit 7) (repC r D))[0]? = some (T.v (Value.pointer none)) by rw [← hdT]; rcases six hi6 with rfl|rfl|rfl|rfl|rfl|rfl <;> rfl) (Ya (congrArg u8 hw) nx))))) (fun Z1 => (Yb bo (Yk 2 br (Yb br (show Q (T.agg [T.sl 34 (List.map (fun x => T.agg (frC x)) F), T.sl 5 (List.map (fun x => T.agg (evC x)) E)]) [(b, Ob.cells (repC r D))] gl by exfalso; have := of_decide_eq_false Z1; omega))))))
  | some d =>
   have hdT : dT (r.P i).dr (D.g i) = .gp (D.g i) 0 := dT_some hd _
   have hle := ho.dr i hi6 d hd
   cases hir : Rep.inR r with
   | false =>
    rw [hir] at hin
    rw [hag (r, []) (by unfold Rep.again; rw [hd, hir]; rfl)] at hQ
    have nx := ih (i + 1) r D F hf gl (by omega) ho hl (by omega) (fun D' gl' h1 h2 => by have := hQ D' gl' h1 h2; simpa only [List.nil_append] using this)
    clear ih hQ hag
    let HH : Nat → Nat → Hint := fun | 9, 6 => .res (.gp (D.g i) 0) | 10, 4 => .plainAt [0] (told (bool false) [0] (obsR b r D)) | 13, 0 => .res (u8 (i + 1 : Nat)) | _, _ => .no
    exact run_sound ⟨HH, [((2, 7), ([0,4,5,19], 6))], fun  | _ => none⟩ 400 (by kernel_rfl) (Ys (decide ((↑i : Int) < (6 : Int))) (fun Z0 => (Yi (↑i : Int) 6 (by omega) (Yb b (Ya (show (List.drop (12 + Int.toNat (↑i : Int) * nat_lit 9 + nat_lit 7) (repC r D))[0]? = some (T.gp (D.g i) 0) by rw [← hdT]; rcases six hi6 with rfl|rfl|rfl|rfl|rfl|rfl <;> rfl) (Ya (Ya (repC_plain r D) Yt) (Ya (hin (HH 10 4).P (told_post rfl)) (Yu (Ya (Ya (repC_plain r D) Yt) (Ya (congrArg u8 hw) nx))))))))) (fun Z1 => (Yb bo (Yk 2 br (Yb br (show Q (T.agg [T.sl 34 (List.map (fun x => T.agg (frC x)) F), T.sl 5 (List.map (fun x => T.agg (evC x)) E)]) [(b, Ob.cells (repC r D))] gl by exfalso; have := of_decide_eq_false Z1; omega))))))
   | true =>
    rw [hir] at hin
    obtain ⟨r1, hr1⟩ : ∃ r1, r1 = setP r i { r.P i with dr := some (Rep.newD d.w d.own) } := ⟨_, rfl⟩
    have ho1 := fun m es ck hm => own_again ho hi6 hd m hm es ck
    rw [← hr1] at ho1
    rw [hag (r1, Rep.sent r i d.w) (by unfold Rep.again; rw [hd, hir, hr1]; rfl)] at hQ
    have hrep : repC r D = repC r1 D := by rw [hr1]; exact (repC_turn r D i d _ hd).symm
    have nx : ∀ m es ck, gl m = none → wRpM1 Γ Q [kRpM0 [1,1,1,1,1,0,1,0,0,1,1,0,0,1,1,1,0,1], .blk 1, kRpM0 [1,1,1,1,1,0,1,0,0,1,1,1], kRpM0 [1,1,1,1,1,0,1,0], .blk 0, kRpM0 [1,1,1,1,1,1]] ⟨frame 42 [(0, .ptr 0 b 0), (4, .ptr 2 br 0), (5, .ptr 3 bo 0), (6, u8 i), (19, u8 i)], obsE b bv br bo r D v F hf E he, setDr gl (D.g i) m (Rep.newD d.w d.own) es ck⟩ := fun m es ck hm => by
     have h12 := en12 Γ b bv br bo r1 { D with m := Rep.put D.m i m } v F hf E he i hi6 (Rep.newD d.w d.own) (by rw [hr1, P_at]) _ (ho1 m es ck hm).1 (by rw [hr1]; exact hl) (by omega) Q fun hf' => ih (i + 1) r1 { D with m := Rep.put D.m i m } (F ++ Rep.sent r1 i (Rep.newD d.w d.own).w) hf' _ (by omega) (ho1 m es ck hm).1 (by rw [hr1]; exact hl) (by have := sent_len r1 i (Rep.newD d.w d.own).w; simp; omega) fun D' gl' h1 h2 => by
       have := hQ D' gl' h1 (Step.trans (ho1 m es ck hm).2 h2)
       rw [show Rep.sent r1 i (Rep.newD d.w d.own).w = Rep.sent r i d.w by rw [hr1]; rfl]
       rwa [← List.append_assoc] at this
     simp only [obsE] at h12 ⊢
     rw [hrep]
     exact h12
    clear ih hQ hag
    let HH : Nat → Nat → Hint := fun | 9, 6 => .res (.gp (D.g i) 0) | 10, 4 => .plainAt [0] (told (bool true) [0] (obsR b r D)) | 11, 1 => .call false (Nat × Array MapEntry × Nat) (fun a => gl a.1 = none) [] true (fun _ => .tup []) (fun _ => []) (fun a => setDr gl (D.g i) a.1 (Rep.newD d.w d.own) a.2.1 a.2.2) | _, _ => .no
    exact run_sound ⟨HH, [((0, 12), ([0,4,5,6,19], 6))], fun  | _ => none⟩ 400 (by kernel_rfl) (Ys (decide ((↑i : Int) < (6 : Int))) (fun Z0 => (Yi (↑i : Int) 6 (by omega) (Yb b (Ya (show (List.drop (12 + Int.toNat (↑i : Int) * nat_lit 9 + nat_lit 7) (repC r D))[0]? = some (T.gp (D.g i) 0) by rw [← hdT]; rcases six hi6 with rfl|rfl|rfl|rfl|rfl|rfl <;> rfl) (Ya (Ya (repC_plain r D) Yt) (Ya (hin (HH 10 4).P (told_post rfl)) (Yu (Ya (Ya (repC_plain r D) Yt) (Ya (dagainG hle (HH 11 1).P fun m es ck hm => ⟨(m, es, ck), hm, rfl, rfl, Nat.zero_le _, fun _ => rfl⟩) (fun (Z1 : Nat × Array MapEntry × Nat) => (fun (Z2 : gl Z1.fst = none) => (nx Z1.fst Z1.snd.fst Z1.snd.snd Z2)))))))))))) (fun Z3 => (Yb bo (Yk 2 br (Yb br (show Q (T.agg [T.sl 34 (List.map (fun x => T.agg (frC x)) F), T.sl 5 (List.map (fun x => T.agg (evC x)) E)]) [(b, Ob.cells (repC r D))] gl by exfalso; have := of_decide_eq_false Z3; omega))))))
theorem imp_outE {ts : List T} {gl : Glb} (x y z : Nat × Ob) (bo : Nat) : Imp ts [x, y, z, (bo, .cells [.v nilS, .v nilS])] gl ts [x, y, z, (bo, .cells [.slx 34 4 [] nilS, .slx 5 5 [] nilS]), (0, .room 34 70 0 nilS), (0, .room 5 73 0 nilS)] gl := imp_out x y z bo
theorem enter_any (b : Nat) (r : RS) (D : Dr) (v : VS) (gl : Glb) (ho : Own D r gl) (hv : lim v.ms) (Q : T → Obs → Glb → Prop)
  (hQ : ∀ D' gl', Own D' (Rep.enter r v).1 gl' → Step gl D r gl' D' (Rep.enter r v).1 → Q (outT (Rep.enter r v).2 []) (obsR b (Rep.enter r v).1 D') gl') :
  TCalls Try.prog 10 [.ptr 0 b 0, .agg (viewC v)] (obsR b r D) gl Q := by
 obtain ⟨r1, hr1⟩ : ∃ r1, r1 = { r with v := v } := ⟨_, rfl⟩
 have ho1 : Own D r1 gl ∧ Step gl D r gl D r1 := by rw [hr1]; exact ho.view v
 rw [show Rep.enter r v = Rep.againL r1 (List.range' 0 6) by rw [hr1]; rfl] at hQ
 have lp : ∀ Γ bv br bo, wRpM1 Γ Q [kRpM0 [1,1,1,1,1,0,1,0], .blk 0, kRpM0 [1,1,1,1,1,1]] ⟨frame 42 [(0, .ptr 0 b 0), (4, .ptr 2 br 0), (5, .ptr 3 bo 0), (19, u8 (0 : Nat))], [(b, .cells (repC r1 D)), (bv, .cells (viewC v)), (br, .cells [.v nilS, .v nilS]), (bo, .cells [.v nilS, .v nilS])], gl⟩ := fun Γ bv br bo =>
  TWk.imp (s' := ⟨_, obsE b bv br bo r1 D v [] nilS [] nilS, gl⟩) (en_loop Γ b bv br bo v [] nilS Q 6 0 r1 D [] nilS gl rfl ho1.1 (by rw [hr1]; exact hv) (by simp) fun D' gl' h1 h2 => hQ D' gl' h1 (Step.trans ho1.2 h2)) (imp_outE (b, .cells (repC r1 D)) (bv, .cells (viewC v)) (br, .cells [.v nilS, .v nilS]) bo)
 clear hQ ho1
 refine TCalls.of Try.func10 rfl (CanCall.of Try.func10 rfl (by decide)) [0] fun Γ => ?_
 let HH : Nat → Nat → Hint := fun | 4, 2 => told (.sl 3 (mems v.ms)) [] [] | 5, 4 => .obj (repC r1 D) | _, _ => .no
 exact run_sound ⟨HH, [((2, 7), ([0,4,5,19], 4))], fun  | _ => none⟩ 400 (by kernel_rfl) (fun (Z0 : Nat) => (fun (Z1 : Nat) => (fun (Z2 : Nat) => (Yb Z0 (Ya (clone_sl v.ms hv (HH 4 2).P (told_post rfl)) (Yu (Yl 1 (Yb Z0 (Ya (Yn (2) (10) rfl) (Yb Z0 (Yl 10 (Yb b (Ya (Yn (12) (67) rfl) (Ya (show [u8 r.self, u8 r.life, u32 v.e, T.sl 3 (mems v.ms), u8 (v.L 0), u8 (v.L 1), u8 (v.L 2), u8 (v.L 3), u8 (v.L 4), u8 (v.L 5), u8 (v.L 6), u8 (v.L 7), u32 (r.P 0).c.w.s.n, u8 (r.P 0).c.w.s.b, u8 (r.P 0).c.w.s.l, bool ((r.P 0).c.w.h), T.v (Value.string (r.P 0).c.w.t), bool ((r.P 0).c.w.r), int (r.P 0).c.st, dT (r.P 0).dr (D.g 0), int (r.P 0).age, u32 (r.P 1).c.w.s.n, u8 (r.P 1).c.w.s.b, u8 (r.P 1).c.w.s.l, bool ((r.P 1).c.w.h), T.v (Value.string (r.P 1).c.w.t), bool ((r.P 1).c.w.r), int (r.P 1).c.st, dT (r.P 1).dr (D.g 1), int (r.P 1).age, u32 (r.P 2).c.w.s.n, u8 (r.P 2).c.w.s.b, u8 (r.P 2).c.w.s.l, bool ((r.P 2).c.w.h), T.v (Value.string (r.P 2).c.w.t), bool ((r.P 2).c.w.r), int (r.P 2).c.st, dT (r.P 2).dr (D.g 2), int (r.P 2).age, u32 (r.P 3).c.w.s.n, u8 (r.P 3).c.w.s.b, u8 (r.P 3).c.w.s.l, bool ((r.P 3).c.w.h), T.v (Value.string (r.P 3).c.w.t), bool ((r.P 3).c.w.r), int (r.P 3).c.st, dT (r.P 3).dr (D.g 3), int (r.P 3).age, u32 (r.P 4).c.w.s.n, u8 (r.P 4).c.w.s.b, u8 (r.P 4).c.w.s.l, bool ((r.P 4).c.w.h), T.v (Value.string (r.P 4).c.w.t), bool ((r.P 4).c.w.r), int (r.P 4).c.st, dT (r.P 4).dr (D.g 4), int (r.P 4).age, u32 (r.P 5).c.w.s.n, u8 (r.P 5).c.w.s.b, u8 (r.P 5).c.w.s.l, bool ((r.P 5).c.w.h), T.v (Value.string (r.P 5).c.w.t), bool ((r.P 5).c.w.r), int (r.P 5).c.st, dT (r.P 5).dr (D.g 5), int (r.P 5).age, T.gp D.t 0] = repC r1 D by rw [hr1]; rfl) (lp Γ Z0 Z1 Z2)))))))))))))))
def zC : Cel := ⟨Rep.z0, 0⟩
def cellOf (r : RS) (k : Nat) : Cel := if k < 6 then (r.P k).c else zC
theorem cell_any (b : Nat) (r : RS) (D : Dr) (k : Nat) (gl : Glb) (ho : Own D r gl) (Q : T → Obs → Glb → Prop) (hQ : Q (.tup [.agg (clC (cellOf r k)), bool (decide (k < 6) && r.has k)]) (obsR b r D) gl) : TCalls Try.prog 13 [.ptr 0 b 0, u8 k] (obsR b r D) gl Q := by
 have hh := thasG ho.tr k
 by_cases hk : k < 6
 ·rw [cellOf, if_pos hk] at hQ
  refine TCalls.of Try.func13 rfl (CanCall.of Try.func13 rfl (by decide)) [0] fun Γ => ?_
  let HH : Nat → Nat → Hint := fun | 3, 6 => .res (.agg (clC (r.P k).c)) | 3, 12 => toldG (bool (decide (k < 6) && r.has k)) [] [] gl | _, _ => .no
  exact run_sound ⟨HH, [], plRpM0⟩ 400 (by kernel_rfl) (fun (Z0 : Nat) => (Ys (decide ((↑k : Int) ≥ (6 : Int))) (fun Z1 => (Yk 7 Z0 (Yb Z0 (show Q (T.tup [T.agg [u32 (0 : Int), u8 (0 : Int), u8 (0 : Int), bool false, T.v (Value.string (ByteArray.mk #[])), bool false, int (0 : Int)], bool false]) [(b, Ob.cells (repC r D))] gl by exfalso; have := of_decide_eq_true Z1; omega)))) (fun Z2 => (Yi (↑k : Int) 6 (by omega) (Yb b (Ya (show (if List.length (List.drop (12 + Int.toNat (↑k : Int) * nat_lit 9 + nat_lit 0) (repC r D)) < (fun x => x.size) Try.prog.types[57] then none else some (T.agg (List.take (nat_lit 7) (List.drop (12 + Int.toNat (↑k : Int) * nat_lit 9 + nat_lit 0) (repC r D))))) = some (T.agg (clC (r.P k).c)) by rcases six hk with rfl|rfl|rfl|rfl|rfl|rfl <;> rfl) (Yb b (Ya (hh (HH 3 12).P (toldG_post rfl)) (Yu (Yk 7 Z0 (Yb Z0 hQ)))))))))))
 ·rw [cellOf, if_neg hk, decide_eq_false hk, Bool.false_and] at hQ
  refine TCalls.of Try.func13 rfl (CanCall.of Try.func13 rfl (by decide)) [0] fun Γ => ?_
  let HH : Nat → Nat → Hint := fun | 3, 6 => .res .und | _, _ => .no
  exact run_sound ⟨HH, [((0, 3), ([0,1,4], 2))], plRpM0⟩ 400 (by kernel_rfl) (fun (Z0 : Nat) => (Ys (decide ((↑k : Int) ≥ (6 : Int))) (fun Z1 => (Yk 7 Z0 (Yb Z0 hQ))) (fun Z2 => (show TWk Try.prog Γ (fin Try.prog Try.f13 [0] Q) [It.code (sub (bd Try.f13) [1,1])] (S.mk (frame 26 [(0, T.ptr 0 b 0), (1, u8 k), (4, T.ptr 1 Z0 0)]) [(b, Ob.cells (repC r D)), (Z0, Ob.cells [u32 (0 : Int), u8 (0 : Int), u8 (0 : Int), bool false, T.v (Value.string (ByteArray.mk #[])), bool false, int (0 : Int)])] gl) by exfalso; have := of_decide_eq_false Z2; omega))))
theorem free_any (b : Nat) (r : RS) (D : Dr) (k : Nat) (gl : Glb) (ho : Own D r gl) (hl : lim r.v.ms) (Q : T → Obs → Glb → Prop) (hQ : Q (bool (Rep.free r k)) (obsR b r D) gl) : TCalls Try.prog 43 [.ptr 0 b 0, u8 k] (obsR b r D) gl Q := by
 have hin := in_any b r D hl
 have hh := thasG ho.tr k
 cases hi : Rep.inR r with
 | false =>
  rw [show Rep.free r k = false by unfold Rep.free; rw [hi]; rfl] at hQ
  rw [hi] at hin
  refine TCalls.of Try.func43 rfl (CanCall.of Try.func43 rfl (by decide)) [0] fun Γ => ?_
  let HH : Nat → Nat → Hint := fun | 1, 1 => .plainAt [0] (told (bool false) [0] (obsR b r D)) | _, _ => .no
  exact run_sound ⟨HH, [], fun  | _ => none⟩ 400 (by kernel_rfl) (Ya (Ya (repC_plain r D) Yt) (Ya (hin (HH 1 1).P (told_post rfl)) (Yu (Ya (Ya (repC_plain r D) Yt) hQ))))
 | true =>
  rw [hi] at hin
  by_cases hk : k < 6
  ·rw [decide_eq_true hk, Bool.true_and] at hh
   cases hd : (r.P k).dr with
   | none =>
    have hdT := dT_none hd (D.g k)
    have e : Rep.free r k = (r.has k && (((r.P k).c.st : Nat) : Int) == 1) := by
     unfold Rep.free
     rw [hi, decide_eq_true hk, hd, show decide ((r.P k).c.st = 1) = ((((r.P k).c.st : Nat) : Int) == 1) by rw [Bool.eq_iff_iff]; simp only [decide_eq_true_eq, beq_iff_eq]; omega]
     simp
    rw [e] at hQ
    refine TCalls.of Try.func43 rfl (CanCall.of Try.func43 rfl (by decide)) [0] fun Γ => ?_
    let HH : Nat → Nat → Hint := fun | 1, 1 => .plainAt [0] (told (bool true) [0] (obsR b r D)) | 1, 12 => toldG (bool (r.has k)) [] [] gl | 1, 22 => .res (int (r.P k).c.st) | 1, 32 => .res (.v (.pointer none)) | _, _ => .no
    exact run_sound ⟨HH, [], fun  | _ => none⟩ 400 (by kernel_rfl) (Ya (Ya (repC_plain r D) Yt) (Ya (hin (HH 1 1).P (told_post rfl)) (Yu (Ya (Ya (repC_plain r D) Yt) (Ys (decide ((↑k : Int) < (6 : Int))) (fun Z0 => (Yb b (Ya (hh (HH 1 12).P (toldG_post rfl)) (Yu (Ys (r.has k) (fun Z1 => (Yi (↑k : Int) 6 (by omega) (Yb b (Ya (show (List.drop (12 + Int.toNat (↑k : Int) * nat_lit 9 + nat_lit 0 + nat_lit 6) (repC r D))[0]? = some (int (r.P k).c.st) by rcases six hk with rfl|rfl|rfl|rfl|rfl|rfl <;> rfl) (Ys ((↑(r.P k).c.st : Int) == (1 : Int)) (fun Z2 => (Yi (↑k : Int) 6 (by omega) (Yb b (Ya (show (List.drop (12 + Int.toNat (↑k : Int) * nat_lit 9 + nat_lit 7) (repC r D))[0]? = some (T.v (Value.pointer none)) by rw [← hdT]; rcases six hk with rfl|rfl|rfl|rfl|rfl|rfl <;> rfl) (show Q (bool true) [(b, Ob.cells (repC r D))] gl by rw [Z1, Z2] at hQ; exact hQ))))) (fun Z3 => (show Q (bool false) [(b, Ob.cells (repC r D))] gl by rw [Z1, Z3] at hQ; exact hQ))))))) (fun Z4 => (show Q (bool false) [(b, Ob.cells (repC r D))] gl by rw [Z4] at hQ; exact hQ))))))) (fun Z5 => (show Q (bool false) [(b, Ob.cells (repC r D))] gl by exfalso; have := of_decide_eq_false Z5; omega)))))))
   | some d =>
    have hdT : dT (r.P k).dr (D.g k) = .gp (D.g k) 0 := dT_some hd _
    rw [show Rep.free r k = false by unfold Rep.free; rw [hd]; simp] at hQ
    refine TCalls.of Try.func43 rfl (CanCall.of Try.func43 rfl (by decide)) [0] fun Γ => ?_
    let HH : Nat → Nat → Hint := fun | 1, 1 => .plainAt [0] (told (bool true) [0] (obsR b r D)) | 1, 12 => toldG (bool (r.has k)) [] [] gl | 1, 22 => .res (int (r.P k).c.st) | 1, 32 => .res (.gp (D.g k) 0) | _, _ => .no
    exact run_sound ⟨HH, [], fun  | _ => none⟩ 400 (by kernel_rfl) (Ya (Ya (repC_plain r D) Yt) (Ya (hin (HH 1 1).P (told_post rfl)) (Yu (Ya (Ya (repC_plain r D) Yt) (Ys (decide ((↑k : Int) < (6 : Int))) (fun Z0 => (Yb b (Ya (hh (HH 1 12).P (toldG_post rfl)) (Yu (Ys (r.has k) (fun Z1 => (Yi (↑k : Int) 6 (by omega) (Yb b (Ya (show (List.drop (12 + Int.toNat (↑k : Int) * nat_lit 9 + nat_lit 0 + nat_lit 6) (repC r D))[0]? = some (int (r.P k).c.st) by rcases six hk with rfl|rfl|rfl|rfl|rfl|rfl <;> rfl) (Ys ((↑(r.P k).c.st : Int) == (1 : Int)) (fun Z2 => (Yi (↑k : Int) 6 (by omega) (Yb b (Ya (show (List.drop (12 + Int.toNat (↑k : Int) * nat_lit 9 + nat_lit 7) (repC r D))[0]? = some (T.gp (D.g k) 0) by rw [← hdT]; rcases six hk with rfl|rfl|rfl|rfl|rfl|rfl <;> rfl) hQ)))) (fun Z3 => hQ)))))) (fun Z4 => hQ)))))) (fun Z5 => hQ))))))
  ·rw [show Rep.free r k = false by unfold Rep.free; rw [decide_eq_false hk]; simp] at hQ
   refine TCalls.of Try.func43 rfl (CanCall.of Try.func43 rfl (by decide)) [0] fun Γ => ?_
   let HH : Nat → Nat → Hint := fun | 1, 1 => .plainAt [0] (told (bool true) [0] (obsR b r D)) | _, _ => .no
   exact run_sound ⟨HH, [], fun  | _ => none⟩ 400 (by kernel_rfl) (Ya (Ya (repC_plain r D) Yt) (Ya (hin (HH 1 1).P (told_post rfl)) (Yu (Ya (Ya (repC_plain r D) Yt) (Ys (decide ((↑k : Int) < (6 : Int))) (fun Z0 => (Yb b (show False by exfalso; have := of_decide_eq_true Z0; omega))) (fun Z1 => hQ))))))
end X20
end Go.Proofs.Ytafcbipmmjegcaa.Vm
