/- Texts of this claim: RpL. -/
import Derived.Test.YtafcbipmmjegcaaMg15
import Derived.Test.YtafcbipmmjegcaaMg23
import Derived.Test.YtafcbipmmjegcaaMg24
namespace Go.Proofs.Ytafcbipmmjegcaa.Vm
open Go Go.RowKit
set_option maxRecDepth 100000
noncomputable abbrev kRpL0 (l : List Nat) : It := .code (sub (bd Try.f12) l)
noncomputable abbrev wRpL1 (Γ : Ctx) (Q : T → Obs → Glb → Prop) : List It → S → Prop := TWk Try.prog Γ (fin Try.prog Try.f12 [0] Q)
def plRpL0 : Nat → Option RPlan := fun | 5 => some ⟨[], [6], .take true [0,1,2,3,4] (.take false [8] (.one 5 (.one 6 (.take false [7] .done))))⟩ | _ => none
namespace X20
open Rep (Stp Wrd Cel Drv Plc RS Fm Ev setP setC)
open View (Mem VS)
open X5 (viewC lim mems othV hasV aheadV behindV clone_any clone_nil flat)
theorem clone_sl (l : List Mem) (hl : lim l) (Q : T → Obs → Glb → Prop) (hQ : Q (.sl 3 (mems l)) [] none_) : TCalls Try.prog 32 [.sl 3 (mems l)] [] none_ Q := by
  by_cases he : l = []
  · subst he
    refine TCalls.post (clone_nil (fun r ob gl => r = .s0 ∧ ob = [] ∧ gl = none_) ⟨rfl, rfl, rfl⟩) ?_
    rintro r ob gl ⟨rfl, rfl, rfl⟩
    refine ⟨.sl 3 [], [], none_, Imp.slotR (ts := [.s0]) (j := 0) (t' := .sl 3 []) rfl (fun M v h => ?_), hQ⟩
    simp only [Rel] at h ⊢
    obtain ⟨A, h⟩ := h
    exact ⟨A, 0, h, ⟨Nat.le_refl _, by omega, fun _ => ⟨rfl, rfl⟩, fun a _ h => absurd h (by omega)⟩, by simp [El], fun _ _ _ => by simp only [RelE]⟩
  · refine TCalls.postM (clone_any l hl (fun r ob gl => ∃ g cap, r = .sa 0 g 0 l.length cap ∧ ob = [(g, .cells (flat l ++ List.replicate ((cap - l.length) * 3) T.und))] ∧ gl = none_) (fun h => absurd h he) (fun h => absurd h he) (fun _ g cap _ _ => ⟨g, cap, rfl, rfl, rfl⟩)) ?_
    rintro r ob gl ⟨g, cap, rfl, rfl, rfl⟩
    refine ⟨.sl 3 (mems l), [], none_, (ImpM.slot (ts := [.sa 0 g 0 l.length cap]) (i := 0) (b := g) true 3 0 (mems l) rfl rfl (fun h => by cases h) (Row.fz_len (C := X5.memC) (fun _ => rfl) rfl rfl) (Row.fz_one (C := X5.memC) (fun _ => rfl) (fun _ => rfl) rfl rfl) (Row.fz_es (C := X5.memC) (fun _ => rfl) rfl rfl)).trans (Imp.toM (Imp.take 0)), hQ⟩
theorem complete_any (b : Nat) (r : RS) (D : Dr) (gl : Glb) (ho : Own D r gl) (Q : T → Obs → Glb → Prop) (hQ : Q (bool (Rep.complete r)) (obsR b r D) gl) : TCalls Try.prog 19 [.ptr 0 b 0] (obsR b r D) gl Q := by
  refine TCalls.of Try.func19 rfl (CanCall.of Try.func19 rfl (by decide)) [0] fun Γ => ?_
  let HH : Nat → Nat → Hint := fun | 1, 7 => toldG (bool (Rep.complete r)) [] [] gl | _, _ => .no
  exact run_sound ⟨HH, [], fun  | _ => none⟩ 400 (by kernel_rfl) (Yb b (Ya (tcompleteG ho.tr (HH 1 7).P (toldG_post rfl)) (Yu hQ)))
def obsT2 (b br bo : Nat) (r : RS) (D : Dr) (F : List Fm) (hf : Value) (E : List Ev) (he : Value) : Obs := [(b, .cells (repC r D)), (br, .cells [.v nilS, .v nilS]),
  (bo, .cells [.slx 34 3 (Row.aggs frC F) hf, .slx 5 4 (Row.aggs evC E) he]), (0, .room 34 70 (Row.aggs frC F).length hf), (0, .room 5 73 (Row.aggs evC E).length he)]
theorem tl_end (Γ : Ctx) (b br bo : Nat) (r : RS) (D : Dr) (F : List Fm) (hf : Value) (E : List Ev) (he : Value) (every replay : Nat) (lease : Bool) (gl : Glb) (Q : T → Obs → Glb → Prop) (hQ : Q (outT F E) (obsR b r D) gl) :
    wRpL1 Γ Q [kRpL0 [1,1,1,1,0,1,0], .blk 2, kRpL0 [1,1,1,1,1]] ⟨frame 52 [(0, .ptr 0 b 0), (1, int every), (2, int replay), (3, bool lease), (8, .ptr 1 br 0), (9, .ptr 2 bo 0), (41, u8 (6 : Nat))], obsT2 b br bo r D F hf E he, gl⟩ := by
  let HH : Nat → Nat → Hint := fun  | _, _ => .no
  exact run_sound ⟨HH, [], plRpL0⟩ 400 (by kernel_rfl) (Yb bo (Yk 2 br (Yb br hQ)))
theorem tickK_ne (r : RS) (k : Nat) (every replay : Nat) (lease : Bool) {j : Nat} (hj : j ≠ k) : (Rep.tickK r k every replay lease).1.P j = r.P j := by
  have hl : ∀ r : RS, (Rep.look r k).1.P j = r.P j := fun r => by
    unfold Rep.look
    split
    · rfl
    · split
      · split <;> exact P_ne _ _ _ hj
      · rfl
  have hb : ∀ r : RS, (Rep.beat r k every).1.P j = r.P j := fun r => by
    unfold Rep.beat
    split
    · rfl
    · exact P_ne _ _ _ hj
  unfold Rep.tickK
  split
  · split
    · exact (hb _).trans (hl _)
    · exact hb _
  · unfold Rep.stall
    split
    · split
      · split <;> exact P_ne _ _ _ hj
      · exact P_ne _ _ _ hj
    · rfl
theorem tickK_self (r : RS) (k : Nat) (every replay : Nat) (lease : Bool) : (Rep.tickK r k every replay lease).1.self = r.self ∧ (Rep.tickK r k every replay lease).1.life = r.life ∧ (Rep.tickK r k every replay lease).1.v = r.v ∧ (Rep.tickK r k every replay lease).1.has = r.has ∧ (Rep.tickK r k every replay lease).1.calls = r.calls := by
  have hb : ∀ r : RS, (Rep.beat r k every).1.self = r.self ∧ (Rep.beat r k every).1.life = r.life ∧ (Rep.beat r k every).1.v = r.v ∧ (Rep.beat r k every).1.has = r.has ∧ (Rep.beat r k every).1.calls = r.calls := fun r => by
    unfold Rep.beat
    split <;> exact ⟨rfl, rfl, rfl, rfl, rfl⟩
  unfold Rep.tickK
  split
  · split
    · obtain ⟨h1, h2, h3, h4, h5⟩ := hb (Rep.look r k).1
      obtain ⟨g1, g2, g3, g4, g5⟩ := look_self r k
      exact ⟨h1.trans g1, h2.trans g2, h3.trans g3, h4.trans g4, h5.trans g5⟩
    · exact hb r
  · unfold Rep.stall
    split
    · split
      · split <;> exact ⟨rfl, rfl, rfl, rfl, rfl⟩
      · exact ⟨rfl, rfl, rfl, rfl, rfl⟩
    · exact ⟨rfl, rfl, rfl, rfl, rfl⟩
theorem sent_len (r : RS) (k : Nat) (w : Wrd) : (Rep.sent r k w).length ≤ 2 := by
  unfold Rep.sent
  split <;> split <;> simp
theorem tickK_len (r : RS) (k : Nat) (every replay : Nat) (lease : Bool) : (Rep.tickK r k every replay lease).2.1.length ≤ (Rep.oth r).length + 2 ∧ (Rep.tickK r k every replay lease).2.2.length ≤ 1 := by
  have hb : ∀ r : RS, (Rep.beat r k every).2.length ≤ 2 := fun r => by
    unfold Rep.beat
    split
    · simp
    · show (if _ then _ else _ : List Fm).length ≤ 2
      split
      · exact sent_len _ _ _
      · simp
  obtain ⟨h1, h2⟩ := look_ev r k
  unfold Rep.tickK
  split
  · split
    · have := hb (Rep.look r k).1
      refine ⟨?_, h1⟩
      simp only [List.length_append]
      omega
    · have := hb r
      exact ⟨by simp only; omega, by simp⟩
  · refine ⟨?_, by simp⟩
    unfold Rep.stall
    split
    · split
      · split
        · simp only; split <;> simp
        · have := sent_len r k (r.P k).c.w; simp only; omega
      · simp
    · simp
def Bd (N : Nat) (r : RS) (i : Nat) : Prop := ∀ j, i ≤ j → j < 6 → (r.P j).age ≤ N ∧ ∀ d, (r.P j).dr = some d → d.tk ≤ N
theorem tl_loop (Γ : Ctx) (b br bo : Nat) (every replay : Nat) (lease : Bool) (Q : T → Obs → Glb → Prop) : ∀ (n i : Nat) (r : RS) (D : Dr) (F : List Fm) (hf : Value) (E : List Ev) (he : Value) (gl : Glb), i + n = 6 → Own D r gl → lim r.v.ms → (Rep.oth r).length ≤ 1000 → F.length + 2000 * n ≤ 100000 → E.length + n ≤ 1000 → Bd 999000 r i →
    (∀ D' gl', Own D' (Rep.tickL r every replay lease (List.range' i n)).1 gl' → Step gl D r gl' D' (Rep.tickL r every replay lease (List.range' i n)).1 → Q (outT (F ++ (Rep.tickL r every replay lease (List.range' i n)).2.1) (E ++ (Rep.tickL r every replay lease (List.range' i n)).2.2)) (obsR b (Rep.tickL r every replay lease (List.range' i n)).1 D') gl') →
    wRpL1 Γ Q [kRpL0 [1,1,1,1,0,1,0], .blk 2, kRpL0 [1,1,1,1,1]] ⟨frame 52 [(0, .ptr 0 b 0), (1, int every), (2, int replay), (3, bool lease), (8, .ptr 1 br 0), (9, .ptr 2 bo 0), (41, u8 i)], obsT2 b br bo r D F hf E he, gl⟩ := by
  intro n
  induction n with
  | zero =>
    intro i r D F hf E he gl hi ho hl ho5 hF hE hB hQ
    have hi : i = 6 := by omega
    subst hi
    have hQ := hQ D gl ho (Step.refl _ _ _)
    rw [show Rep.tickL r every replay lease (List.range' 6 0) = (r, [], []) from rfl, List.append_nil, List.append_nil] at hQ
    exact tl_end Γ b br bo r D F hf E he every replay lease gl Q hQ
  | succ n ih =>
    intro i r D F hf E he gl hi ho hl ho5 hF hE hB hQ
    have hw : IntKind.wrap .u8 ((i : Int) + 1) = ((i + 1 : Nat) : Int) := by rw [IntWalk.u8_in _ (by omega)]; omega
    have hBi := hB i (Nat.le_refl _) (by omega)
    have htk := tickK_any b bo r D F hf E he i (by omega) every replay lease gl ho hl (by omega) (by omega) (fun d hd => by have := hBi.2 d hd; omega) (by have := hBi.1; omega)
    obtain ⟨g1, g2, g3, g4, g5⟩ := tickK_self r i every replay lease
    have hlen := tickK_len r i every replay lease
    have nx := fun D' gl' hf' he' (h1 : Own D' (Rep.tickK r i every replay lease).1 gl') (h2 : Step gl D r gl' D' (Rep.tickK r i every replay lease).1) => ih (i + 1) (Rep.tickK r i every replay lease).1 D' (F ++ (Rep.tickK r i every replay lease).2.1) hf' (E ++ (Rep.tickK r i every replay lease).2.2) he' gl' (by omega) h1 (by rw [g3]; exact hl) (by unfold Rep.oth; rw [g1, g3]; exact ho5) (by simp; omega) (by simp; omega) (fun j hj hj6 => by rw [tickK_ne r i every replay lease (by omega)]; exact hB j (by omega) hj6) (fun D2 gl2 k1 k2 => by
      have := hQ D2 gl2
      rw [show List.range' i (n + 1) = i :: List.range' (i + 1) n from List.range'_succ] at this
      simp only [Rep.tickL, ← List.append_assoc] at this
      exact this k1 (Step.trans h2 k2))
    clear ih hQ
    generalize Rep.tickK r i every replay lease = o at *
    let HH : Nat → Nat → Hint := fun | 13, 5 => .plainAt [0] (.call false (Dr × Glb × Value × Value) (fun a => Own a.1 o.1 a.2.1 ∧ Step gl D r a.2.1 a.1 o.1) [0,2,3,4] true (fun _ => .tup []) (fun a => obsR b o.1 a.1 ++ obsO 1 bo (F ++ o.2.1) a.2.2.1 (E ++ o.2.2) a.2.2.2) (fun a => a.2.1)) | 14, 0 => .res (u8 (i + 1 : Nat)) | _, _ => .no
    exact run_sound ⟨HH, [((2, 11), ([0,1,2,3,8,9,41], 5))], plRpL0⟩ 400 (by kernel_rfl) (Ys (decide ((↑i : Int) < (6 : Int))) (fun Z0 => (Ya (Ya (repC_plain r D) Yt) (Ya (htk (HH 13 5).P fun D' gl' hf' he' h1 h2 => ⟨(D', gl', hf', he'), ⟨h1, h2⟩, rfl, rfl, Nat.le_of_ble_eq_true rfl, fun _ => rfl⟩) (fun (Z1 : Dr × Glb × Value × Value) => (fun (Z2 : Own Z1.fst o.fst Z1.snd.fst ∧ Step gl D r Z1.snd.fst Z1.fst o.fst) => (Ya (Ya (repC_plain o.fst Z1.fst) Yt) (Ya (congrArg u8 hw) (nx Z1.fst Z1.snd.fst Z1.snd.snd.fst Z1.snd.snd.snd Z2.1 Z2.2)))))))) (fun Z3 => (Yb bo (Yk 2 br (Yb br (show Q (T.agg [T.sl 34 (List.map (fun x => T.agg (frC x)) F), T.sl 5 (List.map (fun x => T.agg (evC x)) E)]) [(b, Ob.cells (repC r D))] gl by exfalso; have := of_decide_eq_false Z3; omega))))))
theorem range6 : ([0,1,2,3,4,5] : List Nat) = List.range' 0 6 := rfl
theorem tl0 (Γ : Ctx) (b br bo : Nat) (every replay : Nat) (lease : Bool) (Q : T → Obs → Glb → Prop) (r : RS) (D : Dr) (F : List Fm) (hf : Value) (E : List Ev) (he : Value) (gl : Glb) (ho : Own D r gl) (hl : lim r.v.ms) (ho5 : (Rep.oth r).length ≤ 1000) (hF : F.length ≤ 80000) (hE : E.length ≤ 900) (hB : Bd 999000 r 0)
    (hQ : ∀ D' gl', Own D' (Rep.tickL r every replay lease [0,1,2,3,4,5]).1 gl' → Step gl D r gl' D' (Rep.tickL r every replay lease [0,1,2,3,4,5]).1 → Q (outT (F ++ (Rep.tickL r every replay lease [0,1,2,3,4,5]).2.1) (E ++ (Rep.tickL r every replay lease [0,1,2,3,4,5]).2.2)) (obsR b (Rep.tickL r every replay lease [0,1,2,3,4,5]).1 D') gl') :
    wRpL1 Γ Q [kRpL0 [1,1,1,1]] ⟨frame 52 [(0, .ptr 0 b 0), (1, int every), (2, int replay), (3, bool lease), (8, .ptr 1 br 0), (9, .ptr 2 bo 0)], obsT2 b br bo r D F hf E he, gl⟩ := by
  rw [range6] at hQ
  have lp := tl_loop Γ b br bo every replay lease Q 6 0 r D F hf E he gl rfl ho hl ho5 (by omega) (by omega) hB hQ
  clear hQ
  let HH : Nat → Nat → Hint := fun  | _, _ => .no
  exact run_sound ⟨HH, [((2, 11), ([0,1,2,3,8,9,41], 5))], plRpL0⟩ 400 (by kernel_rfl) lp
def asks (r : RS) (l : List (Nat × Nat)) : List Fm := l.map fun n => Rep.fr r 4 n.2 n.1
theorem nd_loop (Γ : Ctx) (b br bo : Nat) (every replay : Nat) (lease : Bool) (r : RS) (D : Dr) (E : List Ev) (he : Value) (gl : Glb) (N : List (Nat × Nat)) (hN : N.length ≤ 1000) (Q : T → Obs → Glb → Prop)
    (hend : ∀ hf, wRpL1 Γ Q [kRpL0 [1,1,1,1]] ⟨frame 52 [(0, .ptr 0 b 0), (1, int every), (2, int replay), (3, bool lease), (8, .ptr 1 br 0), (9, .ptr 2 bo 0)], obsT2 b br bo r D (asks r N) hf E he, gl⟩) :
    ∀ (x d : List (Nat × Nat)) (i : Int) (hf : Value), N = d ++ x → i = d.length →
    wRpL1 Γ Q [kRpL0 [1,1,1,0,1,0,1,0], .blk 0, kRpL0 [1,1,1,1]] ⟨frame 52 [(0, .ptr 0 b 0), (1, int every), (2, int replay), (3, bool lease), (8, .ptr 1 br 0), (9, .ptr 2 bo 0), (26, .sl 2 (Row.aggs neC N)), (27, int N.length), (28, int i)], obsT2 b br bo r D (asks r d) hf E he, gl⟩ := by
  intro x
  induction x with
  | nil =>
    intro d i hf h1 hi
    have hLi : (N.length : Int) = i := by rw [h1, hi]; simp
    have hend := hend hf
    rw [show d = N by simp [h1]]
    clear h1
    generalize Row.aggs neC N = U at *
    generalize (N.length : Int) = n at *
    subst hLi
    generalize asks r N = G at *
    let HH : Nat → Nat → Hint := fun | 7, 0 => .res (.agg (neC (0, 0))) | 8, 5 => .no | 8, 7 => .no | _, _ => .no
    exact run_sound ⟨HH, [((2, 6), ([0,1,2,3,8,9,26,27,28], 5)), ((0, 10), ([0,1,2,3,8,9], 5))], plRpL0⟩ 400 (by kernel_rfl) (Ys (decide (n < n)) (fun Z0 => (Ya (show (0 : Int) ≤ n by omega) (Ya (show U[Int.toNat n]? = some (T.agg [u8 (0, 0).fst, u8 (0, 0).snd]) by exfalso; simp at *; done) (fun (Z1 : Nat) => (Yk 2 Z1 (Yb Z1 (Yb Z1 (show False by exfalso; simp at *; done)))))))) (fun Z2 => hend))
  | cons y x ih =>
    intro d i hf h1 hi
    have hLi : i < (N.length : Int) := by rw [h1, hi]; simp; omega
    have hw : IntKind.wrap .i64 (i + 1) = i + 1 := wrap_i64 (by omega) (by omega)
    have e1 : (Row.aggs neC N)[i.toNat]? = some (.agg (neC y)) := Row.aggs_at (by rw [h1, hi]; simp)
    have l1 : (Row.aggs neC N).length = N.length := Row.aggs_len N
    have hl : (asks r d).length + 1 ≤ 1000000 := by
      have : N.length = d.length + (x.length + 1) := by rw [h1]; simp
      simp [asks]; omega
    have nx := fun hf => ih (d ++ [y]) (i + 1) hf (by simp [h1]) (by simp [hi])
    rw [show asks r (d ++ [y]) = asks r d ++ [Rep.fr r 4 y.2 y.1] by simp [asks]] at nx
    clear ih h1 hend
    obtain ⟨y1, y2⟩ := y
    generalize Row.aggs neC N = U at *
    generalize (N.length : Int) = n at *
    generalize asks r d = G at *
    let HH : Nat → Nat → Hint := fun | 7, 0 => .res (.agg (neC (y1, y2))) | 8, 5 => frameH b r D 4 y2 y1 | 8, 7 => sendH 2 bo G E he (Rep.fr r 4 y2 y1) | 9, 0 => .res (int (i + 1)) | _, _ => .no
    exact run_sound ⟨HH, [((2, 6), ([0,1,2,3,8,9,26,27,28], 5))], plRpL0⟩ 400 (by kernel_rfl) (Ys (decide (i < n)) (fun Z0 => (Ya (show (0 : Int) ≤ i by omega) (Ya e1 (fun (Z1 : Nat) => (Yk 2 Z1 (Yb Z1 (Yb Z1 (Ya (Ya (repC_plain r D) Yt) (Ya (frame_any b r D 4 y2 y1 (HH 8 5).P (told_post rfl)) (Yu (Ya (Ya (repC_plain r D) Yt) (Ya (send1 bo G hf E he (Rep.fr r 4 y2 y1) hl) (fun (Z2 : Value) => (fun (Z3 : True) => (Ya (congrArg int hw) (nx Z2)))))))))))))))) (fun Z4 => (show False by exfalso; have := of_decide_eq_false Z4; omega)))
theorem imp_out2 {ts : List T} {gl : Glb} (x y : Nat × Ob) (bo : Nat) : Imp ts [x, y, (bo, .cells [.v nilS, .v nilS])] gl ts [x, y, (bo, .cells [.slx 34 3 [] nilS, .slx 5 4 [] nilS]), (0, .room 34 70 0 nilS), (0, .room 5 73 0 nilS)] gl := by
  refine (Imp.room 34 70).trans ?_
  refine (Imp.room 5 73).trans ?_
  refine (Imp.cell (i := 2) (b := bo) (j := 0) 34 3 rfl rfl).trans ?_
  exact Imp.cell (i := 2) (b := bo) (j := 1) (cs := [.slx 34 3 [] nilS, .v nilS]) 5 4 rfl rfl
theorem needs_len (r : RS) : (Rep.needs r).length ≤ 6 := by
  unfold Rep.needs
  split
  · simp
  · rw [List.length_map]; exact Nat.le_trans (List.length_filter_le _ _) (by simp)
theorem needs_nl (r : RS) : (if Rep.oth r = [] then [] else nl r.has r.calls (Rep.oth r) 0 6) = Rep.needs r := by
  by_cases h : Rep.oth r = []
  · rw [if_pos h]; unfold Rep.needs; rw [if_pos h]
  · rw [if_neg h, nl_needs r h]
theorem tick2 (Γ : Ctx) (b br bo : Nat) (every replay : Nat) (lease : Bool) (Q : T → Obs → Glb → Prop) (r : RS) (D : Dr) (gl : Glb) (ho : Own D r gl) (hl : lim r.v.ms) (ho5 : (Rep.oth r).length ≤ 1000) (hB : Bd 999000 r 0) (hc : r.calls ≤ 999000)
    (hQ : ∀ D' gl', Own D' (Rep.tick r every replay lease).1 gl' → Step gl D r gl' D' (Rep.tick r every replay lease).1 → Q (outT (Rep.tick r every replay lease).2.1 (Rep.tick r every replay lease).2.2) (obsR b (Rep.tick r every replay lease).1 D') gl') :
    wRpL1 Γ Q [kRpL0 [1,1]] ⟨frame 52 [(0, .ptr 0 b 0), (1, int every), (2, int replay), (3, bool lease), (8, .ptr 1 br 0), (9, .ptr 2 bo 0)], obsT2 b br bo r D [] nilS [] nilS, gl⟩ := by
  have hin := in_any b r D hl
  cases hi : Rep.inR r with
  | false =>
    rw [show Rep.tick r every replay lease = (r, [], []) by unfold Rep.tick; rw [hi]; rfl] at hQ
    have hQ := hQ D gl ho (Step.refl _ _ _)
    rw [hi] at hin
    let HH : Nat → Nat → Hint := fun | 2, 1 => .plainAt [0] (told (bool false) [0] (obsR b r D)) | _, _ => .no
    exact run_sound ⟨HH, [], plRpL0⟩ 400 (by kernel_rfl) (Ya (Ya (repC_plain r D) Yt) (Ya (hin (HH 2 1).P (told_post rfl)) (Yu (Ya (Ya (repC_plain r D) Yt) (Yb bo (Yk 2 br (Yb br hQ)))))))
  | true =>
    rw [hi] at hin
    have hcp := complete_any b r D gl ho
    cases hcm : Rep.complete r with
    | true =>
      rw [hcm] at hcp
      rw [show Rep.tick r every replay lease = Rep.tickL r every replay lease [0,1,2,3,4,5] by unfold Rep.tick Rep.asked; rw [hi, hcm]; rfl] at hQ
      have lp := tl0 Γ b br bo every replay lease Q r D [] nilS [] nilS gl ho hl ho5 (by simp) (by simp) hB hQ
      clear hQ
      let HH : Nat → Nat → Hint := fun | 2, 1 => .plainAt [0] (told (bool true) [0] (obsR b r D)) | 4, 1 => .plainAt [0] (toldG (bool true) [0] (obsR b r D) gl) | _, _ => .no
      exact run_sound ⟨HH, [((0, 10), ([0,1,2,3,8,9], 5))], plRpL0⟩ 400 (by kernel_rfl) (Ya (Ya (repC_plain r D) Yt) (Ya (hin (HH 2 1).P (told_post rfl)) (Yu (Ya (Ya (repC_plain r D) Yt) (Ya (Ya (repC_plain r D) Yt) (Ya (hcp (HH 4 1).P (toldG_post rfl)) (Yu (Ya (Ya (repC_plain r D) Yt) lp))))))))
    | false =>
      rw [hcm] at hcp
      obtain ⟨r1, hr1⟩ : ∃ r1, r1 = { r with calls := r.calls + 1 } := ⟨_, rfl⟩
      obtain ⟨gl1, hgl1⟩ : ∃ gl1, gl1 = setO gl D.t (.cells (trC r.has (r.calls + 1))) := ⟨_, rfl⟩
      have ho1 : Own D r1 gl1 ∧ Step gl D r gl1 D r1 := by rw [hr1, hgl1]; exact ho.trans_ r.has (r.calls + 1)
      have hnd := tneedsG ho.tr (Rep.oth r) (Nat.le_trans (X5.othV_len _ _) hl) (by omega)
      rw [needs_nl, ← hgl1] at hnd
      rw [show Rep.tick r every replay lease = ((Rep.tickL r1 every replay lease [0,1,2,3,4,5]).1, asks r1 (Rep.needs r) ++ (Rep.tickL r1 every replay lease [0,1,2,3,4,5]).2.1, (Rep.tickL r1 every replay lease [0,1,2,3,4,5]).2.2) by unfold Rep.tick Rep.asked; rw [hi, hcm, hr1]; rfl] at hQ
      have hrep : repC r D = repC r1 D := by rw [hr1]; rfl
      have hnl := needs_len r
      have e1 : Rep.oth r1 = Rep.oth r := by rw [hr1]; rfl
      have lp := nd_loop Γ b br bo every replay lease r1 D [] nilS gl1 (Rep.needs r) (by omega) Q (fun hf => tl0 Γ b br bo every replay lease Q r1 D (asks r1 (Rep.needs r)) hf [] nilS gl1 ho1.1 (by rw [hr1]; exact hl) (by rw [e1]; exact ho5) (by simp [asks]; omega) (by simp) (by rw [hr1]; exact hB) (fun D' gl' h1 h2 => hQ D' gl' h1 (Step.trans ho1.2 h2))) (Rep.needs r) [] 0 nilS rfl rfl
      rw [show asks r1 [] = [] from rfl] at lp
      simp only [obsT2] at lp
      rw [← hrep, ← Row.aggs_len (C := neC) (Rep.needs r)] at lp
      have hot := oth_any b r D hl
      clear hQ
      generalize Row.aggs neC (Rep.needs r) = U at *
      let HH : Nat → Nat → Hint := fun | 2, 1 => .plainAt [0] (told (bool true) [0] (obsR b r D)) | 4, 1 => .plainAt [0] (toldG (bool false) [0] (obsR b r D) gl) | 5, 5 => othH b r D | 5, 6 => toldG (.sl 2 U) [] [] gl1 | _, _ => .no
      exact run_sound ⟨HH, [((2, 6), ([0,1,2,3,8,9,26,27,28], 5))], fun | 5 => some ⟨[], [5,6], .take false [0,1,2,4,8] (.two 3 5 (.one 5 (.one 6 (.take false [7] .done))) (.one 3 (.one 6 (.take false [7] .done))))⟩ | n => plRpL0 n⟩ 400 (by kernel_rfl) (Ya (Ya (repC_plain r D) Yt) (Ya (hin (HH 2 1).P (told_post rfl)) (Yu (Ya (Ya (repC_plain r D) Yt) (Ya (Ya (repC_plain r D) Yt) (Ya (hcp (HH 4 1).P (toldG_post rfl)) (Yu (Ya (Ya (repC_plain r D) Yt) (Ya (Yb b (Ya (hot (HH 5 5).P (told_post rfl)) (Yu (Ya (hnd (HH 5 6).P (toldG_post rfl)) (Yu lp))))) (Ya (hot (HH 5 5).P (told_post rfl)) (Yu (Yb b (Ya (hnd (HH 5 6).P (toldG_post rfl)) (Yu lp))))))))))))))
theorem tick_any (b : Nat) (every replay : Nat) (lease : Bool) (Q : T → Obs → Glb → Prop) (r : RS) (D : Dr) (gl : Glb) (ho : Own D r gl) (hl : lim r.v.ms) (ho5 : (Rep.oth r).length ≤ 1000) (hB : Bd 999000 r 0) (hc : r.calls ≤ 999000)
    (hQ : ∀ D' gl', Own D' (Rep.tick r every replay lease).1 gl' → Step gl D r gl' D' (Rep.tick r every replay lease).1 → Q (outT (Rep.tick r every replay lease).2.1 (Rep.tick r every replay lease).2.2) (obsR b (Rep.tick r every replay lease).1 D') gl') :
    TCalls Try.prog 12 [.ptr 0 b 0, int every, int replay, bool lease] (obsR b r D) gl Q := by
  have lp : ∀ Γ br bo, wRpL1 Γ Q [kRpL0 [1,1]] ⟨frame 52 [(0, .ptr 0 b 0), (1, int every), (2, int replay), (3, bool lease), (8, .ptr 1 br 0), (9, .ptr 2 bo 0)], [(b, .cells (repC r D)), (br, .cells [.v nilS, .v nilS]), (bo, .cells [.v nilS, .v nilS])], gl⟩ := fun Γ br bo =>
    TWk.imp (s' := ⟨_, obsT2 b br bo r D [] nilS [] nilS, gl⟩) (tick2 Γ b br bo every replay lease Q r D gl ho hl ho5 hB hc hQ) (imp_out2 (b, .cells (repC r D)) (br, .cells [.v nilS, .v nilS]) bo)
  clear hQ
  refine TCalls.of Try.func12 rfl (CanCall.of Try.func12 rfl (by decide)) [0] fun Γ => ?_
  let HH : Nat → Nat → Hint := fun  | _, _ => .no
  exact run_sound ⟨HH, [((0, 2), ([0,1,2,3,8,9], 3))], plRpL0⟩ 400 (by kernel_rfl) (fun (Z0 : Nat) => (fun (Z1 : Nat) => (lp Γ Z0 Z1)))
end X20
end Go.Proofs.Ytafcbipmmjegcaa.Vm
