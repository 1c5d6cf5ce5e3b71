/- Rosters: what is kept; what is wanted holds. No program is named here. -/
import Derived.Test.YtidhblpcaccchaaRos1
namespace Go.Proofs.Ytidhblpcaccchaa.Ros
open View (VS WF Mem)
open Lrn (Cmd ap)
/-- the numbers' bounds -/
structure Bd (r : RS) : Prop where
  n0 : 0 ≤ r.now
  a : ∀ n, 0 ≤ (r.W n).a ∧ (r.W n).a ≤ r.now
  S : ∀ n, 0 ≤ r.S n ∧ r.S n ≤ r.now
theorem ok_new (su wa : Int) : Ok (newR su wa) := ⟨rfl, fun n h => by simp [newR, w0] at h, fun n => by simp [newR, w0], fun n => .inl rfl⟩
theorem bd_new (su wa : Int) : Bd (newR su wa) := ⟨by simp [newR], fun n => by simp [newR, w0], fun n => by simp [newR]⟩
theorem Ok.hear {r : RS} (h : Ok r) (w : Wd) : Ok (hear r w) := by
  unfold Ros.hear
  split
  · rename_i hb
    have hb' := of_decide_eq_true hb
    refine ⟨?_, fun n hn => ?_, fun n => ?_, h.g⟩
    · show (put r.W w.n { w with a := r.now } 0).l = 0
      unfold put; rw [if_neg (by omega)]; exact h.w0
    · have hn' : 0 < (put r.W w.n { w with a := r.now } n).l := hn
      show (put r.W w.n { w with a := r.now } n).n = n
      unfold put at hn' ⊢
      split
      · rename_i e; exact e.symm
      · rename_i e; rw [if_neg e] at hn'; exact h.w n hn'
    · show (put r.W w.n { w with a := r.now } n).l ≤ 200
      unfold put
      split
      · exact hb'.2.2.2.1
      · exact h.l n
  · exact h
theorem Bd.hear {r : RS} (h : Bd r) (w : Wd) : Bd (hear r w) := by
  unfold Ros.hear
  split
  · refine ⟨h.n0, fun n => ?_, h.S⟩
    show 0 ≤ (put r.W w.n { w with a := r.now } n).a ∧ (put r.W w.n { w with a := r.now } n).a ≤ r.now
    unfold put
    split
    · exact ⟨h.n0, Int.le_refl _⟩
    · exact h.a n
  · exact h
theorem Ok.granted {r : RS} (h : Ok r) (c : Cmd) : Ok (granted r c) := by
  unfold Ros.granted
  split
  · rename_i hb
    have hb' := of_decide_eq_true hb
    refine ⟨h.w0, h.w, h.l, fun n => ?_⟩
    show put r.G c.n c n = c0 ∨ (put r.G c.n c n).k = 4 ∧ (put r.G c.n c n).n = n
    unfold put
    split
    · rename_i e; exact .inr ⟨hb'.1, e.symm⟩
    · exact h.g n
  · exact h
theorem Bd.granted {r : RS} (h : Bd r) (c : Cmd) : Bd (granted r c) := by
  unfold Ros.granted
  split
  · refine ⟨h.n0, h.a, fun n => ?_⟩
    show 0 ≤ put r.S c.n r.now n ∧ put r.S c.n r.now n ≤ r.now
    unfold put
    split
    · exact ⟨h.n0, Int.le_refl _⟩
    · exact h.S n
  · exact h
theorem Ok.missed {r : RS} (h : Ok r) : Ok (missed r) := ⟨h.w0, h.w, h.l, h.g⟩
theorem Bd.missed {r : RS} (h : Bd r) : Bd (missed r) := ⟨h.n0, h.a, fun _ => ⟨h.n0, Int.le_refl _⟩⟩
theorem Ok.tick {r : RS} (h : Ok r) : Ok (tick r) := ⟨h.w0, h.w, h.l, h.g⟩
theorem Bd.tick {r : RS} (h : Bd r) : Bd (tick r) := ⟨by have := h.n0; show 0 ≤ r.now + 1; omega, fun n => by have := h.a n; show 0 ≤ (r.W n).a ∧ (r.W n).a ≤ r.now + 1; omega, fun n => by have := h.S n; show 0 ≤ r.S n ∧ r.S n ≤ r.now + 1; omega⟩
/-- a member's life is never 0 -/
def Lives (v : VS) : Prop := ∀ m ∈ v.ms, 1 ≤ m.life
theorem Lives.step {v v' : VS} {b : Bool} (h : Lives v) (hs : View.Step v v' b) : Lives v' := by
  cases hs with
  | same => exact h
  | more node life h1 h2 h3 hat hl hL he =>
    intro m hm
    rcases List.mem_append.1 hm with hm | hm
    · exact h m hm
    · simp at hm; subst hm; show 1 ≤ life; omega
  | less i hi hr he => exact fun m hm => h m ((List.eraseIdx_sublist _ _).subset hm)
  | settle i hi =>
    intro m hm
    rcases List.mem_or_eq_of_mem_set hm with hm | rfl
    · exact h m hm
    · exact h v.ms[i] (List.getElem_mem hi)
theorem Lives.ap {v : VS} (h : Lives v) (c : Cmd) : Lives (ap v c).1 := h.step (View.step_apply v c.k c.n c.l c.e)
/-- what each wish is -/
theorem want_cases {r : RS} {v : VS} {c : Cmd} (h : want r v = some c) :
    (∃ m ∈ v.ms, remB r v m = true ∧ c = remC m) ∨ (∃ w, addB r v w = true ∧ c = addC w) ∨ (∃ m ∈ v.ms, setB r v m = true ∧ c = setC m) ∨ (∃ m ∈ v.ms, grB r v m = true ∧ c = grC r v m) := by
  unfold want at h
  cases h1 : v.ms.find? (remB r v) with
  | some m =>
    rw [h1] at h
    injection h with h
    exact .inl ⟨m, List.mem_of_find?_eq_some h1, List.find?_some h1, h.symm⟩
  | none =>
    rw [h1] at h
    dsimp only at h
    cases h2 : (words r).find? (addB r v) with
    | some w =>
      rw [h2] at h
      injection h with h
      exact .inr (.inl ⟨w, List.find?_some h2, h.symm⟩)
    | none =>
      rw [h2] at h
      dsimp only at h
      cases h3 : v.ms.find? (setB r v) with
      | some m =>
        rw [h3] at h
        injection h with h
        exact .inr (.inr (.inl ⟨m, List.mem_of_find?_eq_some h3, List.find?_some h3, h.symm⟩))
      | none =>
        rw [h3] at h
        dsimp only at h
        cases h4 : v.ms.find? (grB r v) with
        | some m =>
          rw [h4] at h
          injection h with h
          exact .inr (.inr (.inr ⟨m, List.mem_of_find?_eq_some h4, List.find?_some h4, h.symm⟩))
        | none => rw [h4] at h; cases h
theorem ap_member {v : VS} (hv : WF v) {m : Mem} (hm : m ∈ v.ms) (k : Nat) (e q : Int) (hk : k ≠ 0 ∧ k ≠ 1 ∧ k ≠ 2) : (ap v ⟨k, m.node, m.life, e, q⟩).2 = if k = 3 then true else decide (k = 4 ∧ e = v.e) := by
  obtain ⟨i, hi, rfl⟩ := List.mem_iff_getElem.1 hm
  have ha := View.at_self hv.nd hi
  unfold Lrn.ap View.applyV
  rw [if_neg hk.1, if_neg hk.2.1]
  simp only [ha, List.getElem?_eq_getElem hi]
  rw [if_neg (by simp), if_neg hk.2.2]
  by_cases h3 : k = 3
  · rw [if_pos h3, if_pos h3]
  · rw [if_neg h3, if_neg h3]
theorem want_holds {r : RS} {v : VS} (hv : WF v) {c : Cmd} (h : want r v = some c) : (ap v c).2 = true := by
  rcases want_cases h with ⟨m, hm, h1, rfl⟩ | ⟨w, h1, rfl⟩ | ⟨m, hm, h1, rfl⟩ | ⟨m, hm, h1, rfl⟩
  · unfold remB at h1; simp only [Bool.and_eq_true] at h1; exact h1.2
  · unfold addB at h1; simp only [Bool.and_eq_true] at h1; exact h1.2
  · rw [setC, ap_member hv hm 3 0 0 ⟨by decide, by decide, by decide⟩]; rfl
  · rw [grC, ap_member hv hm 4 _ _ ⟨by decide, by decide, by decide⟩]; simp
theorem want_rem {r : RS} {v : VS} {c : Cmd} (h : want r v = some c) (hk : c.k = 2) : ∃ m ∈ v.ms, c = remC m ∧ lost r m = true ∧ r.wa ≤ r.now - r.S m.node := by
  rcases want_cases h with ⟨m, hm, h1, rfl⟩ | ⟨w, h1, rfl⟩ | ⟨m, hm, h1, rfl⟩ | ⟨m, hm, h1, rfl⟩
  · unfold remB at h1
    simp only [Bool.and_eq_true, Bool.not_eq_true', decide_eq_false_iff_not] at h1
    exact ⟨m, hm, rfl, h1.1.1, by omega⟩
  · cases hk
  · cases hk
  · cases hk
end Go.Proofs.Ytidhblpcaccchaa.Ros
