/- Learners: the plain laws of orders. No program is named here. -/
import Derived.Test.YtidhblpcaccchaaLrn1
namespace Go.Proofs.Ytidhblpcaccchaa.Lrn
open View (VS WF)
/-- a learner that was told commands of a list -/
structure Told (v0 : VS) (l : List Cmd) (s : LS) : Prop where
  ex : ∃ N j : Nat, N ≤ l.length ∧ j ≤ N ∧ s.nx = N ∧ s.v = foldV v0 (l.take N) ∧ s.kp = (l.take N).drop j
  w : ∀ z c, s.W z = some c → ∃ k : Nat, z = k ∧ l[k]? = some c
def Dec (s : LS) (z : Int) : Prop := z < s.nx ∨ s.W z ≠ none
theorem foldV_snoc (v : VS) (l : List Cmd) (c : Cmd) : foldV v (l ++ [c]) = (ap (foldV v l) c).1 := by simp [foldV]
theorem Told.step {v0 : VS} {l : List Cmd} {s : LS} (h : Told v0 l s) {c : Cmd} (hc : s.W s.nx = some c) : Told v0 l ⟨(ap s.v c).1, s.nx + 1, del s.W s.nx, s.kp ++ [c]⟩ := by
  obtain ⟨N, j, h1, h2, h3, h4, h5⟩ := h.ex
  obtain ⟨k, hk, hl⟩ := h.w _ _ hc
  obtain rfl : k = N := by omega
  have hlt : k < l.length := (List.getElem?_eq_some_iff.1 hl).1
  have ht : l.take (k + 1) = l.take k ++ [c] := by rw [List.take_add_one, hl]; rfl
  refine ⟨⟨k + 1, j, hlt, by omega, by simp [h3], ?_, ?_⟩, fun z d hd => ?_⟩
  · dsimp only
    rw [ht, foldV_snoc, h4]
  · dsimp only
    rw [ht, h5, List.drop_append_of_le_length (by simp; omega)]
  · dsimp only at hd
    unfold del at hd
    split at hd
    · cases hd
    · exact h.w z d hd
theorem Told.steps {v0 : VS} {l : List Cmd} : ∀ (g : Nat) {s : LS}, Told v0 l s → Told v0 l (steps g s).2
  | 0, _, h => h
  | g + 1, s, h => by
    cases hc : s.W s.nx with
    | none => simp only [Lrn.steps, hc]; exact h
    | some c => simp only [Lrn.steps, hc]; exact Told.steps g (h.step hc)
theorem Dec.steps {z : Int} : ∀ (g : Nat) {s : LS}, Dec s z → Dec (steps g s).2 z
  | 0, _, h => h
  | g + 1, s, h => by
    cases hc : s.W s.nx with
    | none => simp only [Lrn.steps, hc]; exact h
    | some c =>
      simp only [Lrn.steps, hc]
      refine Dec.steps g ?_
      by_cases e : z = s.nx
      · exact .inl (by dsimp only; omega)
      · rcases h with h | h
        · exact .inl (by dsimp only; omega)
        · exact .inr (by dsimp only; rw [show del s.W s.nx z = s.W z from if_neg e]; exact h)
theorem Told.trim {v0 : VS} {l : List Cmd} {s : LS} (h : Told v0 l s) : Told v0 l (trim s) := by
  obtain ⟨N, j, h1, h2, h3, h4, h5⟩ := h.ex
  refine ⟨⟨N, j + (s.kp.length - 8), h1, ?_, h3, h4, ?_⟩, h.w⟩
  · rw [h5]; simp; omega
  · simp only [Lrn.trim]
    rw [h5, List.drop_drop]
theorem Told.apply {v0 : VS} {l : List Cmd} {s : LS} (h : Told v0 l s) : Told v0 l (applyL s).2 := (h.steps 17).trim
theorem Dec.apply {z : Int} {s : LS} (h : Dec s z) : Dec (applyL s).2 z := h.steps 17
theorem Told.known {v0 : VS} {l : List Cmd} {s : LS} (h : Told v0 l s) {z : Int} {c : Cmd} (hk : knownL s z = some c) : ∃ k : Nat, z = k ∧ l[k]? = some c := by
  unfold knownL at hk
  cases hw : s.W z with
  | some d => rw [hw] at hk; injection hk with hk; subst hk; exact h.w z d hw
  | none =>
    rw [hw] at hk
    dsimp only at hk
    obtain ⟨N, j, h1, h2, h3, h4, h5⟩ := h.ex
    unfold getL at hk
    split at hk
    · rename_i hz
      have hlen : s.kp.length = N - j := by rw [h5]; simp; omega
      have hlow : low s = j := by simp only [low, hlen, h3]; omega
      rw [hlow] at hz hk
      rw [h5, List.getElem?_drop, List.getElem?_take] at hk
      refine ⟨z.toNat, by omega, ?_⟩
      rw [show j + (z - (j : Int)).toNat = z.toNat by omega, if_pos (by omega)] at hk
      exact hk
    · cases hk
theorem Told.more {v0 : VS} {l : List Cmd} {s : LS} (h : Told v0 l s) (c : Cmd) : Told v0 (l ++ [c]) s := by
  obtain ⟨N, j, h1, h2, h3, h4, h5⟩ := h.ex
  refine ⟨⟨N, j, by simp; omega, h2, h3, ?_, ?_⟩, fun z d hd => ?_⟩
  · rw [List.take_append_of_le_length h1]; exact h4
  · rw [List.take_append_of_le_length h1]; exact h5
  · obtain ⟨k, rfl, hk⟩ := h.w z d hd
    exact ⟨k, rfl, by rw [List.getElem?_append_left (List.getElem?_eq_some_iff.1 hk).1]; exact hk⟩
/-- one of the list's commands is decided -/
theorem Told.decide {v0 : VS} {l : List Cmd} {s : LS} (h : Told v0 l s) (ho : Ok s) (hl : l.length ≤ 16) {i : Nat} {c : Cmd} (hi : l[i]? = some c) :
    ∃ s' out, decideL s i c = (s', out, 0) ∧ Told v0 l s' ∧ Ok s' ∧ s'.W s'.nx = none ∧ Dec s' i ∧ ∀ z, Dec s z → Dec s' z := by
  have hlt : i < l.length := (List.getElem?_eq_some_iff.1 hi).1
  have hf : far s i = false := by
    have := ho.n0
    simp only [far, decide_eq_false_iff_not]; omega
  have hcl : clash s i c = false := by
    unfold clash
    cases hk : knownL s i with
    | none => rfl
    | some d =>
      obtain ⟨k, h1, h2⟩ := h.known hk
      obtain rfl : i = k := by omega
      rw [hi] at h2
      injection h2 with h2
      simp [h2]
  have hput : Told v0 l (put s i c) := by
    unfold put
    split
    · refine ⟨h.ex, fun z d hd => ?_⟩
      dsimp only at hd
      unfold upd at hd
      split at hd
      · rename_i e
        injection hd with hd
        subst hd
        exact ⟨i, e, hi⟩
      · exact h.w z d hd
    · exact h
  have hd : Dec (put s i c) i := by
    unfold put
    split
    · exact .inr (by dsimp only; rw [upd, if_pos rfl]; simp)
    · exact .inl (by omega)
  have hm : ∀ z, Dec s z → Dec (put s i c) z := fun z hz => by
    unfold put
    split
    · rcases hz with h1 | h1
      · exact .inl h1
      · refine .inr ?_
        dsimp only
        unfold upd
        split
        · simp
        · exact h1
    · exact hz
  have hon := put_ok ho (z := i) (by omega) hf c
  have heq : decideL s i c = ((applyL (Lrn.put s i c)).2, (applyL (Lrn.put s i c)).1, 0) := by unfold decideL; rw [hf, hcl]; rfl
  refine ⟨_, _, heq, hput.apply, applyL_ok hon, applyL_done hon, hd.apply, fun z hz => (hm z hz).apply⟩
/-- when all are decided -/
theorem Told.all {v0 : VS} {l : List Cmd} {s : LS} (h : Told v0 l s) (hh : s.W s.nx = none) (hd : ∀ i : Nat, i < l.length → Dec s i) : s.nx = l.length ∧ s.v = foldV v0 l := by
  obtain ⟨N, j, h1, h2, h3, h4, h5⟩ := h.ex
  have : N = l.length := by
    by_cases e : N < l.length
    · exfalso
      rcases hd N e with h6 | h6
      · omega
      · rw [← h3] at h6; exact h6 hh
    · omega
  subst this
  exact ⟨h3, by rw [h4, List.take_length]⟩
theorem told_new (v : VS) (l : List Cmd) : Told v l (newL v) := ⟨⟨0, 0, Nat.zero_le _, Nat.le_refl _, rfl, rfl, rfl⟩, fun z c hc => by simp [newL] at hc⟩
theorem hole_new (v : VS) : (newL v).W (newL v).nx = none := rfl
/-- a snapshot of all that were told -/
theorem Told.snap {v0 : VS} {l : List Cmd} (hl : l.length ≤ 16) (hp : 0 < l.length) {v : VS} (hv : v = foldV v0 l) : snapL (newL v0) l.length v = (⟨v, l.length, cut (fun _ => none) l.length, []⟩, [], true) := by
  have h1 : ¬ ((l.length : Int) ≤ (newL v0).nx ∨ (l.length : Int) = 4294967295) := by
    have : (newL v0).nx = 0 := rfl
    omega
  have hW : cut (newL v0).W l.length = cut (fun _ => none) l.length := rfl
  have hc : ∀ z, cut (fun _ => (none : Option Cmd)) l.length z = none := fun z => by unfold cut; split <;> rfl
  unfold snapL
  rw [if_neg h1, hW]
  have : applyL ⟨v, (l.length : Int), cut (fun _ => none) l.length, []⟩ = ([], ⟨v, l.length, cut (fun _ => none) l.length, []⟩) := by
    have hs : Lrn.steps 17 ⟨v, (l.length : Int), cut (fun _ => none) l.length, []⟩ = ([], ⟨v, l.length, cut (fun _ => none) l.length, []⟩) := by
      simp [Lrn.steps, hc]
    rw [applyL, hs]; rfl
  rw [this]
theorem told_snap {v0 : VS} {l : List Cmd} {v : VS} (hv : v = foldV v0 l) : Told v0 l ⟨v, l.length, cut (fun _ => none) l.length, []⟩ := by
  refine ⟨⟨l.length, l.length, Nat.le_refl _, Nat.le_refl _, rfl, by rw [List.take_length]; exact hv, by simp⟩, fun z c hc => ?_⟩
  dsimp only at hc
  unfold cut at hc
  split at hc <;> cases hc
theorem foldV_wf {v : VS} (h : WF v) : ∀ l : List Cmd, WF (foldV v l)
  | [] => h
  | c :: l => foldV_wf (ap_wf h c) l
theorem ok_snap {l : List Cmd} (hl : l.length ≤ 16) {v : VS} (hv : WF v) : Ok ⟨v, l.length, cut (fun _ => none) l.length, []⟩ := by
  refine ⟨hv, by simp, by simp; omega, fun z c hc => ?_, by simp, by simp⟩
  dsimp only at hc
  unfold cut at hc
  split at hc <;> cases hc
end Go.Proofs.Ytidhblpcaccchaa.Lrn
