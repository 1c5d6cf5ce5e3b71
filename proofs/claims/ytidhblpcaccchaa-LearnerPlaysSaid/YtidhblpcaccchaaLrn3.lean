/- Learners: what the document knows behind a command. No program is named here. -/
import Derived.Test.YtidhblpcaccchaaLrn1
namespace Go.Proofs.Ytidhblpcaccchaa.Lrn
open View (VS WF)
theorem kn_apply {s : LS} {l : List (Int × Cmd)} (hk : ∀ z, low s ≤ z → findR l z = knownL s z) (ho : OkN 16 s) : ∀ z, findR (l.filter fun x => decide (low (applyL s).2 ≤ x.1)) z = knownL (applyL s).2 z := by
  intro z
  have ok := applyL_ok ho
  by_cases h : low (applyL s).2 ≤ z
  · exact (Knows.apply ⟨hk⟩ ho).fnd z h
  · rw [findR_below (all_filter l _) (by omega)]
    have hl : low (applyL s).2 = (applyL s).2.nx - (applyL s).2.kp.length := rfl
    rw [known_lt ok (by omega), getL, if_neg (fun h2 => h h2.1)]
theorem low_put (s : LS) (z : Int) (c : Cmd) : low (put s z c) = low s := by unfold put; split <;> rfl
theorem steps_wf : ∀ (f g : Nat) (s : LS), OkN f s → f ≤ g → ∀ a ∈ (steps g s).1, WF a.v
  | f, 0, s, h, hg, a, ha => by simp [steps] at ha
  | f, g + 1, s, h, hg, a, ha => by
    cases hc : s.W s.nx with
    | none => simp [steps, hc] at ha
    | some c =>
      have h0 := h.w _ _ hc
      obtain ⟨f, rfl⟩ : ∃ f', f = f' + 1 := ⟨f - 1, by omega⟩
      simp only [steps, hc, List.mem_cons] at ha
      rcases ha with rfl | ha
      · exact (h.step hc).wf
      · exact steps_wf f g _ (h.step hc) (by omega) a ha
theorem apply_wf {s : LS} (h : OkN 16 s) : ∀ a ∈ (applyL s).1, WF a.v := steps_wf 16 17 s h (by omega)
theorem get_known {s : LS} (ho : Ok s) (z : Int) : getL s z = if z < s.nx then knownL s z else none := by
  split
  · rename_i h; exact (known_lt ho h).symm
  · exact getL_none (by omega)
end Go.Proofs.Ytidhblpcaccchaa.Lrn
