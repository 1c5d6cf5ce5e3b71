/- Learners: the plain laws (the document's answer; orders). No program is named here. -/
import Derived.Test.YtidhblpcaccchaaLrn0
namespace Go.Proofs.Ytidhblpcaccchaa.Lrn
open View (VS WF)
def findR (l : List (Int × Cmd)) (z : Int) : Option Cmd := (l.find? (fun x => x.1 == z)).map (·.2)
theorem findR_snoc (l : List (Int × Cmd)) (z y : Int) (c : Cmd) : findR (l ++ [(z, c)]) y = match findR l y with | some d => some d | none => if z = y then some c else none := by
  induction l with
  | nil =>
    simp only [findR, List.nil_append, List.find?_cons, List.find?_nil]
    cases hb : (z == y)
    · have e : z ≠ y := by simpa using hb
      simp [e]
    · have e : z = y := by simpa using hb
      simp [e]
  | cons x l ih =>
    simp only [findR, List.cons_append, List.find?_cons] at ih ⊢
    by_cases h : x.1 == y <;> simp only [h] <;> first | rfl | exact ih
theorem findR_filter (l : List (Int × Cmd)) (w z : Int) (h : w ≤ z) : findR (l.filter fun x => decide (w ≤ x.1)) z = findR l z := by
  induction l with
  | nil => rfl
  | cons x l ih =>
    simp only [findR] at ih ⊢
    by_cases h1 : x.1 == z
    · have e : x.1 = z := by simpa using h1
      rw [List.filter_cons_of_pos (by simp; omega), List.find?_cons, List.find?_cons, h1]
    · by_cases h2 : w ≤ x.1
      · rw [List.filter_cons_of_pos (by simpa using h2), List.find?_cons, List.find?_cons]
        simp only [h1]; exact ih
      · rw [List.filter_cons_of_neg (by simpa using h2), List.find?_cons]
        simp only [h1]; exact ih
theorem findR_below {l : List (Int × Cmd)} {w z : Int} (h : ∀ x ∈ l, w ≤ x.1) (hz : z < w) : findR l z = none := by
  induction l with
  | nil => rfl
  | cons x l ih =>
    simp only [findR] at ih ⊢
    have := h x (by simp)
    rw [List.find?_cons, show (x.1 == z) = false by simp; omega]
    exact ih fun y hy => h y (by simp [hy])
/-- what a step leaves known -/
theorem known_step {f : Nat} {s : LS} (h : OkN (f + 1) s) {c : Cmd} (hc : s.W s.nx = some c) (z : Int) (hz : low s ≤ z) : knownL ⟨(ap s.v c).1, s.nx + 1, del s.W s.nx, s.kp ++ [c]⟩ z = knownL s z := by
  have hlow : low ⟨(ap s.v c).1, s.nx + 1, del s.W s.nx, s.kp ++ [c]⟩ = low s := by simp [low]; omega
  have hl : low s = s.nx - s.kp.length := rfl
  unfold knownL
  dsimp only
  by_cases e : z = s.nx
  · subst e
    rw [hc, del, if_pos rfl]
    dsimp only
    rw [getL, hlow, if_pos ⟨hz, by dsimp only; omega⟩]
    have : (s.nx - low s).toNat = s.kp.length := by omega
    rw [this]
    simp
  · rw [show del s.W s.nx z = s.W z from if_neg e]
    cases hw : s.W z with
    | some d => rfl
    | none =>
      dsimp only
      rw [getL, getL, hlow]
      by_cases h1 : low s ≤ z ∧ z < s.nx
      · rw [if_pos h1, if_pos ⟨h1.1, by dsimp only; omega⟩]
        dsimp only
        rw [List.getElem?_append_left (by omega)]
      · rw [if_neg h1, if_neg (by dsimp only; omega)]
theorem known_steps : ∀ (f g : Nat) (s : LS), OkN f s → f ≤ g → ∀ z, low s ≤ z → knownL (steps g s).2 z = knownL s z ∧ low (steps g s).2 = low s
  | f, 0, s, h, hg, z, hz => ⟨rfl, rfl⟩
  | f, g + 1, s, h, hg, z, hz => by
    cases hc : s.W s.nx with
    | none => simp only [steps, hc]; exact ⟨trivial, trivial⟩
    | some c =>
      have h0 := h.w _ _ hc
      obtain ⟨f, rfl⟩ : ∃ f', f = f' + 1 := ⟨f - 1, by omega⟩
      have hlow : low ⟨(ap s.v c).1, s.nx + 1, del s.W s.nx, s.kp ++ [c]⟩ = low s := by simp [low]; omega
      have := known_steps f g _ (h.step hc) (by omega) z (by rw [hlow]; exact hz)
      simp only [steps, hc]
      exact ⟨this.1.trans (known_step h hc z hz), this.2.trans hlow⟩
theorem low_trim (s : LS) : low (trim s) = if s.nx - low s > 8 then s.nx - 8 else low s := by
  have h1 : low s = s.nx - s.kp.length := rfl
  have h2 : low (trim s) = s.nx - ((s.kp.length - (s.kp.length - 8) : Nat) : Int) := by simp [low, trim]
  rw [h2]
  split <;> omega
theorem known_trim (s : LS) (z : Int) (hz : low (trim s) ≤ z) : knownL (trim s) z = knownL s z := by
  have h0 := low_trim s
  unfold knownL
  show (match s.W z with | some c => some c | none => getL (trim s) z) = _
  cases s.W z with
  | some d => rfl
  | none =>
    dsimp only
    have hn : (trim s).nx = s.nx := rfl
    have hl : low s = s.nx - s.kp.length := rfl
    have hle : low s ≤ low (trim s) := by rw [h0]; split <;> omega
    rw [getL, getL, hn]
    by_cases h1 : low (trim s) ≤ z ∧ z < s.nx
    · rw [if_pos h1, if_pos ⟨by omega, h1.2⟩]
      show (s.kp.drop (s.kp.length - 8))[_]? = _
      rw [List.getElem?_drop]
      congr 1
      rw [h0] at hz ⊢
      split <;> omega
    · rw [if_neg h1, if_neg (by omega)]
/-- the document's list beside a learner -/
structure Knows (s : LS) (all : List (Int × Cmd)) : Prop where
  fnd : ∀ z, low s ≤ z → findR all z = knownL s z
theorem Knows.apply {s : LS} {all : List (Int × Cmd)} (h : Knows s all) (ho : OkN 16 s) : Knows (applyL s).2 (all.filter fun x => decide (low (applyL s).2 ≤ x.1)) := by
  refine ⟨fun z hz => ?_⟩
  have hl : low (steps 17 s).2 = low s := (known_steps 16 17 s ho (by omega) (low s) (Int.le_refl _)).2
  have hz' : low s ≤ z := by
    have := low_trim (steps 17 s).2
    have hk : low (steps 17 s).2 = (steps 17 s).2.nx - (steps 17 s).2.kp.length := rfl
    show low s ≤ z
    have hz2 : low (trim (steps 17 s).2) ≤ z := hz
    rw [this] at hz2
    split at hz2 <;> omega
  rw [findR_filter _ _ _ hz, h.fnd z hz']
  exact ((known_trim _ z hz).trans (known_steps 16 17 s ho (by omega) z hz').1).symm
theorem low_apply {s : LS} (ho : OkN 16 s) : low (applyL s).2 = if (applyL s).2.nx - low s > 8 then (applyL s).2.nx - 8 else low s := by
  have hl : low (steps 17 s).2 = low s := (known_steps 16 17 s ho (by omega) (low s) (Int.le_refl _)).2
  have := low_trim (steps 17 s).2
  rw [hl] at this
  exact this
theorem all_filter (all : List (Int × Cmd)) (w : Int) : ∀ x ∈ all.filter (fun x => decide (w ≤ x.1)), w ≤ x.1 := fun x hx => by simpa using (List.mem_filter.1 hx).2
theorem getL_none {s : LS} {z : Int} (h : s.nx ≤ z) : getL s z = none := if_neg (by omega)
theorem known_ge {s : LS} {z : Int} (h : s.nx ≤ z) : knownL s z = s.W z := by
  unfold knownL
  cases s.W z with
  | some c => rfl
  | none => exact getL_none h
theorem known_lt {s : LS} (ho : Ok s) {z : Int} (h : z < s.nx) : knownL s z = getL s z := by
  unfold knownL
  cases hw : s.W z with
  | some c => have := ho.w z c hw; omega
  | none => rfl
theorem Knows.put {s : LS} {all : List (Int × Cmd)} (h : Knows s all) (z : Int) (c : Cmd) (hc : clash s z c = false) : Knows (put s z c) (if findR all z = none ∧ s.nx ≤ z then all ++ [(z, c)] else all) := by
  refine ⟨fun y hy => ?_⟩
  unfold Lrn.put at hy ⊢
  by_cases h1 : s.nx ≤ z
  · rw [if_pos h1] at hy ⊢
    have hy' : low s ≤ y := hy
    have hz' : low s ≤ z := by have : low s = s.nx - s.kp.length := rfl; omega
    have hz := h.fnd z hz'
    rw [known_ge h1] at hz
    have hk : knownL { s with W := upd s.W z c } y = if y = z then some c else knownL s y := by
      unfold knownL
      show (match upd s.W z c y with | some c => some c | none => getL s y) = _
      unfold upd
      by_cases e : y = z
      · rw [if_pos e, if_pos e]
      · rw [if_neg e, if_neg e]; rfl
    rw [hk]
    by_cases e : y = z
    · subst e
      rw [if_pos rfl]
      split
      · rename_i h2
        rw [findR_snoc, h2.1]; simp
      · rename_i h2
        have : findR all y ≠ none := fun e => h2 ⟨e, h1⟩
        rw [hz] at this ⊢
        unfold clash at hc
        rw [known_ge h1] at hc
        cases hw : s.W y with
        | none => exact absurd hw this
        | some d =>
          rw [hw] at hc
          simp at hc
          rw [hc]
    · rw [if_neg e]
      split
      · rw [findR_snoc, h.fnd y hy', if_neg (fun e' => e e'.symm)]
        cases knownL s y <;> rfl
      · exact h.fnd y hy'
  · rw [if_neg h1] at hy ⊢
    rw [if_neg (by omega)]
    exact h.fnd y hy
theorem Knows.snap {s : LS} {all : List (Int × Cmd)} (h : Knows s all) (z : Int) (v : VS) (hz : s.nx < z) : Knows ⟨v, z, cut s.W z, []⟩ all := by
  refine ⟨fun y hy => ?_⟩
  have hy' : z ≤ y := by simpa [low] using hy
  have : low s = s.nx - s.kp.length := rfl
  rw [h.fnd y (by omega), known_ge (s := ⟨v, z, cut s.W z, []⟩) hy', known_ge (by omega)]
  exact (if_neg (by omega)).symm
end Go.Proofs.Ytidhblpcaccchaa.Lrn
