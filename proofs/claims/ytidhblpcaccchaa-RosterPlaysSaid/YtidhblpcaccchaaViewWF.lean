/- The plain laws of layer 5: what views keep through commands (for the engine's proofs). -/
import Derived.Test.YtidhblpcaccchaaView0
namespace Go.Proofs.Ytidhblpcaccchaa
namespace View
structure WF (v : VS) : Prop where
  len : v.ms.length ≤ 8
  nd : (v.ms.map (·.node)).Nodup
  mem : ∀ m ∈ v.ms, 1 ≤ m.node ∧ m.node ≤ 8 ∧ m.life < 256 ∧ v.L (m.node - 1) = m.life
  rdy : 0 < ready v.ms
  e0 : 0 ≤ v.e
  e1 : v.e ≤ 4294967295
  L : ∀ k, v.L k < 256

theorem map_set_node {ms : List Mem} {i : Nat} (h : i < ms.length) (m : Mem) (hm : m.node = ms[i].node) : (ms.set i m).map (·.node) = ms.map (·.node) := by
  rw [List.map_set, hm]
  exact List.ext_getElem (by simp) (fun k h1 h2 => by
    rw [List.getElem_set]; split
    · subst_vars; simp
    · rfl)
theorem ready_pos {ms : List Mem} {m : Mem} (h : m ∈ ms) (hr : m.ready = true) : 0 < ready ms := by
  unfold ready
  exact List.length_pos_of_mem (List.mem_filter.2 ⟨h, hr⟩)

/-- what a command leaves: the same view, or one more, or one less, or a member settled -/
inductive Step (v : VS) : VS → Bool → Prop where
  | same (b : Bool) : Step v v b
  | more (node life : Nat) (h1 : 1 ≤ node) (h2 : node ≤ 8) (h3 : life ≤ 200) (hat : ∀ m ∈ v.ms, m.node ≠ node) (hl : v.ms.length < 8) (hL : v.L (node - 1) < life) (he : v.e ≠ 4294967295) :
      Step v ⟨v.e + 1, v.ms ++ [⟨node, life, false⟩], upd v.L (node - 1) life⟩ true
  | less (i : Nat) (hi : i < v.ms.length) (hr : 0 < ready (v.ms.eraseIdx i)) (he : v.e ≠ 4294967295) : Step v ⟨v.e + 1, v.ms.eraseIdx i, v.L⟩ true
  | settle (i : Nat) (hi : i < v.ms.length) : Step v ⟨v.e, v.ms.set i { v.ms[i] with ready := true }, v.L⟩ true
theorem step_apply (v : VS) (kind node life : Nat) (ep : Int) : Step v (applyV v kind node life ep).1 (applyV v kind node life ep).2 := by
  unfold applyV
  split
  · exact .same _
  split
  · unfold addV
    split
    · rename_i h
      split
      · exact .same _
      · rename_i he
        unfold may at h
        obtain ⟨a, b, c, d, e, f, g⟩ := of_decide_eq_true h
        exact .more node life a b d (fun m hm hx => by
          obtain ⟨k, hk, rfl⟩ := List.mem_iff_getElem.1 hm
          exact atN_none e k hk hx) f g he
    · exact .same _
  split
  · exact .same _
  · rename_i i hat
    obtain ⟨hi, h1, h2⟩ := atN_some hat
    split
    · exact .same _
    · rename_i m hm
      rw [List.getElem?_eq_getElem hi] at hm
      injection hm with hm
      subst hm
      split
      · exact .same _
      split
      · unfold removeV
        split
        · exact .same _
        · unfold next
          split
          · exact .same _
          · exact .less i hi (by omega) (by assumption)
      split
      · exact .settle i hi
      · exact .same _
theorem WF.step {v v' : VS} {b : Bool} (h : WF v) (hs : Step v v' b) : WF v' := by
  cases hs with
  | same => exact h
  | more node life h1 h2 h3 hat hl hL he =>
    refine ⟨by simp; omega, ?_, ?_, ?_, by have := h.e0; simp; omega, by have := h.e1; simp; omega, ?_⟩
    · simp only [List.map_append, List.map_cons, List.map_nil]
      rw [List.nodup_append]
      refine ⟨h.nd, by simp, ?_⟩
      intro a ha b hb
      obtain ⟨m, hm, rfl⟩ := List.mem_map.1 ha
      simp at hb
      subst hb
      exact hat m hm
    · intro m hm
      simp only [List.mem_append, List.mem_singleton] at hm
      rcases hm with hm | rfl
      · obtain ⟨a, b, c, d⟩ := h.mem m hm
        refine ⟨a, b, c, ?_⟩
        have := hat m hm
        simp only [upd]
        rw [if_neg (by omega)]
        exact d
      · exact ⟨h1, h2, by simp; omega, by simp [upd]⟩
    · have := h.rdy
      unfold ready at *
      rw [List.filter_append, List.length_append]; omega
    · intro k
      simp only [upd]
      split
      · omega
      · exact h.L k
  | less i hi hr he =>
    refine ⟨by have := List.length_eraseIdx_of_lt hi; have := h.len; simp only; omega, ?_, ?_, hr, by have := h.e0; simp; omega, by have := h.e1; simp; omega, h.L⟩
    · exact List.Sublist.nodup ((List.eraseIdx_sublist _ _).map _) h.nd
    · intro m hm
      exact h.mem m (List.mem_of_mem_eraseIdx hm)
  | settle i hi =>
    refine ⟨by simpa using h.len, ?_, ?_, ?_, h.e0, h.e1, h.L⟩
    · show ((v.ms.set i { v.ms[i] with ready := true }).map (·.node)).Nodup
      rw [map_set_node hi { v.ms[i] with ready := true } rfl]
      exact h.nd
    · intro m hm
      rcases List.mem_or_eq_of_mem_set hm with hm | rfl
      · exact h.mem m hm
      · exact h.mem v.ms[i] (by simp)
    · exact ready_pos (List.mem_set hi _) rfl
/-- what the law ViewReady asks of a step -/
theorem step_facts {v v' : VS} {b : Bool} (h : WF v) (hs : Step v v' b) :
    (∀ k, v.L k ≤ v'.L k) ∧ ((v'.ms.length = v.ms.length ∧ v'.e = v.e) ∨ (v'.ms.length ≠ v.ms.length ∧ v'.e = v.e + 1 ∧ v.e < 4294967295)) ∧ (b = false → v' = v) ∧
    (v.ms.length < v'.ms.length → ∃ (_ : v'.ms.length - 1 < v'.ms.length) (m : Mem), v'.ms[v'.ms.length - 1] = m ∧ 1 ≤ m.node ∧ m.node ≤ 8 ∧ v.L (m.node - 1) < m.life ∧ v'.ms.length = v.ms.length + 1) := by
  have he1 := h.e1
  cases hs with
  | same => exact ⟨fun _ => Nat.le_refl _, .inl ⟨rfl, rfl⟩, fun _ => rfl, fun h => absurd h (by omega)⟩
  | more node life h1 h2 h3 hat hl hL he =>
    refine ⟨fun k => ?_, .inr ⟨by simp, rfl, by omega⟩, (fun h => nomatch h), fun _ => ⟨by simp, ⟨node, life, false⟩, by simp, h1, h2, hL, by simp⟩⟩
    simp only [upd]
    split
    · subst_vars; omega
    · exact Nat.le_refl _
  | less i hi hr he => exact ⟨fun _ => Nat.le_refl _, .inr ⟨by show (v.ms.eraseIdx i).length ≠ v.ms.length; rw [List.length_eraseIdx_of_lt hi]; omega, rfl, by omega⟩, (fun h => nomatch h), fun h => absurd h (by show ¬ v.ms.length < (v.ms.eraseIdx i).length; rw [List.length_eraseIdx_of_lt hi]; omega)⟩
  | settle i hi => exact ⟨fun _ => Nat.le_refl _, .inl ⟨by simp, rfl⟩, (fun h => nomatch h), fun h => absurd h (by simp)⟩
theorem at_self {ms : List Mem} (hnd : (ms.map (·.node)).Nodup) {k : Nat} (hk : k < ms.length) : atN ms ms[k].node = some k := by
  unfold atN
  rw [List.findIdx?_eq_some_iff_getElem]
  refine ⟨hk, by simp, fun j hj => ?_⟩
  simp only [Bool.not_eq_true, beq_eq_false_iff_ne]
  intro he
  unfold List.Nodup at hnd
  rw [List.pairwise_iff_getElem] at hnd
  exact hnd j k (by simp; omega) (by simpa using hk) hj (by simpa using he)
end View
end Go.Proofs.Ytidhblpcaccchaa
