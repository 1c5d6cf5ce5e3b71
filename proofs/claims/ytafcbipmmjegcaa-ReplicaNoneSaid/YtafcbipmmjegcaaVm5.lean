/- Trees: laws of memory under the relation. No program is named here. -/
import Derived.Test.YtafcbipmmjegcaaVm4
import Derived.Deep.AppendSrc
import Derived.Deep.Upon
namespace Go.Proofs.Ytafcbipmmjegcaa.Vm
open Go Go.RowKit

theorem rel_one {M : Pm} {t : T} {y : Value} (h : t.one = true) (r : Rel M t y) : y.oneCell' = true := by
  cases t <;> simp only [T.one] at h <;> first | cases h | skip
  all_goals simp only [Rel] at r
  · subst r; exact h
  · obtain ⟨A, cap, rfl, _⟩ := r; rfl
  · obtain ⟨rfl, A, cap, rfl, _⟩ := r; rfl
  · subst r; rfl
  · subst r; rfl
  · obtain ⟨b, o, rfl, _⟩ := r; rfl
  · subst r; rfl
  · obtain ⟨ys, rfl, _⟩ := r; rfl
  · obtain ⟨ys, rfl, _⟩ := r; rfl
  · rw [r.1]; rfl
  · obtain ⟨A, rfl⟩ := r; rfl
theorem relL_one {M : Pm} : ∀ {ts : List T} {ys : List Value}, ts.all T.one = true → RelL M ts ys → ∀ y ∈ ys, y.oneCell' = true
  | [], ys, _, r => by simp only [RelL] at r; subst r; simp
  | t :: ts, ys, h, r => by
    simp only [RelL] at r
    obtain ⟨u, us, rfl, r1, r2⟩ := r
    simp only [List.all_cons, Bool.and_eq_true] at h
    intro y hy
    rcases List.mem_cons.1 hy with rfl | hy
    · exact rel_one h.1 r1
    · exact relL_one h.2 r2 y hy
/-- the cells of an address that are promised -/
theorem relA_list {M : Pm} {b : Nat} : ∀ {ts : List T} {o : Nat}, RelA M b ts o → ∃ us, RelL M ts us ∧ ∀ j u, us[j]? = some u → M b (o + j) = some u
  | [], o, _ => ⟨[], by simp only [RelL], by simp⟩
  | t :: ts, o, r => by
    simp only [RelA] at r
    obtain ⟨⟨u, h1, h2⟩, r⟩ := r
    obtain ⟨us, h3, h4⟩ := relA_list r
    refine ⟨u :: us, by simp only [RelL]; exact ⟨u, us, rfl, h2, h3⟩, fun j v hv => ?_⟩
    cases j with
    | zero => simp at hv; subst hv; exact h1
    | succ j =>
      have := h4 j v (by simpa using hv)
      rwa [show o + 1 + j = o + (j + 1) from by omega] at this
theorem relE_list {M : Pm} {k b : Nat} : ∀ {es : List T} {o : Nat}, El elCells k es → RelE M k b es o → ∃ us, RelL M (es.flatMap elCells) us ∧ us.length = es.length * k ∧ ∀ j u, us[j]? = some u → M b (o + j) = some u
  | [], o, _, _ => ⟨[], by simp only [List.flatMap_nil, RelL], by simp, by simp⟩
  | e :: es, o, hl, r => by
    have h0 := r.el (i := 0) (e := e) (by simp)
    have h1 := r.drop 1
    simp only [List.drop_succ_cons, List.drop_zero, Nat.one_mul] at h1
    rw [Nat.zero_mul, Nat.add_zero] at h0
    obtain ⟨us, a1, a2⟩ := relA_list h0
    obtain ⟨vs, b1, b2, b3⟩ := relE_list (fun x hx => hl x (List.mem_cons_of_mem _ hx)) h1
    have hk : us.length = k := by rw [a1.len]; exact hl e (by simp)
    refine ⟨us ++ vs, by rw [List.flatMap_cons]; exact a1.append b1, by rw [List.length_append, hk, b2, List.length_cons, Nat.add_mul]; omega, fun j u hu => ?_⟩
    rw [List.getElem?_append] at hu
    split at hu
    · exact a2 j u hu
    · have := b3 _ u hu
      rwa [show o + k + (j - us.length) = o + j from by omega] at this
theorem relE_of_list {M : Pm} {k b : Nat} : ∀ {es : List T} {o : Nat} {us : List Value}, El elCells k es → RelL M (es.flatMap elCells) us → (∀ j u, us[j]? = some u → M b (o + j) = some u) → RelE M k b es o
  | [], o, us, _, _, _ => by simp only [RelE]
  | e :: es, o, us, hl, r, hm => by
    have hk := hl e (by simp)
    rw [List.flatMap_cons] at r
    have ha : RelA M b (elCells e) o := RelA.of_get fun i t ht => by
      have hi : i < (elCells e).length := (List.getElem?_eq_some_iff.1 ht).1
      obtain ⟨y, h1, h2⟩ := r.get (i := i) (t := t) (by rw [List.getElem?_append_left hi]; exact ht)
      exact ⟨y, hm i y h1, h2⟩
    have hd := r.drop k
    rw [← hk, List.drop_left, hk] at hd
    have hr : RelE M k b es (o + k) := relE_of_list (fun x hx => hl x (List.mem_cons_of_mem _ hx)) hd fun j u hu => by
      rw [List.getElem?_drop] at hu
      have := hm _ u hu
      rwa [show o + (k + j) = o + k + j from by omega] at this
    refine RelE.of_el fun i e' he' => ?_
    cases i with
    | zero => simp at he'; subst he'; simpa using ha
    | succ i =>
      have := hr.el (i := i) (by simpa using he')
      rwa [show o + k + i * k = o + (i + 1) * k from by rw [Nat.add_mul]; omega] at this
theorem relE_append {M : Pm} {k b : Nat} {es fs : List T} {o : Nat} (h1 : RelE M k b es o) (h2 : RelE M k b fs (o + es.length * k)) : RelE M k b (es ++ fs) o := RelE.of_el fun i e he => by
  rw [List.getElem?_append] at he
  split at he
  · exact h1.el he
  · rename_i hlt
    have := h2.el he
    rwa [show o + es.length * k + (i - es.length) * k = o + i * k from by
      rw [Nat.add_assoc, ← Nat.add_mul]; congr 2; omega] at this

section
variable {M M' : Pm} {w w' : World}
theorem cell_of_heap {b : Nat} (h : w'.heap[b]? = w.heap[b]?) (o : Nat) : w'.cell? ⟨b, o, none⟩ = w.cell? ⟨b, o, none⟩ := World.cell?_of_block (w := w) h
theorem Hc.lt {b : Nat} {C : Array Value} {t : TypeId} (h : Hc w b C t) : b < w.heap.size := by
  obtain ⟨fz, h, _⟩ := h
  exact (Array.getElem?_eq_some_iff.1 h).1
theorem Hc.of {b : Nat} {C : Array Value} {t : TypeId} (h : w.heap[b]? = some (.cells C t (0, 0))) : Hc w b C t := ⟨_, h, .inl rfl⟩
theorem Hc.keep {b : Nat} {C : Array Value} {t : TypeId} (h : Hc w b C t) (e : w'.heap[b]? = w.heap[b]?) : Hc w' b C t := by
  obtain ⟨fz, h, k⟩ := h
  exact ⟨fz, e.trans h, k⟩
theorem Hc.cell {b : Nat} {C : Array Value} {t : TypeId} (h : Hc w b C t) (i : Nat) : w.cell? ⟨b, i, none⟩ = C[i]? := by
  obtain ⟨fz, h, _⟩ := h
  exact cell_of_row _ _ _ _ _ _ h
theorem Hc.setRow {b : Nat} {C C' : Array Value} {t : TypeId} (h : Hc w b C t) (hs : C'.size = C.size) : Hc (w.setRow b C') b C' t := by
  obtain ⟨fz, h, k⟩ := h
  exact ⟨fz, setRow_heap w b C C' t fz h, by rw [hs]; exact k⟩
theorem Hc.self {b : Nat} {C : Array Value} {t : TypeId} (h : Hc w b C t) : w.setRow b C = w := by
  obtain ⟨fz, h, _⟩ := h
  exact setRow_self w b C t fz h
theorem Hc.uniq {b : Nat} {C C' : Array Value} {t t' : TypeId} (h : Hc w b C t) (h' : Hc w b C' t') : C = C' := by
  obtain ⟨fz, h, _⟩ := h
  obtain ⟨fz', h', _⟩ := h'
  rw [h] at h'
  injection h' with h'
  injection h'
/-- cells are laid where nothing is frozen -/
theorem run_storeCells_z (P : Program) (g o : Nat) (t : TypeId) : ∀ (vs : List Value) (i : Nat) (cur : Array Value) (w : World), Hc w g cur t → o + i + vs.length ≤ cur.size → (∀ v ∈ vs, v.oneCell' = true) →
    (storeCells ⟨g, o, none⟩ vs i).run P w = .ok () (w.setRow g (cur.toList.take (o + i) ++ vs ++ cur.toList.drop (o + i + vs.length)).toArray)
  | [], i, cur, w, hg, _, _ => by
    obtain ⟨fz, hg, _⟩ := hg
    simp only [storeCells, List.append_nil, List.length_nil, Nat.add_zero, List.take_append_drop, Array.toArray_toList]
    rw [setRow_self w g cur t fz hg]
    rfl
  | v :: rest, i, cur, w, hg, hl, h1 => by
    have hg0 := hg
    obtain ⟨fz, hg, hfz⟩ := hg
    have hi : o + i < cur.size := by simp at hl; omega
    have hadd : (⟨g, o, none⟩ : Addr).add i = ⟨g, o + i, none⟩ := by unfold Addr.add; split <;> simp_all
    have hcell : w.cell? ⟨g, o + i, none⟩ = some cur[o + i] := by simp [World.cell?, hg, hi]
    have hfro : w.frozen? ⟨g, o + i, none⟩ = false := by
      obtain ⟨lo, hi'⟩ := fz
      simp only [World.frozen?, hg, Bool.and_eq_false_iff, decide_eq_false_iff_not]
      rcases hfz with hfz | hfz
      · injection hfz with e1 e2; right; omega
      · simp only at hfz; left; omega
    have hst : (store ((⟨g, o, none⟩ : Addr).add i) v).run P w = .ok () (w.setRow g (cur.setIfInBounds (o + i) v)) := by
      rw [hadd, run_store P w _ v _ (h1 v (by simp)), hcell]
      simp [hfro, setCell_eq_setRow w g (o + i) cur t fz v hg]
    have ih := run_storeCells_z P g o t rest (i + 1) (cur.setIfInBounds (o + i) v) (w.setRow g (cur.setIfInBounds (o + i) v)) (hg0.setRow (by simp)) (by simp at hl ⊢; omega) (fun x hx => h1 x (by simp [hx]))
    simp only [storeCells, Sem.run_bind, hst, Result.andThen_ok, ih, setRow_setRow]
    congr 3
    have e := list_seg_step cur.toList (o + i) v rest (by simp at hl ⊢; omega)
    simpa [Array.toList_setIfInBounds, Nat.add_assoc] using e
theorem ObRel.lt {x : Nat × Ob} {b : Nat} (h : ObRel M w x) (hb : obBlk x = some b) : b < w.heap.size := by
  obtain ⟨c, x⟩ := x
  have key : ∀ {o : Obj} {g : Nat}, w.heap[g]? = some o → g < w.heap.size := fun h => (Array.getElem?_eq_some_iff.1 h).1
  cases x with
  | cells cs => simp only [obBlk, Option.some.injEq] at hb; subst hb; obtain ⟨C, t, h1, _⟩ := h; exact h1.lt
  | room k e n x =>
    simp only [obBlk] at hb
    rcases h with ⟨rfl, _⟩ | ⟨g, cap, C, tr, rfl, h1, _⟩
    · simp [Value.ownBlock] at hb
    · simp [Value.ownBlock] at hb; subst hb; exact h1.lt
  | map kd f es ck => simp only [obBlk, Option.some.injEq] at hb; subst hb; exact key h.1
  | iter i mb kd es ck l c =>
    simp only [obBlk, Option.some.injEq] at hb
    subst hb
    obtain ⟨seen, h1, _⟩ := h.1
    exact key h1
  | kv kt G f =>
    simp only [obBlk, Option.some.injEq] at hb
    subst hb
    obtain ⟨es, ck, fv, h1, _⟩ := h.1
    exact key h1
  | fix cs => simp [obBlk] at hb
  | siter z pos =>
    simp only [obBlk, Option.some.injEq] at hb
    subst hb
    exact key h.1
  | whole C t fz =>
    simp only [obBlk, Option.some.injEq] at hb
    subst hb
    exact key h
  | gone => simp [obBlk] at hb
theorem ObRel.keep {x : Nat × Ob} (h : ObRel M w x) (hk : ∀ b, obBlk x = some b → w'.heap[b]? = w.heap[b]?) (hm : ∀ b, obBlk x = some b → ∀ o, M' b o = M b o) (hl : M.le M') : ObRel M' w' x := by
  obtain ⟨c, x⟩ := x
  cases x with
  | cells cs =>
    obtain ⟨C, t, h1, h2, h3⟩ := h
    exact ⟨C, t, h1.keep (hk c rfl), h2.mono hl _ _, fun o => (hm c rfl o).trans (h3 o)⟩
  | room k e n x =>
    rcases h with h | ⟨g, cap, C, tr, rfl, h1, h2, h3, h4, h5⟩
    · exact .inl h
    · exact .inr ⟨g, cap, C, tr, rfl, h1.keep (hk g rfl), h2, h3, h4, fun j hj => (hm g rfl j).trans (h5 j hj)⟩
  | map kd f es ck =>
    obtain ⟨h1, ⟨fv, h2, h3, h4⟩, h5⟩ := h
    refine ⟨(hk c rfl).trans h1, ⟨fv, h2, fun z t hz => ?_, h4⟩, fun o => (hm c rfl o).trans (h5 o)⟩
    obtain ⟨v, h6, h7⟩ := h3 z t hz
    exact ⟨v, h6, h7.mono hl _ _⟩
  | iter i mb kd es ck l cu =>
    obtain ⟨⟨seen, h1, h2⟩, h5⟩ := h
    exact ⟨⟨seen, (hk c rfl).trans h1, h2⟩, fun o => (hm c rfl o).trans (h5 o)⟩
  | kv kt G f =>
    obtain ⟨⟨es, ck, fv, h1, h2, h3, h4⟩, h5⟩ := h
    refine ⟨⟨es, ck, fv, (hk c rfl).trans h1, h2, fun z t hz => ?_, h4⟩, fun o => (hm c rfl o).trans (h5 o)⟩
    obtain ⟨v, h6, h7⟩ := h3 z t hz
    exact ⟨v, h6, h7.mono hl _ _⟩
  | fix cs => exact RelA.mono hl c cs 0 h
  | siter z pos => exact ⟨(hk c rfl).trans h.1, fun o => (hm c rfl o).trans (h.2 o)⟩
  | whole C t fz => exact (hk c rfl).trans h
  | gone => trivial
theorem no_promise (hp : ∀ b o v, M b o = some v → w.cell? ⟨b, o, none⟩ = some v ∧ v.oneCell' = true) {b : Nat} (hb : w.heap.size ≤ b) (o : Nat) : M b o = none := by
  cases h : M b o with
  | none => rfl
  | some v =>
    have := (hp b o v h).1
    have := World.block_lt_of_cell? w _ this
    simp only at this
    omega
theorem heap_new (w : World) (o : Obj) {b : Nat} (h : b < w.heap.size) : (w.alloc o).heap[b]? = w.heap[b]? := Below.heap_alloc w o b h
/-- only blocks that nothing lies in have turned -/
theorem HRel.still {ob : Obs} {gl : Glb} (h : HRel M ob gl w) (hk : ∀ b, b < w.heap.size → w'.heap[b]? = w.heap[b]?) : HRel M ob gl w' where
  promise := fun b o v hv => ⟨(cell_of_heap (hk b (by have := World.block_lt_of_cell? w _ (h.promise b o v hv).1; exact this)) o).trans (h.promise b o v hv).1, (h.promise b o v hv).2⟩
  objs := fun i x hx => (h.objs i x hx).keep (fun b hb => hk b ((h.objs i x hx).lt hb)) (fun _ _ _ => rfl) (Pm.le_refl _)
  apart := h.apart
  glob := fun b x hx => ⟨(h.glob b x hx).1, (h.glob b x hx).2.keep (fun c hc => hk c ((h.glob b x hx).2.lt hc)) (fun _ _ _ => rfl) (Pm.le_refl _)⟩
  sep := h.sep
theorem HRel.lt {ob : Obs} {gl : Glb} (h : HRel M ob gl w) {b : Nat} (hd : Dom ob gl b) : b < w.heap.size := by
  rcases hd with ⟨i, x, h1, h2⟩ | h1
  · exact (h.objs i x h1).lt h2
  · obtain ⟨x, hx⟩ := Option.isSome_iff_exists.1 h1
    exact (h.glob b x hx).2.lt (h.glob b x hx).1
/-- one thing more -/
theorem HRel.more {ob : Obs} {gl : Glb} (h : HRel M ob gl w) {x : Nat × Ob} (hx : ObRel M w x) (hn : ∀ b, obBlk x = some b → ¬ Dom ob gl b) : HRel M (ob ++ [x]) gl w where
  promise := h.promise
  objs := fun i y hy => by
    rw [List.getElem?_append] at hy
    split at hy
    · exact h.objs i y hy
    · have : y = x := by
        rw [List.getElem?_singleton] at hy
        split at hy
        · exact (Option.some.inj hy).symm
        · cases hy
      exact this ▸ hx
  apart := fun i j y z b hi hj hy hz => by
    rw [List.getElem?_append] at hi hj
    have one : ∀ {n : Nat} {y : Nat × Ob}, [x][n]? = some y → y = x ∧ n = 0 := fun {n y} hh => by
      rw [List.getElem?_singleton] at hh
      split at hh
      · exact ⟨(Option.some.inj hh).symm, by assumption⟩
      · cases hh
    split at hi <;> split at hj
    · exact h.apart i j y z b hi hj hy hz
    · obtain ⟨rfl, _⟩ := one hj; exact absurd (.inl ⟨i, y, hi, hy⟩) (hn b hz)
    · obtain ⟨rfl, _⟩ := one hi; exact absurd (.inl ⟨j, z, hj, hz⟩) (hn b hy)
    · obtain ⟨-, e1⟩ := one hi; obtain ⟨-, e2⟩ := one hj; omega
  glob := h.glob
  sep := fun i y b hi hy => by
    rw [List.getElem?_append] at hi
    split at hi
    · exact h.sep i y b hi hy
    · have : y = x := by
        rw [List.getElem?_singleton] at hi
        split at hi
        · exact (Option.some.inj hi).symm
        · cases hi
      subst this
      cases hg : gl b with
      | none => rfl
      | some z => exact absurd (.inr (by simp [hg])) (hn b hy)
/-- one thing has been turned -/
theorem HRel.turn {ob : Obs} {gl : Glb} (h : HRel M ob gl w) {i : Nat} {x y : Nat × Ob} (hi : ob[i]? = some x) (hl : M.le M')
    (hk : ∀ b, b < w.heap.size → obBlk x ≠ some b → w'.heap[b]? = w.heap[b]?) (hm : ∀ b, b < w.heap.size → obBlk x ≠ some b → ∀ o, M' b o = M b o)
    (hp : ∀ b o v, M' b o = some v → w'.cell? ⟨b, o, none⟩ = some v ∧ v.oneCell' = true) (hy : ObRel M' w' y) (hb : ∀ b, obBlk y = some b → obBlk x = some b ∨ w.heap.size ≤ b) : HRel M' (ob.set i y) gl w' := by
  have hil : i < ob.length := (List.getElem?_eq_some_iff.1 hi).1
  have get : ∀ {j : Nat} {z : Nat × Ob}, (ob.set i y)[j]? = some z → (j = i ∧ z = y) ∨ (j ≠ i ∧ ob[j]? = some z) := fun {j z} hz => by
    rw [List.getElem?_set] at hz
    split at hz
    · exact .inl ⟨by omega, (Option.some.inj hz).symm⟩
    · exact .inr ⟨by omega, hz⟩
  have far : ∀ {j : Nat} {z : Nat × Ob} {b : Nat}, j ≠ i → ob[j]? = some z → obBlk z = some b → obBlk x ≠ some b := fun {j z b} hj hz hbz e => hj (h.apart j i z x b hz hi hbz e)
  have gfar : ∀ {b : Nat} {z : Ob}, gl b = some z → obBlk x ≠ some b := fun {b z} hz e => by rw [h.sep i x b hi e] at hz; cases hz
  refine ⟨hp, fun j z hz => ?_, fun j l z u b hz hu h1 h2 => ?_, fun b z hz => ?_, fun j z b hz h1 => ?_⟩
  · rcases get hz with ⟨-, rfl⟩ | ⟨hj, hz⟩
    · exact hy
    · have ho := h.objs j z hz
      exact ho.keep (fun b hb => hk b (ho.lt hb) (far hj hz hb)) (fun b hb => hm b (ho.lt hb) (far hj hz hb)) hl
  · rcases get hz with ⟨ej, ez⟩ | ⟨hj, hz⟩ <;> rcases get hu with ⟨el, eu⟩ | ⟨hl', hu⟩
    · omega
    · exfalso
      have ho := (h.objs l u hu).lt h2
      rw [ez] at h1
      rcases hb b h1 with e | e
      · exact far hl' hu h2 e
      · omega
    · exfalso
      have ho := (h.objs j z hz).lt h1
      rw [eu] at h2
      rcases hb b h2 with e | e
      · exact far hj hz h1 e
      · omega
    · exact h.apart j l z u b hz hu h1 h2
  · have ho := h.glob b z hz
    exact ⟨ho.1, ho.2.keep (fun c hc => by have : c = b := by rw [ho.1] at hc; exact (Option.some.inj hc).symm
                                           subst this; exact hk c (ho.2.lt hc) (gfar hz)) (fun c hc => by
                                           have : c = b := by rw [ho.1] at hc; exact (Option.some.inj hc).symm
                                           subst this; exact hm c (ho.2.lt hc) (gfar hz)) hl⟩
  · rcases get hz with ⟨-, rfl⟩ | ⟨hj, hz⟩
    · rcases hb b h1 with e | e
      · exact h.sep i x b hi e
      · cases hg : gl b with
        | none => rfl
        | some u => have := (h.glob b u hg).2.lt (h.glob b u hg).1; omega
    · exact h.sep j z b hz h1
end
end Go.Proofs.Ytafcbipmmjegcaa.Vm
