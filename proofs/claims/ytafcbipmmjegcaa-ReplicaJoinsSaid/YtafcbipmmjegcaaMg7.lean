/- Texts of this claim: Vm5, Vm6. -/
import Derived.Test.YtafcbipmmjegcaaMg6
import Derived.Deep.AppendSrc
import Derived.Deep.Upon
namespace Go.Proofs.Ytafcbipmmjegcaa.Vm
open Go Go.RowKit
theorem rel_one {M : Pm} {t : T} {y : Value} (h : t.one = true) (r : Rel M t y) : y.oneCell' = true := by
 cases t <;> simp only [T.one] at h <;> first | cases h | skip
 all_goals simp only [Rel] at r
 ·subst r; exact h
 ·obtain ⟨A, cap, rfl, _⟩ := r; rfl
 ·obtain ⟨rfl, A, cap, rfl, _⟩ := r; rfl
 ·subst r; rfl
 ·subst r; rfl
 ·obtain ⟨b, o, rfl, _⟩ := r; rfl
 ·subst r; rfl
 ·obtain ⟨ys, rfl, _⟩ := r; rfl
 ·obtain ⟨ys, rfl, _⟩ := r; rfl
 ·rw [r.1]; rfl
 ·obtain ⟨A, rfl⟩ := r; rfl
theorem relL_one {M : Pm} : ∀ {ts : List T} {ys : List Value}, ts.all T.one = true → RelL M ts ys → ∀ y ∈ ys, y.oneCell' = true
 | [], ys, _, r => by simp only [RelL] at r; subst r; simp
 | t :: ts, ys, h, r => by
  simp only [RelL] at r
  obtain ⟨u, us, rfl, r1, r2⟩ := r
  simp only [List.all_cons, Bool.and_eq_true] at h
  intro y hy
  rcases List.mem_cons.1 hy with rfl | hy
  ·exact rel_one h.1 r1
  ·exact relL_one h.2 r2 y hy
theorem relA_list {M : Pm} {b : Nat} : ∀ {ts : List T} {o : Nat}, RelA M b ts o → ∃ us, RelL M ts us ∧ ∀ j u, us[j]? = some u → M b (o + j) = some u
 | [], o, _ => ⟨[], by simp only [RelL], by simp⟩
 | t :: ts, o, r => by
  simp only [RelA] at r
  obtain ⟨⟨u, h1, h2⟩, r⟩ := r
  obtain ⟨us, h3, h4⟩ := relA_list r
  refine ⟨u :: us, by simp only [RelL]; exact ⟨u, us, rfl, h2, h3⟩, fun j v hv => ?_⟩
  cases j with
  | zero => simp at hv; subst hv; exact h1
  | succ j =>
   have := h4 j v (by simpa using hv)
   rwa [show o + 1 + j = o + (j + 1) from by omega] at this
theorem relE_list {M : Pm} {k b : Nat} : ∀ {es : List T} {o : Nat}, El elCells k es → RelE M k b es o → ∃ us, RelL M (es.flatMap elCells) us ∧ us.length = es.length * k ∧ ∀ j u, us[j]? = some u → M b (o + j) = some u
 | [], o, _, _ => ⟨[], by simp only [List.flatMap_nil, RelL], by simp, by simp⟩
 | e :: es, o, hl, r => by
  have h0 := r.el (i := 0) (e := e) (by simp)
  have h1 := r.drop 1
  simp only [List.drop_succ_cons, List.drop_zero, Nat.one_mul] at h1
  rw [Nat.zero_mul, Nat.add_zero] at h0
  obtain ⟨us, a1, a2⟩ := relA_list h0
  obtain ⟨vs, b1, b2, b3⟩ := relE_list (fun x hx => hl x (List.mem_cons_of_mem _ hx)) h1
  have hk : us.length = k := by rw [a1.len]; exact hl e (by simp)
  refine ⟨us ++ vs, by rw [List.flatMap_cons]; exact a1.append b1, by rw [List.length_append, hk, b2, List.length_cons, Nat.add_mul]; omega, fun j u hu => ?_⟩
  rw [List.getElem?_append] at hu
  split at hu
  ·exact a2 j u hu
  ·have := b3 _ u hu
   rwa [show o + k + (j - us.length) = o + j from by omega] at this
theorem relE_of_list {M : Pm} {k b : Nat} : ∀ {es : List T} {o : Nat} {us : List Value}, El elCells k es → RelL M (es.flatMap elCells) us → (∀ j u, us[j]? = some u → M b (o + j) = some u) → RelE M k b es o
 | [], o, us, _, _, _ => by simp only [RelE]
 | e :: es, o, us, hl, r, hm => by
  have hk := hl e (by simp)
  rw [List.flatMap_cons] at r
  have ha : RelA M b (elCells e) o := RelA.of_get fun i t ht => by
   have hi : i < (elCells e).length := (List.getElem?_eq_some_iff.1 ht).1
   obtain ⟨y, h1, h2⟩ := r.get (i := i) (t := t) (by rw [List.getElem?_append_left hi]; exact ht)
   exact ⟨y, hm i y h1, h2⟩
  have hd := r.drop k
  rw [← hk, List.drop_left, hk] at hd
  have hr : RelE M k b es (o + k) := relE_of_list (fun x hx => hl x (List.mem_cons_of_mem _ hx)) hd fun j u hu => by
   rw [List.getElem?_drop] at hu
   have := hm _ u hu
   rwa [show o + (k + j) = o + k + j from by omega] at this
  refine RelE.of_el fun i e' he' => ?_
  cases i with
  | zero => simp at he'; subst he'; simpa using ha
  | succ i =>
   have := hr.el (i := i) (by simpa using he')
   rwa [show o + k + i * k = o + (i + 1) * k from by rw [Nat.add_mul]; omega] at this
theorem relE_append {M : Pm} {k b : Nat} {es fs : List T} {o : Nat} (h1 : RelE M k b es o) (h2 : RelE M k b fs (o + es.length * k)) : RelE M k b (es ++ fs) o := RelE.of_el fun i e he => by
 rw [List.getElem?_append] at he
 split at he
 ·exact h1.el he
 ·rename_i hlt
  have := h2.el he
  rwa [show o + es.length * k + (i - es.length) * k = o + i * k from by
   rw [Nat.add_assoc, ← Nat.add_mul]; congr 2; omega] at this
section
variable {M M' : Pm} {w w' : World}
theorem cell_of_heap {b : Nat} (h : w'.heap[b]? = w.heap[b]?) (o : Nat) : w'.cell? ⟨b, o, none⟩ = w.cell? ⟨b, o, none⟩ := World.cell?_of_block (w := w) h
theorem Hc.lt {b : Nat} {C : Array Value} {t : TypeId} (h : Hc w b C t) : b < w.heap.size := by
 obtain ⟨fz, h, _⟩ := h
 exact (Array.getElem?_eq_some_iff.1 h).1
theorem Hc.of {b : Nat} {C : Array Value} {t : TypeId} (h : w.heap[b]? = some (.cells C t (0, 0))) : Hc w b C t := ⟨_, h, .inl rfl⟩
theorem Hc.keep {b : Nat} {C : Array Value} {t : TypeId} (h : Hc w b C t) (e : w'.heap[b]? = w.heap[b]?) : Hc w' b C t := by
 obtain ⟨fz, h, k⟩ := h
 exact ⟨fz, e.trans h, k⟩
theorem Hc.cell {b : Nat} {C : Array Value} {t : TypeId} (h : Hc w b C t) (i : Nat) : w.cell? ⟨b, i, none⟩ = C[i]? := by
 obtain ⟨fz, h, _⟩ := h
 exact cell_of_row _ _ _ _ _ _ h
theorem Hc.setRow {b : Nat} {C C' : Array Value} {t : TypeId} (h : Hc w b C t) (hs : C'.size = C.size) : Hc (w.setRow b C') b C' t := by
 obtain ⟨fz, h, k⟩ := h
 exact ⟨fz, setRow_heap w b C C' t fz h, by rw [hs]; exact k⟩
theorem Hc.self {b : Nat} {C : Array Value} {t : TypeId} (h : Hc w b C t) : w.setRow b C = w := by
 obtain ⟨fz, h, _⟩ := h
 exact setRow_self w b C t fz h
theorem Hc.uniq {b : Nat} {C C' : Array Value} {t t' : TypeId} (h : Hc w b C t) (h' : Hc w b C' t') : C = C' := by
 obtain ⟨fz, h, _⟩ := h
 obtain ⟨fz', h', _⟩ := h'
 rw [h] at h'
 injection h' with h'
 injection h'
theorem run_storeCells_z (P : Program) (g o : Nat) (t : TypeId) : ∀ (vs : List Value) (i : Nat) (cur : Array Value) (w : World), Hc w g cur t → o + i + vs.length ≤ cur.size → (∀ v ∈ vs, v.oneCell' = true) →
  (storeCells ⟨g, o, none⟩ vs i).run P w = .ok () (w.setRow g (cur.toList.take (o + i) ++ vs ++ cur.toList.drop (o + i + vs.length)).toArray)
 | [], i, cur, w, hg, _, _ => by
  obtain ⟨fz, hg, _⟩ := hg
  simp only [storeCells, List.append_nil, List.length_nil, Nat.add_zero, List.take_append_drop, Array.toArray_toList]
  rw [setRow_self w g cur t fz hg]
  rfl
 | v :: rest, i, cur, w, hg, hl, h1 => by
  have hg0 := hg
  obtain ⟨fz, hg, hfz⟩ := hg
  have hi : o + i < cur.size := by simp at hl; omega
  have hadd : (⟨g, o, none⟩ : Addr).add i = ⟨g, o + i, none⟩ := by unfold Addr.add; split <;> simp_all
  have hcell : w.cell? ⟨g, o + i, none⟩ = some cur[o + i] := by simp [World.cell?, hg, hi]
  have hfro : w.frozen? ⟨g, o + i, none⟩ = false := by
   obtain ⟨lo, hi'⟩ := fz
   simp only [World.frozen?, hg, Bool.and_eq_false_iff, decide_eq_false_iff_not]
   rcases hfz with hfz | hfz
   ·injection hfz with e1 e2; right; omega
   ·simp only at hfz; left; omega
  have hst : (store ((⟨g, o, none⟩ : Addr).add i) v).run P w = .ok () (w.setRow g (cur.setIfInBounds (o + i) v)) := by
   rw [hadd, run_store P w _ v _ (h1 v (by simp)), hcell]
   simp [hfro, setCell_eq_setRow w g (o + i) cur t fz v hg]
  have ih := run_storeCells_z P g o t rest (i + 1) (cur.setIfInBounds (o + i) v) (w.setRow g (cur.setIfInBounds (o + i) v)) (hg0.setRow (by simp)) (by simp at hl ⊢; omega) (fun x hx => h1 x (by simp [hx]))
  simp only [storeCells, Sem.run_bind, hst, Result.andThen_ok, ih, setRow_setRow]
  congr 3
  have e := list_seg_step cur.toList (o + i) v rest (by simp at hl ⊢; omega)
  simpa [Array.toList_setIfInBounds, Nat.add_assoc] using e
theorem ObRel.lt {x : Nat × Ob} {b : Nat} (h : ObRel M w x) (hb : obBlk x = some b) : b < w.heap.size := by
 obtain ⟨c, x⟩ := x
 have key : ∀ {o : Obj} {g : Nat}, w.heap[g]? = some o → g < w.heap.size := fun h => (Array.getElem?_eq_some_iff.1 h).1
 cases x with
 | cells cs => simp only [obBlk, Option.some.injEq] at hb; subst hb; obtain ⟨C, t, h1, _⟩ := h; exact h1.lt
 | room k e n x =>
  simp only [obBlk] at hb
  rcases h with ⟨rfl, _⟩ | ⟨g, z, cap, C, tr, rfl, h1, _⟩
  ·simp [Value.ownBlock] at hb
  ·simp [Value.ownBlock] at hb; subst hb; exact h1.lt
 | map kd f es ck => simp only [obBlk, Option.some.injEq] at hb; subst hb; exact key h.1
 | iter i mb kd es ck l c =>
  simp only [obBlk, Option.some.injEq] at hb
  subst hb
  obtain ⟨seen, h1, _⟩ := h.1
  exact key h1
 | kv kt G f =>
  simp only [obBlk, Option.some.injEq] at hb
  subst hb
  obtain ⟨es, ck, fv, h1, _⟩ := h.1
  exact key h1
 | fix cs => simp [obBlk] at hb
 | siter z pos =>
  simp only [obBlk, Option.some.injEq] at hb
  subst hb
  exact key h.1
 | whole C t fz =>
  simp only [obBlk, Option.some.injEq] at hb
  subst hb
  exact key h
 | gone => simp [obBlk] at hb
theorem ObRel.keep {x : Nat × Ob} (h : ObRel M w x) (hk : ∀ b, obBlk x = some b → w'.heap[b]? = w.heap[b]?) (hm : ∀ b, obBlk x = some b → ∀ o, M' b o = M b o) (hl : M.le M') : ObRel M' w' x := by
 obtain ⟨c, x⟩ := x
 cases x with
 | cells cs =>
  obtain ⟨C, t, h1, h2, h3⟩ := h
  exact ⟨C, t, h1.keep (hk c rfl), h2.mono hl _ _, fun o => (hm c rfl o).trans (h3 o)⟩
 | room k e n x =>
  rcases h with h | ⟨g, z, cap, C, tr, rfl, h1, h2, h3, h4, h5⟩
  ·exact .inl h
  ·exact .inr ⟨g, z, cap, C, tr, rfl, h1.keep (hk g rfl), h2, h3, h4, fun j hj => (hm g rfl j).trans (h5 j hj)⟩
 | map kd f es ck =>
  obtain ⟨h1, ⟨fv, h2, h3, h4⟩, h5⟩ := h
  refine ⟨(hk c rfl).trans h1, ⟨fv, h2, fun z t hz => ?_, h4⟩, fun o => (hm c rfl o).trans (h5 o)⟩
  obtain ⟨v, h6, h7⟩ := h3 z t hz
  exact ⟨v, h6, h7.mono hl _ _⟩
 | iter i mb kd es ck l cu =>
  obtain ⟨⟨seen, h1, h2⟩, h5⟩ := h
  exact ⟨⟨seen, (hk c rfl).trans h1, h2⟩, fun o => (hm c rfl o).trans (h5 o)⟩
 | kv kt G f =>
  obtain ⟨⟨es, ck, fv, h1, h2, h3, h4⟩, h5⟩ := h
  refine ⟨⟨es, ck, fv, (hk c rfl).trans h1, h2, fun z t hz => ?_, h4⟩, fun o => (hm c rfl o).trans (h5 o)⟩
  obtain ⟨v, h6, h7⟩ := h3 z t hz
  exact ⟨v, h6, h7.mono hl _ _⟩
 | fix cs => exact RelA.mono hl c cs 0 h
 | siter z pos => exact ⟨(hk c rfl).trans h.1, fun o => (hm c rfl o).trans (h.2 o)⟩
 | whole C t fz => exact (hk c rfl).trans h
 | gone => trivial
theorem no_promise (hp : ∀ b o v, M b o = some v → w.cell? ⟨b, o, none⟩ = some v ∧ v.oneCell' = true) {b : Nat} (hb : w.heap.size ≤ b) (o : Nat) : M b o = none := by
 cases h : M b o with
 | none => rfl
 | some v =>
  have := (hp b o v h).1
  have := World.block_lt_of_cell? w _ this
  simp only at this
  omega
theorem heap_new (w : World) (o : Obj) {b : Nat} (h : b < w.heap.size) : (w.alloc o).heap[b]? = w.heap[b]? := Below.heap_alloc w o b h
theorem HRel.still {ob : Obs} {gl : Glb} (h : HRel M ob gl w) (hk : ∀ b, b < w.heap.size → w'.heap[b]? = w.heap[b]?) : HRel M ob gl w' where
 promise := fun b o v hv => ⟨(cell_of_heap (hk b (by have := World.block_lt_of_cell? w _ (h.promise b o v hv).1; exact this)) o).trans (h.promise b o v hv).1, (h.promise b o v hv).2⟩
 objs := fun i x hx => (h.objs i x hx).keep (fun b hb => hk b ((h.objs i x hx).lt hb)) (fun _ _ _ => rfl) (Pm.le_refl _)
 apart := h.apart
 glob := fun b x hx => ⟨(h.glob b x hx).1, (h.glob b x hx).2.keep (fun c hc => hk c ((h.glob b x hx).2.lt hc)) (fun _ _ _ => rfl) (Pm.le_refl _)⟩
 sep := h.sep
theorem HRel.lt {ob : Obs} {gl : Glb} (h : HRel M ob gl w) {b : Nat} (hd : Dom ob gl b) : b < w.heap.size := by
 rcases hd with ⟨i, x, h1, h2⟩ | h1
 ·exact (h.objs i x h1).lt h2
 ·obtain ⟨x, hx⟩ := Option.isSome_iff_exists.1 h1
  exact (h.glob b x hx).2.lt (h.glob b x hx).1
theorem HRel.more {ob : Obs} {gl : Glb} (h : HRel M ob gl w) {x : Nat × Ob} (hx : ObRel M w x) (hn : ∀ b, obBlk x = some b → ¬ Dom ob gl b) : HRel M (ob ++ [x]) gl w where
 promise := h.promise
 objs := fun i y hy => by
  rw [List.getElem?_append] at hy
  split at hy
  ·exact h.objs i y hy
  ·have : y = x := by
    rw [List.getElem?_singleton] at hy
    split at hy
    ·exact (Option.some.inj hy).symm
    ·cases hy
   exact this ▸ hx
 apart := fun i j y z b hi hj hy hz => by
  rw [List.getElem?_append] at hi hj
  have one : ∀ {n : Nat} {y : Nat × Ob}, [x][n]? = some y → y = x ∧ n = 0 := fun {n y} hh => by
   rw [List.getElem?_singleton] at hh
   split at hh
   ·exact ⟨(Option.some.inj hh).symm, by assumption⟩
   ·cases hh
  split at hi <;> split at hj
  ·exact h.apart i j y z b hi hj hy hz
  ·obtain ⟨rfl, _⟩ := one hj; exact absurd (.inl ⟨i, y, hi, hy⟩) (hn b hz)
  ·obtain ⟨rfl, _⟩ := one hi; exact absurd (.inl ⟨j, z, hj, hz⟩) (hn b hy)
  ·obtain ⟨-, e1⟩ := one hi; obtain ⟨-, e2⟩ := one hj; omega
 glob := h.glob
 sep := fun i y b hi hy => by
  rw [List.getElem?_append] at hi
  split at hi
  ·exact h.sep i y b hi hy
  ·have : y = x := by
    rw [List.getElem?_singleton] at hi
    split at hi
    ·exact (Option.some.inj hi).symm
    ·cases hi
   subst this
   cases hg : gl b with
   | none => rfl
   | some z => exact absurd (.inr (by simp [hg])) (hn b hy)
theorem HRel.turn {ob : Obs} {gl : Glb} (h : HRel M ob gl w) {i : Nat} {x y : Nat × Ob} (hi : ob[i]? = some x) (hl : M.le M')
  (hk : ∀ b, b < w.heap.size → obBlk x ≠ some b → w'.heap[b]? = w.heap[b]?) (hm : ∀ b, b < w.heap.size → obBlk x ≠ some b → ∀ o, M' b o = M b o)
  (hp : ∀ b o v, M' b o = some v → w'.cell? ⟨b, o, none⟩ = some v ∧ v.oneCell' = true) (hy : ObRel M' w' y) (hb : ∀ b, obBlk y = some b → obBlk x = some b ∨ w.heap.size ≤ b) : HRel M' (ob.set i y) gl w' := by
 have hil : i < ob.length := (List.getElem?_eq_some_iff.1 hi).1
 have get : ∀ {j : Nat} {z : Nat × Ob}, (ob.set i y)[j]? = some z → (j = i ∧ z = y) ∨ (j ≠ i ∧ ob[j]? = some z) := fun {j z} hz => by
  rw [List.getElem?_set] at hz
  split at hz
  ·exact .inl ⟨by omega, (Option.some.inj hz).symm⟩
  ·exact .inr ⟨by omega, hz⟩
 have far : ∀ {j : Nat} {z : Nat × Ob} {b : Nat}, j ≠ i → ob[j]? = some z → obBlk z = some b → obBlk x ≠ some b := fun {j z b} hj hz hbz e => hj (h.apart j i z x b hz hi hbz e)
 have gfar : ∀ {b : Nat} {z : Ob}, gl b = some z → obBlk x ≠ some b := fun {b z} hz e => by rw [h.sep i x b hi e] at hz; cases hz
 refine ⟨hp, fun j z hz => ?_, fun j l z u b hz hu h1 h2 => ?_, fun b z hz => ?_, fun j z b hz h1 => ?_⟩
 ·rcases get hz with ⟨-, rfl⟩ | ⟨hj, hz⟩
  ·exact hy
  ·have ho := h.objs j z hz
   exact ho.keep (fun b hb => hk b (ho.lt hb) (far hj hz hb)) (fun b hb => hm b (ho.lt hb) (far hj hz hb)) hl
 ·rcases get hz with ⟨ej, ez⟩ | ⟨hj, hz⟩ <;> rcases get hu with ⟨el, eu⟩ | ⟨hl', hu⟩
  ·omega
  ·exfalso
   have ho := (h.objs l u hu).lt h2
   rw [ez] at h1
   rcases hb b h1 with e | e
   ·exact far hl' hu h2 e
   ·omega
  ·exfalso
   have ho := (h.objs j z hz).lt h1
   rw [eu] at h2
   rcases hb b h2 with e | e
   ·exact far hj hz h1 e
   ·omega
  ·exact h.apart j l z u b hz hu h1 h2
 ·have ho := h.glob b z hz
  exact ⟨ho.1, ho.2.keep (fun c hc => by have : c = b := by rw [ho.1] at hc; exact (Option.some.inj hc).symm
                                         subst this; exact hk c (ho.2.lt hc) (gfar hz)) (fun c hc => by
                                         have : c = b := by rw [ho.1] at hc; exact (Option.some.inj hc).symm
                                         subst this; exact hm c (ho.2.lt hc) (gfar hz)) hl⟩
 ·rcases get hz with ⟨-, rfl⟩ | ⟨hj, hz⟩
  ·rcases hb b h1 with e | e
   ·exact h.sep i x b hi e
   ·cases hg : gl b with
    | none => rfl
    | some u => have := (h.glob b u hg).2.lt (h.glob b u hg).1; omega
  ·exact h.sep j z b hz h1
end
end Go.Proofs.Ytafcbipmmjegcaa.Vm
namespace Go.Proofs.Ytafcbipmmjegcaa.Vm
open Go Go.RowKit
section
variable {P : Program} {M : Pm} {w : World}
theorem run_append_row (t tx ty e tr : TypeId) (i : TypeInfo) (ht : P.underlying t = some (.slice e)) (hi : P.info? e = some i) (g z n cap : Nat) (C : Array Value) (hg : Hc w g C tr) (x : Value) (m : Nat) (news : List Value) (hs : Src P i.size tx x m news w)
  (hroom : n + m ≤ cap) (hfit : z + n * i.size + news.length ≤ C.size) :
  (Builtin.append_ #[t, tx] ty #[.slice (some ⟨g, z, none⟩) n cap, x]).run P w = .ok (.slice (some ⟨g, z, none⟩) (n + m) cap) (w.setRow g (C.toList.take (z + n * i.size) ++ news ++ C.toList.drop (z + n * i.size + news.length)).toArray) := by
 have hst := run_storeCells_z P g (z + n * i.size) tr news 0 C w hg (by simpa using hfit) hs.one
 simp only [Nat.add_zero] at hst
 rcases hs.kind with ⟨e', hk⟩ | hk <;> simp [Builtin.append_, run_underlying ht, run_underlying hk, sizeOf, typeInfo, hi, hs.len, hroom, hs.cells, Addr.add_mid, hst]
theorem relL_flat_bytes : ∀ (l : List UInt8), RelL M ((l.map fun c => T.v (.int .u8 c.toNat)).flatMap elCells) (l.map fun b => Value.int .u8 b.toNat)
 | [] => by simp only [List.map_nil, List.flatMap_nil, RelL]
 | c :: l => by
  simp only [List.map_cons, List.flatMap_cons, elCells, List.cons_append, List.nil_append, RelL]
  exact ⟨_, _, rfl, by simp only [Rel], relL_flat_bytes l⟩
theorem src_of {ob : Obs} {gl : Glb} {t : TypeId} {y : T} {v : Value} {k : Nat} {ys : List T} (hr : HRel M ob gl w) (hsrc : srcT P t y = true) (hsl : slOf k y = some ys) (r : Rel M y v) :
  El elCells k ys ∧ ∃ news, Src P k t v ys.length news w ∧ RelL M (ys.flatMap elCells) news := by
 have slice : ∀ (es : List T) (A : Option Addr) (cap : Nat), (∃ e', P.underlying t = some (.slice e')) → Hdr A es.length cap → El elCells k es → (∀ b o, A = some ⟨b, o, none⟩ → RelE M k b es o) → v = .slice A es.length cap →
   El elCells k es ∧ ∃ news, Src P k t v es.length news w ∧ RelL M (es.flatMap elCells) news := by
  rintro es A cap ⟨e', hu⟩ ⟨d1, d2, d3, d4⟩ hl hre rfl
  refine ⟨hl, ?_⟩
  cases A with
  | none =>
   have hn : es = [] := List.eq_nil_of_length_eq_zero (d3 rfl).1
   subst hn
   exact ⟨[], Src.ofNil w hu _, by simp only [List.flatMap_nil, RelL]⟩
  | some a =>
   rcases Nat.eq_zero_or_pos cap with hc | hc
   ·have hn : es = [] := List.eq_nil_of_length_eq_zero (by omega)
    subst hn
    exact ⟨[], Src.ofSlice w hu _ _ _ [] (by simp) (by simp) (by simp), by simp only [List.flatMap_nil, RelL]⟩
   have := d4 a rfl hc
   obtain ⟨b, o, sp⟩ := a
   simp only at this
   subst this
   obtain ⟨us, h1, h2, h3⟩ := relE_list hl (hre b o rfl)
   exact ⟨us, Src.ofSlice w hu _ _ _ _ h2 (fun j u hu' => by rw [Addr.add_mid]; exact (hr.promise _ _ _ (h3 j u hu')).1) (fun u hu' => by
    obtain ⟨j, hj⟩ := List.getElem?_of_mem hu'
    exact (hr.promise _ _ _ (h3 j u hj)).2), h1⟩
 have hsl' : (∀ z, y ≠ .v (.string z)) → ∃ e', P.underlying t = some (.slice e') := fun hne => by
  unfold srcT at hsrc
  split at hsrc
  ·exact absurd rfl (hne _)
  ·cases hsrc
  ·exact ⟨_, by assumption⟩
  ·cases hsrc
 unfold slOf at hsl
 split at hsl
 ·split at hsl
  ·rename_i k' es hk
   injection hsl with hsl
   subst hsl hk
   simp only [Rel] at r
   obtain ⟨A, cap, e1, hd, hl, hr'⟩ := r
   exact slice _ A cap (hsl' (fun z e => by cases e)) hd hl hr' e1
  ·cases hsl
 ·split at hsl
  ·rename_i k' i es x hk
   injection hsl with hsl
   subst hsl hk
   simp only [Rel] at r
   obtain ⟨e0, A, cap, e1, hd, hl, hr'⟩ := r
   exact slice _ A cap (hsl' (fun z e => by cases e)) hd hl hr' (e0.trans e1)
  ·cases hsl
 ·injection hsl with hsl
  subst hsl
  simp only [Rel] at r
  exact slice [] none 0 (hsl' (fun z e => by cases e)) ⟨Nat.le_refl _, by omega, fun _ => ⟨rfl, rfl⟩, fun a e => by cases e⟩ (fun e he => by simp at he) (fun b o e => by cases e) r
 ·split at hsl
  ·rename_i z hk
   injection hsl with hsl
   subst hsl hk
   simp only [Rel] at r
   subst r
   have hu : P.underlying t = some .string := by
    unfold srcT at hsrc
    split at hsrc
    ·assumption
    ·cases hsrc
    ·rename_i h1 _ _; rename_i h2; exact absurd rfl (h2 _)
    ·cases hsrc
   refine ⟨fun e he => by
    obtain ⟨c, _, rfl⟩ := List.mem_map.1 he
    rfl, byteCells z, ?_, relL_flat_bytes _⟩
   have := Src.ofString (P := P) w hu z
   rwa [show (z.data.toList.map fun c => T.v (.int .u8 c.toNat)).length = z.size from by simp]
  ·cases hsl
 ·cases hsl
structure Out (M : Pm) (w : World) (k : Nat) (e : TypeId) (i : Nat) (es : List T) (x x' : Value) (w' : World) (M' : Pm) : Prop where
 le : M.le M'
 rel : Rel M' (.slx k i es x') x'
 ob : ObRel M' w' (0, .room k e es.length x')
 hp : ∀ b o v, M' b o = some v → w'.cell? ⟨b, o, none⟩ = some v ∧ v.oneCell' = true
 hk : ∀ b, b < w.heap.size → x.ownBlock ≠ some b → w'.heap[b]? = w.heap[b]?
 hm : ∀ b, b < w.heap.size → x.ownBlock ≠ some b → ∀ o, M' b o = M b o
 hb : ∀ b, x'.ownBlock = some b → x.ownBlock = some b ∨ w.heap.size ≤ b
 os : w'.os = w.os
 tape : w'.tape = w.tape
 out : w'.output = w.output
 size : w.heap.size ≤ w'.heap.size
theorem append_run {ob : Obs} {gl : Glb} {t tx ty e : TypeId} {i : TypeInfo} {z : Value} {k n : Nat} {es ys : List T} {x v : Value} {news : List Value} (hr : HRel M ob gl w) (j : Nat)
  (ht : P.underlying t = some (.slice e)) (hi : P.info? e = some i) (hz : i.zero = some z) (hs : i.size = k) (hzk : z.cells.size = k) (hk : 0 < k)
  (hx : Rel M (.slx k j es x) x) (ho : ObRel M w (0, .room k e n x)) (hn : n = es.length) (hsrc : Src P k tx v ys.length news w) (hl : El elCells k ys) (hrel : RelL M (ys.flatMap elCells) news) (hf : Fits (es.length + ys.length) i.bytes) :
  ∃ x' w' M', (Builtin.append_ #[t, tx] ty #[x, v]).run P w = .ok x' w' ∧ Out M w k e j (es ++ ys) x x' w' M' := by
 subst hs hn
 obtain ⟨hf1, hf2⟩ := hf
 simp only [Rel] at hx
 obtain ⟨-, A, cap, ex, ⟨d1, d2, d3, d4⟩, hle, hre⟩ := hx
 have hnl := hsrc.newsLen
 have hone := hsrc.one
 have hlen : (es ++ ys).length = es.length + ys.length := List.length_append
 have hel : El elCells i.size (es ++ ys) := fun e he => by exact (List.mem_append.1 he).elim (hle e) (hl e)
 have grown : ∀ (olds : List Value) (base : Option Addr), x = .slice base es.length cap → cap < es.length + ys.length → olds.length = es.length * i.size → RelL M (es.flatMap elCells) olds → (∀ u ∈ olds, u.oneCell' = true) →
   ((Builtin.firstCells i.size es.length (.slice base es.length cap)).run P w.drew = .ok olds.toArray w.drew) →
   ∃ x' w' M', (Builtin.append_ #[t, tx] ty #[x, v]).run P w = .ok x' w' ∧ Out M w i.size e j (es ++ ys) x x' w' M' := by
  intro olds base e0 hc hol hor ho1 hold
  have hmax : es.length + ys.length ≤ 9223372036854775807 := by unfold maxLen at hf2; omega
  have hrun := run_append_grow_src (P := P) w t tx ty e i z ht hi hz base es.length cap olds hold v ys.length news hsrc hc (by omega) (growslice_fits hc hf1)
  rw [← e0] at hrun
  have hge := grownCap_ge w (es.length + ys.length) cap e
  have hcm : grownCap w (es.length + ys.length) cap e ≤ maxLen := grownCap_le_maxLen w (es.length + ys.length) cap e hf2
  generalize grownCap w (es.length + ys.length) cap e = nc at *
  generalize hC : (olds ++ news).toArray ++ Builtin.zeroCells z.cells (nc - (es.length + ys.length)) = C at hrun
  have hCs : C.size = nc * i.size := by
   rw [← hC]
   simp only [Array.size_append, List.size_toArray, List.length_append, size_zeroCells, hzk, hol, hnl, ← Nat.add_mul]
   congr 1
   omega
  have hCg : ∀ (q : Nat) (u : Value), (olds ++ news)[q]? = some u → C[q]? = some u := fun q u hu => by
   have hq : q < (olds ++ news).length := (List.getElem?_eq_some_iff.1 hu).1
   rw [← hC, Array.getElem?_append_left (by simpa using hq)]
   simpa using hu
  have hlt : (olds ++ news).length = (es.length + ys.length) * i.size := by rw [List.length_append, hol, hnl, Nat.add_mul]
  have hsz : w.drew.heap.size = w.heap.size := rfl
  have hnew : Hc (w.drew.alloc (.cells C e)) w.heap.size C e := .of (heap_alloc_new w.drew _)
  have hold' : ∀ b, b < w.heap.size → (w.drew.alloc (.cells C e)).heap[b]? = w.heap[b]? := fun b hb => heap_new w.drew _ hb
  have hM : (M).le (fun b o => if b = w.heap.size then (olds ++ news)[o]? else M b o) := fun b o u hu => by
   have hb : b ≠ w.heap.size := fun e => by rw [e, no_promise hr.promise (Nat.le_refl _)] at hu; cases hu
   dsimp only; rw [if_neg hb]; exact hu
  refine ⟨_, _, fun b o => if b = w.heap.size then (olds ++ news)[o]? else M b o, hrun, ⟨hM, ?_, ?_, ?_, ?_, ?_, ?_, rfl, rfl, rfl, by simp⟩⟩
  ·simp only [Rel]
   refine ⟨trivial, some ⟨w.heap.size, 0, none⟩, nc, by rw [hlen], ⟨by rw [hlen]; exact hge, hcm, (fun e => by cases e), fun a e _ => by injection e with e; rw [← e]⟩, hel, fun b o e => ?_⟩
   injection e with e
   injection e with e1 e2
   subst e1 e2
   refine relE_of_list hel (us := olds ++ news) ?_ (fun q u hu => by simp only [if_pos, Nat.zero_add]; exact hu)
   rw [List.flatMap_append]
   exact (hor.mono hM _ _).append (hrel.mono hM _ _)
  ·refine .inr ⟨w.heap.size, 0, nc, C, e, by rw [hlen], hnew, by rw [hlen]; exact hge, hcm, by omega, fun q hq => ?_⟩
   rw [Nat.zero_add] at hq
   dsimp only
   rw [if_pos rfl]
   rw [hlen, ← hlt] at hq
   exact List.getElem?_eq_none hq
  ·intro b o u hu
   by_cases hb : b = w.heap.size
   ·subst hb
    rw [if_pos rfl] at hu
    refine ⟨by rw [hnew.cell]; exact hCg o u hu, ?_⟩
    rcases List.mem_append.1 (List.mem_of_getElem? hu) with h | h
    ·exact ho1 u h
    ·exact hone u h
   ·rw [if_neg hb] at hu
    have h1 := hr.promise b o u hu
    exact ⟨(cell_of_heap (hold' b (by have := World.block_lt_of_cell? w _ h1.1; exact this)) o).trans h1.1, h1.2⟩
  ·exact fun b hb _ => hold' b hb
  ·exact fun b hb _ o => if_neg (by omega)
  ·exact fun b hb => by simp only [Value.ownBlock, Option.some.injEq] at hb; right; omega
 rcases ho with ⟨rfl, h0⟩ | ⟨g, z0, cap', C, tr, e1, hg, g1, g2, g3, g4⟩
 ·-- nil
  injection ex with a1 a2 a3
  subst a1 a3
  have hes : es = [] := List.eq_nil_of_length_eq_zero h0
  subst hes
  by_cases hm : ys.length = 0
  ·have hys : ys = [] := List.eq_nil_of_length_eq_zero hm
   subst hys
   have hnn : news = [] := List.eq_nil_of_length_eq_zero (by simpa using hnl)
   subst hnn
   refine ⟨_, w, M, run_append_nothing w t tx ty e i ht hi none 0 0 (Nat.le_refl _) v hsrc, ⟨Pm.le_refl _, ?_, .inl ⟨rfl, rfl⟩, hr.promise, fun _ _ _ => rfl, fun _ _ _ _ => rfl, fun b hb => by simp [Value.ownBlock] at hb, rfl, rfl, rfl, Nat.le_refl _⟩⟩
   simp only [Rel]
   exact ⟨trivial, none, 0, rfl, ⟨Nat.le_refl _, by omega, fun _ => ⟨rfl, rfl⟩, fun a e => by cases e⟩, fun e he => by simp at he, fun b o e => by cases e⟩
  ·exact grown [] none rfl (by simp; omega) (by simp) (by simp only [List.flatMap_nil, RelL]) (by simp) (by simp [run_firstCells_none])
 ·-- a row
  have e2 := ex.symm.trans e1
  injection e2 with a1 a2 a3
  subst a1 a3
  obtain ⟨olds, b1, b2, b3⟩ := relE_list hle (hre g z0 rfl)
  have bc : ∀ (q : Nat) (u : Value), olds[q]? = some u → C[z0 + q]? = some u := fun q u hu => by
   have := (hr.promise _ _ _ (b3 q u hu)).1
   rwa [hg.cell] at this
  have b1' : ∀ u ∈ olds, u.oneCell' = true := fun u hu => by
   obtain ⟨q, hq⟩ := List.getElem?_of_mem hu
   exact (hr.promise _ _ _ (b3 q u hq)).2
  by_cases hroom : es.length + ys.length ≤ cap
  ·have hfit : z0 + es.length * i.size + news.length ≤ C.size := by
    rw [hnl, g3, Nat.add_assoc, ← Nat.add_mul]
    exact Nat.add_le_add_left (Nat.mul_le_mul_right _ hroom) _
   have hrun := run_append_row (P := P) t tx ty e tr i ht hi g z0 es.length cap C hg v ys.length news hsrc hroom hfit
   rw [← e1] at hrun
   generalize hC' : C.toList.take ((z0 + es.length * i.size)) ++ news ++ C.toList.drop ((z0 + es.length * i.size) + news.length) = L at hrun
   have hgl : g < w.heap.size := hg.lt
   have hoth : ∀ b, b ≠ g → (w.setRow g L.toArray).heap[b]? = w.heap[b]? := fun b hb => setRow_other w g b L.toArray hb
   have htl : (C.toList.take ((z0 + es.length * i.size))).length = (z0 + es.length * i.size) := by simp; omega
   have hL1 : ∀ q, q < (z0 + es.length * i.size) → L[q]? = C[q]? := fun q hq => by
    rw [← hC', List.append_assoc, List.getElem?_append_left (by omega), List.getElem?_take, if_pos hq, Array.getElem?_toList]
   have hL2 : ∀ (q : Nat) (u : Value), news[q]? = some u → L[(z0 + es.length * i.size) + q]? = some u := fun q u hu => by
    have hq : q < news.length := (List.getElem?_eq_some_iff.1 hu).1
    rw [← hC', List.append_assoc, List.getElem?_append_right (by omega), htl, Nat.add_sub_cancel_left, List.getElem?_append_left hq]
    exact hu
   have hLs : L.length = C.size := by rw [← hC']; simp; omega
   have hnew : Hc (w.setRow g L.toArray) g L.toArray tr := hg.setRow (by simpa using hLs)
   have hM : M.le (fun b o => if b = g ∧ (z0 + es.length * i.size) ≤ o then news[o - (z0 + es.length * i.size)]? else M b o) := fun b o u hu => by
    by_cases hc : b = g ∧ (z0 + es.length * i.size) ≤ o
    ·rw [hc.1, g4 o hc.2] at hu; cases hu
    ·dsimp only; rw [if_neg hc]; exact hu
   refine ⟨_, _, fun b o => if b = g ∧ (z0 + es.length * i.size) ≤ o then news[o - (z0 + es.length * i.size)]? else M b o, hrun, ⟨hM, ?_, ?_, ?_, ?_, ?_, ?_, rfl, rfl, rfl, by simp [World.setRow]⟩⟩
   ·simp only [Rel]
    refine ⟨trivial, some ⟨g, z0, none⟩, cap, by rw [hlen], ⟨by rw [hlen]; exact hroom, d2, (fun e => by cases e), fun a e _ => by injection e with e; rw [← e]⟩, hel, fun b o e => ?_⟩
    injection e with e
    injection e with e1 e2
    subst e1 e2
    refine relE_append (RelE.mono hM _ _ _ _ (hre g z0 rfl)) ?_
    refine relE_of_list hl (us := news) (hrel.mono hM _ _) fun q u hu => ?_
    rw [if_pos ⟨rfl, by omega⟩, Nat.add_sub_cancel_left]
    exact hu
   ·refine .inr ⟨g, z0, cap, L.toArray, tr, by rw [hlen], hnew, by rw [hlen]; exact hroom, g2, by simp [hLs, g3], fun q hq => ?_⟩
    have h1 : z0 + es.length * i.size + ys.length * i.size ≤ q := by rw [Nat.add_assoc, ← Nat.add_mul, ← hlen]; exact hq
    dsimp only
    rw [if_pos ⟨rfl, by omega⟩]
    exact List.getElem?_eq_none (by omega)
   ·intro b o u hu
    by_cases hc : b = g ∧ (z0 + es.length * i.size) ≤ o
    ·rw [if_pos hc] at hu
     obtain ⟨rfl, hc⟩ := hc
     refine ⟨?_, hone u (List.mem_of_getElem? hu)⟩
     rw [hnew.cell]
     have := hL2 _ u hu
     rw [show (z0 + es.length * i.size) + (o - (z0 + es.length * i.size)) = o from by omega] at this
     simpa using this
    ·rw [if_neg hc] at hu
     have h1 := hr.promise b o u hu
     refine ⟨?_, h1.2⟩
     by_cases hb : b = g
     ·subst hb
      have ho : o < (z0 + es.length * i.size) := by omega
      have h2 := h1.1
      rw [hg.cell] at h2
      rw [hnew.cell]
      have := hL1 o ho
      rw [h2] at this
      simpa using this
     ·exact (cell_of_heap (hoth b hb) o).trans h1.1
   ·exact fun b _ hne => hoth b (fun e => hne (by rw [e1, e]; rfl))
   ·exact fun b _ hne o => if_neg (fun h => hne (by rw [e1, h.1]; rfl))
   ·exact fun b hb => .inl (by rw [e1]; exact hb)
  ·exact grown olds (some ⟨g, z0, none⟩) e1 (by omega) b2 b1 b1' (run_firstCells_some (P := P) w.drew i.size es.length ⟨g, z0, none⟩ es.length cap olds b2 (fun q u hu => by rw [Addr.add_mid]; exact (hr.promise _ _ _ (b3 q u hu)).1))
end
end Go.Proofs.Ytafcbipmmjegcaa.Vm
