/- Texts of this claim: Vm7. -/
import Derived.Test.YtafcbipmmjegcaaMg7
namespace Go.Proofs.Ytafcbipmmjegcaa.Vm
open Go Go.RowKit
structure St (Γ : Ctx) (M : Pm) (s : S) (a : Act) (w : World) : Prop where
 df : a.defers = []
 fr : RelL M s.fr a.tmps.toList
 hp : HRel M s.ob s.gl w
 gr : Grew Γ M s.ob s.gl w
def Post (Γ : Ctx) (K : S → Prop) (a : Act) (w : World) : Prop := ∃ s M, K s ∧ St Γ M s a w
section
variable {P : Program} {Γ : Ctx} {M : Pm} {s : S} {a : Act} {w : World} {o : Oper} {h : Hint} {K : S → Prop} {Q : Exit → Act → World → Prop}
theorem put_ob (s : S) (d : Option Tmp) (t : T) : (s.put d t).ob = s.ob := by cases d <;> rfl
theorem put_gl (s : S) (d : Option Tmp) (t : T) : (s.put d t).gl = s.gl := by cases d <;> rfl
theorem put_defers (a : Act) (d : Option Tmp) (v : Value) : (a.put d v).defers = a.defers := by cases d <;> rfl
theorem St.put (hs : St Γ M s a w) (d : Option Tmp) {t : T} {v : Value} (r : Rel M t v) : St Γ M (s.put d t) (a.put d v) w :=
 ⟨by rw [put_defers]; exact hs.df, put_rel hs.fr d r, by rw [put_ob, put_gl]; exact hs.hp, by rw [put_ob, put_gl]; exact hs.gr⟩
theorem wp_of_run {v : Value} {w' : World} (hr : (execOp a.eval o).run P w = .ok (.value v) w') {N : Act → World → Prop} (hn : N (a.put o.dst v) w') : o.wp P a w N Q := by
 unfold Oper.wp
 rw [hr]
 exact hn
theorem value_sound {k : T → Prop} (hf : Found P o a M k) (hs : St Γ M s a w) (hk : ∀ t, k t → K (s.put o.dst t)) : o.wp P a w (Post Γ K) Q := by
 obtain ⟨v, t, h1, h2, h3⟩ := hf
 exact wp_of_run (h3 w) ⟨_, M, hk t h1, hs.put o.dst h2⟩
theorem fixAt_some {b : Nat} {cs : List T} : ∀ {l : List (Nat × Ob)}, fixAt b l = some cs → ∃ i : Nat, l[i]? = some (b, .fix cs)
 | [], h => by cases h
 | (b', x) :: l, h => by
  have next : fixAt b l = some cs → ∃ i : Nat, ((b', x) :: l)[i]? = some (b, .fix cs) := fun h => by
   obtain ⟨i, hi⟩ := fixAt_some h
   exact ⟨i + 1, hi⟩
  cases x with
  | fix c =>
   unfold fixAt at h
   split at h
   ·rename_i e
    injection h with h
    subst e h
    exact ⟨0, rfl⟩
   ·exact next h
  | _ => exact next h
theorem cellsAt_sound {h : Hint} {x : Operand} {k : List T → Prop} (hc : cellsAt s h (s.eval x) k) (hs : St Γ M s a w) :
  ∃ (b off : Nat) (cs : List T), k cs ∧ a.eval x = .pointer (some ⟨b, off, none⟩) ∧ ∀ (i : Nat) (t : T), cs[i]? = some t → ∃ u, w.cell? ⟨b, off + i, none⟩ = some u ∧ Rel M t u := by
 have hr := eval_rel hs.fr x
 have obj : ∀ {b : Nat} {cs : List T}, ObRel M w (b, .cells cs) → ∀ (off i : Nat) (t : T), (cs.drop off)[i]? = some t → ∃ u, w.cell? ⟨b, off + i, none⟩ = some u ∧ Rel M t u := fun {b cs} ho off i t ht => by
  obtain ⟨C, ty, h1, h2, -⟩ := ho
  rw [List.getElem?_drop] at ht
  obtain ⟨u, h3, h4⟩ := h2.get ht
  exact ⟨u, by rw [h1.cell]; simpa using h3, h4⟩
 unfold cellsAt at hc
 split at hc
 ·rename_i i b off hx
  rw [hx] at hr
  simp only [Rel] at hr
  split at hc
  ·rename_i b' cs ho
   obtain ⟨rfl, hk⟩ := hc
   exact ⟨_, off, _, hk, hr, obj (hs.hp.objs _ _ ho) off⟩
  ·exact hc.elim
 ·rename_i b off hx
  rw [hx] at hr
  simp only [Rel] at hr
  split at hc
  ·obtain ⟨ho, hk⟩ := hc
   exact ⟨_, off, _, hk, hr, obj (hs.hp.glob _ _ ho).2 off⟩
  ·split at hc
   ·rename_i cs hf
    obtain ⟨i, hi⟩ := fixAt_some hf
    have ho : RelA M b cs 0 := hs.hp.objs _ _ hi
    refine ⟨_, off, _, hc, hr, fun j t ht => ?_⟩
    rw [List.getElem?_drop] at ht
    obtain ⟨u, h1, h2⟩ := ho.get ht
    rw [Nat.zero_add] at h1
    exact ⟨u, (hs.hp.promise _ _ _ h1).1, h2⟩
   ·exact hc.elim
 ·rename_i cs hx
  rw [hx] at hr
  simp only [Rel] at hr
  obtain ⟨b, off, e, hr⟩ := hr
  exact ⟨b, off, _, hc, e, fun i t ht => by
   obtain ⟨u, h1, h2⟩ := hr.get ht
   exact ⟨u, (hs.hp.promise _ _ _ h1).1, h2⟩⟩
 ·exact hc.elim
theorem cells_list {b off : Nat} : ∀ {cs : List T}, (∀ (i : Nat) (t : T), cs[i]? = some t → ∃ u, w.cell? ⟨b, off + i, none⟩ = some u ∧ Rel M t u) → ∃ us, RelL M cs us ∧ ∀ j u, us[j]? = some u → w.cell? ⟨b, off + j, none⟩ = some u
 | [], _ => ⟨[], by simp only [RelL], by simp⟩
 | t :: ts, hc => by
  obtain ⟨u, h1, h2⟩ := hc 0 t (by simp)
  obtain ⟨us, h3, h4⟩ := cells_list (b := b) (off := off + 1) (cs := ts) fun i t' ht => by
   obtain ⟨v, h5, h6⟩ := hc (i + 1) t' (by simpa using ht)
   exact ⟨v, by rwa [show off + 1 + i = off + (i + 1) from by omega], h6⟩
  refine ⟨u :: us, by simp only [RelL]; exact ⟨u, us, rfl, h2, h3⟩, fun j v hv => ?_⟩
  cases j with
  | zero => simp at hv; subst hv; exact h1
  | succ j =>
   have := h4 j v (by simpa using hv)
   rwa [show off + 1 + j = off + (j + 1) from by omega] at this
theorem load_run {t : TypeId} {b off : Nat} {cs : List T} {u : T} (hc : ∀ (i : Nat) (t : T), cs[i]? = some t → ∃ u, w.cell? ⟨b, off + i, none⟩ = some u ∧ Rel M t u)
  (hu : loadT P t cs = some u) :
  ∃ v, Rel M u v ∧ (Instr.loadAt t (.pointer (some ⟨b, off, none⟩))).run P w = .ok v w := by
 unfold loadT at hu
 split at hu
 ·rename_i n ha
  split at hu
  ·cases hu
  ·rename_i hlt
   injection hu with hu
   subst hu
   obtain ⟨us, h1, h2⟩ := cells_list hc
   have hl : (us.take n).length = n := by rw [List.length_take, h1.len]; omega
   refine ⟨.agg (us.take n).toArray, by simp only [Rel]; exact ⟨_, rfl, h1.take n⟩, ?_⟩
   have hrun : (loadCells ⟨b, off, none⟩ n).run P w = .ok (us.take n).toArray w := by
    have := run_loadCells_list (P := P) w ⟨b, off, none⟩ (us.take n) fun j v hv => by
     rw [Addr.add_mid]
     refine h2 j v ?_
     rw [List.getElem?_take] at hv
     split at hv
     ·exact hv
     ·cases hv
    rwa [hl] at this
   have hs := (run_isAgg ha w).2 n rfl
   simp [Instr.loadAt, Instr.sureAddr, loadVar, (run_isAgg ha w).1, run_sizeOf hs, hrun]
 ·rename_i ha
  obtain ⟨v, h1, h2⟩ := hc 0 u hu
  refine ⟨v, h2, ?_⟩
  rw [Nat.add_zero] at h1
  simp [Instr.loadAt, Instr.sureAddr, loadVar, (run_isAgg ha w).1, load, Sem.run, h1]
 ·cases hu
theorem sLoad {t : TypeId} {x : Operand} (ho : o.op = .load t x) (H : vLoad P s h t x (fun t => K (s.put o.dst t))) (hs : St Γ M s a w) : o.wp P a w (Post Γ K) Q := by
 unfold vLoad at H
 obtain ⟨b, off, cs, hk, hx, hc⟩ := cellsAt_sound H hs
 obtain ⟨u, hu, hk⟩ := claim_some hk
 obtain ⟨v, h1, h2⟩ := load_run hc hu
 refine wp_of_run (v := v) (w' := w) ?_ ⟨_, M, hk, hs.put o.dst h1⟩
 unfold execOp
 rw [ho]
 refine run_value ?_
 rw [hx]
 exact h2
theorem run_valueW {f : Sem Value} {u : Value} {w' : World} (h : f.run P w = .ok u w') : (do pure (Next.value (← f)) : Sem Next).run P w = .ok (.value u) w' := by
 simp [h]
theorem no_dom (hs : St Γ M s a w) : ¬ Dom s.ob s.gl w.heap.size := fun hd => by have := hs.hp.lt hd; omega
theorem St.newObF (hs : St Γ M s a w) (C : Array Value) (ty : TypeId) (fz : Nat × Nat) (hfz : fz = (0, 0) ∨ C.size ≤ fz.1) {cs : List T} (r : RelL M cs C.toList) (d : Option Tmp) {u : T} {v : Value} (hu : Rel M u v) :
  St Γ M (({ s with ob := s.ob ++ [(w.heap.size, .cells cs)] } : S).put d u) (a.put d v) (w.alloc (.cells C ty fz)) := by
 refine St.put (s := { s with ob := s.ob ++ [(w.heap.size, .cells cs)] }) ⟨hs.df, hs.fr, ?_, ?_⟩ d hu
 ·refine (hs.hp.still fun b hb => heap_new w _ hb).more ⟨C, ty, ⟨fz, heap_alloc_new w _, hfz⟩, r, fun o => no_promise hs.hp.promise (Nat.le_refl _) o⟩ fun b hb => ?_
  simp only [obBlk, Option.some.injEq] at hb
  subst hb
  exact no_dom hs
 ·refine ⟨hs.gr.more, hs.gr.only, hs.gr.fr.alloc _, fun b hb => ?_⟩
  rcases hb with ⟨i, x, h1, h2⟩ | h1
  ·simp only at h1
   rw [List.getElem?_append] at h1
   split at h1
   ·exact hs.gr.own b (.inl ⟨i, x, h1, h2⟩)
   ·rw [List.getElem?_singleton] at h1
    split at h1
    ·injection h1 with h1
     subst h1
     simp only [obBlk, Option.some.injEq] at h2
     subst h2
     exact .inr hs.gr.fr.size
    ·cases h1
  ·exact hs.gr.own b (.inr h1)
theorem St.newOb (hs : St Γ M s a w) (C : Array Value) (ty : TypeId) {cs : List T} (r : RelL M cs C.toList) (d : Option Tmp) {u : T} {v : Value} (hu : Rel M u v) :
  St Γ M (({ s with ob := s.ob ++ [(w.heap.size, .cells cs)] } : S).put d u) (a.put d v) (w.alloc (.cells C ty)) := hs.newObF C ty (0, 0) (.inl rfl) r d hu
theorem sAlloc {t : TypeId} (ho : o.op = .alloc t) (H : eAlloc P s o.dst t K) (hs : St Γ M s a w) : o.wp P a w (Post Γ K) Q := by
 unfold eAlloc at H
 split at H
 rotate_left
 ·exact H.elim
 rename_i z hz
 obtain ⟨y, hy, rz, -⟩ := zeroT_run (M := M) hz
 have hk := H w.heap.size
 refine wp_of_run (v := .pointer (some ⟨w.heap.size, 0, none⟩)) (w' := w.alloc (.cells y.cells t)) ?_ ⟨_, M, hk, hs.newOb y.cells t rz o.dst (by simp only [Rel])⟩
 unfold execOp
 rw [ho]
 refine run_valueW ?_
 simp [Instr.alloc, hy, newVar, newRow]
theorem sBox {t : TypeId} {x : Operand} (ho : o.op = .box t x) (H : eBox s o.dst h x K) (hs : St Γ M s a w) : o.wp P a w (Post Γ K) Q := by
 unfold eBox at H
 split at H
 ·exact H.elim
 ·rename_i u hu
  have rc := rel_cells (fun e => hu e) (eval_rel hs.fr x)
  have hrun : (execOp a.eval o).run P w = .ok (.value (.pointer (some ⟨w.heap.size, 0, none⟩))) (w.alloc (.cells (a.eval x).cells t)) := by
   unfold execOp
   rw [ho]
   refine run_valueW ?_
   simp [Instr.box, newVar, newRow]
  have hnd := no_dom hs
  have hgn : s.gl w.heap.size = none := by
   cases hg : s.gl w.heap.size with
   | none => rfl
   | some y => exact absurd (.inr (by simp [hg])) hnd
  split at H
  ·have hk := H w.heap.size hgn
   refine wp_of_run hrun ⟨_, M, hk, St.put (s := { s with gl := fun j => if j = w.heap.size then some (.cells (s.eval x).cells) else s.gl j }) ⟨hs.df, hs.fr, ?_, ?_⟩ o.dst (by simp only [Rel])⟩
   ·have hst := hs.hp.still (w' := w.alloc (.cells (a.eval x).cells t)) fun b hb => heap_new w _ hb
    refine ⟨hst.promise, hst.objs, hst.apart, fun b y hb => ?_, fun i y b h1 h2 => ?_⟩
    ·simp only at hb
     by_cases hbb : b = w.heap.size
     ·subst hbb
      rw [if_pos rfl] at hb
      injection hb with hb
      subst hb
      exact ⟨rfl, _, t, .of (heap_alloc_new w _), rc, fun o => no_promise hs.hp.promise (Nat.le_refl _) o⟩
     ·rw [if_neg hbb] at hb
      exact hst.glob b y hb
    ·simp only
     rw [if_neg (fun (e : b = w.heap.size) => hnd (.inl ⟨i, y, h1, by rw [← e]; exact h2⟩))]
     exact hs.hp.sep i y b h1 h2
   ·refine ⟨hs.gr.more, hs.gr.only, hs.gr.fr.alloc _, fun b hb => ?_⟩
    rcases hb with h1 | h1
    ·exact hs.gr.own b (.inl h1)
    ·simp only at h1
     by_cases hbb : b = w.heap.size
     ·subst hbb; exact .inr hs.gr.fr.size
     ·rw [if_neg hbb] at h1
      exact hs.gr.own b (.inr h1)
  ·have hk := H w.heap.size
   exact wp_of_run hrun ⟨_, M, hk, hs.newOb _ t rc o.dst (by simp only [Rel])⟩
theorem run_store_row {t : TypeId} {b off n : Nat} {C : Array Value} {ty : TypeId} {v : Value} (hh : Hc w b C ty) (hs : sizeT P t = some n) (hv : v.cells.size = n) (hone : ∀ u ∈ v.cells.toList, u.oneCell' = true) (hfit : off + n ≤ C.size) :
  (Instr.storeAt t (.pointer (some ⟨b, off, none⟩)) v).run P w = .ok () (w.setRow b (C.toList.take off ++ v.cells.toList ++ C.toList.drop (off + n)).toArray) := by
 have hst := run_storeCells_z P b off ty v.cells.toList 0 C w hh (by simpa [hv] using hfit) hone
 simp only [Nat.add_zero, Array.length_toList, hv] at hst
 simp [Instr.storeAt, Instr.sureAddr, storeVar, run_sizeOf hs, hv, hst]
theorem relL_setCells {cs us : List T} {C vs : List Value} (r : RelL M cs C) (r' : RelL M us vs) (off n : Nat) (hn : us.length = n) : RelL M (setCells cs off us) (C.take off ++ vs ++ C.drop (off + n)) := by
 unfold setCells
 rw [hn]
 exact ((r.take off).append r').append (r.drop _)
theorem claimL_some {x : List T} {k : List T → Prop} (c : claimL h x k) : k x := by
 unfold claimL at c
 split at c
 ·rw [c.1]; exact c.2
 ·exact c
theorem Fr.setRow {S : Nat → Prop} {w0 w : World} (hf : Fr S w0 w) {b : Nat} (hb : w0.heap.size ≤ b ∨ S b) (C : Array Value) : Fr S w0 (w.setRow b C) :=
 ⟨hf.os, hf.tape, hf.output, by simpa [World.setRow] using hf.size, fun k hk hs => (setRow_other w b k C (by
  rintro rfl
  rcases hb with hb | hb
  ·omega
  ·exact hs hb)).trans (hf.block k hk hs)⟩
theorem sStore {t : TypeId} {x y : Operand} (ho : o.op = .store t x y) (H : eStore P s h t x y (fun s' => K (s'.put o.dst (.v undef)))) (hs : St Γ M s a w) : o.wp P a w (Post Γ K) Q := by
 unfold eStore at H
 split at H
 rotate_left
 ·exact H.elim
 rename_i n hsz
 split at H
 ·exact H.elim
 rename_i hund
 obtain ⟨⟨hlen, hall⟩, H⟩ := H
 have hr := eval_rel hs.fr x
 have rc := rel_cells (fun e => hund e) (eval_rel hs.fr y)
 have hone := relL_one hall rc
 have hvs : (a.eval y).cells.size = n := by rw [← hlen, ← rc.len]; simp
 have go : ∀ {b off : Nat} {C : Array Value} {ty : TypeId}, a.eval x = .pointer (some ⟨b, off, none⟩) → Hc w b C ty → off + n ≤ C.size → ∀ {N : Act → World → Prop}, N (a.put o.dst undef) (w.setRow b (C.toList.take off ++ (a.eval y).cells.toList ++ C.toList.drop (off + n)).toArray) → o.wp P a w N Q := fun {b off C ty} e hh hfit {N} hn => by
  unfold Oper.wp execOp
  rw [ho]
  simp only [Sem.run_bind, e, run_store_row hh hsz hvs hone hfit, Result.andThen_ok]
  exact hn
 split at H
 ·rename_i i b off hx
  rw [hx] at hr
  simp only [Rel] at hr
  split at H
  ·rename_i b' cs hob
   obtain ⟨rfl, hfit, H⟩ := H
   have hk := claimL_some H
   obtain ⟨C, ty, hh, rC, hM⟩ := hs.hp.objs _ _ hob
   have hCs : C.size = cs.length := by rw [← rC.len]; simp
   refine go hr hh (by omega) ⟨_, M, hk, St.put (s := { s with ob := s.ob.set i (b', .cells (setCells cs off _)) }) ⟨hs.df, hs.fr, ?_, ?_⟩ o.dst (by simp only [Rel])⟩
   ·refine hs.hp.turn hob (Pm.le_refl _) (fun k _ hne => setRow_other w b' k _ (fun e => hne (by rw [e]; rfl))) (fun _ _ _ _ => rfl) (fun k q u hu => ?_) ⟨_, ty, hh.setRow (by simp only [List.size_toArray, List.length_append, List.length_take, List.length_drop, Array.length_toList, hvs]; omega), relL_setCells rC rc off n hlen, hM⟩ (fun k hk => .inl hk)
    have hne : k ≠ b' := fun e => by rw [e, hM] at hu; cases hu
    have h1 := hs.hp.promise k q u hu
    exact ⟨(cell_of_heap (setRow_other w b' k _ hne) q).trans h1.1, h1.2⟩
   ·have hown := hs.gr.own b' (.inl ⟨i, _, hob, rfl⟩)
    refine ⟨hs.gr.more, hs.gr.only, Fr.setRow hs.gr.fr (hown.symm) _, fun k hk => ?_⟩
    rcases hk with ⟨j, z, h1, h2⟩ | h1
    ·simp only at h1
     rw [List.getElem?_set] at h1
     split at h1
     ·split at h1
      ·injection h1 with h1
       subst h1
       simp only [obBlk, Option.some.injEq] at h2
       subst h2
       exact hown
      ·cases h1
     ·exact hs.gr.own k (.inl ⟨j, z, h1, h2⟩)
    ·exact hs.gr.own k (.inr h1)
  ·exact H.elim
 ·rename_i b off hx
  rw [hx] at hr
  simp only [Rel] at hr
  split at H
  rotate_left
  ·exact H.elim
  rename_i cs
  obtain ⟨hgl, hfit, hk⟩ := H
  obtain ⟨C, ty, hh, rC, hM⟩ := (hs.hp.glob _ _ hgl).2
  have hCs : C.size = cs.length := by rw [← rC.len]; simp
  have hown := hs.gr.own b (.inr (by simp [hgl]))
  have far : ∀ {i : Nat} {z : Nat × Ob} {k : Nat}, s.ob[i]? = some z → obBlk z = some k → k ≠ b := fun {i z k} h1 h2 e => by
   have := hs.hp.sep i z k h1 h2
   rw [e, hgl] at this
   cases this
  refine go hr hh (by omega) ⟨_, M, hk, St.put (s := { s with gl := fun j => if j = b then some (.cells (setCells cs off (s.eval y).cells)) else s.gl j }) ⟨hs.df, hs.fr, ⟨fun k q u hu => ?_, fun i z hz => ?_, hs.hp.apart, fun k z hz => ?_, fun i z k h1 h2 => ?_⟩, ?_⟩ o.dst (t := .v undef) (v := undef) (by simp only [Rel])⟩
  ·have hne : k ≠ b := fun e => by rw [e, hM] at hu; cases hu
   have h1 := hs.hp.promise k q u hu
   exact ⟨(cell_of_heap (setRow_other w b k _ hne) q).trans h1.1, h1.2⟩
  ·exact (hs.hp.objs i z hz).keep (fun k hk => setRow_other w b k _ (far hz hk)) (fun _ _ _ => rfl) (Pm.le_refl _)
  ·simp only at hz
   by_cases hkb : k = b
   ·subst hkb
    rw [if_pos rfl] at hz
    injection hz with hz
    subst hz
    exact ⟨rfl, _, ty, hh.setRow (by simp only [List.size_toArray, List.length_append, List.length_take, List.length_drop, Array.length_toList, hvs]; omega), relL_setCells rC rc off n hlen, hM⟩
   ·rw [if_neg hkb] at hz
    have h1 := hs.hp.glob k z hz
    exact ⟨h1.1, h1.2.keep (fun c hc => setRow_other w b c _ (by rw [h1.1] at hc; injection hc with hc; omega)) (fun _ _ _ => rfl) (Pm.le_refl _)⟩
  ·simp only
   rw [if_neg (far h1 h2)]
   exact hs.hp.sep i z k h1 h2
  ·refine ⟨hs.gr.more, hs.gr.only, Fr.setRow hs.gr.fr hown.symm _, fun k hk => ?_⟩
   rcases hk with h1 | h1
   ·exact hs.gr.own k (.inl h1)
   ·simp only at h1
    by_cases hkb : k = b
    ·subst hkb; exact hown
    ·rw [if_neg hkb] at h1
     exact hs.gr.own k (.inr h1)
 ·exact H.elim
theorem chunk_len {ag : Bool} {k : Nat} : ∀ (n : Nat) (cs : List T), (chunk ag k n cs).length = n
 | 0, _ => rfl
 | n + 1, cs => by simp [chunk, chunk_len n]
theorem elCells_one {t : T} (h : t.one = true) : elCells t = [t] := by cases t <;> first | rfl | cases h
theorem chunk_rel {ag : Bool} {k b : Nat} (hag : ag = false → k = 1) : ∀ (n : Nat) (cs : List T) (o : Nat), cs.length = n * k → cs.all T.one = true → RelA M b cs o → RelE M k b (chunk ag k n cs) o ∧ El elCells k (chunk ag k n cs)
 | 0, cs, o, _, _, _ => by simp only [chunk, RelE]; exact ⟨trivial, fun e he => by simp at he⟩
 | n + 1, cs, o, hl, ha, r => by
  have hk : k ≤ cs.length := by rw [hl, Nat.add_mul]; omega
  have ih := chunk_rel hag n (cs.drop k) (o + k) (by rw [List.length_drop, hl, Nat.add_mul]; omega) (by
   rw [List.all_eq_true] at ha ⊢; exact fun x hx => ha x (List.mem_of_mem_drop hx)) (r.drop k)
  have hel : ∀ (e : T), (elCells e).length = k → RelA M b (elCells e) o → RelE M k b (e :: chunk ag k n (cs.drop k)) o ∧ El elCells k (e :: chunk ag k n (cs.drop k)) := fun e he hr => by
   refine ⟨RelE.of_el fun i x hx => ?_, fun x hx => ?_⟩
   ·cases i with
    | zero => simp at hx; subst hx; simpa using hr
    | succ i =>
     have := ih.1.el (i := i) (by simpa using hx)
     rwa [show o + k + i * k = o + (i + 1) * k from by rw [Nat.add_mul]; omega] at this
   ·rcases List.mem_cons.1 hx with rfl | hx
    ·exact he
    ·exact ih.2 x hx
  unfold chunk
  cases ag with
  | true =>
   refine hel _ (by simp [elCells]; omega) (RelA.of_get fun i t ht => ?_)
   simp only [if_pos, elCells] at ht
   rw [List.getElem?_take] at ht
   split at ht
   ·exact r.get ht
   ·cases ht
  | false =>
   have h1 := hag rfl
   cases cs with
   | nil => simp at hk; omega
   | cons c cs =>
    simp only [List.all_cons, Bool.and_eq_true] at ha
    have e1 := elCells_one ha.1
    refine hel _ (by simp [e1, h1]) ?_
    simp only [Bool.false_eq_true, if_false, List.headD_cons, e1]
    simp only [RelA] at r ⊢
    exact ⟨r.1, trivial⟩
theorem sBuildSlice {t : TypeId} {len : Nat} {parts : Array (Nat × Operand)} (ho : o.op = .buildSlice t len parts) (H : eBuildSlice P s o.dst t len parts K) (hs : St Γ M s a w) : o.wp P a w (Post Γ K) Q := by
 unfold eBuildSlice at H
 split at H
 rotate_left
 ·exact H.elim
 rename_i e hel
 split at H
 rotate_left
 ·exact H.elim
 rename_i k ag z hk hag hz
 split at H
 rotate_left
 ·exact H.elim
 rename_i hc
 obtain ⟨hlen, hk0, hagk⟩ := hc
 split at H
 rotate_left
 ·exact H.elim
 rename_i cs hf
 split at H
 rotate_left
 ·exact H.elim
 rename_i hall
 have hu : P.underlying t = some (.slice e) := by
  unfold elemOfT at hel
  split at hel
  ·injection hel with hel; injection hel with h1 h2; cases h1
  ·rename_i hu; injection hel with hel; injection hel with h1 h2; subst h2; exact hu
  ·cases hel
 obtain ⟨y, hy, -, -⟩ := zeroT_run (M := M) hz
 have zl : RelL M (List.replicate (len * k) T.und) (((Array.range (len * k)).map fun i => y.cells[i % y.cells.size]!)).toList := RelL.of_get (by simp) fun i t' y' h1 _ => by
  rw [List.getElem?_replicate] at h1
  split at h1
  ·injection h1 with h1; subst h1; simp only [Rel]
  ·cases h1
 obtain ⟨C, h1, h2⟩ := fillT_rel (ps := parts.toList.map fun p => (p.1, a.eval p.2)) (by simp [List.map_map, Function.comp_def]) (parts_rel hs.fr parts.toList) zl hf
 have e0 : (parts.map fun (i, x) => (i, a.eval x)).toList = parts.toList.map fun p => (p.1, a.eval p.2) := by rw [Array.toList_map]
 have hone := relL_one hall h2
 have hcl : cs.length = len * k := by
  have : ∀ (l : List (Nat × T)) (c c' : List T), fillT (fun i => some (i * k, k)) c l = some c' → c'.length = c.length := by
   intro l
   induction l with
   | nil => intro c c' h; simp only [fillT, Option.some.injEq] at h; rw [h]
   | cons p l ih =>
    intro c c' h
    obtain ⟨i, t⟩ := p
    simp only [fillT] at h
    split at h
    ·cases h
    ·rw [ih _ _ h]
     unfold setRange
     have fl : ∀ (l : List (T × Nat)) (c : List T), (l.foldl (fun cs (x : T × Nat) => cs.set (i * k + x.2) x.1) c).length = c.length := by
      intro l
      induction l with
      | nil => intro c; rfl
      | cons x l ih => intro c; rw [List.foldl_cons, ih]; simp
     exact fl _ _
  rw [this _ _ _ hf, List.length_replicate]
 have hCs : C.size = len * k := by rw [← hcl, ← h2.len]; simp
 have hnd := no_promise hs.hp.promise (Nat.le_refl w.heap.size)
 have hnew : (w.alloc (.cells C e)).heap[w.heap.size]? = some (.cells C e (0, 0)) := heap_alloc_new w _
 have hM : M.le (fun b q => if b = w.heap.size then C[q]? else M b q) := fun b q u hu => by
  have hb : b ≠ w.heap.size := fun e => by rw [e, hnd] at hu; cases hu
  dsimp only; rw [if_neg hb]; exact hu
 have hA : RelA (fun b q => if b = w.heap.size then C[q]? else M b q) w.heap.size cs 0 := RelA.of_get fun i t' ht => by
  obtain ⟨u, h3, h4⟩ := h2.get ht
  refine ⟨u, ?_, h4.mono hM _ _⟩
  rw [if_pos rfl, Nat.zero_add]
  simpa using h3
 obtain ⟨c1, c2⟩ := chunk_rel (ag := ag.isSome) (fun e => hagk (by cases ag <;> first | rfl | cases e)) len cs 0 hcl hall hA
 refine wp_of_run (v := .slice (some ⟨w.heap.size, 0, none⟩) len len) (w' := w.alloc (.cells C e)) ?_ ⟨_, fun b q => if b = w.heap.size then C[q]? else M b q, H, St.put ⟨hs.df, hs.fr.mono hM _ _, ?_, ?_⟩ o.dst ?_⟩
 ·unfold execOp
  rw [ho]
  refine run_valueW ?_
  have hbig : ¬ (16777216 < len * k) := by omega
  have hfill : Instr.fill (fun i => some (i * k, k)) ((Array.range (len * k)).map fun i => (if len * k = 0 then #[] else y.cells)[i % (if len * k = 0 then #[] else y.cells).size]!) (parts.toList.map fun p => (p.1, a.eval p.2)) = some C := by
   by_cases h0 : len * k = 0
   ·rw [if_pos h0]
    have : ((Array.range (len * k)).map fun i => (#[] : Array Value)[i % (#[] : Array Value).size]!) = ((Array.range (len * k)).map fun i => y.cells[i % y.cells.size]!) := by rw [h0]; simp
    rw [this]; exact h1
   ·rw [if_neg h0]; exact h1
  by_cases h0 : len * k = 0
  ·simp only [Instr.buildSlice, Sem.run_bind, run_underlying hu, run_sizeOf hk, Result.andThen_ok]
   rw [if_neg (by omega), if_pos h0]
   rw [if_pos h0] at hfill
   simp only [Sem.run_bind, Sem.run_pure, Result.andThen_ok]
   rw [e0, hfill]
   simp [newRow]
  ·simp only [Instr.buildSlice, Sem.run_bind, run_underlying hu, run_sizeOf hk, Result.andThen_ok]
   rw [if_neg (by omega), if_neg h0]
   rw [if_neg h0] at hfill
   simp only [Sem.run_bind, hy, Sem.run_pure, Result.andThen_ok]
   rw [e0, hfill]
   simp [newRow]
 ·refine ⟨fun b q u hu => ?_, fun i x hx => ?_, hs.hp.apart, fun b x hx => ?_, hs.hp.sep⟩
  ·by_cases hb : b = w.heap.size
   ·subst hb
    rw [if_pos rfl] at hu
    exact ⟨by rw [cell_of_row _ _ _ _ _ _ hnew]; exact hu, hone u (by
     rw [← Array.getElem?_toList] at hu
     exact List.mem_of_getElem? hu)⟩
   ·rw [if_neg hb] at hu
    have h3 := hs.hp.promise b q u hu
    exact ⟨(cell_of_heap (heap_new w _ (by have := World.block_lt_of_cell? w _ h3.1; exact this)) q).trans h3.1, h3.2⟩
  ·have h3 := hs.hp.objs i x hx
   exact h3.keep (fun b hb => heap_new w _ (h3.lt hb)) (fun b hb q => if_neg (by have := h3.lt hb; omega)) hM
  ·have h3 := hs.hp.glob b x hx
   exact ⟨h3.1, h3.2.keep (fun c hc => heap_new w _ (h3.2.lt hc)) (fun c hc q => if_neg (by have := h3.2.lt hc; omega)) hM⟩
 ·refine ⟨Pm.le_trans hs.gr.more hM, fun b q u hu => ?_, hs.gr.fr.alloc _, hs.gr.own⟩
  by_cases hb : b = w.heap.size
  ·subst hb; exact .inr (.inr hs.gr.fr.size)
  ·rw [if_neg hb] at hu
   exact hs.gr.only b q u hu
 ·simp only [Rel, chunk_len]
  refine ⟨some ⟨w.heap.size, 0, none⟩, len, rfl, ⟨Nat.le_refl _, ?_, (fun e => by cases e), fun a e _ => by injection e with e; rw [← e]⟩, c2, fun b q e => ?_⟩
  ·have : len ≤ len * k := Nat.le_mul_of_pos_right _ hk0
   omega
  ·injection e with e
   injection e with e1 e2
   subst e1 e2
   exact c1
theorem sBuildNil {t : TypeId} {parts : Array (Nat × Operand)} (ho : o.op = .buildSlice t 0 parts) (H : eBuildNil P s o.dst t parts K) (hs : St Γ M s a w) : o.wp P a w (Post Γ K) Q := by
 unfold eBuildNil at H
 split at H
 rotate_left
 ·exact H.elim
 rename_i e hel hp
 split at H
 rotate_left
 ·exact H.elim
 rename_i k hk
 obtain ⟨hk0, H⟩ := H
 have hu : P.underlying t = some (.slice e) := by
  unfold elemOfT at hel
  split at hel
  ·injection hel with hel; injection hel with h1 h2; cases h1
  ·rename_i hu; injection hel with hel; injection hel with h1 h2; subst h2; exact hu
  ·cases hel
 have hpp : parts = #[] := by rw [← Array.toArray_toList (xs := parts), hp]
 refine wp_of_run (v := .slice (some ⟨w.heap.size, 0, none⟩) 0 0) (w' := w.alloc (.cells #[] e)) ?_
  ⟨_, M, H (.slice (some ⟨w.heap.size, 0, none⟩) 0 0), St.put (s := { s with ob := s.ob ++ [(0, .room k e 0 (.slice (some ⟨w.heap.size, 0, none⟩) 0 0))] }) ⟨hs.df, hs.fr, ?_, ?_⟩ o.dst ?_⟩
 ·unfold execOp
  rw [ho]
  refine run_valueW ?_
  simp only [Instr.buildSlice, Sem.run_bind, run_underlying hu, run_sizeOf hk, Result.andThen_ok, Nat.zero_mul]
  subst hpp
  simp [newRow, Instr.fill, show Array.range 0 = #[] from by decide]
 ·refine (hs.hp.still fun b hb => heap_new w _ hb).more (.inr ⟨w.heap.size, 0, 0, #[], e, rfl, .of (heap_alloc_new w _), Nat.le_refl _, Nat.zero_le _, by simp, fun j _ => no_promise hs.hp.promise (Nat.le_refl _) j⟩) fun b hb => ?_
  simp only [obBlk, Value.ownBlock, Option.some.injEq] at hb
  subst hb
  exact no_dom hs
 ·refine ⟨hs.gr.more, hs.gr.only, hs.gr.fr.alloc _, fun b hb => ?_⟩
  rcases hb with ⟨i, x, h1, h2⟩ | h1
  ·rw [List.getElem?_append] at h1
   split at h1
   ·exact hs.gr.own b (.inl ⟨i, x, h1, h2⟩)
   ·rw [List.getElem?_singleton] at h1
    split at h1
    ·injection h1 with h1
     subst h1
     simp only [obBlk, Value.ownBlock, Option.some.injEq] at h2
     subst h2
     exact .inr hs.gr.fr.size
    ·cases h1
  ·exact hs.gr.own b (.inr h1)
 ·simp only [Rel]
  refine ⟨trivial, some ⟨w.heap.size, 0, none⟩, 0, rfl, ⟨Nat.le_refl _, by omega, (fun e => by cases e), fun a e _ => by injection e with e; rw [← e]⟩, by simp [El], fun b q _ => by simp only [RelE]⟩
theorem St.alloc (hs : St Γ M s a w) (ob : Obj) : St Γ M s a (w.alloc ob) :=
 ⟨hs.df, hs.fr, hs.hp.still fun _ hb => heap_new w _ hb, ⟨hs.gr.more, hs.gr.only, hs.gr.fr.alloc _, hs.gr.own⟩⟩
theorem sBuild0 {t : TypeId} {parts : Array (Nat × Operand)} (ho : o.op = .buildSlice t 0 parts) (H : eBuild0 P s o.dst t parts K) (hs : St Γ M s a w) : o.wp P a w (Post Γ K) Q := by
 unfold eBuild0 at H
 split at H
 rotate_left
 ·exact H.elim
 rename_i e hel hp
 split at H
 rotate_left
 ·exact H.elim
 rename_i k hk
 have hu : P.underlying t = some (.slice e) := by
  unfold elemOfT at hel
  split at hel
  ·injection hel with hel; injection hel with h1 h2; cases h1
  ·rename_i hu; injection hel with hel; injection hel with h1 h2; subst h2; exact hu
  ·cases hel
 have hpp : parts = #[] := by rw [← Array.toArray_toList (xs := parts), hp]
 refine wp_of_run (v := .slice (some ⟨w.heap.size, 0, none⟩) 0 0) (w' := w.alloc (.cells #[] e)) ?_ ⟨_, M, H, (hs.alloc _).put o.dst (by simp only [Rel]; exact ⟨_, rfl⟩)⟩
 unfold execOp
 rw [ho]
 refine run_valueW ?_
 simp only [Instr.buildSlice, Sem.run_bind, run_underlying hu, run_sizeOf hk, Result.andThen_ok, Nat.zero_mul]
 subst hpp
 simp [newRow, Instr.fill, show Array.range 0 = #[] from by decide]
end
end Go.Proofs.Ytafcbipmmjegcaa.Vm
