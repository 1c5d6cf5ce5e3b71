/- Texts of this claim: Vm8. -/
import Derived.Test.YtafcbipmmjegcaaMg8
namespace Go.Proofs.Ytafcbipmmjegcaa.Vm
open Go Go.RowKit
section
variable {P : Program} {Γ : Ctx} {M M' : Pm} {s : S} {a : Act} {w w' : World} {o : Oper} {h : Hint} {K : S → Prop} {Q : Exit → Act → World → Prop}
theorem HRel.next {ob : Obs} {gl : Glb} (h : HRel M ob gl w) (hl : M.le M') (hk : ∀ b, b < w.heap.size → w'.heap[b]? = w.heap[b]?) (hm : ∀ b, b < w.heap.size → ∀ o, M' b o = M b o)
  (hp : ∀ b o v, M' b o = some v → w'.cell? ⟨b, o, none⟩ = some v ∧ v.oneCell' = true) : HRel M' ob gl w' :=
 ⟨hp, fun i x hx => (h.objs i x hx).keep (fun b hb => hk b ((h.objs i x hx).lt hb)) (fun b hb => hm b ((h.objs i x hx).lt hb)) hl, h.apart,
  fun b x hx => ⟨(h.glob b x hx).1, (h.glob b x hx).2.keep (fun c hc => hk c ((h.glob b x hx).2.lt hc)) (fun c hc => hm c ((h.glob b x hx).2.lt hc)) hl⟩, h.sep⟩
theorem St.grown (hs : St Γ M s a w) {i k : Nat} {e : TypeId} {es : List T} {x x' : Value} (ho : Out M w k e i es x x' w' M')
  (hi : (i = s.ob.length ∧ x.ownBlock = none) ∨ ∃ y, s.ob[i]? = some y ∧ obBlk y = x.ownBlock) (H : grow s o.dst i k e es K) : Post Γ K (a.put o.dst x') w' := by
 have hk := H x'
 have hown : ∀ b, x.ownBlock = some b → Γ.D b ∨ Γ.w0.heap.size ≤ b := fun b hb => by
  rcases hi with ⟨_, h0⟩ | ⟨y, h1, h2⟩
  ·rw [h0] at hb; cases hb
  ·exact hs.gr.own b (.inl ⟨i, y, h1, h2.trans hb⟩)
 have hob : HRel M' (if i < s.ob.length then s.ob.set i (0, .room k e es.length x') else s.ob ++ [(0, .room k e es.length x')]) s.gl w' ∧
   ∀ b, Dom (if i < s.ob.length then s.ob.set i (0, .room k e es.length x') else s.ob ++ [(0, .room k e es.length x')]) s.gl b → Dom s.ob s.gl b ∨ x'.ownBlock = some b := by
  rcases hi with ⟨rfl, h0⟩ | ⟨y, h1, h2⟩
  ·rw [if_neg (Nat.lt_irrefl _)]
   refine ⟨(hs.hp.next ho.le (fun b hb => ho.hk b hb (by rw [h0]; simp)) (fun b hb => ho.hm b hb (by rw [h0]; simp)) ho.hp).more ho.ob fun b hb hd => ?_, fun b hd => ?_⟩
   ·rcases ho.hb b hb with h3 | h3
    ·rw [h0] at h3; cases h3
    ·have := hs.hp.lt hd; omega
   ·rcases hd with ⟨j, z, h3, h4⟩ | h3
    ·rw [List.getElem?_append] at h3
     split at h3
     ·exact .inl (.inl ⟨j, z, h3, h4⟩)
     ·rw [List.getElem?_singleton] at h3
      split at h3
      ·injection h3 with h3; subst h3; exact .inr h4
      ·cases h3
    ·exact .inl (.inr h3)
  ·have hlt : i < s.ob.length := (List.getElem?_eq_some_iff.1 h1).1
   rw [if_pos hlt]
   refine ⟨hs.hp.turn h1 ho.le (fun b hb hn => ho.hk b hb (by rwa [← h2])) (fun b hb hn => ho.hm b hb (by rwa [← h2])) ho.hp ho.ob (fun b hb => by rw [h2]; exact ho.hb b hb), fun b hd => ?_⟩
   rcases hd with ⟨j, z, h3, h4⟩ | h3
   ·rw [List.getElem?_set] at h3
    split at h3
    ·injection h3 with h3; subst h3; exact .inr h4
    ·exact .inl (.inl ⟨j, z, h3, h4⟩)
   ·exact .inl (.inr h3)
 refine ⟨_, M', hk, St.put (s := { s with ob := if i < s.ob.length then s.ob.set i (0, .room k e es.length x') else s.ob ++ [(0, .room k e es.length x')] }) ⟨hs.df, hs.fr.mono ho.le _ _, hob.1, Pm.le_trans hs.gr.more ho.le, fun b q u hu => ?_, ?_, fun b hb => ?_⟩ o.dst ho.rel⟩
 ·by_cases hb : w.heap.size ≤ b
  ·exact .inr (.inr (Nat.le_trans hs.gr.fr.size hb))
  ·by_cases hx : x.ownBlock = some b
   ·exact .inr (hown b hx)
   ·rw [ho.hm b (by omega) hx] at hu
    exact hs.gr.only b q u hu
 ·refine hs.gr.fr.back (S' := fun b => x.ownBlock = some b) ⟨ho.os, ho.tape, ho.out, ho.size, fun b hb hn => ho.hk b hb hn⟩ fun b hb hx => (hown b hx).resolve_right (by omega)
 ·rcases hob.2 b hb with h3 | h3
  ·exact hs.gr.own b h3
  ·rcases ho.hb b h3 with h4 | h4
   ·exact hown b h4
   ·exact .inr (Nat.le_trans hs.gr.fr.size h4)
theorem sAppend {c : Call} (ho : o.op = .call c) (hc : c.callee = .builtin .append) (H : eAppend P s o.dst (c.args.toList.map s.eval) c.argTypes.toList K) (hs : St Γ M s a w) : o.wp P a w (Post Γ K) Q := by
 obtain ⟨callee, ⟨args⟩, ⟨tys⟩⟩ := c
 simp only at hc H
 subst hc
 unfold eAppend at H
 split at H
 rotate_left
 ·exact H.elim
 rename_i ta ty t t' hargs
 match args, hargs with
 | [x, y], hargs =>
 simp only [List.map_cons, List.map_nil, List.cons.injEq, and_true] at hargs
 obtain ⟨rfl, rfl⟩ := hargs
 split at H
 rotate_left
 ·exact H.elim
 rename_i e hel
 split at H
 rotate_left
 ·exact H.elim
 rename_i k bytes z hk hby hz
 split at H
 rotate_left
 ·exact H.elim
 rename_i hcnd
 obtain ⟨hsrc, hk0, hzl⟩ := hcnd
 split at H
 rotate_left
 ·exact H.elim
 rename_i ys hsl
 have hu : P.underlying t = some (.slice e) := by
  unfold elemOfT at hel
  split at hel
  ·injection hel with hel; injection hel with h1 h2; cases h1
  ·rename_i hu; injection hel with hel; injection hel with h1 h2; subst h2; exact hu
  ·cases hel
 unfold sizeT at hk
 unfold bytesT at hby
 simp only [Option.map_eq_some_iff] at hk hby
 obtain ⟨ti, hi, hsz⟩ := hk
 obtain ⟨ti', hi', hby⟩ := hby
 rw [hi] at hi'
 injection hi' with hi'
 subst hi'
 unfold zeroT at hz
 simp only [hi, Option.bind_some, Option.map_eq_some_iff] at hz
 obtain ⟨zv, hzv, rfl⟩ := hz
 have hzk : zv.cells.size = k := by simpa using hzl
 obtain ⟨hl, news, hS, hrel⟩ := src_of hs.hp hsrc hsl (eval_rel hs.fr y)
 have hr := eval_rel hs.fr x
 have run : ∀ {x' : Value} {w' : World}, (Builtin.append_ #[t, t'] o.type #[a.eval x, a.eval y]).run P w = .ok x' w' → (execOp a.eval o).run P w = .ok (.value x') w' := fun {x' w'} hrun => by
  unfold execOp
  rw [ho]
  simp [resolve, invoke, builtin, hrun]
 split at H
 ·rename_i hx
  rw [hx] at hr
  simp only [Rel] at hr
  obtain ⟨hf, H⟩ := H
  have hrx : Rel M (.slx k s.ob.length [] (a.eval x)) (a.eval x) := by
   simp only [Rel]
   exact ⟨trivial, none, 0, hr, ⟨Nat.le_refl _, by omega, fun _ => ⟨rfl, rfl⟩, (fun a e => by cases e)⟩, (fun e he => by simp at he), (fun b o e => by cases e)⟩
  obtain ⟨x', w', M', hrun, hout⟩ := append_run (tx := t') (ty := o.type) (n := 0) (es := []) hs.hp s.ob.length hu hi hzv hsz hzk hk0 hrx (.inl ⟨hr, rfl⟩) rfl hS hl hrel (by subst hby; simpa using hf)
  exact wp_of_run (run hrun) (hs.grown hout (.inl ⟨rfl, by rw [hr]; rfl⟩) H)
 ·rename_i k2 i es xv hx
  rw [hx] at hr
  have hr' := hr
  simp only [Rel] at hr'
  obtain ⟨e0, hr'⟩ := hr'
  subst e0
  split at H
  rotate_left
  ·exact H.elim
  rename_i b k3 e3 n x'' hob
  obtain ⟨⟨rfl, rfl⟩, hf, H⟩ := H
  split at H
  rotate_left
  ·exact H.elim
  rename_i hkk
  obtain ⟨rfl, rfl, rfl⟩ := hkk
  have hob' : ObRel M w (0, .room k3 e3 es.length (a.eval x)) := by
   have h1 := hs.hp.objs _ _ hob
   exact h1
  obtain ⟨x', w', M', hrun, hout⟩ := append_run (tx := t') (ty := o.type) (n := es.length) hs.hp i hu hi hzv hsz hzk hk0 hr hob' rfl hS hl hrel (by subst hby; exact hf)
  exact wp_of_run (run hrun) (hs.grown hout (.inr ⟨_, hob, rfl⟩) H)
 ·exact H.elim
theorem weakC {t : T} {v : Value} (r : Rel M t v) : Rel M t.weak1 v := by
 cases t <;> first | exact r | skip
 simp only [T.weak1, Rel] at r ⊢
 obtain ⟨e0, A, cap, e1, h⟩ := r
 exact ⟨A, cap, e0.trans e1, h⟩
theorem weak_rel {t : T} {v : Value} (r : Rel M t v) : Rel M t.weak v := by
 cases t <;> first | exact weakC r | skip
 rename_i cs
 simp only [T.weak, Rel] at r ⊢
 obtain ⟨ys, e, r⟩ := r
 refine ⟨ys, e, RelL.of_get (by rw [r.len]; simp) fun i t y h1 h2 => ?_⟩
 rw [List.getElem?_map, Option.map_eq_some_iff] at h1
 obtain ⟨c, hc, rfl⟩ := h1
 obtain ⟨u, h3, h4⟩ := r.get hc
 rw [h3] at h2
 injection h2 with h2
 subst h2
 exact weakC h4
theorem weakL_rel : ∀ {ts : List T} {vs : List Value}, RelL M ts vs → RelL M (ts.map T.weak) vs
 | [], vs, r => by simpa only [List.map_nil, RelL] using r
 | t :: ts, vs, r => by
  simp only [RelL, List.map_cons] at r ⊢
  obtain ⟨u, us, e, r1, r2⟩ := r
  exact ⟨u, us, e, weak_rel r1, weakL_rel r2⟩
theorem filterMap_get {α β : Type} (f : α → Option β) : ∀ (l : List α), (∀ x ∈ l, (f x).isSome = true) → (l.filterMap f).length = l.length ∧ ∀ (j : Nat) (x : α), l[j]? = some x → (l.filterMap f)[j]? = f x
 | [], _ => ⟨rfl, by simp⟩
 | x :: l, h => by
  obtain ⟨y, hy⟩ := Option.isSome_iff_exists.1 (h x (by simp))
  obtain ⟨h1, h2⟩ := filterMap_get f l fun z hz => h z (List.mem_cons_of_mem _ hz)
  rw [List.filterMap_cons_some hy]
  refine ⟨by simp [h1], fun j z hz => ?_⟩
  cases j with
  | zero => simp at hz; subst hz; simp [hy]
  | succ j => simpa using h2 j z (by simpa using hz)
theorem idxOf_some {l : List Nat} {i j : Nat} (h : l.idxOf? i = some j) : l[j]? = some i := by
 rw [List.idxOf?, List.findIdx?_eq_some_iff_getElem] at h
 obtain ⟨h1, h2, _⟩ := h
 rw [List.getElem?_eq_getElem h1]
 simpa using h2
theorem idxOf_none {l : List Nat} {i : Nat} (h : l.idxOf? i = none) : i ∉ l := by
 rw [List.idxOf?, List.findIdx?_eq_none_iff] at h
 exact fun hm => by have := h i hm; simp at this
theorem merge_get {sel : List Nat} {ob' ob : Obs} (hlen : sel.length ≤ ob'.length) {i : Nat} {x : Nat × Ob} (h : (merge sel ob' ob)[i]? = some x) :
  (i ∉ sel ∧ ob[i]? = some x) ∨ (i < ob.length ∧ ∃ j : Nat, sel[j]? = some i ∧ ob'[j]? = some x) ∨ (ob.length ≤ i ∧ ob'[sel.length + (i - ob.length)]? = some x) := by
 unfold merge at h
 rw [List.getElem?_append] at h
 split at h
 ·rename_i hlt
  rw [List.getElem?_map, Option.map_eq_some_iff] at h
  obtain ⟨⟨y, q⟩, hy, h⟩ := h
  rw [List.getElem?_zipIdx, Option.map_eq_some_iff] at hy
  obtain ⟨u, hu, e⟩ := hy
  injection e with e1 e2
  subst e1
  have : q = i := by omega
  subst this
  simp only at h
  split at h
  ·rename_i j hj
   have h1 := idxOf_some hj
   have h2 : j < sel.length := (List.getElem?_eq_some_iff.1 h1).1
   refine .inr (.inl ⟨(List.getElem?_eq_some_iff.1 hu).1, j, h1, ?_⟩)
   rw [List.getElem?_eq_getElem (by omega), ← h]
   simp [List.getD_eq_getElem?_getD, show j < ob'.length from by omega]
  ·rename_i hj
   exact .inl ⟨idxOf_none hj, by rw [hu, h]⟩
 ·rename_i hlt
  simp only [List.length_map, List.length_zipIdx] at h hlt
  rw [List.getElem?_drop] at h
  exact .inr (.inr ⟨by omega, h⟩)
theorem relL_map {f : T → T} (hf : ∀ {t : T} {v : Value}, Rel M t v → Rel M (f t) v) : ∀ {ts : List T} {vs : List Value}, RelL M ts vs → RelL M (ts.map f) vs
 | [], vs, r => by simpa only [List.map_nil, RelL] using r
 | t :: ts, vs, r => by
  simp only [RelL, List.map_cons] at r ⊢
  obtain ⟨u, us, e, r1, r2⟩ := r
  exact ⟨u, us, e, hf r1, relL_map hf r2⟩
theorem ix0_rel {f : Nat → Nat} {t : T} {v : Value} (r : Rel M t v) : Rel M (ix0 f t) v := by
 cases t <;> first | exact r | (simp only [ix0, Rel] at r ⊢; exact r)
theorem ix1_rel {f : Nat → Nat} {t : T} {v : Value} (r : Rel M t v) : Rel M (ix1 f t) v := by
 cases t <;> first | exact ix0_rel (f := f) r | skip
 all_goals
  simp only [ix1, Rel] at r ⊢
  obtain ⟨ys, e, r⟩ := r
  exact ⟨ys, e, relL_map ix0_rel r⟩
theorem ix2_rel {f : Nat → Nat} {t : T} {v : Value} (r : Rel M t v) : Rel M (ix2 f t) v := by
 cases t <;> first | exact ix1_rel (f := f) r | skip
 simp only [ix2, Rel] at r ⊢
 obtain ⟨ys, e, r⟩ := r
 exact ⟨ys, e, relL_map ix1_rel r⟩
theorem ix3_rel {f : Nat → Nat} {t : T} {v : Value} (r : Rel M t v) : Rel M (ix3 f t) v := by
 cases t <;> first | exact ix2_rel (f := f) r | skip
 simp only [ix3, Rel] at r ⊢
 obtain ⟨ys, e, r⟩ := r
 exact ⟨ys, e, relL_map ix2_rel r⟩
theorem ixOb_blk {f : Nat → Nat} {x : Nat × Ob} : obBlk (ixOb f x) = obBlk x := by
 obtain ⟨b, x⟩ := x
 cases x <;> rfl
theorem ixOb_rel {f : Nat → Nat} {w : World} {x : Nat × Ob} (h : ObRel M w x) : ObRel M w (ixOb f x) := by
 obtain ⟨b, x⟩ := x
 cases x <;> first | exact h | skip
 obtain ⟨C, t, h1, h2, h3⟩ := h
 exact ⟨C, t, h1, relL_map ix1_rel h2, h3⟩
theorem reix_rel {keep : List Nat} {t : T} {v : Value} (r : Rel M t v) : Rel M (reix keep t) v := ix3_rel r
theorem reixOb_blk {keep : List Nat} {x : Nat × Ob} : obBlk (reixOb keep x) = obBlk x := ixOb_blk
theorem reixOb_rel {keep : List Nat} {w : World} {x : Nat × Ob} (h : ObRel M w x) : ObRel M w (reixOb keep x) := ixOb_rel h
structure SameT (F : T → T) (G : Nat × Ob → Nat × Ob) : Prop where
 rel : ∀ {M t v}, Rel M t v → Rel M (F t) v
 blk : ∀ {x}, obBlk (G x) = obBlk x
 ob : ∀ {M w x}, ObRel M w x → ObRel M w (G x)
theorem SameT.fwd (sel : List Nat) : SameT (fwdT sel) (fwdO sel) := by
 unfold fwdT fwdO
 split
 ·exact ⟨fun h => h, rfl, fun h => h⟩
 ·exact ⟨ix3_rel, ixOb_blk, ixOb_rel⟩
theorem SameT.bk (sel : List Nat) (n m : Nat) : SameT (bkT sel n m) (bkO sel n m) := by
 unfold bkT bkO
 split
 ·exact ⟨fun h => h, rfl, fun h => h⟩
 ·exact ⟨ix3_rel, ixOb_blk, ixOb_rel⟩
theorem HRel.same {F : T → T} {G : Nat × Ob → Nat × Ob} (hG : SameT F G) {ob : Obs} {gl : Glb} {w : World} (h : HRel M ob gl w) : HRel M (ob.map G) gl w := by
 have get : ∀ {i : Nat} {x : Nat × Ob}, (ob.map G)[i]? = some x → ∃ y, ob[i]? = some y ∧ x = G y := fun {i x} hx => by
  rw [List.getElem?_map, Option.map_eq_some_iff] at hx
  obtain ⟨y, h1, h2⟩ := hx
  exact ⟨y, h1, h2.symm⟩
 refine ⟨h.promise, fun i x hx => ?_, fun i j x y b h1 h2 h3 h4 => ?_, h.glob, fun i x b h1 h2 => ?_⟩
 ·obtain ⟨y, g1, rfl⟩ := get hx
  exact hG.ob (h.objs i y g1)
 ·obtain ⟨x', g1, rfl⟩ := get h1
  obtain ⟨y', g2, rfl⟩ := get h2
  exact h.apart i j x' y' b g1 g2 (hG.blk ▸ h3) (hG.blk ▸ h4)
 ·obtain ⟨x', g1, rfl⟩ := get h1
  exact h.sep i x' b g1 (hG.blk ▸ h2)
theorem dom_same {F : T → T} {G : Nat × Ob → Nat × Ob} (hG : SameT F G) {ob : Obs} {gl : Glb} {b : Nat} : Dom (ob.map G) gl b ↔ Dom ob gl b := by
 constructor
 ·rintro (⟨i, x, h1, h2⟩ | h)
  ·rw [List.getElem?_map, Option.map_eq_some_iff] at h1
   obtain ⟨y, h3, rfl⟩ := h1
   exact .inl ⟨i, y, h3, hG.blk ▸ h2⟩
  ·exact .inr h
 ·rintro (⟨i, x, h1, h2⟩ | h)
  ·exact .inl ⟨i, G x, by rw [List.getElem?_map, h1]; rfl, by rw [hG.blk]; exact h2⟩
  ·exact .inr h
theorem TCalls.same {f : FuncId} {ts : List T} {ob : Obs} {gl : Glb} {Q : T → Obs → Glb → Prop} {F : T → T} {G : Nat × Ob → Nat × Ob} (hG : SameT F G)
  (h : TCalls P f (ts.map F) (ob.map G) gl Q) : TCalls P f ts ob gl Q :=
 ⟨h.can, fun M w xs hp hx => (h.calls M w xs (hp.same hG) (relL_map hG.rel hx)).mono fun _ _ ⟨x, r, M', ob', gl', h1, h2, h3, h4, h5⟩ =>
  ⟨x, r, M', ob', gl', h1, h2, h3, ⟨h4.more, fun b o v hv => by
   rcases h4.only b o v hv with h6 | h6 | h6
   ·exact .inl h6
   ·exact .inr (.inl ((dom_same hG).1 h6))
   ·exact .inr (.inr h6), h4.fr.mono fun b _ hb => (dom_same hG).1 hb, fun b hb => by
   rcases h4.own b hb with h6 | h6
   ·exact .inl ((dom_same hG).1 h6)
   ·exact .inr h6⟩, h5⟩⟩
theorem ix1_plain {f : Nat → Nat} : ∀ {t : T}, noIx t = true → ix1 f t = t := fun {t} h => by cases t <;> first | rfl | simp [noIx] at h
theorem ixOb_plain {f : Nat → Nat} : ∀ {l : List (Nat × Ob)}, plainO l → l.map (ixOb f) = l
 | [], _ => rfl
 | (b, x) :: l, h => by
  cases x <;> first | (simp only [plainO] at h; rw [List.map_cons, ixOb_plain h]; rfl) | skip
  rename_i cs
  simp only [plainO] at h
  rw [List.map_cons, ixOb_plain h.2]
  have : cs.map (ix1 f) = cs := by
   have h1 := List.all_eq_true.1 h.1
   exact (List.map_congr_left (g := id) fun t ht => ix1_plain (h1 t ht)).trans (List.map_id _)
  simp only [ixOb, this]
theorem fwdO_plain {sel : List Nat} {l : List (Nat × Ob)} (h : plainO l) : l.map (fwdO sel) = l := by
 unfold fwdO
 split
 ·exact List.map_id _
 ·exact ixOb_plain h
theorem bkO_plain {sel : List Nat} {n m : Nat} {l : List (Nat × Ob)} (h : plainO l) : l.map (bkO sel n m) = l := by
 unfold bkO
 split
 ·exact List.map_id _
 ·exact ixOb_plain h
theorem mapN_eq {N : List Nat} {g : Nat × Ob → Nat × Ob} (hg : ∀ x, plainX x → g x = x) : ∀ (i : Nat) (l : List (Nat × Ob)), plainN N i l → mapN N g i l = l.map g
 | _, [], _ => rfl
 | i, x :: l, h => by
  unfold plainN at h
  unfold mapN
  rw [List.map_cons]
  cases hc : N.contains i <;> simp only [hc] at h ⊢
  ·rw [mapN_eq hg _ _ h]
  ·rw [mapN_eq hg _ _ h.2, hg x h.1]
theorem ixOb_X {f : Nat → Nat} {x : Nat × Ob} (h : plainX x) : ixOb f x = x := by
 obtain ⟨b, x⟩ := x
 cases x <;> first | rfl | skip
 rename_i cs
 have : cs.map (ix1 f) = cs := by
  have h1 := List.all_eq_true.1 h
  exact (List.map_congr_left (g := id) fun t ht => ix1_plain (h1 t ht)).trans (List.map_id _)
 simp only [ixOb, this]
theorem fwdO_X {sel : List Nat} {x : Nat × Ob} (h : plainX x) : fwdO sel x = x := by
 unfold fwdO
 split
 ·rfl
 ·exact ixOb_X h
theorem bkO_X {sel : List Nat} {n m : Nat} {x : Nat × Ob} (h : plainX x) : bkO sel n m x = x := by
 unfold bkO
 split
 ·rfl
 ·exact ixOb_X h
theorem eCall_one {f : FuncId} {ts : List T} {d : Option Tmp} (H : eCall P s d h f ts K) : ∃ h', eCall1 P s d h' f ts K := by
 unfold eCall at H
 split at H
 ·rename_i h' _
  refine ⟨h', ?_⟩
  unfold eCallP at H
  unfold eCall1
  split at H
  rotate_left
  ·exact H.elim
  split at H
  rotate_left
  ·exact H.elim
  rename_i hs
  rw [if_pos hs, fwdO_plain H.1]
  refine ⟨H.2.1, fun a ha => ?_⟩
  rw [bkO_plain (H.2.2 a ha).1]
  exact (H.2.2 a ha).2
 ·rename_i N h' _
  refine ⟨h', ?_⟩
  unfold eCallN at H
  unfold eCall1
  split at H
  rotate_left
  ·exact H.elim
  split at H
  rotate_left
  ·exact H.elim
  rename_i hs
  rw [if_pos hs, ← mapN_eq (fun x => fwdO_X) 0 _ H.1]
  refine ⟨H.2.1, fun a ha => ?_⟩
  rw [← mapN_eq (fun x => bkO_X) 0 _ (H.2.2 a ha).1]
  exact (H.2.2 a ha).2
 ·exact ⟨_, H⟩
theorem sCall {f : FuncId} {ts : List T} {xs : Array Value} (hrun : CanCall P f → (execOp a.eval o).run P w = .ok (.enter f xs) w) (H : eCall P s o.dst h f ts K) (hs : St Γ M s a w) (hx : RelL M ts xs.toList) : o.wp P a w (Post Γ K) Q := by
 obtain ⟨h, H⟩ := eCall_one H
 unfold eCall1 at H
 split at H
 rotate_left
 ·exact H.elim
 rename_i wk α post sel g r ob gl
 split at H
 rotate_left
 ·exact H.elim
 rename_i hsel
 obtain ⟨hnd, hin⟩ := hsel
 rw [List.all_eq_true] at hin
 obtain ⟨hT, hK⟩ := H
 replace hT := TCalls.same (SameT.fwd sel) hT
 have hsome : ∀ i ∈ sel, (s.ob[i]?).isSome = true := fun i hi => by
  have := hin i hi
  simp only [decide_eq_true_eq] at this
  simp [this]
 obtain ⟨sl1, sl2⟩ := filterMap_get (fun i => s.ob[i]?) sel hsome
 have sl3 : ∀ (j : Nat) (x : Nat × Ob), (sel.filterMap fun i => s.ob[i]?)[j]? = some x → ∃ i, sel[j]? = some i ∧ s.ob[i]? = some x := fun j x hx => by
  have hj : j < sel.length := by rw [← sl1]; exact (List.getElem?_eq_some_iff.1 hx).1
  have h1 : sel[j]? = some sel[j] := List.getElem?_eq_getElem hj
  exact ⟨sel[j], h1, by rw [← sl2 j _ h1]; exact hx⟩
 have selInj : ∀ {j l i : Nat}, sel[j]? = some i → sel[l]? = some i → j = l := fun {j l i} h1 h2 => by
  have hj : j < sel.length := (List.getElem?_eq_some_iff.1 h1).1
  have hl : l < sel.length := (List.getElem?_eq_some_iff.1 h2).1
  rw [List.getElem?_eq_getElem hj] at h1
  rw [List.getElem?_eq_getElem hl] at h2
  exact (List.getElem_inj hnd).1 (Option.some.inj (h1.trans h2.symm))
 generalize hob0 : (sel.filterMap fun i => s.ob[i]?) = ob0 at hT sl1 sl2 sl3
 generalize hgl0 : (if g then s.gl else fun _ => none) = gl0 at hT
 have hgl1 : ∀ b x, gl0 b = some x → s.gl b = some x := fun b x hb => by
  rw [← hgl0] at hb
  split at hb
  ·exact hb
  ·cases hb
 have h0 : HRel M ob0 gl0 w := by
  refine ⟨hs.hp.promise, fun j x hx => ?_, fun j l x y b h1 h2 h3 h4 => ?_, fun b x hb => hs.hp.glob b x (hgl1 b x hb), fun j x b h1 h2 => ?_⟩
  ·obtain ⟨i, _, hi⟩ := sl3 j x hx
   exact hs.hp.objs i x hi
  ·obtain ⟨i, i1, i2⟩ := sl3 j x h1
   obtain ⟨i', i3, i4⟩ := sl3 l y h2
   have := hs.hp.apart i i' x y b i2 i4 h3 h4
   subst this
   exact selInj i1 i3
  ·obtain ⟨i, _, hi⟩ := sl3 j x h1
   have := hs.hp.sep i x b hi h2
   rw [← hgl0]
   split
   ·exact this
   ·rfl
 have hd0 : ∀ b, Dom ob0 gl0 b → Dom s.ob s.gl b := fun b hb => by
  rcases hb with ⟨j, x, h1, h2⟩ | h1
  ·obtain ⟨i, _, hi⟩ := sl3 j x h1
   exact .inl ⟨i, x, hi, h2⟩
  ·obtain ⟨x, hx⟩ := Option.isSome_iff_exists.1 h1
   exact .inr (by rw [hgl1 b x hx]; rfl)
 have far : ∀ {i : Nat} {x : Nat × Ob} {b : Nat}, i ∉ sel → s.ob[i]? = some x → obBlk x = some b → ¬ Dom ob0 gl0 b := fun {i x b} hi h1 h2 hd => by
  rcases hd with ⟨j, y, h3, h4⟩ | h3
  ·obtain ⟨i', i1, i2⟩ := sl3 j y h3
   have := hs.hp.apart i i' x y b h1 i2 h2 h4
   subst this
   exact hi (List.mem_of_getElem? i1)
  ·obtain ⟨y, hy⟩ := Option.isSome_iff_exists.1 h3
   have := hgl1 b y hy
   rw [hs.hp.sep i x b h1 h2] at this
   cases this
 unfold Oper.wp
 rw [hrun hT.can, Oper.upon_enter]
 have hargs : RelL M (if wk = true then ts.map T.weak else ts) xs.toList := by
  split
  ·exact weakL_rel hx
  ·exact hx
 refine (hT.calls M w xs h0 hargs).mono ?_
 rintro e w' ⟨x, r', M', ob', gl', rfl, hrel, hp', hg', α0, hpost, e1, e2, hlen, hgl'⟩
 subst e1 e2
 have hbk := SameT.bk sel s.ob.length (ob α0).length
 replace hrel := hbk.rel hrel
 replace hp' := hp'.same hbk
 replace hg' : Grew _ _ ((ob α0).map (bkO sel s.ob.length (ob α0).length)) gl' w' := ⟨hg'.more, hg'.only, hg'.fr, fun b hb => hg'.own b ((dom_same hbk).1 hb)⟩
 replace hlen : sel.length ≤ ((ob α0).map (bkO sel s.ob.length (ob α0).length)).length := by rw [List.length_map]; exact hlen
 have hk := hK α0 hpost
 generalize hob2 : (ob α0).map (bkO sel s.ob.length (ob α0).length) = ob2 at hp' hg' hlen hk
 have hgr := hg'.more
 have keepB : ∀ b, b < w.heap.size → ¬ Dom ob0 gl0 b → w'.heap[b]? = w.heap[b]? := fun b hb hd => hg'.fr.block b hb hd
 have keepM : ∀ b, b < w.heap.size → ¬ Dom ob0 gl0 b → ∀ q, M' b q = M b q := fun b hb hd q => by
  cases hm : M b q with
  | some u => exact hgr b q u hm
  | none =>
   cases hm' : M' b q with
   | none => rfl
   | some u =>
    rcases hg'.only b q u hm' with h1 | h1 | h1
    ·simp only at h1; rw [hm] at h1; cases h1
    ·exact absurd h1 hd
    ·simp only at h1; omega
 have keep : ∀ {i : Nat} {x : Nat × Ob}, i ∉ sel → s.ob[i]? = some x → ObRel M' w' x := fun {i x} hi h1 => by
  have h2 := hs.hp.objs i x h1
  exact h2.keep (fun b hb => keepB b (h2.lt hb) (far hi h1 hb)) (fun b hb => keepM b (h2.lt hb) (far hi h1 hb)) hgr
 have back : ∀ {j : Nat} {x : Nat × Ob} {b : Nat}, ob2[j]? = some x → obBlk x = some b → Dom ob0 gl0 b ∨ w.heap.size ≤ b := fun {j x b} h1 h2 => hg'.own b (.inl ⟨j, x, h1, h2⟩)
 generalize hgl2 : (if g then gl α0 else s.gl) = gl2
 have hgl3 : g = true → gl2 = gl' ∧ gl0 = s.gl := fun hg => by subst hg; simp at hgl2 hgl0; exact ⟨by rw [← hgl2, hgl' rfl], hgl0.symm⟩
 have hgl4 : g = false → gl2 = s.gl ∧ ∀ b, gl0 b = none := fun hg => by subst hg; simp at hgl2 hgl0; exact ⟨hgl2.symm, fun b => by rw [← hgl0]⟩
 have hmg : HRel M' (merge sel ob2 s.ob) gl2 w' := by
  refine ⟨hp'.promise, fun i x hx => ?_, fun i j x y b h1 h2 h3 h4 => ?_, fun b x hb => ?_, fun i x b h1 h2 => ?_⟩
  ·rcases merge_get hlen hx with ⟨hi, h1⟩ | ⟨_, j, _, h1⟩ | ⟨_, h1⟩
   ·exact keep hi h1
   ·exact hp'.objs _ _ h1
   ·exact hp'.objs _ _ h1
  ·have cross : ∀ {i j : Nat} {x y : Nat × Ob} {b : Nat}, i ∉ sel → s.ob[i]? = some x → ob2[j]? = some y → obBlk x = some b → obBlk y = some b → False := fun {i j x y b} hi g1 g2 g3 g4 => by
    rcases back g2 g4 with g5 | g5
    ·exact far hi g1 g3 g5
    ·have := (hs.hp.objs i x g1).lt g3; omega
   rcases merge_get hlen h1 with ⟨hi, g1⟩ | ⟨i1, ji, g0, g1⟩ | ⟨i1, g1⟩ <;> rcases merge_get hlen h2 with ⟨hj, k1⟩ | ⟨j1, jj, k0, k1⟩ | ⟨j1, k1⟩
   ·exact hs.hp.apart i j x y b g1 k1 h3 h4
   ·exact (cross hi g1 k1 h3 h4).elim
   ·exact (cross hi g1 k1 h3 h4).elim
   ·exact (cross hj k1 g1 h4 h3).elim
   ·have := hp'.apart _ _ _ _ b g1 k1 h3 h4
    subst this
    rw [g0] at k0
    exact Option.some.inj k0
   ·have := hp'.apart _ _ _ _ b g1 k1 h3 h4
    have hl : ji < sel.length := (List.getElem?_eq_some_iff.1 g0).1
    omega
   ·exact (cross hj k1 g1 h4 h3).elim
   ·have := hp'.apart _ _ _ _ b g1 k1 h3 h4
    have hl : jj < sel.length := (List.getElem?_eq_some_iff.1 k0).1
    omega
   ·have := hp'.apart _ _ _ _ b g1 k1 h3 h4
    omega
  ·cases g with
   | true =>
    rw [(hgl3 rfl).1] at hb
    exact hp'.glob b x hb
   | false =>
    rw [(hgl4 rfl).1] at hb
    have h1 := hs.hp.glob b x hb
    have hnd' : ∀ c, obBlk (b, x) = some c → ¬ Dom ob0 gl0 c := fun c hc hd => by
     have e : c = b := by rw [h1.1] at hc; exact (Option.some.inj hc).symm
     subst e
     rcases hd with ⟨j, y, h3, h4⟩ | h3
     ·obtain ⟨i', _, i2⟩ := sl3 j y h3
      have := hs.hp.sep i' y c i2 h4
      rw [hb] at this; cases this
     ·rw [(hgl4 rfl).2 c] at h3; cases h3
    exact ⟨h1.1, h1.2.keep (fun c hc => keepB c (h1.2.lt hc) (hnd' c hc)) (fun c hc => keepM c (h1.2.lt hc) (hnd' c hc)) hgr⟩
  ·cases g with
   | true =>
    rw [(hgl3 rfl).1]
    rcases merge_get hlen h1 with ⟨hi, g1⟩ | ⟨_, j, _, g1⟩ | ⟨_, g1⟩
    ·cases hb : gl' b with
     | none => rfl
     | some y =>
      rcases hg'.own b (.inr (by rw [hb]; rfl)) with g2 | g2
      ·exact absurd g2 (far hi g1 h2)
      ·have := (hs.hp.objs i x g1).lt h2; simp only at g2; omega
    ·exact hp'.sep _ _ _ g1 h2
    ·exact hp'.sep _ _ _ g1 h2
   | false =>
    rw [(hgl4 rfl).1]
    have other : ∀ {j : Nat}, ob2[j]? = some x → s.gl b = none := fun {j} g1 => by
     rcases back g1 h2 with g2 | g2
     ·rcases g2 with ⟨l, y, h3, h4⟩ | h3
      ·obtain ⟨i', _, i2⟩ := sl3 l y h3
       exact hs.hp.sep i' y b i2 h4
      ·rw [(hgl4 rfl).2 b] at h3; cases h3
     ·cases hb : s.gl b with
      | none => rfl
      | some y => have := (hs.hp.glob b y hb).2.lt (hs.hp.glob b y hb).1; omega
    rcases merge_get hlen h1 with ⟨hi, g1⟩ | ⟨_, j, _, g1⟩ | ⟨_, g1⟩
    ·exact hs.hp.sep i x b g1 h2
    ·exact other g1
    ·exact other g1
 have hdm : ∀ b, Dom (merge sel ob2 s.ob) gl2 b → Dom s.ob s.gl b ∨ w.heap.size ≤ b := fun b hb => by
  rcases hb with ⟨i, x, h1, h2⟩ | h1
  ·rcases merge_get hlen h1 with ⟨hi, g1⟩ | ⟨_, j, _, g1⟩ | ⟨_, g1⟩
   ·exact .inl (.inl ⟨i, x, g1, h2⟩)
   ·exact (back g1 h2).imp (hd0 b) id
   ·exact (back g1 h2).imp (hd0 b) id
  ·cases g with
   | true =>
    rw [(hgl3 rfl).1] at h1
    exact (hg'.own b (.inr h1)).imp (hd0 b) id
   | false => rw [(hgl4 rfl).1] at h1; exact .inl (.inr h1)
 rw [hgl2] at hk
 refine ⟨_, M', hk, St.put (s := { s with ob := merge sel ob2 s.ob, gl := gl2 }) ⟨hs.df, hs.fr.mono hgr _ _, hmg, Pm.le_trans hs.gr.more hgr, fun b q u hu => ?_, ?_, fun b hb => ?_⟩ o.dst hrel⟩
 ·rcases hg'.only b q u hu with h1 | h1 | h1
  ·exact hs.gr.only b q u h1
  ·exact .inr (hs.gr.own b (hd0 b h1))
  ·exact .inr (.inr (Nat.le_trans hs.gr.fr.size h1))
 ·exact hs.gr.fr.back hg'.fr fun b hb hd => (hs.gr.own b (hd0 b hd)).resolve_right (by omega)
 ·rcases hdm b hb with h1 | h1
  ·exact hs.gr.own b h1
  ·exact .inr (Nat.le_trans hs.gr.fr.size h1)
theorem mapOf_some {t : TypeId} {kd : IntKind} {e : TypeId} (h : mapOf P t = some (kd, e)) : ∃ k, P.underlying t = some (.map k e) ∧ P.underlying k = some (.int kd) := by
 unfold mapOf at h
 split at h
 ·rename_i k e' hu
  split at h
  ·rename_i kd' hk
   injection h with h
   injection h with h1 h2
   subst h1 h2
   exact ⟨k, hu, hk⟩
  ·cases h
 ·cases h
theorem zeroVal_run {e : TypeId} {t : T} (h : zeroVal P e = some t) : ∃ y, (∀ w, (zeroValue e).run P w = .ok y w) ∧ Rel M t y := by
 unfold zeroVal at h
 simp only [Option.map_eq_some_iff, Option.bind_eq_some_iff] at h
 obtain ⟨y, ⟨i, h1, h2⟩, rfl⟩ := h
 exact ⟨y, fun w => by simp [zeroValue, typeInfo, h1, h2], rel_ofC y⟩
theorem lookup_found {t : TypeId} {x ix : Operand} {ok : Bool} {k : T → Prop} {i b b' : Nat} {kd kd' : IntKind} {e : TypeId} {z : Int} {f : Int → Option T} {es : Array MapEntry} {ck : Nat} {zt : T} (ho : o.op = .lookup t x ix ok) (hx : a.eval x = .map (some b)) (hix : a.eval ix = .int kd z)
  (hob : s.ob[i]? = some (b', .map kd f es ck)) (hmo : mapOf P t = some (kd', e)) (hkd : kd' = kd) (hbb : b' = b) (hz : zeroVal P e = some zt) (hs : St Γ M s a w) (H : claim h (some (if ok then .tup [(f z).getD zt, .v (.bool (f z).isSome)] else (f z).getD zt)) k) :
  ∃ v u, k u ∧ Rel M u v ∧ ∀ w', w'.heap[b']? = w.heap[b']? → (execOp a.eval o).run P w' = .ok (.value v) w' := by
 subst hkd hbb
 obtain ⟨u, hu, hk⟩ := claim_some H
 injection hu with hu
 obtain ⟨kt, hm, hd⟩ := mapOf_some hmo
 obtain ⟨y, hy, hry⟩ := zeroVal_run (M := M) hz
 obtain ⟨hh, ⟨fv, hE, hF1, hF2⟩, -⟩ := hs.hp.objs _ _ hob
 have hrel : Rel M ((f z).getD zt) ((fv z).getD y) ∧ (f z).isSome = (fv z).isSome := by
  cases hfz : f z with
  | none => rw [hF2 z hfz]; exact ⟨hry, rfl⟩
  | some t' =>
   obtain ⟨v, h1, h2⟩ := hF1 z t' hfz
   rw [h1]
   exact ⟨h2, rfl⟩
 have hM : ∀ w', w'.heap[b']? = w.heap[b']? → MapI w' b' kd' fv := fun w' hw' => .of (hw'.trans hh) hE
 cases ok with
 | true =>
  refine ⟨.tuple #[(fv z).getD y, .bool (fv z).isSome], u, hk, ?_, fun w' hw' => ?_⟩
  ·rw [← hu]
   simp only [if_pos, Rel, RelL]
   exact ⟨_, rfl, _, _, rfl, hrel.1, _, _, rfl, by rw [hrel.2], rfl⟩
  ·unfold execOp
   rw [ho]
   refine run_value ?_
   rw [hx, hix]
   exact (hM w' hw').lookup_ok hm hd (hy w') z
 | false =>
  refine ⟨(fv z).getD y, u, hk, by rw [← hu]; exact hrel.1, fun w' hw' => ?_⟩
  unfold execOp
  rw [ho]
  refine run_value ?_
  rw [hx, hix]
  exact (hM w' hw').lookup hm hd (hy w') z
theorem sLookup {t : TypeId} {x ix : Operand} {ok : Bool} (ho : o.op = .lookup t x ix ok) (H : vLookup P s o h t x ix ok (fun t => K (s.put o.dst t))) (hs : St Γ M s a w) : o.wp P a w (Post Γ K) Q := by
 unfold vLookup at H
 have hr := eval_rel hs.fr x
 split at H
 ·rename_i i b hx
  rw [hx] at hr
  simp only [Rel] at hr
  split at H
  rotate_left
  ·exact H.elim
  rename_i b' kd f es ck kd' e kd'' z hob hmo hiz
  split at H
  rotate_left
  ·exact H.elim
  rename_i zt hz
  split at H
  rotate_left
  ·exact H.elim
  rename_i hc
  obtain ⟨hbb, H⟩ := H
  have hix := intT_rel hiz (eval_rel hs.fr ix)
  rw [hc.2] at hix
  obtain ⟨v, u, h1, h2, h3⟩ := lookup_found ho hr hix hob hmo hc.1 hbb hz hs H
  exact wp_of_run (h3 w rfl) ⟨_, M, h1, hs.put o.dst h2⟩
 ·exact value_sound (flatK_sound H hs.fr) hs fun t ht => ht
theorem sMakeMap {t : TypeId} (ho : o.op = .makeMap t none) (H : eMakeMap P s o.dst t K) (hs : St Γ M s a w) : o.wp P a w (Post Γ K) Q := by
 unfold eMakeMap at H
 split at H
 rotate_left
 ·exact H.elim
 rename_i kd e hmo
 have hk := H w.heap.size
 refine wp_of_run (v := .map (some w.heap.size)) (w' := w.alloc (.map #[] 0)) ?_ ⟨_, M, hk, St.put (s := { s with ob := s.ob ++ [(w.heap.size, .map kd (fun _ => none) #[] 0)] }) ⟨hs.df, hs.fr, ?_, ?_⟩ o.dst (by simp only [Rel])⟩
 ·unfold execOp
  rw [ho]
  refine run_valueW ?_
  simp [Instr.makeMap]
 ·refine (hs.hp.still fun b hb => heap_new w _ hb).more ⟨heap_alloc_new w _, ⟨fun _ => none, ⟨MapKept.stamped_empty 0, by simp, by simp⟩, fun z t h => (by cases h), fun _ _ => rfl⟩, fun o => no_promise hs.hp.promise (Nat.le_refl _) o⟩ fun b hb => ?_
  simp only [obBlk, Option.some.injEq] at hb
  subst hb
  exact no_dom hs
 ·refine ⟨hs.gr.more, hs.gr.only, hs.gr.fr.alloc _, fun b hb => ?_⟩
  rcases hb with ⟨i, x, h1, h2⟩ | h1
  ·simp only at h1
   rw [List.getElem?_append] at h1
   split at h1
   ·exact hs.gr.own b (.inl ⟨i, x, h1, h2⟩)
   ·rw [List.getElem?_singleton] at h1
    split at h1
    ·injection h1 with h1
     subst h1
     simp only [obBlk, Option.some.injEq] at h2
     subst h2
     exact .inr hs.gr.fr.size
    ·cases h1
  ·exact hs.gr.own b (.inr h1)
theorem St.turned (hs : St Γ M s a w) {i b : Nat} {x y : Nat × Ob} {w' : World} (hob : s.ob[i]? = some x) (hb : obBlk x = some b) (hM : ∀ o, M b o = none) (hf : Go.Proofs.Ytafcbipmmjegcaa.Fr (· = b) w w') (hy : ObRel M w' y) (hyb : obBlk y = some b) : St Γ M { s with ob := s.ob.set i y } a w' := by
 have hlt := (hs.hp.objs i x hob).lt hb
 have hown := hs.gr.own b (.inl ⟨i, x, hob, hb⟩)
 refine ⟨hs.df, hs.fr, hs.hp.turn hob (Pm.le_refl _) (fun k hk hne => hf.block k hk (fun e => hne (by rw [e]; exact hb))) (fun _ _ _ _ => rfl) (fun k q u hu => ?_) hy (fun k hk => .inl (by rw [hyb] at hk; rw [hb]; exact hk)), hs.gr.more, hs.gr.only, hs.gr.fr.back hf (fun k hk e => by
  have e : k = b := e
  subst e
  exact hown.resolve_right (by omega)), fun k hk => ?_⟩
 ·have h1 := hs.hp.promise k q u hu
  have hne : k ≠ b := fun e => by rw [e, hM] at hu; cases hu
  exact ⟨(cell_of_heap (hf.block k (by have := World.block_lt_of_cell? w _ h1.1; exact this) hne) q).trans h1.1, h1.2⟩
 ·rcases hk with ⟨j, z, h1, h2⟩ | h1
  ·simp only at h1
   rw [List.getElem?_set] at h1
   split at h1
   ·split at h1
    ·injection h1 with h1
     subst h1
     rw [hyb] at h2
     injection h2 with h2
     subst h2
     exact hown
    ·cases h1
   ·exact hs.gr.own k (.inl ⟨j, z, h1, h2⟩)
  ·exact hs.gr.own k (.inr h1)
theorem claimF_some {f : Int → Option T} {k : (Int → Option T) → Prop} (c : claimF h f k) : ∃ g, (∀ z, g z = f z) ∧ k g := by
 unfold claimF at c
 split at c
 ·exact ⟨_, c.1, c.2⟩
 ·exact ⟨f, fun _ => rfl, c⟩
theorem turnMap_sound {i b : Nat} {kd : IntKind} {f g : Int → Option T} {es : Array MapEntry} {ck : Nat} {gv : Int → Option Value} {v : Value} {t : T} (hs : St Γ M s a w) (hob : s.ob[i]? = some (b, .map kd f es ck)) (hm : MapI w' b kd gv) (hf : Go.Proofs.Ytafcbipmmjegcaa.Fr (· = b) w w') (hg : FRel M g gv) (H : turnMap s i b kd g (fun s' => K (s'.put o.dst t))) (ht : Rel M t v) : Post Γ K (a.put o.dst v) w' := by
 obtain ⟨es', ck', h1, h2⟩ := hm.out
 have hx := hs.hp.objs _ _ hob
 refine ⟨_, M, H es' ck', St.put (s := { s with ob := s.ob.set i (b, .map kd g es' ck') }) (hs.turned hob rfl hx.2.2 hf ⟨h1, ⟨gv, h2, hg⟩, hx.2.2⟩ rfl) o.dst ht⟩
theorem sUpdate {t : TypeId} {x ix y : Operand} (ho : o.op = .mapUpdate t x ix y) (H : eUpdate P s h t x ix y (fun s' => K (s'.put o.dst (.v undef)))) (hs : St Γ M s a w) : o.wp P a w (Post Γ K) Q := by
 unfold eUpdate at H
 have hr := eval_rel hs.fr x
 split at H
 rotate_left
 ·exact H.elim
 rename_i i b hx
 rw [hx] at hr
 simp only [Rel] at hr
 split at H
 rotate_left
 ·exact H.elim
 rename_i b' kd f es ck kd' e kd'' z hob hmo hiz
 split at H
 rotate_left
 ·exact H.elim
 rename_i hc
 obtain ⟨rfl, H⟩ := H
 obtain ⟨hc1, hc2⟩ := hc
 subst hc1 hc2
 obtain ⟨g, hg, H⟩ := claimF_some H
 have hix := intT_rel hiz (eval_rel hs.fr ix)
 obtain ⟨kt, hm, hd⟩ := mapOf_some hmo
 obtain ⟨hh, ⟨fv, hE, hF1, hF2⟩, hM⟩ := hs.hp.objs _ _ hob
 obtain ⟨w', es', ck', hrun, h1, h2, hU, hfr, -⟩ := hE.update hh hm hd z (a.eval y)
 have hgr : FRel M g (upd fv z (a.eval y)) := by
  refine ⟨fun q u hq => ?_, fun q hq => ?_⟩
  ·rw [hg] at hq
   unfold updT at hq
   unfold upd
   split at hq
   ·rename_i e; rw [if_pos e]; injection hq with hq; subst hq; exact ⟨_, rfl, eval_rel hs.fr y⟩
   ·rename_i e; rw [if_neg e]; exact hF1 q u hq
  ·rw [hg] at hq
   unfold updT at hq
   unfold upd
   split at hq
   ·cases hq
   ·rename_i e; rw [if_neg e]; exact hF2 q hq
 have hx' := hs.hp.objs _ _ hob
 have hpost : Post Γ K (a.put o.dst undef) w' := ⟨_, M, H es' ck' hU, St.put (s := { s with ob := s.ob.set i (b', .map _ g es' ck') }) (hs.turned hob rfl hx'.2.2 hfr ⟨h1, ⟨_, h2, hgr⟩, hx'.2.2⟩ rfl) o.dst (by simp only [Rel])⟩
 unfold Oper.wp execOp
 rw [ho]
 simp only [Sem.run_bind, hr, hix, hrun, Result.andThen_ok]
 exact hpost
theorem upd_rel {f : Int → Option T} {fv : Int → Option Value} {z : Int} {u : T} {v : Value} (hf : FRel M f fv) (h : Rel M u v) : FRel M (updT f z u) (upd fv z v) := by
 obtain ⟨hF1, hF2⟩ := hf
 refine ⟨fun q u hq => ?_, fun q hq => ?_⟩
 ·unfold updT at hq
  unfold upd
  split at hq
  ·rename_i e; rw [if_pos e]; injection hq with hq; subst hq; exact ⟨_, rfl, h⟩
  ·rename_i e; rw [if_neg e]; exact hF1 q u hq
 ·unfold updT at hq
  unfold upd
  split at hq
  ·cases hq
  ·rename_i e; rw [if_neg e]; exact hF2 q hq
theorem sMapEntry {t : TypeId} {x ix : Operand} (ho : o.op = .mapEntry t x ix) (H : eMapEntry P s o.dst t x ix K) (hs : St Γ M s a w) : o.wp P a w (Post Γ K) Q := by
 unfold eMapEntry at H
 have hr := eval_rel hs.fr x
 split at H
 rotate_left
 ·exact H.elim
 rename_i i b hx
 rw [hx] at hr
 simp only [Rel] at hr
 split at H
 rotate_left
 ·exact H.elim
 rename_i b' kd f es ck kd' e kd'' z hob hmo hiz
 split at H
 rotate_left
 ·exact H.elim
 rename_i zt hz
 split at H
 rotate_left
 ·exact H.elim
 rename_i hc
 obtain ⟨rfl, H⟩ := H
 obtain ⟨hc1, hc2⟩ := hc
 subst hc1 hc2
 have hix := intT_rel hiz (eval_rel hs.fr ix)
 obtain ⟨kt, hm, hd⟩ := mapOf_some hmo
 obtain ⟨y, hy, hry⟩ := zeroVal_run (M := M) hz
 obtain ⟨hh, ⟨fv, hE, hF⟩, hM⟩ := hs.hp.objs _ _ hob
 have hrel : Rel M ((f z).getD zt) ((fv z).getD y) := by
  cases hfz : f z with
  | none => rw [hF.2 z hfz]; exact hry
  | some t' =>
   obtain ⟨v, h1, h2⟩ := hF.1 z t' hfz
   rw [h1]
   exact h2
 obtain ⟨q, w', hrun, h1, h2, hfr, -⟩ := (MapI.of hh hE).entry (P := P) (mty := t) hm hd (hy w) z
 obtain ⟨es', ck', g1, g2⟩ := h1.out
 obtain ⟨es2, ck2, g3, hborn⟩ := h2
 rw [g1] at g3
 cases g3
 refine wp_of_run (w' := w') (v := .tuple #[(fv z).getD y, .int .i64 (q : Int)]) ?_ ⟨_, M, H q es' ck' (hborn.imp fun x h => ⟨h.1, by rw [h.2.1], h.2.2⟩), St.put (s := { s with ob := s.ob.set i (b', .map kd'' (updT f z ((f z).getD zt)) es' ck') }) (hs.turned hob rfl hM hfr ⟨g1, ⟨_, g2, upd_rel hF hrel⟩, hM⟩ rfl) o.dst ?_⟩
 ·unfold execOp
  rw [ho]
  simp only [hr, hix]
  exact run_valueW hrun
 ·simp only [Rel, RelL]
  exact ⟨_, rfl, _, _, rfl, hrel, _, _, rfl, rfl, rfl⟩
theorem sEntryStore {t : TypeId} {x ix y : Operand} (ho : o.op = .entryStore t x ix y) (H : eEntryStore s h x ix y (fun s' => K (s'.put o.dst (.v undef)))) (hs : St Γ M s a w) : o.wp P a w (Post Γ K) Q := by
 unfold eEntryStore at H
 have hr := eval_rel hs.fr x
 have hri := eval_rel hs.fr ix
 split at H
 rotate_left
 ·exact H.elim
 rename_i i b z q hx hix
 rw [hx] at hr
 rw [hix] at hri
 simp only [Rel] at hr hri
 split at H
 rotate_left
 ·exact H.elim
 rename_i b' kd f es ck hob
 obtain ⟨rfl, ⟨xe, hx1, rfl, hx2⟩, H⟩ := H
 obtain ⟨hh, ⟨fv, hE, hF⟩, hM⟩ := hs.hp.objs _ _ hob
 obtain ⟨w', hrun, h1, hfr, -⟩ := (MapI.of hh hE).store (P := P) (mty := t) (s := xe.born) (z := z) ⟨es, ck, hh, xe, hx1, rfl, hx2⟩ (a.eval y)
 obtain ⟨es', ck', g1, g2⟩ := h1.out
 have hpost : Post Γ K (a.put o.dst undef) w' := ⟨_, M, H es' ck', St.put (s := { s with ob := s.ob.set i (b', .map kd (updT f z (s.eval y)) es' ck') }) (hs.turned hob rfl hM hfr ⟨g1, ⟨_, g2, upd_rel hF (eval_rel hs.fr y)⟩, hM⟩ rfl) o.dst (by simp only [Rel])⟩
 unfold Oper.wp execOp
 rw [ho]
 simp only [Sem.run_bind, hr, hri, hrun, Result.andThen_ok]
 exact hpost
theorem sDelete {c : Call} (ho : o.op = .call c) (hc : c.callee = .builtin .delete) (H : eDelete P s h (c.args.toList.map s.eval) c.argTypes.toList (fun s' => K (s'.put o.dst (.tup [])))) (hs : St Γ M s a w) : o.wp P a w (Post Γ K) Q := by
 obtain ⟨callee, ⟨args⟩, ⟨tys⟩⟩ := c
 simp only at hc H
 subst hc
 unfold eDelete at H
 split at H
 rotate_left
 ·exact H.elim
 rename_i i b ixT t kt' hargs
 have hal : args.length = 2 := by have := congrArg List.length hargs; simpa using this
 match args, hal with
 | [x, ix], _ =>
 simp only [List.map_cons, List.map_nil, List.cons.injEq, and_true] at hargs
 obtain ⟨hx, rfl⟩ := hargs
 have hr := eval_rel hs.fr x
 rw [hx] at hr
 simp only [Rel] at hr
 split at H
 rotate_left
 ·exact H.elim
 rename_i b' kd f es ck kd' e kd'' z hob hmo hiz
 split at H
 rotate_left
 ·exact H.elim
 rename_i hc
 obtain ⟨rfl, H⟩ := H
 obtain ⟨hc1, hc2⟩ := hc
 subst hc1 hc2
 obtain ⟨g, hg, H⟩ := claimF_some H
 have hix := intT_rel hiz (eval_rel hs.fr ix)
 obtain ⟨kt, hm, hd⟩ := mapOf_some hmo
 obtain ⟨hh, ⟨fv, hE, hF1, hF2⟩, hM⟩ := hs.hp.objs _ _ hob
 obtain ⟨w', es', hrun, hh', hE', hdel, hfr, -⟩ := hE.delete hh hm hd z o.type kt'
 have hgr : FRel M g (fun y => if y = z then none else fv y) := by
  refine ⟨fun q u hq => ?_, fun q hq => ?_⟩
  ·rw [hg] at hq
   unfold delT at hq
   split at hq
   ·cases hq
   ·rename_i e
    obtain ⟨v, h1, h2⟩ := hF1 q u hq
    exact ⟨v, by show (if q = z then none else fv q) = some v; rw [if_neg e]; exact h1, h2⟩
  ·rw [hg] at hq
   unfold delT at hq
   by_cases e : q = z
   ·exact if_pos e
   ·rw [if_neg e] at hq; show (if q = z then none else fv q) = none; rw [if_neg e]; exact hF2 q hq
 have hpost : Post Γ K (a.put o.dst (.tuple #[])) w' := ⟨_, M, H es' hdel, St.put (s := { s with ob := s.ob.set i (b', .map kd'' g es' ck) }) (hs.turned hob rfl hM hfr ⟨hh', ⟨_, hE', hgr⟩, hM⟩ rfl) o.dst (by simp only [Rel, RelL]; exact ⟨_, rfl, rfl⟩)⟩
 unfold Oper.wp execOp
 rw [ho]
 simp only [resolve, invoke, builtin, Sem.run_bind, Sem.run_pure, Result.andThen_ok, List.map_toArray, List.map_cons, List.map_nil, hr, hix, hrun]
 exact hpost
theorem sClear {c : Call} (ho : o.op = .call c) (hc : c.callee = .builtin .clear) (H : eClear P s (c.args.toList.map s.eval) c.argTypes.toList (fun s' => K (s'.put o.dst (.tup [])))) (hs : St Γ M s a w) : o.wp P a w (Post Γ K) Q := by
 obtain ⟨callee, ⟨args⟩, ⟨tys⟩⟩ := c
 simp only at hc H
 subst hc
 unfold eClear at H
 split at H
 rotate_left
 ·exact H.elim
 rename_i i b t hargs
 have hal : args.length = 1 := by have := congrArg List.length hargs; simpa using this
 match args, hal with
 | [x], _ =>
 simp only [List.map_cons, List.map_nil, List.cons.injEq, and_true] at hargs
 have hr := eval_rel hs.fr x
 rw [hargs] at hr
 simp only [Rel] at hr
 split at H
 rotate_left
 ·exact H.elim
 rename_i b' kd f es ck kde hob hmo
 obtain ⟨rfl, H⟩ := H
 obtain ⟨kt, hm, hd⟩ := mapOf_some (kd := kde.1) (e := kde.2) hmo
 obtain ⟨hh, ⟨fv, hE, -⟩, hM⟩ := hs.hp.objs _ _ hob
 obtain ⟨w', hrun, hm', hfr, -⟩ := (MapI.of hh hE).clear hm o.type
 have hpost := turnMap_sound (o := o) (K := K) (t := .tup []) (v := .tuple #[]) hs hob hm' hfr ⟨fun z t h => (by cases h), fun _ _ => rfl⟩ H (by simp only [Rel, RelL]; exact ⟨_, rfl, rfl⟩)
 unfold Oper.wp execOp
 rw [ho]
 simp only [resolve, invoke, builtin, Sem.run_bind, Sem.run_pure, Result.andThen_ok, List.map_toArray, List.map_cons, List.map_nil, hr, hrun]
 exact hpost
theorem sLenMap {c : Call} {other : Prop} (ho : o.op = .call c) (hc : c.callee = .builtin .len) (H : eLen P s h (c.args.toList.map s.eval) c.argTypes.toList (fun t => K (s.put o.dst t)) other) (hother : other → o.wp P a w (Post Γ K) Q) (hs : St Γ M s a w) : o.wp P a w (Post Γ K) Q := by
 obtain ⟨callee, ⟨args⟩, ⟨tys⟩⟩ := c
 simp only at hc H
 subst hc
 unfold eLen at H
 split at H
 rotate_left
 ·exact hother H
 rename_i i b t hargs
 have hal : args.length = 1 := by have := congrArg List.length hargs; simpa using this
 match args, hal with
 | [x], _ =>
 simp only [List.map_cons, List.map_nil, List.cons.injEq, and_true] at hargs
 have hr := eval_rel hs.fr x
 rw [hargs] at hr
 simp only [Rel] at hr
 split at H
 rotate_left
 ·exact H.elim
 rename_i b' kd f es ck kde n hob hmo
 obtain ⟨rfl, ⟨ks, hn, hks, rfl⟩, hk⟩ := H
 obtain ⟨kt, hm, hd⟩ := mapOf_some (kd := kde.1) (e := kde.2) hmo
 obtain ⟨hh, ⟨fv, hE, hF1, hF2⟩, hM⟩ := hs.hp.objs _ _ hob
 have hlen := len_of hE hn fun z => by
  rw [hks]
  cases hfz : f z with
  | none => rw [hF2 z hfz]; exact Iff.rfl
  | some t' => obtain ⟨v, h1, _⟩ := hF1 z t' hfz; rw [h1]; exact Iff.rfl
 refine wp_of_run (v := .int .i64 es.size) (w' := w) ?_ ⟨_, M, hk, hs.put o.dst (by simp only [Rel, hlen])⟩
 unfold execOp
 rw [ho]
 simp only [resolve, invoke, builtin, Sem.run_bind, Sem.run_pure, Result.andThen_ok, List.map_toArray, List.map_cons, List.map_nil, hr, run_len_map hm hh]
theorem sRange {t : TypeId} {x : Operand} (ho : o.op = .range t x) (H : eRange P s o.dst t x K) (hs : St Γ M s a w) : o.wp P a w (Post Γ K) Q := by
 unfold eRange at H
 have hr := eval_rel hs.fr x
 split at H
 rotate_left
 ·exact H.elim
 rename_i i b hx
 rw [hx] at hr
 simp only [Rel] at hr
 split at H
 rotate_left
 ·exact H.elim
 rename_i b' kd f es ck kde hob hmo
 obtain ⟨rfl, H⟩ := H
 obtain ⟨kt, hm, hd⟩ := mapOf_some (kd := kde.1) (e := kde.2) hmo
 obtain ⟨hh, ⟨fv, hE, hF1, hF2⟩, hM⟩ := hs.hp.objs _ _ hob
 obtain ⟨left, h1, h2, h3⟩ := IterE.start (w := w.alloc (.mapIter (some b') ck #[] ck)) (r := b') hE (heap_alloc_new w _)
 have hk := H w.heap.size left h2 fun z => by
  rw [h3]
  cases hfz : f z with
  | none => rw [hF2 z hfz]; exact Iff.rfl
  | some t' => obtain ⟨v, h1, _⟩ := hF1 z t' hfz; rw [h1]; exact Iff.rfl
 refine wp_of_run (v := .pointer (some ⟨w.heap.size, 0, none⟩)) (w' := w.alloc (.mapIter (some b') ck #[] ck)) ?_ ⟨_, M, hk, St.put (s := { s with ob := s.ob ++ [(w.heap.size, .iter i b' kd es ck left none)] }) ⟨hs.df, hs.fr, ?_, ?_⟩ o.dst (by simp only [Rel])⟩
 ·unfold execOp
  rw [ho]
  refine run_valueW ?_
  rw [hr]
  exact run_range hm hh
 ·refine (hs.hp.still fun b hb => heap_new w _ hb).more ⟨h1, fun o => no_promise hs.hp.promise (Nat.le_refl _) o⟩ fun b hb => ?_
  simp only [obBlk, Option.some.injEq] at hb
  subst hb
  exact no_dom hs
 ·refine ⟨hs.gr.more, hs.gr.only, hs.gr.fr.alloc _, fun b hb => ?_⟩
  rcases hb with ⟨i, x, h1, h2⟩ | h1
  ·simp only at h1
   rw [List.getElem?_append] at h1
   split at h1
   ·exact hs.gr.own b (.inl ⟨i, x, h1, h2⟩)
   ·rw [List.getElem?_singleton] at h1
    split at h1
    ·injection h1 with h1
     subst h1
     simp only [obBlk, Option.some.injEq] at h2
     subst h2
     exact .inr hs.gr.fr.size
    ·cases h1
  ·exact hs.gr.own b (.inr h1)
theorem sNext {x : Operand} (ho : o.op = .next x false) (H : eNext s o.dst x K) (hs : St Γ M s a w) : o.wp P a w (Post Γ K) Q := by
 unfold eNext at H
 have hr := eval_rel hs.fr x
 split at H
 rotate_left
 ·exact H.elim
 rename_i j c hx
 rw [hx] at hr
 simp only [Rel] at hr
 split at H
 rotate_left
 ·exact H.elim
 rename_i c' i mb kd es ck left cur hj
 split at H
 rotate_left
 ·exact H.elim
 rename_i b' kd' f es' ck' hi
 split at H
 rotate_left
 ·exact H.elim
 rename_i hkd
 subst hkd
 obtain ⟨⟨rfl, rfl, rfl, rfl⟩, H1, H2⟩ := H
 obtain ⟨hh, ⟨fv, hE, hF1, hF2⟩, hM⟩ := hs.hp.objs _ _ hi
 obtain ⟨hI, hMc⟩ := hs.hp.objs _ _ hj
 have wpr : ∀ {v : Value} {w' : World}, (Instr.next (.pointer (some ⟨c', 0, none⟩)) false o.type).run P w = .ok v w' → (execOp a.eval o).run P w = .ok (.value v) w' := fun {v w'} hrun => by
  unfold execOp
  rw [ho]
  refine run_valueW ?_
  rw [hr]
  exact hrun
 rcases hI.next (P := P) hE hh o.type with ⟨hl, w', hrun, e1, e2, e3, e4⟩ | ⟨z, v, w', hz, hv, hrun, hI', hfr, -⟩
 ·refine wp_of_run (wpr hrun) ⟨_, M, H1 hl, St.put ⟨hs.df, hs.fr, hs.hp.still fun b _ => by rw [e1], ⟨hs.gr.more, hs.gr.only, ⟨e2.trans hs.gr.fr.os, e3.trans hs.gr.fr.tape, e4.trans hs.gr.fr.output, by rw [e1]; exact hs.gr.fr.size, fun k hk hn => by rw [e1]; exact hs.gr.fr.block k hk hn⟩, hs.gr.own⟩⟩ o.dst ?_⟩
  simp only [Rel, RelL]
  exact ⟨_, rfl, _, _, rfl, rfl, rfl⟩
 ·cases hfz : f z with
  | none => rw [hF2 z hfz] at hv; cases hv
  | some t =>
   obtain ⟨v', h1, h2⟩ := hF1 z t hfz
   rw [hv] at h1
   injection h1 with h1
   subst h1
   refine wp_of_run (wpr hrun) ⟨_, M, H2 z t hz hfz, St.put (s := { s with ob := s.ob.set j (c', .iter i b' kd' es' ck' (left.erase z) (some z)) }) (hs.turned hj rfl hMc hfr ⟨hI', hMc⟩ rfl) o.dst ?_⟩
   simp only [Rel, RelL]
   exact ⟨_, rfl, _, _, rfl, rfl, _, _, rfl, rfl, _, _, rfl, h2, rfl⟩
theorem sEntry {x : Operand} (ho : o.op = .entry x) (H : eEntry s h o.dst x K) (hs : St Γ M s a w) : o.wp P a w (Post Γ K) Q := by
 unfold eEntry at H
 have hr := eval_rel hs.fr x
 split at H
 rotate_left
 ·exact H.elim
 rename_i j c hx
 rw [hx] at hr
 simp only [Rel] at hr
 split at H
 rotate_left
 ·exact H.elim
 rename_i c' i mb kd es ck left cur hj
 split at H
 rotate_left
 ·exact H.elim
 rename_i b' kd' f es' ck' z hi
 split at H
 rotate_left
 ·exact H.elim
 rename_i hkd
 subst hkd
 obtain ⟨⟨rfl, rfl, rfl, rfl⟩, H⟩ := H
 obtain ⟨hh, ⟨fv, hE, hF1, hF2⟩, hM⟩ := hs.hp.objs _ _ hi
 obtain ⟨hI, hMc⟩ := hs.hp.objs _ _ hj
 obtain ⟨v, hv, hrun⟩ := hI.entry (P := P) hE hh
 cases hfz : f z with
 | none => rw [hF2 z hfz] at hv; cases hv
 | some t =>
  obtain ⟨v', h1, h2⟩ := hF1 z t hfz
  rw [hv] at h1
  injection h1 with h1
  subst h1
  refine wp_of_run (v := .tuple #[.int kd' z, v]) (w' := w) ?_ ⟨_, M, resT_out H hfz, hs.put o.dst ?_⟩
  ·unfold execOp
   rw [ho]
   refine run_value ?_
   rw [hr]
   exact hrun
  ·simp only [Rel, RelL]
   exact ⟨_, rfl, _, _, rfl, rfl, _, _, rfl, h2, rfl⟩
end
end Go.Proofs.Ytafcbipmmjegcaa.Vm
