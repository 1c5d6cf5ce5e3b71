/- Texts of this claim: Vm9. -/
import Derived.Test.YtafcbipmmjegcaaMg10
import Derived.Test.YtafcbipmmjegcaaMg11
namespace Go.Proofs.Ytafcbipmmjegcaa.Vm
open Go Go.RowKit
section
variable {P : Program} {Γ : Ctx} {M : Pm} {s : S} {a : Act} {w : World} {o : Oper} {h : Hint} {K : S → Prop} {Q : Exit → Act → World → Prop}
theorem ex_sound (H : ex P o h s K) (hs : St Γ M s a w) : o.wp P a w (Post Γ K) Q := by
 unfold ex at H
 split at H
 ·rename_i ho; exact sLoad ho H hs
 ·rename_i ho; exact sStore ho H hs
 ·rename_i ho; exact sAlloc ho H hs
 ·rename_i ho; exact sBox ho H hs
 ·rename_i ho
  split at H
  ·rename_i h0; subst h0
   split at H
   ·exact sBuild0 ho H hs
   ·exact sBuildNil ho H hs
  ·split at H
   ·exact sBuildSlx ho H hs
   ·exact sBuildSlice ho H hs
 ·rename_i ho
  split at H
  ·exact sMakeV ho H hs
  ·exact sMakeMap ho H hs
 ·rename_i ho; exact sMake ho H hs
 ·rename_i ho
  split at H
  ·rename_i hc; exact sToStr ho hc H hs
  ·rename_i hc; exact sToBytes ho hc H hs
  ·exact value_sound (pv_sound H hs.fr) hs fun t ht => ht
 ·rename_i ho
  split at H
  ·exact sLookupV ho H hs
  ·exact sLookup ho H hs
 ·rename_i ho
  split at H
  ·exact sUpdateV ho H hs
  ·exact sUpdate ho H hs
 ·rename_i ho; exact sMapEntry ho H hs
 ·rename_i ho; exact sEntryStore ho H hs
 ·rename_i ho
  split at H
  ·exact sRangeS ho H hs
  ·exact sRange ho H hs
 ·rename_i ho; exact sNext ho H hs
 ·rename_i ho; exact sNextS ho H hs
 ·rename_i ho; exact sEntry ho H hs
 ·rename_i c ho
  split at H
  ·rename_i hc
   split at H
   ·exact sAppendM ho hc H hs
   ·exact sAppend ho hc H hs
  ·rename_i hc; exact sCopy ho hc H hs
  ·rename_i hc; exact sDelete ho hc H hs
  ·rename_i hc
   split at H
   ·exact sClearM ho hc H hs
   ·exact sClear ho hc H hs
  ·rename_i hc; exact sLenMap ho hc H (fun H => value_sound (pv_sound H hs.fr) hs fun t ht => ht) hs
  ·exact value_sound (pv_sound H hs.fr) hs fun t ht => ht
  ·rename_i f hc
   split at H
   ·rename_i g caps hf
    have hr := eval_rel hs.fr f
    rw [hf] at hr
    simp only [Rel] at hr
    obtain ⟨ys, e, hr⟩ := hr
    refine sCall (f := g) (xs := (c.args.map a.eval) ++ ys) (fun hcan => ?_) H hs ?_
    ·unfold execOp
     rw [ho]
     simp [resolve, hc, e, Deferred.ofValue, invoke]
     exact hcan _ _
    ·rw [Array.toList_append, Array.toList_map]
     exact (evals_rel hs.fr _).append hr
   ·rename_i g bs hf
    have hr := eval_rel hs.fr f
    rw [hf] at hr
    simp only [Rel] at hr
    obtain ⟨zs, e, hr⟩ := hr
    refine sCall (f := g) (xs := zs ++ (c.args.map a.eval)) (fun hcan => ?_) H hs ?_
    ·unfold execOp
     rw [ho]
     simp [resolve, hc, e, Deferred.ofValue, invoke]
     exact hcan _ _
    ·rw [Array.toList_append, Array.toList_map]
     exact hr.append (evals_rel hs.fr _)
   ·exact H.elim
  ·exact H.elim
 ·exact value_sound (pv_sound H hs.fr) hs fun t ht => ht
theorem set_self {α : Type} {l : Array α} {i : Nat} {x : α} (h : l[i]? = some x) : (l.setIfInBounds i x) = l := by
 apply Array.ext_getElem?
 intro j
 rw [Array.getElem?_setIfInBounds]
 split
 ·rename_i e; subst e
  split
  ·exact h.symm
  ·rename_i hn
   rw [Array.getElem?_eq_none (by omega)] at h
   cases h
 ·rfl
theorem getD_some {l : List T} {t : Nat} {u : T} (h : l.getD t .und = u) (hu : u ≠ .und) : l[t]? = some u := by
 rw [List.getD_eq_getElem?_getD] at h
 cases hx : l[t]? with
 | none => rw [hx] at h; exact absurd h.symm hu
 | some v => rw [hx] at h; exact congrArg some h
theorem St.know {t : Tmp} {b : Bool} (hs : St Γ M s a w) (h : s.fr.getD t .und = .v (.bool b)) : St Γ M (s.put (some t) (.v (.bool b))) a w ∧ a.tmps[t]? = some (.bool b) := by
 obtain ⟨y, h1, h2⟩ := hs.fr.get (getD_some h (by simp))
 simp only [Rel] at h2
 subst h2
 rw [Array.getElem?_toList] at h1
 have h3 := hs.put (some t) (t := .v (.bool b)) (v := .bool b) (by simp only [Rel])
 have h4 : a.put (some t) (.bool b) = a := by
  unfold Act.put
  simp only [set_self h1]
 rw [h4] at h3
 exact ⟨h3, h1⟩
theorem exg_sound {ops : List Oper} (H : exg P ops o h s K) (hs : St Γ M s a w) : if Region.wanted o (yielded ops.toArray a.tmps) then o.wp P a w (Post Γ K) Q else Post Γ K (a.put o.dst undef) w := by
 unfold exg at H
 split at H
 ·rename_i hg
  have : Region.wanted o (yielded ops.toArray a.tmps) = true := by simp [Region.wanted, hg]
  rw [if_pos this]
  exact ex_sound H hs
 ·rename_i g want hg
  split at H
  rotate_left
  ·exact H.elim
  rename_i t hd
  have hdn : ((ops.toArray[g]?).bind (·.dst)) = some t := by simpa using hd
  split at H
  ·rename_i b hb
   obtain ⟨h1, h2⟩ := hs.know hb
   have hy : yielded ops.toArray a.tmps g = some b := by
    unfold yielded
    rw [hdn]
    simp [h2]
   have hw : Region.wanted o (yielded ops.toArray a.tmps) = (b == want) := by
    unfold Region.wanted
    rw [hg]
    simp only [hy]
    cases b <;> cases want <;> rfl
   rw [hw]
   have skip : ∀ {c : Bool}, b = c → K ((s.put (some t) (.v (.bool c))).put o.dst (.v undef)) → Post Γ K (a.put o.dst undef) w := fun {c} e hk => ⟨_, M, hk, (e ▸ h1).put o.dst (by simp only [Rel])⟩
   cases b <;> cases want <;> simp only [bsplit, if_true, if_false, Bool.false_eq_true] at H <;> simp only [beq_self_eq_true, if_true, Bool.false_eq_true, if_false, show (false == true) = false from rfl, show (true == false) = false from rfl]
   ·exact ex_sound H h1
   ·exact skip rfl H
   ·exact skip rfl H
   ·exact ex_sound H h1
  ·rename_i vs hb
   obtain ⟨y, h1, h2⟩ := hs.fr.get (getD_some hb (by simp))
   simp only [Rel] at h2
   subst h2
   rw [Array.getElem?_toList] at h1
   have hy : yielded ops.toArray a.tmps g = none := by
    unfold yielded
    rw [hdn]
    simp [h1]
   have hw : Region.wanted o (yielded ops.toArray a.tmps) = false := by
    unfold Region.wanted
    rw [hg]
    simp only [hy]
    cases want <;> rfl
   rw [hw]
   exact ⟨_, M, H, hs.put o.dst (by simp only [Rel])⟩
  ·exact H.elim
theorem exL_sound {ops : List Oper} {H : Nat → Hint} (hQ : ∀ a w, Post Γ K a w → Q .normal a w) : ∀ (os : List Oper) (i : Nat) (s : S) (M : Pm) (a : Act) (w : World), exL P ops H i os s K → St Γ M s a w → wpList P ops.toArray Q os a w
 | [], i, s, M, a, w, hk, hs => hQ a w ⟨s, M, hk, hs⟩
 | o :: os, i, s, M, a, w, hk, hs => by
  have h1 := exg_sound (Q := Q) hk hs
  unfold wpList
  split
  ·rename_i hw
   rw [if_pos hw] at h1
   exact .inl (Oper.wp_mono (fun a' w' ⟨s', M', hk', hs'⟩ => exL_sound hQ os _ s' M' a' w' hk' hs') h1)
  ·rename_i hw
   rw [if_neg hw] at h1
   obtain ⟨s', M', hk', hs'⟩ := h1
   exact exL_sound hQ os _ s' M' _ _ hk' hs'
def Held (M1 : Pm) (w1 : World) (B : Nat → Prop) (w : World) : Prop := (∀ b, B b → w.heap[b]? = w1.heap[b]?) ∧ ∀ b o v, M1 b o = some v → w.cell? ⟨b, o, none⟩ = some v
def blks (N : List Nat) (ob : Obs) (b : Nat) : Prop := ∃ (i : Nat) (x : Nat × Ob), i ∈ N ∧ ob[i]? = some x ∧ obBlk x = some b
theorem hide_get {N : List Nat} {ob : Obs} {i : Nat} {x : Nat × Ob} (h : (hide N ob)[i]? = some x) : (i ∈ N ∧ x = (0, .gone) ∧ i < ob.length) ∨ (i ∉ N ∧ ob[i]? = some x) := by
 unfold hide at h
 rw [List.getElem?_map, Option.map_eq_some_iff] at h
 obtain ⟨⟨y, q⟩, hy, h⟩ := h
 rw [List.getElem?_zipIdx, Option.map_eq_some_iff] at hy
 obtain ⟨u, hu, e⟩ := hy
 injection e with e1 e2
 subst e1
 have : q = i := by omega
 subst this
 simp only at h
 split at h
 ·rename_i hc
  exact .inl ⟨by simpa using hc, h.symm, (List.getElem?_eq_some_iff.1 hu).1⟩
 ·rename_i hc
  exact .inr ⟨by simpa using hc, by rw [hu, h]⟩
theorem back_get {N : List Nat} {ob ob' : Obs} {i : Nat} {x : Nat × Ob} (h : (back N ob ob')[i]? = some x) : (i ∈ N ∧ ob[i]? = some x) ∨ ob'[i]? = some x ∨ x = (0, .gone) := by
 unfold back at h
 rw [List.getElem?_append] at h
 split at h
 ·rw [List.getElem?_map, Option.map_eq_some_iff] at h
  obtain ⟨⟨y, q⟩, hy, h⟩ := h
  rw [List.getElem?_zipIdx, Option.map_eq_some_iff] at hy
  obtain ⟨u, hu, e⟩ := hy
  injection e with e1 e2
  subst e1
  have : q = i := by omega
  subst this
  simp only at h
  split at h
  ·rename_i hc
   exact .inl ⟨by simpa using hc, by rw [hu, h]⟩
  ·rw [List.getD_eq_getElem?_getD] at h
   cases ho : ob'[q]? with
   | some z => rw [ho] at h; exact .inr (.inl (congrArg some h))
   | none => rw [ho] at h; exact .inr (.inr h.symm)
 ·rename_i hlt
  simp only [List.length_map, List.length_zipIdx] at h hlt
  rw [List.getElem?_drop] at h
  exact .inr (.inl (by rwa [show ob.length + (i - ob.length) = i from by omega] at h))
theorem back_at {N : List Nat} {ob ob' : Obs} {i : Nat} (hi : i ∈ N) (hlt : i < ob.length) : (back N ob ob')[i]? = ob[i]? := by
 unfold back
 rw [List.getElem?_append_left (by simpa using hlt), List.getElem?_map, List.getElem?_zipIdx]
 simp [hi, hlt]
theorem back_len {N : List Nat} {ob ob' : Obs} : ob.length ≤ (back N ob ob').length := by
 unfold back
 simp
theorem hideSt (hs : St Γ M s a w) (N : List Nat) : St ⟨w, Dom (hide N s.ob) s.gl, M⟩ M { s with ob := hide N s.ob } a w := by
 refine ⟨hs.df, hs.fr, ⟨hs.hp.promise, fun i x hx => ?_, fun i j x y b h1 h2 h3 h4 => ?_, hs.hp.glob, fun i x b h1 h2 => ?_⟩, ⟨Pm.le_refl _, fun b o v hv => .inl hv, Fr.refl _ _, fun b hb => .inl hb⟩⟩
 ·rcases hide_get hx with ⟨_, rfl, _⟩ | ⟨_, h1⟩
  ·trivial
  ·exact hs.hp.objs i x h1
 ·rcases hide_get h1 with ⟨_, rfl, _⟩ | ⟨_, g1⟩
  ·cases h3
  rcases hide_get h2 with ⟨_, rfl, _⟩ | ⟨_, g2⟩
  ·cases h4
  exact hs.hp.apart i j x y b g1 g2 h3 h4
 ·rcases hide_get h1 with ⟨_, rfl, _⟩ | ⟨_, g1⟩
  ·cases h2
  ·exact hs.hp.sep i x b g1 h2
theorem backSt {N : List Nat} {s' : S} {M' : Pm} {a' : Act} {w' : World} (hs : St Γ M s a w) (h2 : St ⟨w, Dom (hide N s.ob) s.gl, M⟩ M' s' a' w') :
  St Γ M' { s' with ob := back N s.ob s'.ob } a' w' ∧ (∀ b, blks N s.ob b → w'.heap[b]? = w.heap[b]?) ∧ M.le M' := by
 have hd : ∀ b, Dom (hide N s.ob) s.gl b → Dom s.ob s.gl b := fun b hb => by
  rcases hb with ⟨i, x, g1, g2⟩ | g1
  ·rcases hide_get g1 with ⟨_, rfl, _⟩ | ⟨_, g3⟩
   ·cases g2
   ·exact .inl ⟨i, x, g3, g2⟩
  ·exact .inr g1
 have far : ∀ {i : Nat} {x : Nat × Ob} {b : Nat}, i ∈ N → s.ob[i]? = some x → obBlk x = some b → ¬ Dom (hide N s.ob) s.gl b := fun {i x b} hi g1 g2 hb => by
  rcases hb with ⟨j, y, g3, g4⟩ | g3
  ·rcases hide_get g3 with ⟨_, rfl, _⟩ | ⟨hj, g5⟩
   ·cases g4
   ·have := hs.hp.apart i j x y b g1 g5 g2 g4
    subst this
    exact hj hi
  ·rw [hs.hp.sep i x b g1 g2] at g3; cases g3
 have hgr : M.le M' := h2.gr.more
 have keepB : ∀ b, b < w.heap.size → ¬ Dom (hide N s.ob) s.gl b → w'.heap[b]? = w.heap[b]? := fun b hb hn => h2.gr.fr.block b hb hn
 have keepM : ∀ b, b < w.heap.size → ¬ Dom (hide N s.ob) s.gl b → ∀ q, M' b q = M b q := fun b hb hn q => by
  cases hm : M b q with
  | some u => exact hgr b q u hm
  | none =>
   cases hm' : M' b q with
   | none => rfl
   | some u =>
    rcases h2.gr.only b q u hm' with h1 | h1 | h1
    ·simp only at h1; rw [hm] at h1; cases h1
    ·exact absurd h1 hn
    ·simp only at h1; omega
 have keep : ∀ {i : Nat} {x : Nat × Ob}, i ∈ N → s.ob[i]? = some x → ObRel M' w' x := fun {i x} hi g1 => by
  have g2 := hs.hp.objs i x g1
  exact g2.keep (fun b hb => keepB b (g2.lt hb) (far hi g1 hb)) (fun b hb => keepM b (g2.lt hb) (far hi g1 hb)) hgr
 have cross : ∀ {i j : Nat} {x y : Nat × Ob} {b : Nat}, i ∈ N → s.ob[i]? = some x → s'.ob[j]? = some y → obBlk x = some b → obBlk y = some b → False := fun {i j x y b} hi g1 g2 g3 g4 => by
  rcases h2.gr.own b (.inl ⟨j, y, g2, g4⟩) with g5 | g5
  ·exact far hi g1 g3 g5
  ·have := (hs.hp.objs i x g1).lt g3; simp only at g5; omega
 refine ⟨⟨h2.df, h2.fr, ⟨h2.hp.promise, fun i x hx => ?_, fun i j x y b h3 h4 h5 h6 => ?_, h2.hp.glob, fun i x b h3 h4 => ?_⟩, ⟨Pm.le_trans hs.gr.more hgr, fun b q u hu => ?_, ?_, fun b hb => ?_⟩⟩, fun b hb => ?_, hgr⟩
 ·rcases back_get hx with ⟨hi, g1⟩ | g1 | rfl
  ·exact keep hi g1
  ·exact h2.hp.objs i x g1
  ·trivial
 ·rcases back_get h3 with ⟨hi, g1⟩ | g1 | rfl
  ·rcases back_get h4 with ⟨hj, k1⟩ | k1 | rfl
   ·exact hs.hp.apart i j x y b g1 k1 h5 h6
   ·exact (cross hi g1 k1 h5 h6).elim
   ·cases h6
  ·rcases back_get h4 with ⟨hj, k1⟩ | k1 | rfl
   ·exact (cross hj k1 g1 h6 h5).elim
   ·exact h2.hp.apart i j x y b g1 k1 h5 h6
   ·cases h6
  ·cases h5
 ·rcases back_get h3 with ⟨hi, g1⟩ | g1 | rfl
  rotate_right
  ·cases h4
  ·show s'.gl b = none
   cases hb : s'.gl b with
   | none => rfl
   | some y =>
    rcases h2.gr.own b (.inr (by rw [hb]; rfl)) with g2 | g2
    ·exact absurd g2 (far hi g1 h4)
    ·have := (hs.hp.objs i x g1).lt h4; simp only at g2; omega
  ·exact h2.hp.sep i x b g1 h4
 ·rcases h2.gr.only b q u hu with h1 | h1 | h1
  ·exact hs.gr.only b q u h1
  ·exact .inr (hs.gr.own b (hd b h1))
  ·exact .inr (.inr (Nat.le_trans hs.gr.fr.size h1))
 ·exact hs.gr.fr.back h2.gr.fr fun b hb hdd => (hs.gr.own b (hd b hdd)).resolve_right (by omega)
 ·rcases hb with ⟨i, x, g1, g2⟩ | g1
  ·rcases back_get g1 with ⟨hi, g3⟩ | g3 | rfl
   rotate_right
   ·cases g2
   ·exact hs.gr.own b (.inl ⟨i, x, g3, g2⟩)
   ·rcases h2.gr.own b (.inl ⟨i, x, g3, g2⟩) with g4 | g4
    ·exact hs.gr.own b (hd b g4)
    ·exact .inr (Nat.le_trans hs.gr.fr.size g4)
  ·rcases h2.gr.own b (.inr g1) with g4 | g4
   ·exact hs.gr.own b (hd b g4)
   ·exact .inr (Nat.le_trans hs.gr.fr.size g4)
 ·obtain ⟨i, x, hi, g1, g2⟩ := hb
  exact keepB b ((hs.hp.objs i x g1).lt g2) (far hi g1 g2)
end
section
variable {P : Program} {Γ : Ctx} {Q : Exit → Act → World → Prop} {ops : List Oper} {H : Nat → Hint} {N lax : List Nat} {M1 : Pm} {w1 : World} {ob1 : Obs}
theorem exq_sound {M : Pm} {s : S} {a : Act} {w : World} {o : Oper} {h : Hint} {k : T → Prop} {held fst : Bool} (hk : exq P N held fst o h s k) (hs : St Γ M s a w) (hcl : held = true → Held M1 w1 (blks N ob1) w) (hN : held = true → ∀ i ∈ N, s.ob[i]? = ob1[i]?) (hf : fst = true → M = M1) :
  ∃ v t, k t ∧ Rel M t v ∧ ∀ w', Reg.cls (Held M1 w1 (blks N ob1)) held w' → o.quietAt P a (Reg.cls (Held M1 w1 (blks N ob1)) held) w' v := by
 unfold exq at hk
 split at hk
 ·rename_i t x ho
  split at hk
  rotate_left
  ·exact hk.elim
  rename_i hh
  subst hh
  have hc := hcl rfl
  have go : ∀ {b off : Nat} {cs : List T}, a.eval x = .pointer (some ⟨b, off, none⟩) → (∃ us, RelL M cs us ∧ ∀ w', Held M1 w1 (blks N ob1) w' → ∀ j u, us[j]? = some u → w'.cell? ⟨b, off + j, none⟩ = some u) → claim h (loadT P t cs) k →
    ∃ v t, k t ∧ Rel M t v ∧ ∀ w', Held M1 w1 (blks N ob1) w' → o.quietAt P a (Held M1 w1 (blks N ob1)) w' v := fun {b off cs} hx ⟨us, r, hus⟩ hcm => by
   obtain ⟨u, hu, hk⟩ := claim_some hcm
   have cellsOf : ∀ w', Held M1 w1 (blks N ob1) w' → ∀ (i : Nat) (t : T), cs[i]? = some t → ∃ u, w'.cell? ⟨b, off + i, none⟩ = some u ∧ Rel M t u := fun w' hw' i t ht => by
    obtain ⟨y, h1, h2⟩ := r.get ht
    exact ⟨y, hus w' hw' i y h1, h2⟩
   unfold loadT at hu
   split at hu
   ·rename_i n ha
    split at hu
    ·cases hu
    ·rename_i hlt
     injection hu with hu
     subst hu
     have hl : (us.take n).length = n := by rw [List.length_take, r.len]; omega
     refine ⟨.agg (us.take n).toArray, _, hk, by simp only [Rel]; exact ⟨_, rfl, r.take n⟩, fun w' hw' => ?_⟩
     have hrun : (loadCells ⟨b, off, none⟩ n).run P w' = .ok (us.take n).toArray w' := by
      have := run_loadCells_list (P := P) w' ⟨b, off, none⟩ (us.take n) fun j v hv => by
       rw [Addr.add_mid]
       refine hus w' hw' j v ?_
       rw [List.getElem?_take] at hv
       split at hv
       ·exact hv
       ·cases hv
      rwa [hl] at this
     have hsz := (run_isAgg ha w').2 n rfl
     unfold Oper.quietAt execOp
     rw [ho]
     simp [hx, Instr.loadAt, Instr.sureAddr, loadVar, (run_isAgg ha w').1, run_sizeOf hsz, hrun, Oper.quietUpon]
   ·rename_i ha
    obtain ⟨v, h1, h2⟩ := r.get hu
    refine ⟨v, u, hk, h2, fun w' hw' => ?_⟩
    have h3 := hus w' hw' 0 v h1
    rw [Nat.add_zero] at h3
    unfold Oper.quietAt execOp
    rw [ho]
    simp [hx, Instr.loadAt, Instr.sureAddr, loadVar, (run_isAgg ha w').1, load, Sem.run, h3, Oper.quietUpon]
   ·cases hu
  have hr := eval_rel hs.fr x
  split at hk
  ·rename_i i b off hx
   rw [hx] at hr
   simp only [Rel] at hr
   split at hk
   rotate_left
   ·exact hk.elim
   rename_i hi
   have hi : i ∈ N := by simpa using hi
   unfold vLoad cellsAt at hk
   rw [hx] at hk
   simp only at hk
   split at hk
   ·rename_i b' cs hob
    obtain ⟨rfl, hk⟩ := hk
    obtain ⟨C, ty, g1, g2, -⟩ := hs.hp.objs _ _ hob
    refine go hr ⟨C.toList.drop off, g2.drop off, fun w' hw' j u hu => ?_⟩ hk
    have hb : blks N ob1 b' := ⟨i, _, hi, by rw [← hN rfl i hi]; exact hob, rfl⟩
    have : Hc w' b' C ty := g1.keep ((hw'.1 b' hb).trans (hc.1 b' hb).symm)
    rw [this.cell]
    rw [List.getElem?_drop] at hu
    simpa using hu
   ·exact hk.elim
  ·rename_i cs hx
   rw [hx] at hr
   simp only [Rel] at hr
   obtain ⟨b, off, e, hr⟩ := hr
   split at hk
   rotate_left
   ·exact hk.elim
   rename_i hff
   have hM := hf hff
   unfold vLoad cellsAt at hk
   rw [hx] at hk
   obtain ⟨us, h1, h2⟩ := relA_list hr
   exact go e ⟨us, h1, fun w' hw' j u hu => hw'.2 _ _ _ (by rw [← hM]; exact h2 j u hu)⟩ hk
  ·exact hk.elim
 ·rename_i t x ix ok ho
  split at hk
  rotate_left
  ·exact hk.elim
  rename_i hh
  subst hh
  have hc := hcl rfl
  split at hk
  rotate_left
  ·exact hk.elim
  rename_i i b hx
  split at hk
  rotate_left
  ·exact hk.elim
  rename_i hi
  have hi : i ∈ N := by simpa using hi
  unfold vLookup at hk
  rw [hx] at hk
  simp only at hk
  have hr := eval_rel hs.fr x
  rw [hx] at hr
  simp only [Rel] at hr
  split at hk
  rotate_left
  ·exact hk.elim
  rename_i b' kd f es ck kd' e kd'' z hob hmo hiz
  split at hk
  rotate_left
  ·exact hk.elim
  rename_i zt hz
  split at hk
  rotate_left
  ·exact hk.elim
  rename_i hcc
  obtain ⟨hbb, hk⟩ := hk
  have hix := intT_rel hiz (eval_rel hs.fr ix)
  rw [hcc.2] at hix
  obtain ⟨v, u, h1, h2, h3⟩ := lookup_found ho hr hix hob hmo hcc.1 hbb hz hs hk
  have hb : blks N ob1 b' := ⟨i, _, hi, by rw [← hN rfl i hi]; exact hob, rfl⟩
  refine ⟨v, u, h1, h2, fun w' hw' => ?_⟩
  have hw'' : Held M1 w1 (blks N ob1) w' := hw'
  unfold Oper.quietAt
  rw [h3 w' ((hw''.1 b' hb).trans (hc.1 b' hb).symm)]
  exact ⟨rfl, rfl⟩
 ·obtain ⟨v, t, h1, h2, h3⟩ := pv_sound hk hs.fr
  exact ⟨v, t, h1, h2, fun w' _ => by unfold Oper.quietAt; rw [h3 w']; exact ⟨rfl, rfl⟩⟩
theorem exqg_sound {M : Pm} {s : S} {a : Act} {w : World} {o : Oper} {h : Hint} {K : S → Prop} {held fst : Bool} (hk : exqg P ops N held fst o h s K) (hs : St Γ M s a w) (hcl : held = true → Held M1 w1 (blks N ob1) w) (hN : held = true → ∀ i ∈ N, s.ob[i]? = ob1[i]?) (hf : fst = true → M = M1) {R : Act → Prop}
  (hR : ∀ s' a', K s' → St Γ M s' a' w → s'.ob = s.ob → R a') :
  if Region.wanted o (yielded ops.toArray a.tmps) then o.quiet P a (Reg.cls (Held M1 w1 (blks N ob1)) held) R else R (a.put o.dst undef) := by
 unfold exqg at hk
 have use : ∀ {s' : S}, St Γ M s' a w → s'.ob = s.ob → exq P N held fst o h s' (fun t => K (s'.put o.dst t)) → o.quiet P a (Reg.cls (Held M1 w1 (blks N ob1)) held) R := fun {s'} hs' e hq => by
  obtain ⟨v, t, h1, h2, h3⟩ := exq_sound hq hs' hcl (by rw [e]; exact hN) hf
  exact ⟨v, h3, hR _ _ h1 (hs'.put o.dst h2) (by rw [put_ob, e])⟩
 have skip : ∀ {s' : S}, St Γ M s' a w → s'.ob = s.ob → K (s'.put o.dst (.v undef)) → R (a.put o.dst undef) := fun {s'} hs' e hq => hR _ _ hq (hs'.put o.dst (by simp only [Rel])) (by rw [put_ob, e])
 split at hk
 ·rename_i hg
  have : Region.wanted o (yielded ops.toArray a.tmps) = true := by simp [Region.wanted, hg]
  rw [if_pos this]
  exact use hs rfl hk
 ·rename_i g want hg
  split at hk
  rotate_left
  ·exact hk.elim
  rename_i t hd
  have hdn : ((ops.toArray[g]?).bind (·.dst)) = some t := by simpa using hd
  split at hk
  ·rename_i b hb
   obtain ⟨h1, h2⟩ := hs.know hb
   have hy : yielded ops.toArray a.tmps g = some b := by
    unfold yielded
    rw [hdn]
    simp [h2]
   have hw : Region.wanted o (yielded ops.toArray a.tmps) = (b == want) := by
    unfold Region.wanted
    rw [hg]
    simp only [hy]
    cases b <;> cases want <;> rfl
   rw [hw]
   cases b <;> cases want <;> simp only [bsplit, if_true, if_false, Bool.false_eq_true] at hk <;> simp only [beq_self_eq_true, if_true, Bool.false_eq_true, if_false, show (false == true) = false from rfl, show (true == false) = false from rfl]
   ·exact use h1 (put_ob _ _ _) hk
   ·exact skip h1 (put_ob _ _ _) hk
   ·exact skip h1 (put_ob _ _ _) hk
   ·exact use h1 (put_ob _ _ _) hk
  ·rename_i vs hb
   obtain ⟨y, h1, h2⟩ := hs.fr.get (getD_some hb (by simp))
   simp only [Rel] at h2
   subst h2
   rw [Array.getElem?_toList] at h1
   have hy : yielded ops.toArray a.tmps g = none := by
    unfold yielded
    rw [hdn]
    simp [h1]
   have hw : Region.wanted o (yielded ops.toArray a.tmps) = false := by
    unfold Region.wanted
    rw [hg]
    simp only [hy]
    cases want <;> rfl
   rw [hw]
   exact skip hs rfl hk
  ·exact hk.elim
theorem exQ_sound {held fst : Bool} {w : World} {K : S → Prop} {M : Pm} (hcl : held = true → Held M1 w1 (blks N ob1) w) (hf : fst = true → M = M1) {R : Act → Prop} :
  ∀ (is : List Nat) (s : S) (a : Act), (held = true → ∀ i ∈ N, s.ob[i]? = ob1[i]?) → (∀ s' a', K s' → St Γ M s' a' w → s'.ob = s.ob → R a') → exQ P ops H N held fst is s K → St Γ M s a w → wpQuiet P ops.toArray (Reg.cls (Held M1 w1 (blks N ob1)) held) R (Reg.pick ops is) a
 | [], s, a, _, hR, hk, hs => hR s a hk hs rfl
 | i :: is, s, a, hN, hR, hk, hs => by
  unfold exQ at hk
  split at hk
  rotate_left
  ·exact hk.elim
  rename_i o ho
  have := exqg_sound (M1 := M1) (w1 := w1) (ob1 := ob1) hk hs hcl hN hf (R := wpQuiet P ops.toArray (Reg.cls (Held M1 w1 (blks N ob1)) held) R (Reg.pick ops is)) fun s' a' hk' hs' e =>
   exQ_sound hcl hf is s' a' (by rw [e]; exact hN) (fun s'' a'' h1 h2 h3 => hR s'' a'' h1 h2 (h3.trans e)) hk' hs'
  unfold Reg.pick
  rw [ho]
  simp only [Option.toList_some, List.cons_append, List.nil_append]
  unfold wpQuiet
  exact this
theorem exN_sound {M : Pm} {s : S} {a : Act} {w : World} {o : Oper} {h : Hint} {K : S → Prop} {b : Bool} {X : Act → World → Prop} (hk : exN P ops N b o h s K) (hs : St Γ M s a w) (hcl : b = true → Held M1 w1 (blks N ob1) w) (hN : b = true → ∀ i ∈ N, s.ob[i]? = ob1[i]?) (hin : b = true → ∀ i ∈ N, i < s.ob.length) (hM : b = true → M1.le M)
  (hX : ∀ s' M' a' w', K s' → St Γ M' s' a' w' → (b = true → M1.le M' ∧ Held M1 w1 (blks N ob1) w' ∧ (∀ i ∈ N, s'.ob[i]? = ob1[i]?) ∧ ∀ i ∈ N, i < s'.ob.length) → X a' w') :
  if Region.wanted o (yielded ops.toArray a.tmps) then o.wp P a w X Q else X (a.put o.dst undef) w := by
 cases b with
 | false =>
  have h1 := exg_sound (Q := Q) hk hs
  split
  ·rename_i hw
   rw [if_pos hw] at h1
   exact Oper.wp_mono (fun a' w' ⟨s', M', h2, h3⟩ => hX s' M' a' w' h2 h3 (fun e => by cases e)) h1
  ·rename_i hw
   rw [if_neg hw] at h1
   obtain ⟨s', M', h2, h3⟩ := h1
   exact hX s' M' _ w h2 h3 (fun e => by cases e)
 | true =>
  unfold exN at hk
  rw [if_pos rfl] at hk
  have key : ∀ {a' : Act} {w' : World}, Post ⟨w, Dom (hide N s.ob) s.gl, M⟩ (fun s' => K { s' with ob := Vm.back N s.ob s'.ob }) a' w' → X a' w' := fun {a' w'} ⟨s', M', h2, h3⟩ => by
   obtain ⟨g1, g2, g3⟩ := backSt hs h3
   refine hX _ M' a' w' h2 g1 fun _ => ⟨Pm.le_trans (hM rfl) g3, ⟨fun c hc => ?_, fun c q u hu => (h3.hp.promise c q u (g3 c q u (hM rfl c q u hu))).1⟩, fun i hi => ?_, fun i hi => Nat.lt_of_lt_of_le (hin rfl i hi) back_len⟩
   ·refine (g2 c ?_).trans ((hcl rfl).1 c hc)
    obtain ⟨i, x, k1, k2, k3⟩ := hc
    exact ⟨i, x, k1, by rw [hN rfl i k1]; exact k2, k3⟩
   ·rw [← hN rfl i hi]
    exact back_at hi (hin rfl i hi)
  have h1 := exg_sound (Q := Q) hk (hideSt hs N)
  split
  ·rename_i hw
   rw [if_pos hw] at h1
   exact Oper.wp_mono (fun a' w' h2 => key h2) h1
  ·rename_i hw
   rw [if_neg hw] at h1
   exact key h1
theorem runPlan_sound {K : S → Prop} (hQ : ∀ a w, Post Γ K a w → Q .normal a w) : ∀ (p : Reg.Plan) (b f : Bool) (s : S) (M : Pm) (a : Act) (w : World), runPlan P ops H N lax p b f s K → St Γ M s a w → (b = true → M1.le M ∧ Held M1 w1 (blks N ob1) w ∧ (∀ i ∈ N, s.ob[i]? = ob1[i]?) ∧ ∀ i ∈ N, i < s.ob.length) → (f = true → M = M1) →
  (p.ok .any ops.toArray (Reg.isIn lax) · b) = (p.ok .any ops.toArray (Reg.isIn lax) · b) → (∀ l, p.ok .any ops.toArray (Reg.isIn lax) l b = true → Reg.wpPlan P ops (Reg.isIn lax) (Held M1 w1 (blks N ob1)) Q p b a w)
 | .done, b, f, s, M, a, w, hk, hs, _, _, _ => fun l hl => hQ a w ⟨s, M, hk, hs⟩
 | .take held is p, b, f, s, M, a, w, hk, hs, hb, hf, _ => fun l hl => by
  simp only [Reg.Plan.ok, Bool.and_eq_true] at hl
  have hh : held = true → b = true := fun e => by have := hl.1.1; rw [e] at this; simpa using this
  unfold runPlan at hk
  unfold Reg.wpPlan
  exact exQ_sound (M1 := M1) (w1 := w1) (ob1 := ob1) (K := fun s' => runPlan P ops H N lax p b f s' K) (fun e => (hb (hh e)).2.1) hf is s a (fun e => (hb (hh e)).2.2.1) (fun s' a' h1 h2 h3 =>
   runPlan_sound hQ p b f s' M a' w h1 h2 (by rw [h3]; exact hb) hf rfl _ hl.2) hk hs
 | .one n p, b, f, s, M, a, w, hk, hs, hb, hf, _ => fun l hl => by
  simp only [Reg.Plan.ok, Bool.and_eq_true] at hl
  unfold runPlan at hk
  split at hk
  rotate_left
  ·exact hk.elim
  rename_i o ho
  unfold Reg.wpPlan
  exact planOne ho hk hs hb (fun s' M' a' w' g1 g2 g3 => runPlan_sound hQ p _ false s' M' a' w' g1 g2 g3 (fun e => by cases e) rfl _ hl.2)
 | .two n m p q, b, f, s, M, a, w, hk, hs, hb, hf, _ => fun l hl => by
  simp only [Reg.Plan.ok, Bool.and_eq_true] at hl
  unfold runPlan at hk
  split at hk
  rotate_left
  ·exact hk.elim
  rename_i o o' ho ho'
  unfold Reg.wpPlan
  exact ⟨planOne ho hk.1 hs hb (fun s' M' a' w' g1 g2 g3 => runPlan_sound hQ p _ false s' M' a' w' g1 g2 g3 (fun e => by cases e) rfl _ hl.1.2),
   planOne ho' hk.2 hs hb (fun s' M' a' w' g1 g2 g3 => runPlan_sound hQ q _ false s' M' a' w' g1 g2 g3 (fun e => by cases e) rfl _ hl.2)⟩
 | .three n m l' p q r, b, f, s, M, a, w, hk, hs, hb, hf, _ => fun l hl => by
  simp only [Reg.Plan.ok, Bool.and_eq_true] at hl
  unfold runPlan at hk
  split at hk
  rotate_left
  ·exact hk.elim
  rename_i o o' o'' ho ho' ho''
  unfold Reg.wpPlan
  exact ⟨planOne ho hk.1 hs hb (fun s' M' a' w' g1 g2 g3 => runPlan_sound hQ p _ false s' M' a' w' g1 g2 g3 (fun e => by cases e) rfl _ hl.1.1.2),
   planOne ho' hk.2.1 hs hb (fun s' M' a' w' g1 g2 g3 => runPlan_sound hQ q _ false s' M' a' w' g1 g2 g3 (fun e => by cases e) rfl _ hl.1.2),
   planOne ho'' hk.2.2 hs hb (fun s' M' a' w' g1 g2 g3 => runPlan_sound hQ r _ false s' M' a' w' g1 g2 g3 (fun e => by cases e) rfl _ hl.2)⟩
where
 planOne {n : Nat} {o : Oper} {b : Bool} {s : S} {M : Pm} {a : Act} {w : World} {K : S → Prop} {X : Act → World → Prop} (ho : ops[n]? = some o) (hk : exN P ops N (b && !Reg.isIn lax n) o (H n) s K) (hs : St Γ M s a w) (hb : b = true → M1.le M ∧ Held M1 w1 (blks N ob1) w ∧ (∀ i ∈ N, s.ob[i]? = ob1[i]?) ∧ ∀ i ∈ N, i < s.ob.length)
   (hX : ∀ s' M' a' w', K s' → St Γ M' s' a' w' → ((b && !Reg.isIn lax n) = true → M1.le M' ∧ Held M1 w1 (blks N ob1) w' ∧ (∀ i ∈ N, s'.ob[i]? = ob1[i]?) ∧ ∀ i ∈ N, i < s'.ob.length) → X a' w') :
   wpList P ops.toArray (Exit.then (fun a' w' => Reg.behind (Held M1 w1 (blks N ob1)) (b && !Reg.isIn lax n) w' (X a' w')) Q) (ops[n]?).toList a w := by
  have hbb : (b && !Reg.isIn lax n) = true → b = true := fun e => by simp only [Bool.and_eq_true] at e; exact e.1
  have := exN_sound (Q := Exit.then (fun a' w' => Reg.behind (Held M1 w1 (blks N ob1)) (b && !Reg.isIn lax n) w' (X a' w')) Q) (X := fun a' w' => Reg.behind (Held M1 w1 (blks N ob1)) (b && !Reg.isIn lax n) w' (X a' w')) hk hs (fun e => (hb (hbb e)).2.1) (fun e => (hb (hbb e)).2.2.1) (fun e => (hb (hbb e)).2.2.2) (fun e => (hb (hbb e)).1)
   (fun s' M' a' w' g1 g2 g3 => ⟨fun e => (g3 e).2.1, hX s' M' a' w' g1 g2 g3⟩)
  rw [ho]
  simp only [Option.toList_some]
  unfold wpList
  split
  ·rename_i hw
   rw [if_pos hw] at this
   exact .inl this
  ·rename_i hw
   rw [if_neg hw] at this
   exact this
theorem region_sound {id : Nat} {pl : RPlan} {K : S → Prop} {s : S} {M : Pm} {a : Act} {w : World} (hok : planOk P ops pl = true) (hin : pl.N.all (fun i => decide (i < s.ob.length)) = true) (hQ : ∀ a w, Post Γ K a w → Q .normal a w)
  (hk : runPlan P ops H pl.N pl.lax pl.p true true s K) (hs : St Γ M s a w) : (Code.region id ops.toArray true).wp P Q a w := by
 unfold planOk at hok
 simp only [Bool.and_eq_true] at hok
 obtain ⟨⟨⟨h1, h2⟩, h3⟩, h4⟩ := hok
 rw [List.all_eq_true] at hin
 have hs' : St Γ M s a w.drew := ⟨hs.df, hs.fr, hs.hp.still fun _ _ => rfl, ⟨hs.gr.more, hs.gr.only, hs.gr.fr.drew, hs.gr.own⟩⟩
 have hheld : Held M w.drew (blks pl.N s.ob) w.drew := ⟨fun _ _ => rfl, fun b o v hv => (hs'.hp.promise b o v hv).1⟩
 exact Reg.region (Held M w.drew (blks pl.N s.ob)) pl.lax pl.p h1 h2 h3 h4 hheld
  (runPlan_sound (Q := NoPanic Q) (fun a w q => NoPanic.normal (hQ a w q)) pl.p true true s M a w.drew hk hs' (fun _ => ⟨Pm.le_refl _, hheld, fun _ _ => rfl, fun i hi => by simpa using hin i hi⟩) (fun _ => rfl) rfl _ h3)
theorem exr_sound {M : Pm} {s : S} {a : Act} {w : World} {o : Oper} {h : Hint} {k : T → Prop} (hk : exr P o h s k) (hs : St Γ M s a w) : ∃ v t, k t ∧ Rel M t v ∧ (execOp a.eval o).run P w = .ok (.value v) w := by
 unfold exr at hk
 split at hk
 ·rename_i t x ho
  unfold vLoad at hk
  obtain ⟨b, off, cs, hk, hx, hc⟩ := cellsAt_sound hk hs
  obtain ⟨u, hu, hk⟩ := claim_some hk
  obtain ⟨v, h1, h2⟩ := load_run hc hu
  refine ⟨v, u, hk, h1, ?_⟩
  unfold execOp
  rw [ho]
  refine run_value ?_
  rw [hx]
  exact h2
 ·rename_i t x ix ok ho
  split at hk
  rotate_left
  ·exact hk.elim
  rename_i i b hx
  unfold vLookup at hk
  rw [hx] at hk
  simp only at hk
  have hr := eval_rel hs.fr x
  rw [hx] at hr
  simp only [Rel] at hr
  split at hk
  rotate_left
  ·exact hk.elim
  rename_i b' kd f es ck kd' e kd'' z hob hmo hiz
  split at hk
  rotate_left
  ·exact hk.elim
  rename_i zt hz
  split at hk
  rotate_left
  ·exact hk.elim
  rename_i hcc
  obtain ⟨hbb, hk⟩ := hk
  have hix := intT_rel hiz (eval_rel hs.fr ix)
  rw [hcc.2] at hix
  obtain ⟨v, u, h1, h2, h3⟩ := lookup_found ho hr hix hob hmo hcc.1 hbb hz hs hk
  exact ⟨v, u, h1, h2, h3 w rfl⟩
 ·obtain ⟨v, t, h1, h2, h3⟩ := pv_sound hk hs.fr
  exact ⟨v, t, h1, h2, h3 w⟩
theorem exrg_sound {M : Pm} {s : S} {a : Act} {w : World} {o : Oper} {h : Hint} {K : S → Prop} (hk : exrg P ops o h s K) (hs : St Γ M s a w) {R : Act → Prop}
  (hR : ∀ s' a', K s' → St Γ M s' a' w → R a') :
  if Region.wanted o (yielded ops.toArray a.tmps) then o.quiet P a (Reg.cls (fun w' => w' = w) true) R else R (a.put o.dst undef) := by
 unfold exrg at hk
 have use : ∀ {s' : S}, St Γ M s' a w → exr P o h s' (fun t => K (s'.put o.dst t)) → o.quiet P a (Reg.cls (fun w' => w' = w) true) R := fun {s'} hs' hq => by
  obtain ⟨v, t, h1, h2, h3⟩ := exr_sound hq hs'
  exact ⟨v, fun w' hw' => by
   have e : w' = w := hw'
   subst e
   unfold Oper.quietAt
   rw [h3]
   exact ⟨rfl, rfl⟩, hR _ _ h1 (hs'.put o.dst h2)⟩
 have skip : ∀ {s' : S}, St Γ M s' a w → K (s'.put o.dst (.v undef)) → R (a.put o.dst undef) := fun {s'} hs' hq => hR _ _ hq (hs'.put o.dst (by simp only [Rel]))
 split at hk
 ·rename_i hg
  have : Region.wanted o (yielded ops.toArray a.tmps) = true := by simp [Region.wanted, hg]
  rw [if_pos this]
  exact use hs hk
 ·rename_i g want hg
  split at hk
  rotate_left
  ·exact hk.elim
  rename_i t hd
  have hdn : ((ops.toArray[g]?).bind (·.dst)) = some t := by simpa using hd
  split at hk
  ·rename_i b hb
   obtain ⟨h1, h2⟩ := hs.know hb
   have hy : yielded ops.toArray a.tmps g = some b := by
    unfold yielded
    rw [hdn]
    simp [h2]
   have hw : Region.wanted o (yielded ops.toArray a.tmps) = (b == want) := by
    unfold Region.wanted
    rw [hg]
    simp only [hy]
    cases b <;> cases want <;> rfl
   rw [hw]
   cases b <;> cases want <;> simp only [bsplit, if_true, if_false, Bool.false_eq_true] at hk <;> simp only [beq_self_eq_true, if_true, Bool.false_eq_true, if_false, show (false == true) = false from rfl, show (true == false) = false from rfl]
   ·exact use h1 hk
   ·exact skip h1 hk
   ·exact skip h1 hk
   ·exact use h1 hk
  ·rename_i vs hb
   obtain ⟨y, h1, h2⟩ := hs.fr.get (getD_some hb (by simp))
   simp only [Rel] at h2
   subst h2
   rw [Array.getElem?_toList] at h1
   have hy : yielded ops.toArray a.tmps g = none := by
    unfold yielded
    rw [hdn]
    simp [h1]
   have hw : Region.wanted o (yielded ops.toArray a.tmps) = false := by
    unfold Region.wanted
    rw [hg]
    simp only [hy]
    cases want <;> rfl
   rw [hw]
   exact skip hs hk
  ·exact hk.elim
theorem exR_sound {w : World} {K : S → Prop} {M : Pm} {R : Act → Prop} :
  ∀ (is : List Nat) (s : S) (a : Act), (∀ s' a', K s' → St Γ M s' a' w → R a') → exR P ops H is s K → St Γ M s a w → wpQuiet P ops.toArray (Reg.cls (fun w' => w' = w) true) R (Reg.pick ops is) a
 | [], s, a, hR, hk, hs => hR s a hk hs
 | i :: is, s, a, hR, hk, hs => by
  unfold exR at hk
  split at hk
  rotate_left
  ·exact hk.elim
  rename_i o ho
  have := exrg_sound hk hs (R := wpQuiet P ops.toArray (Reg.cls (fun w' => w' = w) true) R (Reg.pick ops is)) fun s' a' hk' hs' =>
   exR_sound is s' a' hR hk' hs'
  unfold Reg.pick
  rw [ho]
  simp only [Option.toList_some, List.cons_append, List.nil_append]
  unfold wpQuiet
  exact this
theorem reads_sound {id : Nat} {is : List Nat} {K : S → Prop} {s : S} {M : Pm} {a : Act} {w : World} (hok : planOk P ops ⟨[], [], .take true is .done⟩ = true) (hQ : ∀ a w, Post Γ K a w → Q .normal a w)
  (hk : exR P ops H is s K) (hs : St Γ M s a w) : (Code.region id ops.toArray true).wp P Q a w := by
 unfold planOk at hok
 simp only [Bool.and_eq_true] at hok
 obtain ⟨⟨⟨h1, h2⟩, h3⟩, h4⟩ := hok
 have hs' : St Γ M s a w.drew := ⟨hs.df, hs.fr, hs.hp.still fun _ _ => rfl, ⟨hs.gr.more, hs.gr.only, hs.gr.fr.drew, hs.gr.own⟩⟩
 refine Reg.region (fun w' => w' = w.drew) [] (.take true is .done) h1 h2 h3 h4 rfl ?_
 unfold Reg.wpPlan
 exact exR_sound is s a (fun s' a' h1 h2 => NoPanic.normal (hQ a' w.drew ⟨s', M, h1, h2⟩)) hk hs'
end
section
variable {P : Program} {Γ : Ctx} {M : Pm} {s : S} {a : Act} {w : World} {o : Oper} {h : Hint} {K : S → Prop} {Q : Exit → Act → World → Prop}
def LW (P : Program) (c : Code) (Q : Exit → Act → World → Prop) (a : Act) (w : World) : Prop := ∀ X : Act → World → Prop, (∀ a w, c.wp P (Exit.then X Q) a w → X a w) → X a w
theorem LW.mk {c : Code} (h : c.wp P (Exit.then (LW P c Q) Q) a w) : LW P c Q a w := fun X hX => hX a w (wp_mono h fun e a w q => by cases e <;> first | exact q X hX | exact q)
theorem LW.wp {c : Code} (h : LW P c Q a w) : (Code.loop c).wp P Q a w := by
 intro b k cs
 have key := h (fun a w => ∀ b k cs, ∃ e a' w', Q e a' w' ∧ Arrives P (lone (b.at a (.code c :: .inLoop c :: k)) cs w) b k cs e a' w') (fun a w hX b k cs => by
  obtain ⟨e, a₁, w₁, hq, harr⟩ := hX b (.inLoop c :: k) cs
  cases e with
  | normal =>
   obtain ⟨e₂, a₂, w₂, hq₂, harr₂⟩ := hq b k cs
   exact ⟨e₂, a₂, w₂, hq₂, .of_steps (Steps.trans harr (.one step_inLoop)) harr₂⟩
  | exit id => exact ⟨_, a₁, w₁, hq, .pass (x := .inLoop c) rfl (fun _ _ => .inl (by simp)) harr⟩
  | goto l => exact ⟨_, a₁, w₁, hq, .pass (x := .inLoop c) rfl (fun _ _ => .inl (by simp)) harr⟩
  | ret => exact ⟨_, a₁, w₁, hq, .pass (x := .inLoop c) rfl (fun _ _ => .inl (by simp)) harr⟩
  | panic ch => exact ⟨_, a₁, w₁, hq, .pass (x := .inLoop c) rfl (fun _ _ => .inl (by simp)) harr⟩
  | outgrown => exact ⟨_, a₁, w₁, hq, .pass (x := .inLoop c) rfl (fun _ _ => .inl (by simp)) harr⟩)
 obtain ⟨e, a', w', hq, harr⟩ := key b k cs
 exact ⟨e, a', w', hq, .of_steps (.one step_loop) harr⟩
def cwp (P : Program) (c : Code) (Q : Exit → Act → World → Prop) (a : Act) (w : World) : Prop := match c with | .loop b => LW P b Q a w | c => c.wp P Q a w
theorem cwp_wp {c : Code} (h : cwp P c Q a w) : c.wp P Q a w := by
 cases c <;> first | exact h | exact LW.wp h
def PostE (Γ : Ctx) (K : Exit → S → Prop) (e : Exit) (a : Act) (w : World) : Prop := ∃ s M, K e s ∧ St Γ M s a w
def TW (P : Program) (Γ : Ctx) (c : Code) (s : S) (K : Exit → S → Prop) : Prop := ∀ M a w, St Γ M s a w → cwp P c (PostE Γ K) a w
def Kt (P : Program) (Γ : Ctx) (R : S → Prop) : List It → Exit → S → Prop
 | [], e, s => (match e with | .normal => R s | .ret => R s | _ => False)
 | .code c :: k, e, s => (match e with | .normal => TW P Γ c s (Kt P Γ R k) | e => Kt P Γ R k e s)
 | .blk id :: k, e, s => (match e with | .exit i => if i = id then Kt P Γ R k .normal s else Kt P Γ R k (.exit i) s | e => Kt P Γ R k e s)
def TWr (P : Program) (Γ : Ctx) (R : S → Prop) (k : List It) (s : S) : Prop := Kt P Γ R k .normal s
structure TWk (P : Program) (Γ : Ctx) (R : S → Prop) (k : List It) (s : S) : Prop where
 out : TWr P Γ R k s
theorem cwp_of {c : Code} (hn : ∀ b, c ≠ .loop b) (h : c.wp P Q a w) : cwp P c Q a w := by
 cases c <;> first | exact h | exact absurd rfl (hn _)
theorem postE_then {R : S → Prop} {c : Code} {k : List It} {e : Exit} (q : PostE Γ (Kt P Γ R (.code c :: k)) e a w) : Exit.then (fun a w => cwp P c (PostE Γ (Kt P Γ R k)) a w) (PostE Γ (Kt P Γ R k)) e a w := by
 obtain ⟨s, M, hk, hs⟩ := q
 cases e <;> first | exact hk M a w hs | exact ⟨s, M, hk, hs⟩
theorem postE_block {R : S → Prop} {id : Nat} {k : List It} {e : Exit} (q : PostE Γ (Kt P Γ R (.blk id :: k)) e a w) : Exit.inBlock id (PostE Γ (Kt P Γ R k)) e a w := by
 obtain ⟨s, M, hk, hs⟩ := q
 cases e <;> first | exact ⟨s, M, hk, hs⟩ | skip
 rename_i i
 simp only [Kt] at hk
 simp only [Exit.inBlock]
 split at hk
 ·rename_i e; rw [if_pos e]; exact ⟨s, M, hk, hs⟩
 ·rename_i e; rw [if_neg e]; exact ⟨s, M, hk, hs⟩
theorem unwind_sound {R : S → Prop} {id : Nat} : ∀ {k k' : List It}, unwind id k = some k' → Kt P Γ R k' .normal s → Kt P Γ R k (.exit id) s
 | [], k', h, _ => by simp [unwind] at h
 | .blk i :: k, k', h, hk => by
  simp only [unwind] at h
  simp only [Kt]
  split at h
  ·rename_i e
   injection h with h
   subst h
   rw [if_pos e.symm]
   exact hk
  ·rename_i e
   rw [if_neg (fun x => e x.symm)]
   exact unwind_sound h hk
 | .code c :: k, k', h, hk => by
  simp only [unwind] at h
  simp only [Kt]
  exact unwind_sound h hk
theorem ret_sound {R : S → Prop} (h : R s) : ∀ (k : List It), Kt P Γ R k .ret s
 | [] => h
 | .blk _ :: k => by simp only [Kt]; exact ret_sound h k
 | .code _ :: k => by simp only [Kt]; exact ret_sound h k
theorem St.trim (hs : St Γ M s a w) (live : List Nat) (n : Nat) : St Γ M (trim live n s) a w := by
 have get : ∀ {i : Nat} {x : Nat × Ob}, (s.ob.take n)[i]? = some x → s.ob[i]? = some x := fun {i x} hx => by
  rw [List.getElem?_take] at hx
  split at hx
  ·exact hx
  ·cases hx
 refine ⟨hs.df, ?_, ⟨hs.hp.promise, fun i x hx => hs.hp.objs i x (get hx), fun i j x y b h1 h2 => hs.hp.apart i j x y b (get h1) (get h2), hs.hp.glob, fun i x b h1 => hs.hp.sep i x b (get h1)⟩,
  ⟨hs.gr.more, hs.gr.only, hs.gr.fr, fun b hb => hs.gr.own b (by
   rcases hb with ⟨i, x, h1, h2⟩ | h1
   ·exact .inl ⟨i, x, get h1, h2⟩
   ·exact .inr h1)⟩⟩
 refine RelL.of_get (by simp [Vm.trim, hs.fr.len]) fun i t y h1 h2 => ?_
 simp only [Vm.trim] at h1
 rw [List.getElem?_map, Option.map_eq_some_iff] at h1
 obtain ⟨⟨u, q⟩, hu, rfl⟩ := h1
 rw [List.getElem?_zipIdx, Option.map_eq_some_iff] at hu
 obtain ⟨v, hv, e⟩ := hu
 injection e with e1 e2
 subst e1
 simp only
 split
 ·obtain ⟨z, h3, h4⟩ := hs.fr.get hv
  rw [h3] at h2; injection h2 with h2; exact h2 ▸ h4
 ·simp only [Rel]
theorem know_sound {x : Operand} {b : Bool} (hs : St Γ M s a w) (h : s.eval x = .v (.bool b)) : St Γ M (s.know x b) a w := by
 cases x with
 | tmp t => exact (hs.know h).1
 | _ => exact hs
theorem run_kt {H : Hs} {R : S → Prop} (hd : True) : ∀ (n : Nat) (f : Bool) (k : List It) (s : S), run P H R (TWk P Γ R) n f k s → TWr P Γ R k s
 | 0, f, k, s, h => h.out
 | n + 1, f, [], s, h => h
 | n + 1, f, .blk id :: k, s, h => run_kt hd n f k s h
 | n + 1, f, .code c :: k, s, h => by
  unfold run at h
  split at h
  ·exact fun M a w hs => h.out M a w (hs.trim _ _)
  ·split at h
   ·exact fun M a w hs => wp_skip ⟨s, M, run_kt hd n f k s h, hs⟩
   ·exact fun M a w hs => wp_label ⟨s, M, run_kt hd n f k s h, hs⟩
   ·intro M a w hs
    have h1 := run_kt hd n f _ s h M a w hs
    exact wp_seq (wp_mono (cwp_wp h1) fun e a w q => by
     have := postE_then q
     cases e <;> first | exact cwp_wp this | exact this)
   ·intro M a w hs
    have h1 := run_kt hd n f _ s h M a w hs
    exact wp_block (wp_mono (cwp_wp h1) fun e a w q => postE_block q)
   ·intro M a w hs
    have h1 := run_kt hd n false _ s h M a w hs
    exact LW.mk (wp_mono (cwp_wp h1) fun e a w q => postE_then q)
   ·rename_i id
    split at h
    ·rename_i k' hu
     exact fun M a w hs => wp_exit ⟨s, M, unwind_sound hu (run_kt hd n false k' s h), hs⟩
    ·exact h.elim
   ·exact fun M a w hs => wp_ret ⟨s, M, ret_sound h k, hs⟩
   ·rename_i x c1 c2 _
    split at h
    rotate_left
    ·exact h.elim
    rename_i b hb
    intro M a w hs
    have hr := eval_rel hs.fr x
    rw [hb] at hr
    simp only [Rel] at hr
    cases b with
    | true => exact wp_cond_true hr (cwp_wp (run_kt hd n false _ _ h M a w (know_sound hs hb)))
    | false => exact wp_cond_false hr (cwp_wp (run_kt hd n false _ _ h M a w (know_sound hs hb)))
   ·rename_i id ops d _
    split at h
    ·rename_i hdr
     subst hdr
     split at h
     rotate_left
     ·split at h
      rotate_left
      ·exact h.elim
      rename_i hok
      intro M a w hs
      have := reads_sound (id := id) (Γ := Γ) (Q := PostE Γ (Kt P Γ R k)) (K := fun s' => run P H R (TWk P Γ R) n false k s') hok (fun a w ⟨s', M', hk', hs'⟩ => ⟨s', M', run_kt hd n false k s' hk', hs'⟩) h hs
      exact cwp_of (fun _ e => by cases e) (by simpa using this)
     rename_i pl hpl
     split at h
     rotate_left
     ·exact h.elim
     rename_i hok
     simp only [Bool.and_eq_true] at hok
     intro M a w hs
     have := region_sound (id := id) (Γ := Γ) (Q := PostE Γ (Kt P Γ R k)) (K := fun s' => run P H R (TWk P Γ R) n false k s') hok.1 hok.2 (fun a w ⟨s', M', hk', hs'⟩ => ⟨s', M', run_kt hd n false k s' hk', hs'⟩) h hs
     exact cwp_of (fun _ e => by cases e) (by simpa using this)
    ·rename_i hdr
     have hdf : d = false := by simpa using hdr
     subst hdf
     intro M a w hs
     refine wp_region_list ?_
     have := exL_sound (Γ := Γ) (Q := PostE Γ (Kt P Γ R k)) (fun a w ⟨s', M', hk', hs'⟩ => ⟨s', M', run_kt hd n false k s' hk', hs'⟩) ops.toList 0 s M a w h hs
     simpa using this
   ·exact h.elim
theorem run_sound (H : Hs) {R : S → Prop} (n : Nat) {k : List It} {s : S} {B : Prop} (h : run P H R (TWk P Γ R) n true k s = B) (hB : B) : TWk P Γ R k s := ⟨run_kt trivial n true k s (h ▸ hB)⟩
theorem run_asAddr (ad : Addr) (w : World) : (asAddr (.pointer (some ad))).run P w = .ok ad w := rfl
theorem weakK_rel {keep : List Nat} {t : T} {v : Value} (r : Rel M t v) : Rel M (t.weakK keep) v := by
 have one : ∀ {t : T} {v : Value}, Rel M t v → Rel M (t.weak1K keep) v := fun {t v} r => by
  cases t <;> first | exact r | skip
  simp only [T.weak1K]
  split
  ·exact r
  ·exact weakC r
 cases t <;> first | exact one r | skip
 simp only [T.weakK, Rel] at r ⊢
 obtain ⟨ys, e, r⟩ := r
 exact ⟨ys, e, RelL.of_get (by rw [r.len]; simp) fun i t y h1 h2 => by
  rw [List.getElem?_map, Option.map_eq_some_iff] at h1
  obtain ⟨t0, h3, rfl⟩ := h1
  obtain ⟨u, h4, h5⟩ := r.get h3
  rw [h4] at h2
  injection h2 with h2
  exact h2 ▸ one h5⟩
theorem finR_sound (keep : List Nat) (hs : St Γ M s a w) : ∀ (rs : List ResultVar) (k : List T → Prop), finR P keep s rs k → ∃ ts vs, k ts ∧ RelL M ts vs ∧
  (rs.mapM (fun | .tmp t => pure (a.tmps.getD t undef) | .cell x t => do loadVar t (← asAddr (a.tmps.getD x undef))) : Sem (List Value)).run P w = .ok vs w
 | [], k, h => ⟨[], [], h, by simp only [RelL], rfl⟩
 | .tmp t :: rs, k, h => by
  obtain ⟨ts, vs, h1, h2, h3⟩ := finR_sound keep hs rs _ h
  refine ⟨_, a.tmps.getD t undef :: vs, h1, by simp only [RelL]; exact ⟨_, _, rfl, weakK_rel (eval_rel hs.fr (.tmp t)), h2⟩, ?_⟩
  simp only [List.mapM_cons, Sem.run_bind, Sem.run_pure, Result.andThen_ok, h3]
 | .cell x t :: rs, k, h => by
  unfold finR at h
  obtain ⟨b, off, cs, hk, hx, hc⟩ := cellsAt_sound (h := .no) (x := .tmp x) h hs
  obtain ⟨u, hu, hk⟩ := claim_some hk
  obtain ⟨ts, vs, h1, h2, h3⟩ := finR_sound keep hs rs _ hk
  obtain ⟨v, h4, h5⟩ := load_run hc hu
  refine ⟨_, v :: vs, h1, by simp only [RelL]; exact ⟨_, _, rfl, weakK_rel h4, h2⟩, ?_⟩
  have hx' : a.tmps.getD x undef = .pointer (some ⟨b, off, none⟩) := hx
  simp only [Instr.loadAt, Instr.sureAddr, Sem.run_bind, Sem.run_pure, Result.andThen_ok] at h5
  simp only [List.mapM_cons, Sem.run_bind, Sem.run_pure, Result.andThen_ok, hx', run_asAddr, h5, h3]
theorem TCalls.of {f : FuncId} {fn : Func} {c : Code} {ts : List T} {ob : Obs} {gl : Glb} {Q : T → Obs → Glb → Prop} (hf : P.funcs[f]? = some fn) (hb : fn.body = some c) (hcan : CanCall P f) (keep : List Nat)
  (h : ∀ Γ, TWk P Γ (fin P fn keep Q) [.code c] (st0 fn ts ob gl)) : TCalls P f ts ob gl Q := by
 refine ⟨hcan, fun M w xs hp hx => ?_⟩
 have hsz : xs.size = ts.length := by rw [← hx.len]; simp
 have hgrew : Grew ⟨w, Dom ob gl, M⟩ M ob gl w := ⟨Pm.le_refl _, fun b o v hv => .inl hv, Fr.refl _ _, fun b hb => .inl hb⟩
 refine calls_of_wp hf hb (wp_mono (cwp_wp ((h ⟨w, Dom ob gl, M⟩).out M _ w ⟨rfl, ?_, hp, hgrew⟩)) fun e a' w' q => ?_)
 ·simp only [st0, Array.toList_append, Array.toList_replicate]
  refine hx.append ?_
  rw [hsz]
  exact RelL.of_get (by simp) fun i t y h1 h2 => by
   rw [List.getElem?_replicate] at h1 h2
   split at h1
   ·rw [if_pos (by assumption)] at h2
    injection h1 with h1; injection h2 with h2; subst h1 h2; simp only [Rel]
   ·cases h1
 ·obtain ⟨s', M', hk, hs'⟩ := q
  have end_ : fin P fn keep Q s' → a'.defers = [] ∧ ∃ v, (results fn a'.tmps).run P w' = .ok v w' ∧ ∃ x r M' ob' gl', Ending.returned v = .returned x ∧ Rel M' r x ∧ HRel M' ob' gl' w' ∧ Grew ⟨w, Dom ob gl, M⟩ M' ob' gl' w' ∧ Q r ob' gl' := fun hk => by
   unfold fin at hk
   split at hk
   rotate_left
   ·exact hk.elim
   rename_i hkeep
   obtain ⟨hnd, hin⟩ := hkeep
   rw [List.all_eq_true] at hin
   obtain ⟨us, vs, h1, h2, h3⟩ := finR_sound keep hs' _ _ hk
   obtain ⟨sl1, sl2⟩ := filterMap_get (fun i => s'.ob[i]?) keep fun i hi => by
    have := hin i hi
    simp only [decide_eq_true_eq] at this
    simp [this]
   have hres : (results fn a'.tmps).run P w' = .ok (if h : vs.toArray.size = 1 then vs.toArray[0] else .tuple vs.toArray) w' := by
    unfold results
    rw [Array.mapM_eq_mapM_toList]
    simp only [map_eq_pure_bind, bind_assoc, pure_bind, Sem.run_bind, Sem.run_pure]
    exact congrArg (fun r => Result.andThen r _) h3
   have gen : ∀ (F : T → T) (G : Nat × Ob → Nat × Ob), (∀ t v, Rel M' t v → Rel M' (F t) v) → (∀ {x}, obBlk (G x) = obBlk x) → (∀ x, ObRel M' w' x → ObRel M' w' (G x)) → Q (F (match us with | [t] => t | us => .tup us)) ((keep.filterMap fun i => s'.ob[i]?).map G) s'.gl →
     a'.defers = [] ∧ ∃ v, (results fn a'.tmps).run P w' = .ok v w' ∧ ∃ x r M' ob' gl', Ending.returned v = .returned x ∧ Rel M' r x ∧ HRel M' ob' gl' w' ∧ Grew ⟨w, Dom ob gl, M⟩ M' ob' gl' w' ∧ Q r ob' gl' := fun F G hF hG1 hG2 h1 => by
    have sl3 : ∀ (j : Nat) (x : Nat × Ob), ((keep.filterMap fun i => s'.ob[i]?).map G)[j]? = some x → ∃ i y, keep[j]? = some i ∧ s'.ob[i]? = some y ∧ x = G y := fun j x hx => by
     rw [List.getElem?_map, Option.map_eq_some_iff] at hx
     obtain ⟨y, hy, rfl⟩ := hx
     have hj : j < keep.length := by rw [← sl1]; exact (List.getElem?_eq_some_iff.1 hy).1
     have g1 : keep[j]? = some keep[j] := List.getElem?_eq_getElem hj
     exact ⟨keep[j], y, g1, by rw [← sl2 j _ g1]; exact hy, rfl⟩
    refine ⟨hs'.df, _, hres, _, _, M', _, _, rfl, ?_, ⟨hs'.hp.promise, fun j x hx => ?_, fun j l x y b g1 g2 g3 g4 => ?_, hs'.hp.glob, fun j x b g1 g2 => ?_⟩, ⟨hs'.gr.more, hs'.gr.only, hs'.gr.fr, fun b hb => ?_⟩, h1⟩
    ·have hl := h2.len
     cases us with
     | nil =>
      have : vs = [] := List.eq_nil_of_length_eq_zero hl
      subst this
      exact hF _ _ (by simp only [Rel]; exact ⟨_, rfl, h2⟩)
     | cons u us =>
      cases us with
      | nil =>
       simp only [RelL] at h2
       obtain ⟨v, vs', rfl, r1, rfl⟩ := h2
       exact hF _ _ r1
      | cons u' us =>
       rw [dif_neg (by simp [hl])]
       exact hF _ _ (by simp only [Rel]; exact ⟨_, rfl, h2⟩)
    ·obtain ⟨i, y, _, hi, rfl⟩ := sl3 j x hx
     exact hG2 _ (hs'.hp.objs i y hi)
    ·obtain ⟨i, y1, i1, i2, rfl⟩ := sl3 j x g1
     obtain ⟨i', y2, i3, i4, rfl⟩ := sl3 l y g2
     rw [hG1] at g3 g4
     have := hs'.hp.apart i i' y1 y2 b i2 i4 g3 g4
     subst this
     have hj : j < keep.length := (List.getElem?_eq_some_iff.1 i1).1
     have hl : l < keep.length := (List.getElem?_eq_some_iff.1 i3).1
     rw [List.getElem?_eq_getElem hj] at i1
     rw [List.getElem?_eq_getElem hl] at i3
     exact (List.getElem_inj hnd).1 (Option.some.inj (i1.trans i3.symm))
    ·obtain ⟨i, y1, _, i2, rfl⟩ := sl3 j x g1
     rw [hG1] at g2
     exact hs'.hp.sep i y1 b i2 g2
    ·refine hs'.gr.own b ?_
     rcases hb with ⟨j, x, g1, g2⟩ | g1
     ·obtain ⟨i, y1, _, i2, rfl⟩ := sl3 j x g1
      rw [hG1] at g2
      exact .inl ⟨i, y1, i2, g2⟩
     ·exact .inr g1
   split at h1
   ·refine gen id id (fun _ _ r => r) rfl (fun _ r => r) ?_
    rw [List.map_id]
    cases us with
    | nil => exact h1
    | cons u us => cases us <;> exact h1
   ·refine gen (reix keep) (reixOb keep) (fun _ _ r => reix_rel r) reixOb_blk (fun _ r => reixOb_rel r) ?_
    cases us with
    | nil => exact h1
    | cons u us => cases us <;> exact h1
  cases e <;> first | exact hk.elim | exact end_ hk
theorem CanCall.of {f : FuncId} {fn : Func} (hf : P.funcs[f]? = some fn) (hb : fn.body.isNone = false) (hn : (fn.name == "runtime.NumGoroutine") = false) : CanCall P f := fun args w => by
 unfold callFunc
 simp only [Sem.run_bind, show (program : Sem Program).run P w = .ok P w from rfl, Result.andThen_ok, hf, hb, hn, Bool.false_eq_true, if_false, Sem.run_pure]
theorem TCalls.mono {f : FuncId} {ts : List T} {ob : Obs} {gl : Glb} {Q Q' : T → Obs → Glb → Prop} (h : TCalls P f ts ob gl Q) (hq : ∀ r ob' gl', Q r ob' gl' → Q' r ob' gl') : TCalls P f ts ob gl Q' :=
 ⟨h.can, fun M w xs hp hx => (h.calls M w xs hp hx).mono fun _ _ ⟨x, r, M', ob', gl', h1, h2, h3, h4, h5⟩ => ⟨x, r, M', ob', gl', h1, h2, h3, h4, hq _ _ _ h5⟩⟩
end
end Go.Proofs.Ytafcbipmmjegcaa.Vm
