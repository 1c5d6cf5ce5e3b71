/- Texts of this claim: Vm10, Frame, Open. -/
import Derived.Test.YtafcbipmmjegcaaMg12
import Derived.Test.YtafcbipmmjegcaaMg1
import Derived.ProofKit
import Derived.OpenShut
import Derived.Deep.Slices
import Derived.Deep.Fields
namespace Go.Proofs.Ytafcbipmmjegcaa.Vm
open Go Go.RowKit
abbrev nilS : Value := .slice none 0 0
structure Imp (ts : List T) (ob : Obs) (gl : Glb) (ts' : List T) (ob' : Obs) (gl' : Glb) : Prop where
 rel : ∀ M xs, RelL M ts xs → RelL M ts' xs
 hp : ∀ M w, HRel M ob gl w → HRel M ob' gl' w
 dom : ∀ b, Dom ob' gl' b → Dom ob gl b
section
variable {P : Program} {Γ : Ctx}
theorem Imp.refl (ts : List T) (ob : Obs) (gl : Glb) : Imp ts ob gl ts ob gl := ⟨fun _ _ h => h, fun _ _ h => h, fun _ h => h⟩
theorem Imp.trans {ts ts' ts2 : List T} {ob ob' ob2 : Obs} {gl gl' gl2 : Glb} (h : Imp ts ob gl ts' ob' gl') (h' : Imp ts' ob' gl' ts2 ob2 gl2) : Imp ts ob gl ts2 ob2 gl2 :=
 ⟨fun M xs r => h'.rel M xs (h.rel M xs r), fun M w r => h'.hp M w (h.hp M w r), fun b r => h.dom b (h'.dom b r)⟩
theorem Grew.wider {M0 M : Pm} {w0 w : World} {D D' : Nat → Prop} {ob : Obs} {gl : Glb} (h : Grew ⟨w0, D', M0⟩ M ob gl w) (hd : ∀ b, D' b → D b) : Grew ⟨w0, D, M0⟩ M ob gl w where
 more := h.more
 only := fun b o v hv => by
  rcases h.only b o v hv with h1 | h1 | h1
  ·exact .inl h1
  ·exact .inr (.inl (hd b h1))
  ·exact .inr (.inr h1)
 fr := h.fr.mono fun b _ => hd b
 own := fun b hb => by
  rcases h.own b hb with h1 | h1
  ·exact .inl (hd b h1)
  ·exact .inr h1
theorem Grew.imp {M : Pm} {ob ob' : Obs} {gl gl' : Glb} {w : World} (h : Grew Γ M ob gl w) (hd : ∀ b, Dom ob' gl' b → Dom ob gl b) : Grew Γ M ob' gl' w := ⟨h.more, h.only, h.fr, fun b hb => h.own b (hd b hb)⟩
theorem TWk.imp {R : S → Prop} {c : Code} {k : List It} {s s' : S} (h : TWk P Γ R (.code c :: k) s') (hi : Imp s.fr s.ob s.gl s'.fr s'.ob s'.gl) : TWk P Γ R (.code c :: k) s :=
 ⟨fun M a w hs => h.out M a w ⟨hs.df, hi.rel _ _ hs.fr, hi.hp _ _ hs.hp, hs.gr.imp hi.dom⟩⟩
theorem TCalls.post {f : FuncId} {ts : List T} {ob : Obs} {gl : Glb} {Q Q' : T → Obs → Glb → Prop} (h : TCalls P f ts ob gl Q)
  (hq : ∀ r ob' gl', Q r ob' gl' → ∃ r2 ob2 gl2, Imp [r] ob' gl' [r2] ob2 gl2 ∧ Q' r2 ob2 gl2) : TCalls P f ts ob gl Q' :=
 ⟨h.can, fun M w xs hp hx => (h.calls M w xs hp hx).mono fun _ _ ⟨x, r, M', ob', gl', h1, h2, h3, h4, h5⟩ => by
  obtain ⟨r2, ob2, gl2, hi, h6⟩ := hq r ob' gl' h5
  refine ⟨x, r2, M', ob2, gl2, h1, ?_, hi.hp _ _ h3, h4.imp hi.dom, h6⟩
  have := hi.rel M' [x] (by simp only [RelL]; exact ⟨x, [], rfl, h2, rfl⟩)
  simp only [RelL] at this
  obtain ⟨u, us, e, h7, _⟩ := this
  injection e with e
  exact e ▸ h7⟩
theorem TCalls.pre {f : FuncId} {ts ts' : List T} {ob ob' : Obs} {gl gl' : Glb} {Q : T → Obs → Glb → Prop} (h : TCalls P f ts' ob' gl' Q) (hi : Imp ts ob gl ts' ob' gl') : TCalls P f ts ob gl Q :=
 ⟨h.can, fun M w xs hp hx => (h.calls M w xs (hi.hp _ _ hp) (hi.rel _ _ hx)).mono fun _ _ ⟨x, r, M', ob2, gl2, h1, h2, h3, h4, h5⟩ => ⟨x, r, M', ob2, gl2, h1, h2, h3, h4.wider hi.dom, h5⟩⟩
theorem rel_nilx {M : Pm} {k i : Nat} {v : Value} (h : Rel M (.v nilS) v) : Rel M (.slx k i [] nilS) v := by
 simp only [Rel] at h ⊢
 exact ⟨h, none, 0, rfl, ⟨Nat.le_refl _, by omega, fun _ => ⟨rfl, rfl⟩, by simp⟩, by simp [El], by simp⟩
theorem relL_nilx {M : Pm} {k i j : Nat} {ts : List T} {xs : List Value} (hj : ts[j]? = some (.v nilS)) (h : RelL M ts xs) : RelL M (ts.set j (.slx k i [] nilS)) xs := by
 obtain ⟨y, h1, h2⟩ := h.get hj
 have h3 := h.set j (rel_nilx (k := k) (i := i) h2)
 have e : xs.set j y = xs := by
  obtain ⟨hl, he⟩ := List.getElem?_eq_some_iff.1 h1
  rw [← he, List.set_getElem_self]
 rwa [e] at h3
theorem hrel_room {M : Pm} {ob : Obs} {gl : Glb} {w : World} {k : Nat} {e : TypeId} (h : HRel M ob gl w) : HRel M (ob ++ [(0, .room k e 0 nilS)]) gl w :=
 h.more (by simp [ObRel]) (by simp [obBlk, Value.ownBlock])
theorem dom_room {ob : Obs} {gl : Glb} {k : Nat} {e : TypeId} {b : Nat} (h : Dom (ob ++ [(0, .room k e 0 nilS)]) gl b) : Dom ob gl b := by
 rcases h with ⟨i, x, h1, h2⟩ | h1
 ·rw [List.getElem?_append] at h1
  split at h1
  ·exact .inl ⟨i, x, h1, h2⟩
  ·rw [List.getElem?_singleton] at h1
   split at h1
   ·injection h1 with h1; subst h1; simp [obBlk, Value.ownBlock] at h2
   ·cases h1
 ·exact .inr h1
theorem Imp.room {ts : List T} {ob : Obs} {gl : Glb} (k : Nat) (e : TypeId) : Imp ts ob gl ts (ob ++ [(0, .room k e 0 nilS)]) gl := ⟨fun _ _ h => h, fun _ _ h => hrel_room h, fun _ h => dom_room h⟩
theorem Imp.slot {ts : List T} {ob : Obs} {gl : Glb} (k i j : Nat) (hj : ts[j]? = some (.v nilS)) : Imp ts ob gl (ts.set j (.slx k i [] nilS)) ob gl := ⟨fun _ _ h => relL_nilx hj h, fun _ _ h => h, fun _ h => h⟩
theorem Imp.ob {ts : List T} {ob : Obs} {gl : Glb} {i : Nat} {x y : Nat × Ob} (hi : ob[i]? = some x) (hx : ∀ M w, ObRel M w x → ObRel M w y) (hb : ∀ b, obBlk y = some b → obBlk x = some b) : Imp ts ob gl ts (ob.set i y) gl := by
 have get : ∀ {j : Nat} {z : Nat × Ob}, (ob.set i y)[j]? = some z → (z = y ∧ j = i) ∨ (j ≠ i ∧ ob[j]? = some z) := fun {j z} h => by
  rw [List.getElem?_set] at h
  split at h
  ·rename_i e
   split at h
   ·injection h with h; exact .inl ⟨h.symm, e.symm⟩
   ·cases h
  ·rename_i e; exact .inr ⟨fun e' => e e'.symm, h⟩
 refine ⟨fun _ _ h => h, fun M w h => ⟨h.promise, fun j z hz => ?_, fun j1 j2 z1 z2 b h1 h2 h3 h4 => ?_, h.glob, fun j z b h1 h2 => ?_⟩, fun b h => ?_⟩
 ·rcases get hz with ⟨rfl, rfl⟩ | ⟨_, h2⟩
  ·exact hx M w (h.objs _ _ hi)
  ·exact h.objs j z h2
 ·rcases get h1 with ⟨e1, e2⟩ | ⟨n1, g1⟩ <;> rcases get h2 with ⟨e3, e4⟩ | ⟨n2, g2⟩
  ·rw [e2, e4]
  ·rw [e1] at h3; rw [e2]; exact h.apart _ _ _ _ b hi g2 (hb b h3) h4
  ·rw [e3] at h4; rw [e4]; exact h.apart _ _ _ _ b g1 hi h3 (hb b h4)
  ·exact h.apart _ _ _ _ b g1 g2 h3 h4
 ·rcases get h1 with ⟨rfl, rfl⟩ | ⟨_, h1⟩
  ·exact h.sep _ _ b hi (hb b h2)
  ·exact h.sep _ _ b h1 h2
 ·rcases h with ⟨j, z, h1, h2⟩ | h1
  ·rcases get h1 with ⟨rfl, rfl⟩ | ⟨_, h1⟩
   ·exact .inl ⟨_, _, hi, hb b h2⟩
   ·exact .inl ⟨_, _, h1, h2⟩
  ·exact .inr h1
theorem Imp.gone {ts : List T} {ob : Obs} {gl : Glb} (i : Nat) : Imp ts ob gl ts (ob.set i (0, .gone)) gl := by
 cases hi : ob[i]? with
 | none => rw [List.set_eq_of_length_le (by rw [List.getElem?_eq_none_iff] at hi; exact hi)]; exact Imp.refl _ _ _
 | some x => exact Imp.ob hi (fun _ _ _ => by simp [ObRel]) (fun _ h => by simp [obBlk] at h)
theorem Imp.cell {ts : List T} {ob : Obs} {gl : Glb} (k r : Nat) {i j b : Nat} {cs : List T} (hi : ob[i]? = some (b, .cells cs)) (hj : cs[j]? = some (.v nilS)) : Imp ts ob gl ts (ob.set i (b, .cells (cs.set j (.slx k r [] nilS)))) gl :=
 Imp.ob hi (fun _ _ ⟨C, t, h1, h2, h3⟩ => ⟨C, t, h1, relL_nilx hj h2, h3⟩) (fun _ h => h)
theorem Imp.take {ts : List T} {ob : Obs} {gl : Glb} (n : Nat) : Imp ts ob gl ts (ob.take n) gl := by
 have get : ∀ {i : Nat} {x : Nat × Ob}, (ob.take n)[i]? = some x → ob[i]? = some x := fun {i x} hx => by
  rw [List.getElem?_take] at hx
  split at hx
  ·exact hx
  ·cases hx
 exact ⟨fun _ _ h => h, fun M w h => ⟨h.promise, fun i x hx => h.objs i x (get hx), fun i j x y b h1 h2 => h.apart i j x y b (get h1) (get h2), h.glob, fun i x b h1 => h.sep i x b (get h1)⟩, fun b h => by
  rcases h with ⟨i, x, h1, h2⟩ | h1
  ·exact .inl ⟨i, x, get h1, h2⟩
  ·exact .inr h1⟩
theorem Imp.weak {ts : List T} {ob : Obs} {gl : Glb} {i b : Nat} {cs : List T} (hi : ob[i]? = some (b, .cells cs)) : Imp ts ob gl ts (ob.set i (b, .cells (cs.map T.weak))) gl :=
 Imp.ob hi (fun _ _ ⟨C, t, h1, h2, h3⟩ => ⟨C, t, h1, weakL_rel h2, h3⟩) (fun _ h => h)
theorem TWk.weak {R : S → Prop} {c : Code} {k : List It} {fr : List T} {ob : Obs} {gl : Glb} (i b : Nat) (cs : List T) (hi : ob[i]? = some (b, .cells cs)) (h : TWk P Γ R (.code c :: k) ⟨fr, ob.set i (b, .cells (cs.map T.weak)), gl⟩) : TWk P Γ R (.code c :: k) ⟨fr, ob, gl⟩ := TWk.imp (s := ⟨fr, ob, gl⟩) (s' := ⟨fr, ob.set i (b, .cells (cs.map T.weak)), gl⟩) h (Imp.weak hi)
theorem Imp.slotR {ts : List T} {ob : Obs} {gl : Glb} {j : Nat} {t t' : T} (hj : ts[j]? = some t) (h : ∀ M v, Rel M t v → Rel M t' v) : Imp ts ob gl (ts.set j t') ob gl :=
 ⟨fun M xs r => by
  obtain ⟨y, h1, h2⟩ := r.get hj
  have h3 := r.set j (h M y h2)
  have e : xs.set j y = xs := by
   obtain ⟨hl, he⟩ := List.getElem?_eq_some_iff.1 h1
   rw [← he, List.set_getElem_self]
  rwa [e] at h3, fun _ _ h => h, fun _ h => h⟩
structure ImpM (ts : List T) (ob : Obs) (gl : Glb) (ts' : List T) (ob' : Obs) (gl' : Glb) : Prop where
 hp : ∀ M w xs, RelL M ts xs → HRel M ob gl w → ∃ M', M.le M' ∧ (∀ b o v, M' b o = some v → M b o = some v ∨ Dom ob gl b) ∧ RelL M' ts' xs ∧ HRel M' ob' gl' w
 dom : ∀ b, Dom ob' gl' b → Dom ob gl b
theorem Grew.impM {M M' : Pm} {ob ob' : Obs} {gl gl' : Glb} {w : World} (h : Grew Γ M ob gl w) (hl : M.le M') (ho : ∀ b o v, M' b o = some v → M b o = some v ∨ Dom ob gl b) (hd : ∀ b, Dom ob' gl' b → Dom ob gl b) : Grew Γ M' ob' gl' w where
 more := Pm.le_trans h.more hl
 only := fun b o v hv => by
  rcases ho b o v hv with h1 | h1
  ·exact h.only b o v h1
  ·exact .inr (h.own b h1)
 fr := h.fr
 own := fun b hb => h.own b (hd b hb)
theorem TWk.impM {R : S → Prop} {c : Code} {k : List It} {s s' : S} (h : TWk P Γ R (.code c :: k) s') (hi : ImpM s.fr s.ob s.gl s'.fr s'.ob s'.gl) : TWk P Γ R (.code c :: k) s :=
 ⟨fun M a w hs => by
  obtain ⟨M', h1, h2, h3, h4⟩ := hi.hp M w _ hs.fr hs.hp
  exact h.out M' a w ⟨hs.df, h3, h4, hs.gr.impM h1 h2 hi.dom⟩⟩
theorem TCalls.postM {f : FuncId} {ts : List T} {ob : Obs} {gl : Glb} {Q Q' : T → Obs → Glb → Prop} (h : TCalls P f ts ob gl Q)
  (hq : ∀ r ob' gl', Q r ob' gl' → ∃ r2 ob2 gl2, ImpM [r] ob' gl' [r2] ob2 gl2 ∧ Q' r2 ob2 gl2) : TCalls P f ts ob gl Q' :=
 ⟨h.can, fun M w xs hp hx => (h.calls M w xs hp hx).mono fun _ _ ⟨x, r, M', ob', gl', h1, h2, h3, h4, h5⟩ => by
  obtain ⟨r2, ob2, gl2, hi, h6⟩ := hq r ob' gl' h5
  obtain ⟨M2, g1, g2, g3, g4⟩ := hi.hp M' _ [x] (by simp only [RelL]; exact ⟨x, [], rfl, h2, rfl⟩) h3
  refine ⟨x, r2, M2, ob2, gl2, h1, ?_, g4, h4.impM g1 g2 hi.dom, h6⟩
  simp only [RelL] at g3
  obtain ⟨u, us, e, h7, _⟩ := g3
  injection e with e
  exact e ▸ h7⟩
theorem Imp.toM {ts ts' : List T} {ob ob' : Obs} {gl gl' : Glb} (h : Imp ts ob gl ts' ob' gl') : ImpM ts ob gl ts' ob' gl' :=
 ⟨fun M w xs r hp => ⟨M, Pm.le_refl _, fun _ _ _ hv => .inl hv, h.rel M xs r, h.hp M w hp⟩, h.dom⟩
theorem ImpM.trans {ts ts' ts2 : List T} {ob ob' ob2 : Obs} {gl gl' gl2 : Glb} (h : ImpM ts ob gl ts' ob' gl') (h' : ImpM ts' ob' gl' ts2 ob2 gl2) : ImpM ts ob gl ts2 ob2 gl2 :=
 ⟨fun M w xs r hp => by
  obtain ⟨M1, a1, a2, a3, a4⟩ := h.hp M w xs r hp
  obtain ⟨M2, b1, b2, b3, b4⟩ := h'.hp M1 w xs a3 a4
  exact ⟨M2, Pm.le_trans a1 b1, fun b o v hv => by
   rcases b2 b o v hv with h1 | h1
   ·exact a2 b o v h1
   ·exact .inr (h.dom b h1), b3, b4⟩, fun b hb => h.dom b (h'.dom b hb)⟩
theorem freeze_core {ob : Obs} {gl : Glb} {i b : Nat} {cs : List T} (ag : Bool) (k o n : Nat) (hag : ag = false → k = 1) (hi : ob[i]? = some (b, .cells cs)) (hlen : o + n * k ≤ cs.length) (hone : ((cs.drop o).take (n * k)).all T.one = true) :
  ∀ M w, HRel M ob gl w → ∃ M', M.le M' ∧ (∀ b o v, M' b o = some v → M b o = some v ∨ Dom ob gl b) ∧ (∀ y cap, y = .slice (some ⟨b, o, none⟩) n cap → n ≤ cap → cap ≤ 9223372036854775807 → Rel M' (.sl k (chunk ag k n ((cs.drop o).take (n * k)))) y) ∧ HRel M' (ob.set i (0, .gone)) gl w ∧ ∀ q, o + n * k ≤ q → M' b q = none := by
 intro M w hp
 obtain ⟨C, ty, hh, hC, hM⟩ := hp.objs _ _ hi
 have hd : Dom ob gl b := .inl ⟨i, _, hi, rfl⟩
 have hg := (Imp.gone (ts := []) (ob := ob) (gl := gl) i).hp M w hp
 have hus := (hC.drop o).take (n * k)
 have hgl : gl b = none := hp.sep i _ b hi rfl
 refine ⟨fun b' q => if b' = b then (if o ≤ q ∧ q < o + n * k then C[q]? else none) else M b' q, fun b' q v hv => ?_, fun b' q v hv => ?_, ?_, ?_, fun q hq => by dsimp only; rw [if_pos rfl, if_neg (by omega)]⟩
 ·have : b' ≠ b := fun e => by rw [e, hM] at hv; cases hv
  first | (rw [if_neg this]; exact hv) | (dsimp only; rw [if_neg this]; exact hv)
 ·dsimp only at hv
  split at hv
  ·rename_i e; subst e; exact .inr hd
  ·exact .inl hv
 ·intro y cap hy hn hc
  have hl : ((cs.drop o).take (n * k)).length = n * k := by rw [List.length_take, List.length_drop]; omega
  have hra : RelA (fun b' q => if b' = b then (if o ≤ q ∧ q < o + n * k then C[q]? else none) else M b' q) b ((cs.drop o).take (n * k)) o := RelA.of_get fun j t ht => by
   have hj : j < n * k := by have := (List.getElem?_eq_some_iff.1 ht).1; omega
   rw [List.getElem?_take, if_pos hj, List.getElem?_drop] at ht
   obtain ⟨u, h1, h2⟩ := hC.get ht
   refine ⟨u, ?_, Rel.mono (fun b' q v hv => ?_) t u h2⟩
   ·rw [if_pos rfl, if_pos ⟨by omega, by omega⟩]; simpa using h1
   ·have : b' ≠ b := fun e => by rw [e, hM] at hv; cases hv
    first | (rw [if_neg this]; exact hv) | (dsimp only; rw [if_neg this]; exact hv)
  have hch := chunk_rel hag n _ o hl hone hra
  simp only [Rel]
  refine ⟨some ⟨b, o, none⟩, cap, by rw [chunk_len]; exact hy, ⟨by rw [chunk_len]; exact hn, hc, (fun e => by cases e), fun a e _ => by injection e with e; rw [← e]⟩, hch.2, fun b2 o2 e => ?_⟩
  injection e with e
  injection e with e1 e2
  subst e1 e2
  exact hch.1
 ·refine ⟨fun b' q v hv => ?_, fun j x hx => ?_, hg.apart, fun b' x hx => ?_, hg.sep⟩
  ·split at hv
   ·rename_i e
    subst e
    split at hv
    ·rename_i hq
     refine ⟨by rw [hh.cell]; exact hv, ?_⟩
     have hmem : v ∈ (C.toList.drop o).take (n * k) := by
      refine List.mem_of_getElem? (i := q - o) ?_
      rw [List.getElem?_take, if_pos (by omega), List.getElem?_drop, show o + (q - o) = q by omega]
      simpa using hv
     exact relL_one hone hus v hmem
    ·cases hv
   ·exact hg.promise b' q v hv
  ·have hx0 := hx
   rw [List.getElem?_set] at hx
   split at hx
   ·split at hx
    ·injection hx with hx; subst hx; simp [ObRel]
    ·cases hx
   ·rename_i hne
    have hb' : ∀ b2, obBlk x = some b2 → b2 ≠ b := fun b2 h1 e => by
     subst e
     exact hne (hp.apart i j _ x b2 hi hx rfl h1)
    exact (hg.objs j x hx0).keep (fun _ _ => rfl) (fun b2 h1 o2 => if_neg (hb' b2 h1)) (fun b' q v hv => by
     have : b' ≠ b := fun e => by rw [e, hM] at hv; cases hv
     first | (rw [if_neg this]; exact hv) | (dsimp only; rw [if_neg this]; exact hv))
  ·obtain ⟨h1, h2⟩ := hg.glob b' x hx
   refine ⟨h1, h2.keep (fun _ _ => rfl) (fun b2 h3 o2 => ?_) (fun b' q v hv => ?_)⟩
   ·refine if_neg (fun e => ?_)
    subst e
    rw [h1] at h3
    injection h3 with h3
    subst h3
    rw [hx] at hgl; cases hgl
   ·have : b' ≠ b := fun e => by rw [e, hM] at hv; cases hv
    first | (rw [if_neg this]; exact hv) | (dsimp only; rw [if_neg this]; exact hv)
theorem HRel.ob1 {M : Pm} {ob : Obs} {gl : Glb} {w : World} {i : Nat} {x y : Nat × Ob} (h : HRel M ob gl w) (hi : ob[i]? = some x) (hx : ObRel M w x → ObRel M w y) (hb : ∀ b, obBlk y = some b → obBlk x = some b) : HRel M (ob.set i y) gl w := by
 have get : ∀ {j : Nat} {z : Nat × Ob}, (ob.set i y)[j]? = some z → (z = y ∧ j = i) ∨ (j ≠ i ∧ ob[j]? = some z) := fun {j z} h => by
  rw [List.getElem?_set] at h
  split at h
  ·rename_i e
   split at h
   ·injection h with h; exact .inl ⟨h.symm, e.symm⟩
   ·cases h
  ·rename_i e; exact .inr ⟨fun e' => e e'.symm, h⟩
 refine ⟨h.promise, fun j z hz => ?_, fun j1 j2 z1 z2 b h1 h2 h3 h4 => ?_, h.glob, fun j z b h1 h2 => ?_⟩
 ·rcases get hz with ⟨rfl, rfl⟩ | ⟨_, h2⟩
  ·exact hx (h.objs _ _ hi)
  ·exact h.objs j z h2
 ·rcases get h1 with ⟨e1, e2⟩ | ⟨n1, g1⟩ <;> rcases get h2 with ⟨e3, e4⟩ | ⟨n2, g2⟩
  ·rw [e2, e4]
  ·rw [e1] at h3; rw [e2]; exact h.apart _ _ _ _ b hi g2 (hb b h3) h4
  ·rw [e3] at h4; rw [e4]; exact h.apart _ _ _ _ b g1 hi h3 (hb b h4)
  ·exact h.apart _ _ _ _ b g1 g2 h3 h4
 ·rcases get h1 with ⟨rfl, rfl⟩ | ⟨_, h1⟩
  ·exact h.sep _ _ b hi (hb b h2)
  ·exact h.sep _ _ b h1 h2
theorem relL_mono_set {M M' : Pm} {ts : List T} {xs : List Value} {j : Nat} {t t' : T} (hl : M.le M') (hj : ts[j]? = some t) (h : ∀ v, Rel M t v → Rel M' t' v) (r : RelL M ts xs) : RelL M' (ts.set j t') xs := by
 obtain ⟨y, h1, h2⟩ := r.get hj
 have h3 := (r.mono hl _ _).set j (h y h2)
 have e : xs.set j y = xs := by
  obtain ⟨hl, he⟩ := List.getElem?_eq_some_iff.1 h1
  rw [← he, List.set_getElem_self]
 rwa [e] at h3
theorem sa_rel {M M' : Pm} {ix b o n cap k : Nat} {es : List T} (h : ∀ y cap, y = .slice (some ⟨b, o, none⟩) n cap → n ≤ cap → cap ≤ 9223372036854775807 → Rel M' (.sl k es) y) (v : Value) (r : Rel M (.sa ix b o n cap) v) : Rel M' (.sl k es) v := by
 simp only [Rel] at r
 exact h v cap r.1 r.2.1 r.2.2
theorem ImpM.slot {ts : List T} {ob : Obs} {gl : Glb} {i b ix o n cap : Nat} {cs : List T} (ag : Bool) (k j : Nat) (es : List T) (hj : ts[j]? = some (.sa ix b o n cap)) (hi : ob[i]? = some (b, .cells cs)) (hag : ag = false → k = 1) (hlen : o + n * k ≤ cs.length) (hone : ((cs.drop o).take (n * k)).all T.one = true)
  (hes : chunk ag k n ((cs.drop o).take (n * k)) = es) : ImpM ts ob gl (ts.set j (.sl k es)) (ob.set i (0, .gone)) gl :=
 ⟨fun M w xs r hp => by
  obtain ⟨M', h1, h2, h3, h4, -⟩ := freeze_core ag k o n hag hi hlen hone M w hp
  rw [hes] at h3
  exact ⟨M', h1, h2, relL_mono_set h1 hj (sa_rel h3) r, h4⟩, (Imp.gone (ts := ts) (gl := gl) i).dom⟩
theorem ImpM.cell {ts : List T} {ob : Obs} {gl : Glb} {i b ix o n cap p bp q : Nat} {cs cp : List T} (ag : Bool) (k : Nat) (es : List T) (hp : ob[p]? = some (bp, .cells cp)) (hq : cp[q]? = some (.sa ix b o n cap)) (hi : ob[i]? = some (b, .cells cs)) (hne : i ≠ p) (hag : ag = false → k = 1) (hlen : o + n * k ≤ cs.length) (hone : ((cs.drop o).take (n * k)).all T.one = true)
  (hes : chunk ag k n ((cs.drop o).take (n * k)) = es) : ImpM ts ob gl ts ((ob.set i (0, .gone)).set p (bp, .cells (cp.set q (.sl k es)))) gl :=
 have hp' : (ob.set i (0, .gone))[p]? = some (bp, .cells cp) := by rw [List.getElem?_set, if_neg hne]; exact hp
 ⟨fun M w xs r hpp => by
  obtain ⟨M', h1, h2, h3, h4, -⟩ := freeze_core ag k o n hag hi hlen hone M w hpp
  rw [hes] at h3
  obtain ⟨C0, ty0, hh0, hC0, _⟩ := hpp.objs _ _ hp
  refine ⟨M', h1, h2, r.mono h1 _ _, h4.ob1 hp' (fun ⟨C, ty, a1, a2, a3⟩ => ⟨C, ty, a1, ?_, a3⟩) (fun _ h => h)⟩
  have e : C0 = C := hh0.uniq a1
  subst e
  exact relL_mono_set h1 hq (sa_rel h3) hC0, fun b h => (Imp.gone (ts := ts) (gl := gl) i).dom b ((Imp.ob (ts := ts) (gl := gl) (x := (bp, .cells cp)) (y := (bp, .cells cp)) hp' (fun _ _ h => h) (fun _ h => h)).dom b (by
   rcases h with ⟨j, z, g1, g2⟩ | g1
   ·rw [List.getElem?_set] at g1
    split at g1
    ·rename_i e
     split at g1
     ·injection g1 with g1
      subst g1 e
      exact .inl ⟨p, (bp, .cells cp), by rw [List.getElem?_set]; simp; rename_i hlt; simpa using hlt, g2⟩
     ·cases g1
    ·exact .inl ⟨j, z, by rw [List.getElem?_set, if_neg (by assumption)]; exact g1, g2⟩
   ·exact .inr g1))⟩
theorem Imp.sel {ts : List T} {ob ob' : Obs} {gl : Glb} (sel : List Nat) (hnd : sel.Nodup) (h : sel.map (fun i => ob[i]?) = ob'.map some) : Imp ts ob gl ts ob' gl := by
 have get : ∀ (j : Nat) (x : Nat × Ob), ob'[j]? = some x → ∃ i, sel[j]? = some i ∧ ob[i]? = some x := fun j x hx => by
  have h1 : (ob'.map some)[j]? = some (some x) := by simp [hx]
  rw [← h, List.getElem?_map, Option.map_eq_some_iff] at h1
  exact h1
 refine ⟨fun _ _ h => h, fun M w hp => ⟨hp.promise, fun j x hx => ?_, fun j1 j2 x y b h1 h2 h3 h4 => ?_, hp.glob, fun j x b h1 h2 => ?_⟩, fun b hb => ?_⟩
 ·obtain ⟨i, _, h2⟩ := get j x hx
  exact hp.objs i x h2
 ·obtain ⟨i1, a1, a2⟩ := get j1 x h1
  obtain ⟨i2, c1, c2⟩ := get j2 y h2
  have := hp.apart i1 i2 x y b a2 c2 h3 h4
  subst this
  obtain ⟨l1, e1⟩ := List.getElem?_eq_some_iff.1 a1
  obtain ⟨l2, e2⟩ := List.getElem?_eq_some_iff.1 c1
  exact (List.getElem_inj hnd).1 (e1.trans e2.symm)
 ·obtain ⟨i, _, a2⟩ := get j x h1
  exact hp.sep i x b a2 h2
 ·rcases hb with ⟨j, x, h1, h2⟩ | h1
  ·obtain ⟨i, _, a2⟩ := get j x h1
   exact .inl ⟨i, x, a2, h2⟩
  ·exact .inr h1
theorem sa_relx {M M' : Pm} {ix b n cap k i : Nat} {es : List T} (h : ∀ y cap, y = .slice (some ⟨b, 0, none⟩) n cap → n ≤ cap → cap ≤ 9223372036854775807 → Rel M' (.sl k es) y) (v : Value) (r : Rel M (.sa ix b 0 n cap) v) : Rel M' (.slx k i es (.slice (some ⟨b, 0, none⟩) n cap)) v := by
 simp only [Rel] at r
 have h1 := h v cap r.1 r.2.1 r.2.2
 simp only [Rel] at h1 ⊢
 refine ⟨r.1, ?_⟩
 rw [← r.1]
 exact h1
theorem ImpM.grow {ts : List T} {ob : Obs} {gl : Glb} {i b ix n cap p bp q : Nat} {cs cp : List T} (ag : Bool) (k : Nat) (e : TypeId) (es : List T) (hp : ob[p]? = some (bp, .cells cp)) (hq : cp[q]? = some (.sa ix b 0 n cap)) (hi : ob[i]? = some (b, .cells cs)) (hne : i ≠ p) (hag : ag = false → k = 1) (hlen : cs.length = cap * k) (hn : n ≤ cap) (hcap : cap ≤ 9223372036854775807) (hone : ((cs.drop 0).take (n * k)).all T.one = true)
  (hes : chunk ag k n ((cs.drop 0).take (n * k)) = es) : ImpM ts ob gl ts ((ob.set i (0, .room k e n (.slice (some ⟨b, 0, none⟩) n cap))).set p (bp, .cells (cp.set q (.slx k i es (.slice (some ⟨b, 0, none⟩) n cap))))) gl :=
 have hp' : (ob.set i (0, .room k e n (.slice (some ⟨b, 0, none⟩) n cap)))[p]? = some (bp, .cells cp) := by rw [List.getElem?_set, if_neg hne]; exact hp
 have get : ∀ {x : Nat × Ob} {j : Nat} {z : Nat × Ob}, (ob.set i x)[j]? = some z → (z = x ∧ j = i) ∨ (j ≠ i ∧ ob[j]? = some z) := fun {x j z} h => by
  rw [List.getElem?_set] at h
  split at h
  ·rename_i e
   split at h
   ·injection h with h; exact .inl ⟨h.symm, e.symm⟩
   ·cases h
  ·rename_i e; exact .inr ⟨fun e' => e e'.symm, h⟩
 have own : ∀ {c : Nat}, obBlk (0, .room k e n (.slice (some ⟨b, 0, none⟩) n cap)) = some c → obBlk (b, .cells cs) = some c := fun h => h
 ⟨fun M w xs r hpp => by
  obtain ⟨M', h1, h2, h3, h4, h5⟩ := freeze_core ag k 0 n hag hi (by rw [hlen, Nat.zero_add]; exact Nat.mul_le_mul_right _ hn) hone M w hpp
  rw [hes] at h3
  obtain ⟨C0, ty0, hh0, hC0, _⟩ := hpp.objs _ _ hp
  obtain ⟨C1, ty1, hh1, hC1, _⟩ := hpp.objs _ _ hi
  have hroom : ObRel M' w (0, .room k e n (.slice (some ⟨b, 0, none⟩) n cap)) := .inr ⟨b, 0, cap, C1, ty1, rfl, hh1, hn, (by unfold maxLen; omega), (by have := hC1.len; rw [hlen] at this; simpa using this), fun j hj => h5 j (by omega)⟩
  have h4' : HRel M' (ob.set i (0, .room k e n (.slice (some ⟨b, 0, none⟩) n cap))) gl w := by
   refine ⟨h4.promise, fun j z hz => ?_, fun j1 j2 z1 z2 c g1 g2 g3 g4 => ?_, h4.glob, fun j z c g1 g2 => ?_⟩
   ·rcases get hz with ⟨rfl, rfl⟩ | ⟨g1, g2⟩
    ·exact hroom
    ·exact h4.objs j z (by rw [List.getElem?_set, if_neg (fun e => g1 e.symm)]; exact g2)
   ·rcases get g1 with ⟨e1, e2⟩ | ⟨n1, f1⟩ <;> rcases get g2 with ⟨e3, e4⟩ | ⟨n2, f2⟩
    ·rw [e2, e4]
    ·rw [e1] at g3; rw [e2]; exact hpp.apart _ _ _ _ c hi f2 (own g3) g4
    ·rw [e3] at g4; rw [e4]; exact hpp.apart _ _ _ _ c f1 hi g3 (own g4)
    ·exact hpp.apart _ _ _ _ c f1 f2 g3 g4
   ·rcases get g1 with ⟨rfl, rfl⟩ | ⟨_, g1⟩
    ·exact hpp.sep _ _ c hi (own g2)
    ·exact hpp.sep _ _ c g1 g2
  refine ⟨M', h1, h2, r.mono h1 _ _, h4'.ob1 hp' (fun ⟨C, ty, a1, a2, a3⟩ => ⟨C, ty, a1, ?_, a3⟩) (fun _ h => h)⟩
  have e : C0 = C := hh0.uniq a1
  subst e
  exact relL_mono_set h1 hq (sa_relx h3) hC0, fun c h => by
  rcases h with ⟨j, z, g1, g2⟩ | g1
  ·rw [List.getElem?_set] at g1
   split at g1
   ·rename_i ej
    split at g1
    ·injection g1 with g1
     subst g1 ej
     exact .inl ⟨p, _, hp, g2⟩
    ·cases g1
   ·rcases get g1 with ⟨rfl, rfl⟩ | ⟨_, g1⟩
    ·exact .inl ⟨_, _, hi, own g2⟩
    ·exact .inl ⟨j, z, g1, g2⟩
  ·exact .inr g1⟩
end
end Go.Proofs.Ytafcbipmmjegcaa.Vm
namespace Go.Proofs.Ytafcbipmmjegcaa
open Go.RowKit Go.ChangeShapes Go.WideShapes Go.ChangeAt
theorem trodAll_below {H : Type} {enc : TypeId × Value → H} {P : Program} (hl : laidOutB P = true) {W W' : World} (hb : Below W.heap.size W W') :
  ∀ (ts : List TypeId) (vs : List Value) (ds : List (DataW H)) (ps : List MemPlace), (∀ t ∈ ts, P.readableRec t = true ∧ t < P.types.size) → (∀ x ∈ ps, x.block < W.heap.size) →
   DataW.TrodAll enc P W 0 (fun _ => true) true ts vs ds ps → DataW.TrodAll enc P W' 0 (fun b => decide (b < W.heap.size)) true ts vs ds ps
 | [], [], [], _, _, _, h => h
 | t :: ts, v :: vs, d :: ds, ps, hr, hlt, h => by
  obtain ⟨p, q, hp, hq, rfl⟩ := h
  exact ⟨p, q, Below.trod hl (hr t (by simp)).1 (hr t (by simp)).2 hp hb (fun x hx => hlt x (by simp [hx])), trodAll_below hl hb ts vs ds q (fun t ht => hr t (by simp [ht])) (fun x hx => hlt x (by simp [hx])) hq, rfl⟩
 | [], [], _ :: _, _, _, _, h => h.elim
 | [], _ :: _, _, _, _, _, h => h.elim
 | _ :: _, [], _, _, _, _, h => h.elim
 | _ :: _, _ :: _, [], _, _, _, h => h.elim
theorem post_law {H : Type} {enc : TypeId × Value → H} {P : Program} {f : Func} {s : ChangeSpec} {W W' : World} {args : Array Value} {ds gs : List (DataW H)} {before : List MemPlace} (tb : TypeId)
  (hl : laidOutB P = true) (hrec : (f.params.toList.all fun t => P.readableRec t && decide (t < P.types.size)) = true) (hvars : s.vars = []) (hrt : f.resultTypes = #[tb]) (htb : P.underlying tb = some .bool)
  (hW : DataW.Whole enc P f.params.toList s.vars false W args.toList ds gs before) (hb : Below W.heap.size W W')
  (hfn : s.fn H (ds ++ gs) = { results := [.lit (.bool true)], args := ds }) : s.post enc P f false true false false W args (.bool true) W' := by
 have hlt : ∀ p ∈ before, p.block < W.heap.size := fun p hp => hW.lt p hp
 have hW' := hW
 obtain ⟨p, q, hA, hV, rfl, hz, hn⟩ := hW
 rw [hvars] at hV
 obtain ⟨rfl, rfl⟩ := trodVars_none hV
 simp only [List.append_nil] at hlt hW' hfn ⊢
 refine ⟨ds, [], p, [], p, [], hW', ?_, ?_, ?_, World.keptBut_mono (fun x hx => ⟨hx, .inr (.inl hx)⟩) (hb.frame (· ∈ p)), fun h => by cases h⟩
 ·rw [List.append_nil, hfn, hrt]
  exact trodAll_mk1 (shut_bool htb true)
 ·rw [List.append_nil, hfn]
  exact trodAll_below hl hb _ _ _ _ (fun t ht => by simpa using List.all_eq_true.1 hrec t ht) hlt hA
 ·rw [List.append_nil, hfn, hvars]
  rfl
end Go.Proofs.Ytafcbipmmjegcaa
namespace Go.Proofs.Ytafcbipmmjegcaa
open Go.RowKit Go.ChangeShapes Go.WideShapes Go.ChangeAt Go.Deep
theorem choose_rows {α : Type} (n : Nat) (Q : Nat → α → Prop) (h : ∀ i, i < n → ∃ x, Q i x) : ∃ l : List α, l.length = n ∧ ∀ i x, l[i]? = some x → Q i x := by
 induction n with
 | zero => exact ⟨[], rfl, fun i x hx => by simp at hx⟩
 | succ n ih =>
  obtain ⟨l, hl, hq⟩ := ih (fun i hi => h i (by omega))
  obtain ⟨x, hx⟩ := h n (by omega)
  refine ⟨l ++ [x], by simp [hl], fun i y hy => ?_⟩
  rw [List.getElem?_append] at hy
  split at hy
  ·exact hq i y hy
  ·rename_i hge
   have : i = n := by
    rcases Nat.lt_or_ge (i - l.length) 1 with h1 | h1
    ·omega
    ·rw [List.getElem?_eq_none (by simpa using h1)] at hy; cases hy
   subst this
   simp [hl] at hy
   subst hy
   exact hx
end Go.Proofs.Ytafcbipmmjegcaa
