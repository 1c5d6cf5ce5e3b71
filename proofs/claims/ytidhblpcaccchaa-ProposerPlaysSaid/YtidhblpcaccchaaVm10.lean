/- Trees: the same state told in another way (a nil slice as a slice with the right to grow; objects let go). No program is named here. -/
import Derived.Test.YtidhblpcaccchaaVm9
namespace Go.Proofs.Ytidhblpcaccchaa.Vm
open Go Go.RowKit

abbrev nilS : Value := .slice none 0 0
structure Imp (ts : List T) (ob : Obs) (gl : Glb) (ts' : List T) (ob' : Obs) (gl' : Glb) : Prop where
  rel : ∀ M xs, RelL M ts xs → RelL M ts' xs
  hp : ∀ M w, HRel M ob gl w → HRel M ob' gl' w
  dom : ∀ b, Dom ob' gl' b → Dom ob gl b
section
variable {P : Program} {Γ : Ctx}
theorem Imp.refl (ts : List T) (ob : Obs) (gl : Glb) : Imp ts ob gl ts ob gl := ⟨fun _ _ h => h, fun _ _ h => h, fun _ h => h⟩
theorem Imp.trans {ts ts' ts2 : List T} {ob ob' ob2 : Obs} {gl gl' gl2 : Glb} (h : Imp ts ob gl ts' ob' gl') (h' : Imp ts' ob' gl' ts2 ob2 gl2) : Imp ts ob gl ts2 ob2 gl2 :=
  ⟨fun M xs r => h'.rel M xs (h.rel M xs r), fun M w r => h'.hp M w (h.hp M w r), fun b r => h.dom b (h'.dom b r)⟩
theorem Grew.wider {M0 M : Pm} {w0 w : World} {D D' : Nat → Prop} {ob : Obs} {gl : Glb} (h : Grew ⟨w0, D', M0⟩ M ob gl w) (hd : ∀ b, D' b → D b) : Grew ⟨w0, D, M0⟩ M ob gl w where
  more := h.more
  only := fun b o v hv => by
    rcases h.only b o v hv with h1 | h1 | h1
    · exact .inl h1
    · exact .inr (.inl (hd b h1))
    · exact .inr (.inr h1)
  fr := h.fr.mono fun b _ => hd b
  own := fun b hb => by
    rcases h.own b hb with h1 | h1
    · exact .inl (hd b h1)
    · exact .inr h1
theorem Grew.imp {M : Pm} {ob ob' : Obs} {gl gl' : Glb} {w : World} (h : Grew Γ M ob gl w) (hd : ∀ b, Dom ob' gl' b → Dom ob gl b) : Grew Γ M ob' gl' w := ⟨h.more, h.only, h.fr, fun b hb => h.own b (hd b hb)⟩
theorem TWk.imp {R : S → Prop} {c : Code} {k : List It} {s s' : S} (h : TWk P Γ R (.code c :: k) s') (hi : Imp s.fr s.ob s.gl s'.fr s'.ob s'.gl) : TWk P Γ R (.code c :: k) s :=
  ⟨fun M a w hs => h.out M a w ⟨hs.df, hi.rel _ _ hs.fr, hi.hp _ _ hs.hp, hs.gr.imp hi.dom⟩⟩
theorem TCalls.post {f : FuncId} {ts : List T} {ob : Obs} {gl : Glb} {Q Q' : T → Obs → Glb → Prop} (h : TCalls P f ts ob gl Q)
    (hq : ∀ r ob' gl', Q r ob' gl' → ∃ r2 ob2 gl2, Imp [r] ob' gl' [r2] ob2 gl2 ∧ Q' r2 ob2 gl2) : TCalls P f ts ob gl Q' :=
  ⟨h.can, fun M w xs hp hx => (h.calls M w xs hp hx).mono fun _ _ ⟨x, r, M', ob', gl', h1, h2, h3, h4, h5⟩ => by
    obtain ⟨r2, ob2, gl2, hi, h6⟩ := hq r ob' gl' h5
    refine ⟨x, r2, M', ob2, gl2, h1, ?_, hi.hp _ _ h3, h4.imp hi.dom, h6⟩
    have := hi.rel M' [x] (by simp only [RelL]; exact ⟨x, [], rfl, h2, rfl⟩)
    simp only [RelL] at this
    obtain ⟨u, us, e, h7, _⟩ := this
    injection e with e
    exact e ▸ h7⟩
theorem TCalls.pre {f : FuncId} {ts ts' : List T} {ob ob' : Obs} {gl gl' : Glb} {Q : T → Obs → Glb → Prop} (h : TCalls P f ts' ob' gl' Q) (hi : Imp ts ob gl ts' ob' gl') : TCalls P f ts ob gl Q :=
  ⟨h.can, fun M w xs hp hx => (h.calls M w xs (hi.hp _ _ hp) (hi.rel _ _ hx)).mono fun _ _ ⟨x, r, M', ob2, gl2, h1, h2, h3, h4, h5⟩ => ⟨x, r, M', ob2, gl2, h1, h2, h3, h4.wider hi.dom, h5⟩⟩
/-! ### a nil slice -/
theorem rel_nilx {M : Pm} {k i : Nat} {v : Value} (h : Rel M (.v nilS) v) : Rel M (.slx k i [] nilS) v := by
  simp only [Rel] at h ⊢
  exact ⟨h, none, 0, rfl, ⟨Nat.le_refl _, by omega, fun _ => ⟨rfl, rfl⟩, by simp⟩, by simp [El], by simp⟩
theorem relL_nilx {M : Pm} {k i j : Nat} {ts : List T} {xs : List Value} (hj : ts[j]? = some (.v nilS)) (h : RelL M ts xs) : RelL M (ts.set j (.slx k i [] nilS)) xs := by
  obtain ⟨y, h1, h2⟩ := h.get hj
  have h3 := h.set j (rel_nilx (k := k) (i := i) h2)
  have e : xs.set j y = xs := by
    obtain ⟨hl, he⟩ := List.getElem?_eq_some_iff.1 h1
    rw [← he, List.set_getElem_self]
  rwa [e] at h3
theorem hrel_room {M : Pm} {ob : Obs} {gl : Glb} {w : World} {k : Nat} {e : TypeId} (h : HRel M ob gl w) : HRel M (ob ++ [(0, .room k e 0 nilS)]) gl w :=
  h.more (by simp [ObRel]) (by simp [obBlk, Value.ownBlock])
theorem dom_room {ob : Obs} {gl : Glb} {k : Nat} {e : TypeId} {b : Nat} (h : Dom (ob ++ [(0, .room k e 0 nilS)]) gl b) : Dom ob gl b := by
  rcases h with ⟨i, x, h1, h2⟩ | h1
  · rw [List.getElem?_append] at h1
    split at h1
    · exact .inl ⟨i, x, h1, h2⟩
    · rw [List.getElem?_singleton] at h1
      split at h1
      · injection h1 with h1; subst h1; simp [obBlk, Value.ownBlock] at h2
      · cases h1
  · exact .inr h1
theorem Imp.room {ts : List T} {ob : Obs} {gl : Glb} (k : Nat) (e : TypeId) : Imp ts ob gl ts (ob ++ [(0, .room k e 0 nilS)]) gl := ⟨fun _ _ h => h, fun _ _ h => hrel_room h, fun _ h => dom_room h⟩
theorem Imp.slot {ts : List T} {ob : Obs} {gl : Glb} (k i j : Nat) (hj : ts[j]? = some (.v nilS)) : Imp ts ob gl (ts.set j (.slx k i [] nilS)) ob gl := ⟨fun _ _ h => relL_nilx hj h, fun _ _ h => h, fun _ h => h⟩
/-- an object told in another way -/
theorem Imp.ob {ts : List T} {ob : Obs} {gl : Glb} {i : Nat} {x y : Nat × Ob} (hi : ob[i]? = some x) (hx : ∀ M w, ObRel M w x → ObRel M w y) (hb : ∀ b, obBlk y = some b → obBlk x = some b) : Imp ts ob gl ts (ob.set i y) gl := by
  have get : ∀ {j : Nat} {z : Nat × Ob}, (ob.set i y)[j]? = some z → (z = y ∧ j = i) ∨ (j ≠ i ∧ ob[j]? = some z) := fun {j z} h => by
    rw [List.getElem?_set] at h
    split at h
    · rename_i e
      split at h
      · injection h with h; exact .inl ⟨h.symm, e.symm⟩
      · cases h
    · rename_i e; exact .inr ⟨fun e' => e e'.symm, h⟩
  refine ⟨fun _ _ h => h, fun M w h => ⟨h.promise, fun j z hz => ?_, fun j1 j2 z1 z2 b h1 h2 h3 h4 => ?_, h.glob, fun j z b h1 h2 => ?_⟩, fun b h => ?_⟩
  · rcases get hz with ⟨rfl, rfl⟩ | ⟨_, h2⟩
    · exact hx M w (h.objs _ _ hi)
    · exact h.objs j z h2
  · rcases get h1 with ⟨e1, e2⟩ | ⟨n1, g1⟩ <;> rcases get h2 with ⟨e3, e4⟩ | ⟨n2, g2⟩
    · rw [e2, e4]
    · rw [e1] at h3; rw [e2]; exact h.apart _ _ _ _ b hi g2 (hb b h3) h4
    · rw [e3] at h4; rw [e4]; exact h.apart _ _ _ _ b g1 hi h3 (hb b h4)
    · exact h.apart _ _ _ _ b g1 g2 h3 h4
  · rcases get h1 with ⟨rfl, rfl⟩ | ⟨_, h1⟩
    · exact h.sep _ _ b hi (hb b h2)
    · exact h.sep _ _ b h1 h2
  · rcases h with ⟨j, z, h1, h2⟩ | h1
    · rcases get h1 with ⟨rfl, rfl⟩ | ⟨_, h1⟩
      · exact .inl ⟨_, _, hi, hb b h2⟩
      · exact .inl ⟨_, _, h1, h2⟩
    · exact .inr h1
theorem Imp.gone {ts : List T} {ob : Obs} {gl : Glb} (i : Nat) : Imp ts ob gl ts (ob.set i (0, .gone)) gl := by
  cases hi : ob[i]? with
  | none => rw [List.set_eq_of_length_le (by rw [List.getElem?_eq_none_iff] at hi; exact hi)]; exact Imp.refl _ _ _
  | some x => exact Imp.ob hi (fun _ _ _ => by simp [ObRel]) (fun _ h => by simp [obBlk] at h)
/-- a cell that is nil -/
theorem Imp.cell {ts : List T} {ob : Obs} {gl : Glb} (k r : Nat) {i j b : Nat} {cs : List T} (hi : ob[i]? = some (b, .cells cs)) (hj : cs[j]? = some (.v nilS)) : Imp ts ob gl ts (ob.set i (b, .cells (cs.set j (.slx k r [] nilS)))) gl :=
  Imp.ob hi (fun _ _ ⟨C, t, h1, h2, h3⟩ => ⟨C, t, h1, relL_nilx hj h2, h3⟩) (fun _ h => h)
theorem Imp.take {ts : List T} {ob : Obs} {gl : Glb} (n : Nat) : Imp ts ob gl ts (ob.take n) gl := by
  have get : ∀ {i : Nat} {x : Nat × Ob}, (ob.take n)[i]? = some x → ob[i]? = some x := fun {i x} hx => by
    rw [List.getElem?_take] at hx
    split at hx
    · exact hx
    · cases hx
  exact ⟨fun _ _ h => h, fun M w h => ⟨h.promise, fun i x hx => h.objs i x (get hx), fun i j x y b h1 h2 => h.apart i j x y b (get h1) (get h2), h.glob, fun i x b h1 => h.sep i x b (get h1)⟩, fun b h => by
    rcases h with ⟨i, x, h1, h2⟩ | h1
    · exact .inl ⟨i, x, get h1, h2⟩
    · exact .inr h1⟩
/-- the cells of an object without the right to grow -/
theorem Imp.weak {ts : List T} {ob : Obs} {gl : Glb} {i b : Nat} {cs : List T} (hi : ob[i]? = some (b, .cells cs)) : Imp ts ob gl ts (ob.set i (b, .cells (cs.map T.weak))) gl :=
  Imp.ob hi (fun _ _ ⟨C, t, h1, h2, h3⟩ => ⟨C, t, h1, weakL_rel h2, h3⟩) (fun _ h => h)
theorem TWk.weak {R : S → Prop} {c : Code} {k : List It} {fr : List T} {ob : Obs} {gl : Glb} (i b : Nat) (cs : List T) (hi : ob[i]? = some (b, .cells cs)) (h : TWk P Γ R (.code c :: k) ⟨fr, ob.set i (b, .cells (cs.map T.weak)), gl⟩) : TWk P Γ R (.code c :: k) ⟨fr, ob, gl⟩ := TWk.imp (s := ⟨fr, ob, gl⟩) (s' := ⟨fr, ob.set i (b, .cells (cs.map T.weak)), gl⟩) h (Imp.weak hi)
/-- a slot told in another way -/
theorem Imp.slotR {ts : List T} {ob : Obs} {gl : Glb} {j : Nat} {t t' : T} (hj : ts[j]? = some t) (h : ∀ M v, Rel M t v → Rel M t' v) : Imp ts ob gl (ts.set j t') ob gl :=
  ⟨fun M xs r => by
    obtain ⟨y, h1, h2⟩ := r.get hj
    have h3 := r.set j (h M y h2)
    have e : xs.set j y = xs := by
      obtain ⟨hl, he⟩ := List.getElem?_eq_some_iff.1 h1
      rw [← he, List.set_getElem_self]
    rwa [e] at h3, fun _ _ h => h, fun _ h => h⟩
end
end Go.Proofs.Ytidhblpcaccchaa.Vm
