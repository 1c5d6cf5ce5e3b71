/- Trees: objects go into the families, and come out of them. No program is named here. -/
import Derived.Test.YtafcbipmmjegcaaVm10
namespace Go.Proofs.Ytafcbipmmjegcaa.Vm
open Go Go.RowKit
def setO (gl : Glb) (b : Nat) (X : Ob) : Glb := fun j => if j = b then some X else gl j
def dropO (gl : Glb) (b : Nat) : Glb := fun j => if j = b then none else gl j
theorem setO_at (gl : Glb) (b : Nat) (X : Ob) : setO gl b X b = some X := if_pos rfl
theorem setO_ne (gl : Glb) {b c : Nat} (X : Ob) (h : c ≠ b) : setO gl b X c = gl c := if_neg h
theorem dropO_ne (gl : Glb) {b c : Nat} (h : c ≠ b) : dropO gl b c = gl c := if_neg h
theorem dropO_at (gl : Glb) (b : Nat) : dropO gl b b = none := if_pos rfl
theorem setO_drop (gl : Glb) (b : Nat) (X : Ob) : setO (dropO gl b) b X = setO gl b X := by funext j; unfold setO dropO; split <;> rfl
theorem setO_set (gl : Glb) (b : Nat) (X Y : Ob) : setO (setO gl b X) b Y = setO gl b Y := by funext j; unfold setO; split <;> rfl
theorem setO_comm (gl : Glb) {b c : Nat} (X Y : Ob) (h : b ≠ c) : setO (setO gl b X) c Y = setO (setO gl c Y) b X := by
  funext j; unfold setO; split <;> split <;> simp_all
theorem setO_self (gl : Glb) {b : Nat} {X : Ob} (h : gl b = some X) : setO gl b X = gl := by funext j; unfold setO; split <;> simp_all
theorem setO_dropc (gl : Glb) {b c : Nat} (X : Ob) (h : b ≠ c) : setO (dropO gl c) b X = dropO (setO gl b X) c := by
  funext j; unfold setO dropO; split <;> split <;> simp_all
theorem setGl_setO (gl : Glb) (b : Nat) (cs : List T) : setGl gl b cs = setO gl b (.cells cs) := rfl
structure Apart (ob : Obs) (gl : Glb) : Prop where
  apart : ∀ (i j : Nat) (x y : Nat × Ob) (b : Nat), ob[i]? = some x → ob[j]? = some y → obBlk x = some b → obBlk y = some b → i = j
  sep : ∀ (i : Nat) (x : Nat × Ob) (b : Nat), ob[i]? = some x → obBlk x = some b → gl b = none
theorem Imp.intoG {ts : List T} {ob : Obs} {gl : Glb} {b : Nat} {X : Ob} (hb : obBlk (b, X) = some b) : Imp ts (ob ++ [(b, X)]) gl ts ob (setO gl b X) := by
  have hlast : (ob ++ [(b, X)])[ob.length]? = some (b, X) := by simp
  have hin : ∀ {i : Nat} {x : Nat × Ob}, ob[i]? = some x → (ob ++ [(b, X)])[i]? = some x ∧ i < ob.length := fun {i x} h => by
    obtain ⟨hl, _⟩ := List.getElem?_eq_some_iff.1 h
    exact ⟨by rw [List.getElem?_append_left hl]; exact h, hl⟩
  refine ⟨fun _ _ h => h, fun M w h => ⟨h.promise, fun i x hx => h.objs i x (hin hx).1, fun i j x y c hx hy h1 h2 => h.apart i j x y c (hin hx).1 (hin hy).1 h1 h2, fun c x hx => ?_, fun i x c hx h1 => ?_⟩, fun c hc => ?_⟩
  · unfold setO at hx
    split at hx
    · rename_i e
      injection hx with hx
      subst e hx
      exact ⟨hb, h.objs _ _ hlast⟩
    · exact h.glob c x hx
  · by_cases e : c = b
    · subst e
      have := h.apart i ob.length x _ c (hin hx).1 hlast h1 hb
      have := (hin hx).2
      omega
    · rw [setO_ne gl X e]; exact h.sep i x c (hin hx).1 h1
  · rcases hc with ⟨i, x, h1, h2⟩ | h1
    · exact .inl ⟨i, x, (hin h1).1, h2⟩
    · by_cases e : c = b
      · exact .inl ⟨ob.length, (b, X), hlast, e ▸ hb⟩
      · rw [setO_ne gl X e] at h1; exact .inr h1
theorem Imp.outG {ts : List T} {ob : Obs} {gl : Glb} {b : Nat} {X : Ob} (hb : obBlk (b, X) = some b) (hg : gl b = some X) : Imp ts ob gl ts (ob ++ [(b, X)]) (dropO gl b) := by
  have hcase : ∀ {i : Nat} {x : Nat × Ob}, (ob ++ [(b, X)])[i]? = some x → (ob[i]? = some x ∧ i < ob.length) ∨ (i = ob.length ∧ x = (b, X)) := fun {i x} h => by
    rw [List.getElem?_append] at h
    split at h
    · exact .inl ⟨h, by assumption⟩
    · rename_i hge
      have : i - ob.length = 0 := by
        rcases Nat.eq_zero_or_pos (i - ob.length) with e | e
        · exact e
        · rw [List.getElem?_eq_none (by simp; omega)] at h; cases h
      rw [this] at h
      simp at h
      exact .inr ⟨by omega, h.symm⟩
  refine ⟨fun _ _ h => h, fun M w h => ?_, fun c hc => ?_⟩
  · refine ⟨h.promise, fun i x hx => ?_, fun i j x y c hx hy h1 h2 => ?_, fun c x hx => ?_, fun i x c hx h1 => ?_⟩
    · rcases hcase hx with ⟨h1, _⟩ | ⟨_, rfl⟩
      · exact h.objs i x h1
      · exact (h.glob b X hg).2
    · rcases hcase hx with ⟨g1, g2⟩ | ⟨g1, rfl⟩ <;> rcases hcase hy with ⟨k1, k2⟩ | ⟨k1, rfl⟩
      · exact h.apart i j x y c g1 k1 h1 h2
      · rw [hb] at h2; injection h2 with h2; subst h2
        rw [h.sep i x _ g1 h1] at hg; cases hg
      · rw [hb] at h1; injection h1 with h1; subst h1
        rw [h.sep j y _ k1 h2] at hg; cases hg
      · omega
    · unfold dropO at hx
      split at hx
      · cases hx
      · exact h.glob c x hx
    · rcases hcase hx with ⟨g1, g2⟩ | ⟨g1, rfl⟩
      · unfold dropO; split
        · rfl
        · exact h.sep i x c g1 h1
      · rw [hb] at h1; injection h1 with h1; subst h1; exact dropO_at _ _
  · rcases hc with ⟨i, x, h1, h2⟩ | h1
    · rcases hcase h1 with ⟨g1, _⟩ | ⟨_, rfl⟩
      · exact .inl ⟨i, x, g1, h2⟩
      · refine .inr ?_
        rw [hb] at h2
        injection h2 with h2
        rw [← h2, hg]; rfl
    · unfold dropO at h1
      split at h1
      · cases h1
      · exact .inr h1
theorem TCalls.postA {P : Program} {f : FuncId} {ts : List T} {ob : Obs} {gl : Glb} {Q Q' : T → Obs → Glb → Prop} (h : TCalls P f ts ob gl Q)
    (hq : ∀ r ob' gl', Apart ob' gl' → Q r ob' gl' → ∃ r2 ob2 gl2, Imp [r] ob' gl' [r2] ob2 gl2 ∧ Q' r2 ob2 gl2) : TCalls P f ts ob gl Q' :=
  ⟨h.can, fun M w xs hp hx => (h.calls M w xs hp hx).mono fun _ _ ⟨x, r, M', ob', gl', h1, h2, h3, h4, h5⟩ => by
    obtain ⟨r2, ob2, gl2, hi, h6⟩ := hq r ob' gl' ⟨h3.apart, h3.sep⟩ h5
    refine ⟨x, r2, M', ob2, gl2, h1, ?_, hi.hp _ _ h3, h4.imp hi.dom, h6⟩
    have := hi.rel M' [x] (by simp only [RelL]; exact ⟨x, [], rfl, h2, rfl⟩)
    simp only [RelL] at this
    obtain ⟨u, us, e, h7, _⟩ := this
    injection e with e
    exact e ▸ h7⟩
/-- what separates the objects at a call -/
theorem TCalls.apart {P : Program} {f : FuncId} {ts : List T} {ob : Obs} {gl : Glb} {Q : T → Obs → Glb → Prop} (hc : CanCall P f) (h : Apart ob gl → TCalls P f ts ob gl Q) : TCalls P f ts ob gl Q :=
  ⟨hc, fun M w xs hp hx => (h ⟨hp.apart, hp.sep⟩).calls M w xs hp hx⟩
theorem TWk.apart {P : Program} {Γ : Ctx} {R : S → Prop} {c : Code} {k : List It} {s : S} (h : Apart s.ob s.gl → TWk P Γ R (.code c :: k) s) : TWk P Γ R (.code c :: k) s :=
  ⟨fun M a w hs => (h ⟨hs.hp.apart, hs.hp.sep⟩).out M a w hs⟩
theorem Imp.cellR {ts : List T} {ob : Obs} {gl : Glb} {i b j : Nat} {cs : List T} {t t' : T} (hi : ob[i]? = some (b, .cells cs)) (hj : cs[j]? = some t) (ht : ∀ M v, Rel M t v → Rel M t' v) : Imp ts ob gl ts (ob.set i (b, .cells (cs.set j t'))) gl :=
  Imp.ob hi (fun M w h => by
    obtain ⟨C, t0, h1, h2, h3⟩ := h
    refine ⟨C, t0, h1, ?_, h3⟩
    obtain ⟨y, g1, g2⟩ := h2.get hj
    have h4 := h2.set j (ht M y g2)
    have e : C.toList.set j y = C.toList := by
      obtain ⟨hl, he⟩ := List.getElem?_eq_some_iff.1 g1
      rw [← he, List.set_getElem_self]
    rwa [e] at h4) (fun _ h => h)
theorem ptr_gp {i b o : Nat} (M : Pm) (v : Value) (h : Rel M (.ptr i b o) v) : Rel M (.gp b o) v := h
theorem gp_ptr {i b o : Nat} (M : Pm) (v : Value) (h : Rel M (.gp b o) v) : Rel M (.ptr i b o) v := h
theorem mp_v {i b : Nat} (M : Pm) (v : Value) (h : Rel M (.mp i b) v) : Rel M (.v (.map (some b))) v := h
theorem v_mp {i b : Nat} (M : Pm) (v : Value) (h : Rel M (.v (.map (some b))) v) : Rel M (.mp i b) v := h
end Go.Proofs.Ytafcbipmmjegcaa.Vm
