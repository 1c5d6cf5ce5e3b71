/- Texts of this claim: Vm4. -/
import Derived.Test.YtafcbipmmjegcaaMg5
namespace Go.Proofs.Ytafcbipmmjegcaa.Vm
open Go Go.RowKit
section
variable {P : Program} {s : S} {o : Oper} {k : T → Prop} {M : Pm} {a : Act} {h : Hint}
theorem sField {xt : TypeId} {x : Operand} {f : Nat} (ho : o.op = .field xt x f) (H : vField P s o h k xt x f) (r : RelL M s.fr a.tmps.toList) : Found P o a M k := by
 unfold vField at H
 split at H
 ·rename_i cs hx
  split at H
  ·rename_i fd hf
   obtain ⟨t, ht, hk⟩ := claim_some H
   have hr := eval_rel r x
   rw [hx] at hr
   simp only [Rel] at hr
   obtain ⟨ys, e, hr⟩ := hr
   obtain ⟨y, h1, h2⟩ := part_sound ht hr
   refine ⟨y, t, hk, h1, fun w => ?_⟩
   unfold fieldOf at hf
   split at hf
   ·rename_i fs hu
    unfold execOp
    rw [ho]
    refine run_value ?_
    simp [Instr.field, run_underlying hu, hf, e, asAgg, h2]
   ·cases hf
  ·exact H.elim
 ·exact flatK_sound H r
theorem sExtract {x : Operand} {i : Nat} (ho : o.op = .extract x i) (H : vExtract P s o h k x i) (r : RelL M s.fr a.tmps.toList) : Found P o a M k := by
 unfold vExtract at H
 split at H
 ·rename_i ts hx
  obtain ⟨t, ht, hk⟩ := claim_some H
  have hr := eval_rel r x
  rw [hx] at hr
  simp only [Rel] at hr
  obtain ⟨ys, e, hr⟩ := hr
  obtain ⟨y, h1, h2⟩ := hr.get ht
  rw [Array.getElem?_toList] at h1
  refine ⟨y, t, hk, h2, fun w => ?_⟩
  unfold execOp
  rw [ho]
  refine run_value ?_
  simp [Instr.extract, e, h1]
 ·exact flatK_sound H r
theorem sFieldAddr {xt : TypeId} {x : Operand} {f : Nat} (ho : o.op = .fieldAddr xt x f) (H : vFieldAddr P s o k xt x f) (r : RelL M s.fr a.tmps.toList) : Found P o a M k := by
 unfold vFieldAddr at H
 split at H
 rotate_left
 ·exact H.elim
 rename_i fd hf
 split at H
 rotate_left
 ·exact H.elim
 rename_i n hs
 have hr := eval_rel r x
 unfold fieldOf at hf
 split at hf
 rotate_left
 ·cases hf
 rename_i fs hu
 have hy : ∀ b m, a.eval x = .pointer (some ⟨b, m, none⟩) → Yield P o a (.pointer (some ⟨b, m + fd.offset, none⟩)) := fun b m e w => by
  unfold execOp
  rw [ho]
  refine run_value ?_
  simp [Instr.fieldAt, run_underlying hu, hf, e, Instr.sureAddr, fieldPlace, run_sizeOf hs, Addr.add_mid]
 split at H
 ·rename_i i b m hx
  rw [hx] at hr
  simp only [Rel] at hr
  exact ⟨_, _, H, by simp only [Rel], hy _ _ hr⟩
 ·rename_i b m hx
  rw [hx] at hr
  simp only [Rel] at hr
  exact ⟨_, _, H, by simp only [Rel], hy _ _ hr⟩
 ·rename_i cs hx
  rw [hx] at hr
  simp only [Rel] at hr
  obtain ⟨b, m, e, hr⟩ := hr
  exact ⟨_, _, H, by simp only [Rel]; exact ⟨_, _, rfl, hr.drop _⟩, hy _ _ e⟩
 ·exact flatK_sound H r
theorem sIndexSl {t : TypeId} {x ix : Operand} {e : TypeId} {i : Int} {j : IntKind} {kk : Nat} {es : List T} {A : Option Addr} {cap : Nat} (ho : o.op = .indexAddr t x ix) (hu : P.underlying t = some (.slice e)) (hi : a.eval ix = .int j i)
  (hx : a.eval x = .slice A es.length cap) (hd : Hdr A es.length cap) (hr : ∀ b o, A = some ⟨b, o, none⟩ → RelE M kk b es o) (H : vIndexSl P h k e i kk es) : Found P o a M k := by
 unfold vIndexSl at H
 split at H
 rotate_left
 ·exact H.elim
 rename_i n hs
 split at H
 rotate_left
 ·exact H.elim
 rename_i hk
 subst hk
 obtain ⟨h0, H⟩ := H
 obtain ⟨e1, he, hk⟩ := claim_some H
 have hlt : i.toNat < es.length := (List.getElem?_eq_some_iff.1 he).1
 obtain ⟨h1, -, h2, h3⟩ := hd
 cases A with
 | none => have := h2 rfl; omega
 | some ad =>
  have h4 := h3 ad rfl (by omega)
  obtain ⟨b, m, sp⟩ := ad
  simp only at h4
  subst h4
  refine ⟨.pointer (some ⟨b, m + i.toNat * n, none⟩), _, hk, ?_, fun w => ?_⟩
  ·simp only [Rel]
   exact ⟨_, _, rfl, (hr b m rfl).el he⟩
  ·unfold execOp
   rw [ho]
   refine run_value ?_
   have hlt' : i < (es.length : Int) := by omega
   simp [Instr.indexAt, run_underlying hu, hi, hx, asIntOf, h0, hlt', run_sizeOf hs, Addr.add_mid]
theorem sIndexAddr {t : TypeId} {x ix : Operand} (ho : o.op = .indexAddr t x ix) (H : vIndexAddr P s h k t x ix) (r : RelL M s.fr a.tmps.toList) : Found P o a M k := by
 unfold vIndexAddr at H
 split at H
 rotate_left
 ·exact H.elim
 rename_i j i hi
 have hi := intT_rel hi (eval_rel r ix)
 have hr := eval_rel r x
 split at H
 ·rename_i len e hel
  split at H
  rotate_left
  ·exact H.elim
  rename_i n hs
  obtain ⟨⟨h0, h1⟩, H⟩ := H
  have hu : P.underlying t = some (.array len e) := by
   unfold elemOfT at hel
   split at hel
   ·rename_i hu; injection hel with hel; injection hel with h1 h2; injection h1 with h1; subst h1 h2; exact hu
   ·injection hel with hel; injection hel with h1 h2; cases h1
   ·cases hel
  have hy : ∀ b m, a.eval x = .pointer (some ⟨b, m, none⟩) → Yield P o a (.pointer (some ⟨b, m + i.toNat * n, none⟩)) := fun b m e w => by
   unfold execOp
   rw [ho]
   refine run_value ?_
   simp [Instr.indexAt, run_underlying hu, hi, e, Instr.sureAddr, asIntOf, h0, h1, run_sizeOf hs, Addr.add_mid]
  split at H
  ·rename_i i' b m hx
   rw [hx] at hr
   simp only [Rel] at hr
   exact ⟨_, _, H, by simp only [Rel], hy _ _ hr⟩
  ·rename_i b m hx
   rw [hx] at hr
   simp only [Rel] at hr
   exact ⟨_, _, H, by simp only [Rel], hy _ _ hr⟩
  ·rename_i cs hx
   rw [hx] at hr
   simp only [Rel] at hr
   obtain ⟨b, m, e, hr⟩ := hr
   exact ⟨_, _, H, by simp only [Rel]; exact ⟨_, _, rfl, hr.drop _⟩, hy _ _ e⟩
  ·exact H.elim
 ·rename_i e hel
  have hu : P.underlying t = some (.slice e) := by
   unfold elemOfT at hel
   split at hel
   ·injection hel with hel; injection hel with h1 h2; cases h1
   ·rename_i hu; injection hel with hel; injection hel with h1 h2; subst h2; exact hu
   ·cases hel
  split at H
  ·rename_i kk es hx
   rw [hx] at hr
   simp only [Rel] at hr
   obtain ⟨A, cap, e1, hd, -, hr⟩ := hr
   exact sIndexSl ho hu hi e1 hd hr H
  ·rename_i kk i' es x' hx
   rw [hx] at hr
   simp only [Rel] at hr
   obtain ⟨e0, A, cap, e1, hd, -, hr⟩ := hr
   exact sIndexSl ho hu hi (e0.trans e1) hd hr H
  ·rename_i jj b m n cap hx
   rw [hx] at hr
   simp only [Rel] at hr
   split at H
   rotate_left
   ·exact H.elim
   rename_i z hs
   obtain ⟨⟨h0, h1⟩, H⟩ := H
   refine ⟨.pointer (some ⟨b, m + i.toNat * z, none⟩), _, H, by simp only [Rel], fun w => ?_⟩
   unfold execOp
   rw [ho]
   refine run_value ?_
   simp [Instr.indexAt, run_underlying hu, hi, hr.1, asIntOf, h0, h1, run_sizeOf hs, Addr.add_mid]
  ·exact H.elim
 ·exact H.elim
theorem sIndex {t : TypeId} {x ix : Operand} (ho : o.op = .index t x ix) (H : vIndex P s h k t x ix) (r : RelL M s.fr a.tmps.toList) : Found P o a M k := by
 unfold vIndex at H
 split at H
 rotate_left
 ·exact H.elim
 rename_i j i hi
 have hi := intT_rel hi (eval_rel r ix)
 have hr := eval_rel r x
 split at H
 ·rename_i cs hx
  rw [hx] at hr
  simp only [Rel] at hr
  obtain ⟨ys, e0, hr⟩ := hr
  split at H
  rotate_left
  ·exact H.elim
  rename_i len e hel
  have hu : P.underlying t = some (.array len e) := by
   unfold elemOfT at hel
   split at hel
   ·rename_i hu; injection hel with hel; injection hel with h1 h2; injection h1 with h1; subst h1 h2; exact hu
   ·injection hel with hel; injection hel with h1 h2; cases h1
   ·cases hel
  split at H
  rotate_left
  ·exact H.elim
  rename_i n hs
  obtain ⟨⟨h0, h1⟩, H⟩ := H
  obtain ⟨u, hp, hk⟩ := claim_some H
  obtain ⟨y, h2, h3⟩ := part_sound hp hr
  refine ⟨y, u, hk, h2, fun w => ?_⟩
  unfold execOp
  rw [ho]
  refine run_value ?_
  simp [Instr.index, run_underlying hu, hi, e0, asIntOf, h0, h1, run_sizeOf hs, h3]
 ·rename_i z hx
  rw [hx] at hr
  simp only [Rel] at hr
  split at H
  rotate_left
  ·exact H.elim
  rename_i hu
  obtain ⟨h0, H⟩ := H
  obtain ⟨u, hp, hk⟩ := claim_some H
  simp only [Option.map_eq_some_iff] at hp
  obtain ⟨c, hc, rfl⟩ := hp
  refine ⟨.int .u8 c.toNat, _, hk, by simp only [Rel], fun w => ?_⟩
  unfold execOp
  rw [ho]
  refine run_value ?_
  simp [Instr.index, run_underlying hu, hi, hr, asIntOf, h0, hc]
 ·exact H.elim
theorem boundT_run {d : Nat} {x : Option Operand} {l : Int} (hb : boundT s d x = some l) (r : RelL M s.fr a.tmps.toList) : (x = none ∧ l = d) ∨ ∃ y j, x = some y ∧ a.eval y = .int j l := by
 cases x with
 | none => simp only [boundT, Option.some.injEq] at hb; exact .inl ⟨rfl, hb.symm⟩
 | some y =>
  simp only [boundT, Option.map_eq_some_iff] at hb
  obtain ⟨⟨j, i⟩, h1, rfl⟩ := hb
  exact .inr ⟨y, j, rfl, intT_rel h1 (eval_rel r y)⟩
theorem run_sliceBounds {lo hi : Option Operand} {l u : Int} {len cap : Nat} {isS : Bool} (hl : (lo = none ∧ l = 0) ∨ ∃ y j, lo = some y ∧ a.eval y = .int j l) (hu : (hi = none ∧ u = len) ∨ ∃ y j, hi = some y ∧ a.eval y = .int j u) (h0 : 0 ≤ l) (h1 : l ≤ u) (h2 : u ≤ (len : Int)) (hc : len ≤ cap) (w : World) :
  (Instr.sliceBounds isS len cap (lo.map a.eval) (hi.map a.eval) none).run P w = .ok (l.toNat, u.toNat, cap) w := by
 have hu0 : 0 ≤ u := by omega
 have huc : u ≤ (cap : Int) := by omega
 have hlu : l ≤ (u.toNat : Int) := by omega
 rcases hl with ⟨rfl, rfl⟩ | ⟨y, j, rfl, hy⟩ <;> rcases hu with ⟨rfl, rfl⟩ | ⟨z, j', rfl, hz⟩
 ·simp [Instr.sliceBounds]
 ·simp [Instr.sliceBounds, Instr.sliceBound, hz, asIntOf, hu0, huc]
 ·simp [Instr.sliceBounds, Instr.sliceBound, hy, asIntOf, h0, h1]
 ·simp [Instr.sliceBounds, Instr.sliceBound, hy, hz, asIntOf, h0, hu0, huc]
  intro hh
  omega
theorem sSliceSl {t : TypeId} {x : Operand} {lo hi : Option Operand} {e : TypeId} {kk : Nat} {es : List T} {A : Option Addr} {cap : Nat} (ho : o.op = .slice t x lo hi none) (hu : P.underlying t = some (.slice e))
  (hx : a.eval x = .slice A es.length cap) (hd : Hdr A es.length cap) (hl : El elCells kk es) (hr : ∀ b o, A = some ⟨b, o, none⟩ → RelE M kk b es o) (r : RelL M s.fr a.tmps.toList) (H : vSliceSl P s k e kk es lo hi) : Found P o a M k := by
 unfold vSliceSl at H
 split at H
 rotate_left
 ·exact H.elim
 rename_i n hs
 split at H
 rotate_left
 ·exact H.elim
 rename_i hk
 subst hk
 split at H
 rotate_left
 ·exact H.elim
 rename_i l u h1 h2
 obtain ⟨⟨g0, g1, g2⟩, H⟩ := H
 have b1 := boundT_run h1 r
 have b2 := boundT_run h2 r
 have hlen : ((es.take u.toNat).drop l.toNat).length = u.toNat - l.toNat := by simp; omega
 obtain ⟨d1, d2, d3, d4⟩ := hd
 refine ⟨.slice (if cap = l.toNat then A else A.map (·.add (l.toNat * n))) (u.toNat - l.toNat) (cap - l.toNat), _, H, ?_, fun w => ?_⟩
 ·simp only [Rel, hlen]
  refine ⟨_, _, rfl, ⟨by omega, by omega, fun e0 => ?_, fun ad e0 hc0 => ?_⟩, fun e1 he1 => hl e1 (List.mem_of_mem_take (List.mem_of_mem_drop he1)), fun b m e0 => ?_⟩
  ·cases A with
   | none => have := d3 rfl; omega
   | some ad => split at e0 <;> simp at e0
  ·split at e0
   ·exact d4 ad e0 (by omega)
   ·simp only [Option.map_eq_some_iff] at e0
    obtain ⟨c, hc, rfl⟩ := e0
    have := d4 c hc (by omega)
    unfold Addr.add
    split <;> simp [this]
  ·split at e0
   ·have : (es.take u.toNat).drop l.toNat = [] := List.eq_nil_of_length_eq_zero (by omega)
    rw [this]
    simp only [RelE]
   ·simp only [Option.map_eq_some_iff] at e0
    obtain ⟨c, hc, e0⟩ := e0
    obtain ⟨cb, co, cs⟩ := c
    have := d4 _ hc (by omega)
    simp only at this
    subst this
    rw [Addr.add_mid] at e0
    injection e0 with e1 e2
    subst e1 e2
    exact ((hr _ _ hc).take _).drop _
 ·unfold execOp
  rw [ho]
  refine run_value ?_
  have e1 := run_sliceBounds (P := P) (a := a) (isS := true) (cap := cap) b1 b2 g0 g1 g2 d1 w
  simp [Instr.sliceAt, Instr.slice, run_underlying hu, hx, e1, run_sizeOf hs]
theorem run_sliceBounds3 {lo hi mx : Option Operand} {l u m : Int} {len cap : Nat} (hl : (lo = none ∧ l = 0) ∨ ∃ y j, lo = some y ∧ a.eval y = .int j l) (hu : (hi = none ∧ u = len) ∨ ∃ y j, hi = some y ∧ a.eval y = .int j u)
  (hm : (mx = none ∧ m = cap) ∨ ∃ y j, mx = some y ∧ a.eval y = .int j m) (hx : mx = none ∨ hi ≠ none) (h0 : 0 ≤ l) (h1 : l ≤ u) (h2 : u ≤ m) (h3 : m ≤ (cap : Int)) (w : World) :
  (Instr.sliceBounds true len cap (lo.map a.eval) (hi.map a.eval) (mx.map a.eval)).run P w = .ok (l.toNat, u.toNat, m.toNat) w := by
 have hu0 : 0 ≤ u := by omega
 have hm0 : 0 ≤ m := by omega
 have huc : u ≤ (cap : Int) := by omega
 have hlu : l ≤ (u.toNat : Int) := by omega
 have hum : u ≤ (m.toNat : Int) := by omega
 rcases hm with ⟨rfl, rfl⟩ | ⟨q, j3, rfl, hq⟩
 ·rcases hl with ⟨rfl, rfl⟩ | ⟨y, j, rfl, hy⟩ <;> rcases hu with ⟨rfl, rfl⟩ | ⟨z, j', rfl, hz⟩
  ·simp [Instr.sliceBounds]
  ·simp [Instr.sliceBounds, Instr.sliceBound, hz, asIntOf, hu0, huc]
  ·simp [Instr.sliceBounds, Instr.sliceBound, hy, asIntOf, h0, h1]
  ·simp [Instr.sliceBounds, Instr.sliceBound, hy, hz, asIntOf, h0, hu0, huc]
   intro hh; omega
 ·rcases hu with ⟨rfl, rfl⟩ | ⟨z, j', rfl, hz⟩
  ·exact absurd rfl (hx.resolve_left (by simp))
  ·rcases hl with ⟨rfl, rfl⟩ | ⟨y, j, rfl, hy⟩
   ·simp [Instr.sliceBounds, Instr.sliceBound, hz, hq, asIntOf, hu0, hm0, h3]
    intro hh; omega
   ·simp [Instr.sliceBounds, Instr.sliceBound, hy, hz, hq, asIntOf, h0, hu0, hm0, h3]
    rw [if_pos (by omega), if_pos (by omega)]
theorem sSliceSa {t : TypeId} {x : Operand} {lo hi mx : Option Operand} {e : TypeId} {j b off n cap : Nat} (ho : o.op = .slice t x lo hi mx) (hu : P.underlying t = some (.slice e))
  (hx : s.eval x = .sa j b off n cap) (r : RelL M s.fr a.tmps.toList) (H : vSliceSa P s k e j b off n cap lo hi mx) : Found P o a M k := by
 have hr := eval_rel r x
 rw [hx] at hr
 simp only [Rel] at hr
 obtain ⟨hr, hn, hc⟩ := hr
 unfold vSliceSa at H
 split at H
 rotate_left
 ·exact H.elim
 rename_i z l u m hz h1 h2 h3
 split at H
 rotate_left
 ·exact H.elim
 rename_i hm0
 obtain ⟨⟨g0, g1, g2, g3⟩, H1, H2⟩ := H
 have hm : mx = none ∨ hi ≠ none := by cases mx <;> cases hi <;> simp_all
 have e1 := run_sliceBounds3 (P := P) (a := a) (boundT_run h1 r) (boundT_run h2 r) (boundT_run h3 r) hm g0 g1 g2 g3
 have run : ∀ w, (execOp a.eval o).run P w = .ok (.value (.slice (if m.toNat = l.toNat then some ⟨b, off, none⟩ else some ⟨b, off + l.toNat * z, none⟩) (u.toNat - l.toNat) (m.toNat - l.toNat))) w := fun w => by
  unfold execOp
  rw [ho]
  refine run_value ?_
  have := e1 w
  simp [Instr.sliceAt, Instr.slice, run_underlying hu, hr, this, run_sizeOf hz]
  split <;> simp [Addr.add_mid]
 by_cases hlm : l = m
 ·refine ⟨_, _, H2 hlm, ?_, run⟩
  simp only [Rel]
  rw [if_pos (by omega)]
  refine ⟨?_, by omega, by omega⟩
  rw [show u.toNat - l.toNat = 0 by omega, show m.toNat - l.toNat = 0 by omega]
 ·refine ⟨_, _, H1 (by omega), ?_, run⟩
  simp only [Rel]
  rw [if_neg (by omega)]
  exact ⟨rfl, by omega, by omega⟩
theorem sSlice0 {t : TypeId} {x : Operand} {lo hi mx : Option Operand} {e : TypeId} {A : Option Addr} {n cap : Nat} (ho : o.op = .slice t x lo hi mx) (hu : P.underlying t = some (.slice e)) (hz : ∃ z, sizeT P e = some z)
  (hx : a.eval x = .slice A n cap) (r : RelL M s.fr a.tmps.toList) (H : vSlice0 s k lo hi mx) : Found P o a M k := by
 obtain ⟨z, hz⟩ := hz
 unfold vSlice0 at H
 split at H
 rotate_left
 ·exact H.elim
 rename_i h1 h2 h3
 have b1 := boundT_run h1 r
 have b2 := boundT_run h2 r
 have b3 := boundT_run h3 r
 have b2' : ∃ y j, hi = some y ∧ a.eval y = .int j 0 := b2.elim (fun h => absurd h.2 (by decide)) id
 have b3' : ∃ y j, mx = some y ∧ a.eval y = .int j 0 := b3.elim (fun h => absurd h.2 (by decide)) id
 have e1 := run_sliceBounds3 (P := P) (a := a) (lo := lo) (hi := hi) (mx := mx) (l := 0) (u := 0) (m := 0) (len := n) (cap := cap) b1 (.inr b2') (.inr b3') (.inr (by obtain ⟨y, j, rfl, _⟩ := b2'; simp)) (Int.le_refl _) (Int.le_refl _) (Int.le_refl _) (by omega)
 refine ⟨.slice A 0 0, _, H, by simp only [Rel]; exact ⟨A, rfl⟩, fun w => ?_⟩
 unfold execOp
 rw [ho]
 refine run_value ?_
 have := e1 w
 simp [Instr.sliceAt, Instr.slice, run_underlying hu, hx, this, run_sizeOf hz]
theorem sSlice3 {t : TypeId} {x : Operand} {lo hi mx : Option Operand} (ho : o.op = .slice t x lo hi mx) (H : vSlice3 P s k t x lo hi mx) (r : RelL M s.fr a.tmps.toList) : Found P o a M k := by
 unfold vSlice3 at H
 have hr := eval_rel r x
 split at H
 rotate_left
 ·exact H.elim
 rename_i e hu
 split at H
 ·rename_i j b off n cap hx
  exact sSliceSa ho hu hx r H
 ·rename_i kk es hx
  rw [hx] at hr
  simp only [Rel] at hr
  obtain ⟨A, cap, e1, _⟩ := hr
  split at H
  ·rename_i z hz; exact sSlice0 ho hu ⟨z, hz⟩ e1 r H
  ·exact H.elim
 ·rename_i kk i es x' hx
  rw [hx] at hr
  simp only [Rel] at hr
  obtain ⟨e0, A, cap, e1, _⟩ := hr
  split at H
  ·rename_i z hz; exact sSlice0 ho hu ⟨z, hz⟩ (e0.trans e1) r H
  ·exact H.elim
 ·exact H.elim
theorem sSliceX {t : TypeId} {x : Operand} {lo hi mx : Option Operand} (ho : o.op = .slice t x lo hi mx) (H : vSliceX P s k t x lo hi mx) (r : RelL M s.fr a.tmps.toList) : Found P o a M k := by
 unfold vSliceX at H
 have hr := eval_rel r x
 split at H
 rotate_left
 ·exact H.elim
 rename_i e kk i es v hu hx
 rw [hx] at hr
 simp only [Rel] at hr
 obtain ⟨ev, A, cap, e1, ⟨d1, d2, d3, d4⟩, hl, hre⟩ := hr
 split at H
 rotate_left
 ·exact H.elim
 rename_i n hs
 split at H
 rotate_left
 ·exact H.elim
 rename_i hk
 subst hk
 split at H
 rotate_left
 ·exact H.elim
 rename_i l h1
 obtain ⟨⟨g0, g1⟩, H⟩ := H
 have b1 := boundT_run h1 r
 have hlen : (es.drop l.toNat).length = es.length - l.toNat := by simp
 have ex : a.eval x = .slice A es.length cap := ev.trans e1
 refine ⟨sufV n l.toNat v, _, H, ?_, fun w => ?_⟩
 ·rw [e1]
  simp only [Rel, hlen, sufV]
  refine ⟨trivial, _, _, rfl, ⟨by omega, by omega, fun e0 => ?_, fun ad e0 hc0 => ?_⟩, fun e1 he1 => hl e1 (List.mem_of_mem_drop he1), fun b m e0 => ?_⟩
  ·cases A with
   | none => have := d3 rfl; omega
   | some ad => split at e0 <;> simp at e0
  ·split at e0
   ·exact d4 ad e0 (by omega)
   ·simp only [Option.map_eq_some_iff] at e0
    obtain ⟨c, hc, rfl⟩ := e0
    have := d4 c hc (by omega)
    unfold Addr.add
    split <;> simp [this]
  ·split at e0
   ·have : es.drop l.toNat = [] := List.eq_nil_of_length_eq_zero (by omega)
    rw [this]
    simp only [RelE]
   ·simp only [Option.map_eq_some_iff] at e0
    obtain ⟨c, hc, e0⟩ := e0
    obtain ⟨cb, co, cs⟩ := c
    have := d4 _ hc (by omega)
    simp only at this
    subst this
    rw [Addr.add_mid] at e0
    injection e0 with e1 e2
    subst e1 e2
    exact (hre _ _ hc).drop _
 ·unfold execOp
  rw [ho]
  refine run_value ?_
  have e2 := run_sliceBounds (P := P) (a := a) (isS := true) (cap := cap) (lo := lo) (hi := none) (u := (es.length : Int)) b1 (.inl ⟨rfl, rfl⟩) g0 g1 (Int.le_refl _) d1 w
  simp only [Int.toNat_natCast, Option.map_none] at e2
  rw [e1]
  simp [Instr.sliceAt, Instr.slice, run_underlying hu, ex, e2, run_sizeOf hs, sufV]
theorem sSlice {t : TypeId} {x : Operand} {lo hi mx : Option Operand} (ho : o.op = .slice t x lo hi mx) (H : vSlice P s k t x lo hi mx) (r : RelL M s.fr a.tmps.toList) : Found P o a M k := by
 unfold vSlice at H
 cases mx with
 | some m => exact sSlice3 ho H r
 | none =>
 simp only at H
 have hr := eval_rel r x
 split at H
 ·rename_i z hx
  rw [hx] at hr
  simp only [Rel] at hr
  split at H
  rotate_left
  ·exact H.elim
  rename_i hu
  split at H
  rotate_left
  ·exact H.elim
  rename_i l u h1 h2
  obtain ⟨⟨g0, g1, g2⟩, H⟩ := H
  have b1 := boundT_run h1 r
  have b2 := boundT_run h2 r
  refine ⟨.string (z.extract l.toNat u.toNat), _, H, by simp only [Rel], fun w => ?_⟩
  unfold execOp
  rw [ho]
  refine run_value ?_
  have e1 := run_sliceBounds (P := P) (a := a) (isS := false) (cap := z.size) b1 b2 g0 g1 g2 (Nat.le_refl _) w
  simp [Instr.sliceAt, Instr.slice, run_underlying hu, hr, e1]
 ·rename_i kk es hx
  rw [hx] at hr
  simp only [Rel] at hr
  obtain ⟨A, cap, e1, hd, hl, hr⟩ := hr
  split at H
  rotate_left
  ·exact H.elim
  rename_i e hu
  exact sSliceSl ho hu e1 hd hl hr r H
 ·rename_i kk i es x' hx
  rw [hx] at hr
  simp only [Rel] at hr
  obtain ⟨e0, A, cap, e1, hd, hl, hr⟩ := hr
  split at H
  rotate_left
  ·exact H.elim
  rename_i e hu
  exact sSliceSl ho hu (e0.trans e1) hd hl hr r H
 ·exact sSlice3 ho H r
 ·rename_i j b m hx
  rw [hx] at hr
  simp only [Rel] at hr
  split at H
  rotate_left
  ·exact H.elim
  split at H
  rotate_left
  ·exact H.elim
  rename_i n e he
  split at H
  rotate_left
  ·exact H.elim
  rename_i z hz
  split at H
  rotate_left
  ·exact H.elim
  rename_i hn
  have hua : P.underlying t = some (.array n e) := by
   unfold elemOfT at he
   split at he
   ·rename_i hu2; injection he with he; injection he with h1 h2; injection h1 with h1; subst h1 h2; exact hu2
   ·injection he with he; injection he with h1 h2; cases h1
   ·cases he
  refine ⟨.slice (some ⟨b, m, none⟩) n n, _, H, by simp [Rel, hn], fun w => ?_⟩
  unfold execOp
  rw [ho]
  refine run_value ?_
  have e1 : (Instr.sliceBounds false n n none none none).run P w = .ok (0, n, n) w := rfl
  by_cases h0 : n = 0
  ·subst h0
   simp [Instr.sliceAt, Instr.slice, run_underlying hua, hr, e1, run_sizeOf hz, Instr.sureAddr]
  ·simp [Instr.sliceAt, Instr.slice, run_underlying hua, hr, e1, run_sizeOf hz, Instr.sureAddr, h0, Addr.add]
 ·exact H.elim
theorem sSliceH {h : Hint} {t : TypeId} {x : Operand} {lo hi mx : Option Operand} (ho : o.op = .slice t x lo hi mx) (H : vSliceH P s h k t x lo hi mx) (r : RelL M s.fr a.tmps.toList) : Found P o a M k := by
 unfold vSliceH at H
 split at H
 ·exact sSliceX ho H r
 ·exact sSlice ho H r
theorem sNil {x : Operand} (ho : o.op = .nilCheck x) (H : vNil P s o k x) (r : RelL M s.fr a.tmps.toList) : Found P o a M k := by
 unfold vNil at H
 have hr := eval_rel r x
 have hp : ∀ b m, a.eval x = .pointer (some ⟨b, m, none⟩) → Yield P o a (.pointer (some ⟨b, m, none⟩)) := fun b m e w => by
  unfold execOp
  rw [ho]
  simp [e]
 split at H
 ·rename_i i b n hx
  rw [hx] at hr
  have hr' := hr
  simp only [Rel] at hr'
  exact ⟨_, _, H, hr' ▸ hr, hp _ _ hr'⟩
 ·rename_i b n hx
  rw [hx] at hr
  have hr' := hr
  simp only [Rel] at hr'
  exact ⟨_, _, H, hr' ▸ hr, hp _ _ hr'⟩
 ·rename_i cs hx
  rw [hx] at hr
  have hr' := hr
  simp only [Rel] at hr'
  obtain ⟨b, m, e, _⟩ := hr'
  exact ⟨_, _, H, e ▸ hr, hp _ _ e⟩
 ·rename_i f cs hx
  rw [hx] at hr
  have hr' := hr
  simp only [Rel] at hr'
  obtain ⟨ys, e, _⟩ := hr'
  refine ⟨_, _, H, e ▸ hr, fun w => ?_⟩
  unfold execOp
  rw [ho]
  simp [e]
 ·rename_i f cs hx
  rw [hx] at hr
  have hr' := hr
  simp only [Rel] at hr'
  obtain ⟨ys, e, _⟩ := hr'
  refine ⟨_, _, H, e ▸ hr, fun w => ?_⟩
  unfold execOp
  rw [ho]
  simp [e]
 ·exact flatK_sound H r
theorem setRange_rel {off : Nat} : ∀ {ts : List T} {us : List Value} {n : Nat} {cs : List T} {ys : Array Value}, RelL M ts us → RelL M cs ys.toList →
  RelL M ((ts.zipIdx n).foldl (fun cs (c, j) => cs.set (off + j) c) cs) ((us.zipIdx n).foldl (fun cs (c, j) => cs.setIfInBounds (off + j) c) ys).toList
 | [], us, n, cs, ys, r, r' => by simp only [RelL] at r; subst r; simpa using r'
 | t :: ts, us, n, cs, ys, r, r' => by
  simp only [RelL] at r
  obtain ⟨u, us, rfl, r1, r2⟩ := r
  simp only [List.zipIdx_cons, List.foldl_cons]
  exact setRange_rel r2 (by rw [Array.toList_setIfInBounds]; exact r'.set _ r1)
theorem fillT_rel {place : Nat → Option (Nat × Nat)} : ∀ {parts : List (Nat × T)} {ps : List (Nat × Value)} {cs : List T} {ys : Array Value} {cs' : List T}, ps.map (·.1) = parts.map (·.1) → RelL M (parts.map (·.2)) (ps.map (·.2)) → RelL M cs ys.toList → fillT place cs parts = some cs' →
  ∃ ys', Instr.fill place ys ps = some ys' ∧ RelL M cs' ys'.toList
 | [], ps, cs, ys, cs', hi, _, r, hf => by
  simp only [List.map_nil, List.map_eq_nil_iff] at hi
  subst hi
  simp only [fillT, Option.some.injEq] at hf
  subst hf
  exact ⟨ys, rfl, r⟩
 | (i, t) :: parts, ps, cs, ys, cs', hi, hp, r, hf => by
  cases ps with
  | nil => simp at hi
  | cons p ps =>
   obtain ⟨j, y⟩ := p
   simp only [List.map_cons, List.cons.injEq] at hi
   obtain ⟨rfl, hi⟩ := hi
   simp only [List.map_cons, RelL] at hp
   obtain ⟨u, us, e, r1, r2⟩ := hp
   injection e with e1 e2
   subst e1 e2
   simp only [fillT] at hf
   split at hf
   ·cases hf
   ·rename_i off size hpl
    split at hf
    ·cases hf
    ·rename_i hc
     simp only [Bool.or_eq_true, not_or, decide_eq_true_eq, bne_iff_ne, ne_eq, Decidable.not_not] at hc
     obtain ⟨⟨hc1, hc2⟩, hc3⟩ := hc
     have hu : t ≠ .und := fun e => hc1 (by rw [e]; rfl)
     have rc := rel_cells hu r1
     have hsz : y.cells.size = t.cells.length := by rw [← rc.len]; simp
     have hys : ys.size = cs.length := by rw [← r.len]; simp
     have := setRange_rel (off := off) (n := 0) rc r
     have e1 : (y.cells.toList.zipIdx.foldl (fun cs (c, j) => cs.setIfInBounds (off + j) c) ys) = y.cells.zipIdx.foldl (fun cs (c, j) => cs.setIfInBounds (off + j) c) ys := by
      rw [← Array.foldl_toList, Array.toList_zipIdx]
     rw [e1] at this
     obtain ⟨ys', h1, h2⟩ := fillT_rel hi r2 this hf
     refine ⟨ys', ?_, h2⟩
     unfold Instr.fill
     rw [hpl]
     simp only
     rw [if_neg (by simp [hsz, hys, hc2]; omega)]
     exact h1
theorem placesOf_run {fs : List Field} : ∀ {l : List (Nat × Nat)}, placesOf P fs = some l → ∀ w, (fs.mapM (fun f => Prod.mk f.offset <$> sizeOf f.type) : Sem (List (Nat × Nat))).run P w = .ok l w := by
 induction fs with
 | nil => intro l h w; simp only [placesOf, Option.some.injEq] at h; subst h; rfl
 | cons f fs ih =>
  intro l h w
  simp only [placesOf] at h
  split at h
  ·rename_i n l' h1 h2
   injection h with h
   subst h
   simp [List.mapM_cons, run_sizeOf h1, ih h2 w]
  ·cases h
theorem zeroT_run {t : TypeId} {z : List T} (h : zeroT P t = some z) : ∃ y, (∀ w, (zeroValue t).run P w = .ok y w) ∧ RelL M z y.cells.toList ∧ z = y.cells.toList.map T.v := by
 unfold zeroT at h
 simp only [Option.map_eq_some_iff, Option.bind_eq_some_iff] at h
 obtain ⟨y, ⟨i, h1, h2⟩, rfl⟩ := h
 exact ⟨y, fun w => by simp [zeroValue, typeInfo, h1, h2], RelL.vs _, rfl⟩
theorem parts_rel (r : RelL M s.fr a.tmps.toList) : ∀ (l : List (Nat × Operand)), RelL M ((l.map fun p => (p.1, s.eval p.2)).map (·.2)) ((l.map fun p => (p.1, a.eval p.2)).map (·.2))
 | [] => by simp only [List.map_nil, RelL]
 | p :: l => by simp only [List.map_cons, RelL]; exact ⟨_, _, rfl, eval_rel r _, parts_rel r l⟩
theorem sBuild {t : TypeId} {parts : Array (Nat × Operand)} (ho : o.op = .build t parts) (H : vBuild P s h k t parts) (r : RelL M s.fr a.tmps.toList) : Found P o a M k := by
 unfold vBuild at H
 split at H
 rotate_left
 ·exact H.elim
 rename_i z place hz hp
 obtain ⟨u, hu, hk⟩ := claim_some H
 simp only [Option.map_eq_some_iff] at hu
 obtain ⟨cs, hf, rfl⟩ := hu
 obtain ⟨y, hy, rz, -⟩ := zeroT_run (M := M) hz
 obtain ⟨ys', h1, h2⟩ := fillT_rel (ps := parts.toList.map fun p => (p.1, a.eval p.2)) (by simp [List.map_map, Function.comp_def]) (parts_rel r parts.toList) rz hf
 refine ⟨.agg ys', _, hk, by simp only [Rel]; exact ⟨_, rfl, h2⟩, fun w => ?_⟩
 have e0 : (parts.map fun (i, x) => (i, a.eval x)).toList = parts.toList.map fun p => (p.1, a.eval p.2) := by rw [Array.toList_map]
 unfold execOp
 rw [ho]
 refine run_value ?_
 unfold placeOf at hp
 split at hp
 ·rename_i fs hun
  simp only [Option.map_eq_some_iff] at hp
  obtain ⟨l, hl, rfl⟩ := hp
  have h3 := placesOf_run hl w
  have h4 : ((fs.mapM fun f => do pure (f.offset, ← sizeOf f.type)) : Sem (Array (Nat × Nat))).run P w = .ok l.toArray w := by
   rw [Array.mapM_eq_mapM_toList]
   simp only [bind_pure_comp]
   simp [h3]
  simp only [Instr.build, Sem.run_bind, hy, run_underlying hun, Result.andThen_ok, h4]
  rw [e0, show (fun x => l.toArray[x]?) = (fun i => l[i]?) from by funext i; simp, h1]
  rfl
 ·rename_i n e hun
  simp only [Option.map_eq_some_iff] at hp
  obtain ⟨n, hn, rfl⟩ := hp
  simp only [Instr.build, Sem.run_bind, hy, run_underlying hun, Result.andThen_ok, run_sizeOf hn]
  rw [e0, h1]
  rfl
 ·cases hp
theorem sLen {c : Call} (ho : o.op = .call c) (H : vLen P s o k c) (r : RelL M s.fr a.tmps.toList) : Found P o a M k := by
 unfold vLen at H
 split at H
 rotate_left
 ·exact flatK_sound H r
 rename_i x t h1 h2 h3
 obtain ⟨callee, args, tys⟩ := c
 simp only at h1 h2 h3
 obtain ⟨args⟩ := args
 obtain ⟨tys⟩ := tys
 simp only at h2 h3
 subst h1 h2 h3
 have hr := eval_rel r x
 have hy : ∀ A n cap e, P.underlying t = some (.slice e) → a.eval x = .slice A n cap → Yield P o a (.int .i64 n) := fun A n cap e hu hx w => by
  unfold execOp
  rw [ho]
  simp [resolve, invoke, builtin, Builtin.len_, run_underlying hu, hx, goInt]
 split at H
 ·rename_i kk es hx
  rw [hx] at hr
  simp only [Rel] at hr
  obtain ⟨A, cap, e1, _⟩ := hr
  split at H
  ·rename_i e hu
   exact ⟨_, _, H, by simp only [Rel], hy _ _ _ _ hu e1⟩
  ·exact H.elim
 ·rename_i kk i es x' hx
  rw [hx] at hr
  simp only [Rel] at hr
  obtain ⟨e0, A, cap, e1, _⟩ := hr
  split at H
  ·rename_i e hu
   exact ⟨_, _, H, by simp only [Rel], hy _ _ _ _ hu (e0.trans e1)⟩
  ·exact H.elim
 ·exact flatK_sound H r
theorem evals_rel (r : RelL M s.fr a.tmps.toList) : ∀ (l : List Operand), RelL M (l.map s.eval) (l.map a.eval)
 | [] => by simp only [List.map_nil, RelL]
 | x :: l => by simp only [List.map_cons, RelL]; exact ⟨_, _, rfl, eval_rel r _, evals_rel r l⟩
theorem sMakeFunc {fn : Fn} {first captured : Array Operand} (ho : o.op = .makeFunc fn first captured) (H : vMakeFunc P s o k fn first captured) (r : RelL M s.fr a.tmps.toList) : Found P o a M k := by
 unfold vMakeFunc at H
 split at H
 ·rename_i f hfi
  obtain ⟨first⟩ := first
  simp only at hfi
  subst hfi
  refine ⟨.func (.func f) #[] (captured.map a.eval), _, H, ?_, fun w => ?_⟩
  ·simp only [Rel]
   exact ⟨_, rfl, by rw [Array.toList_map]; exact evals_rel r _⟩
  ·unfold execOp
   rw [ho]
   simp [Instr.makeFunc]
 ·rename_i f _ _ hfi hci
  obtain ⟨captured⟩ := captured
  simp only at hci
  subst hci
  refine ⟨.func (.func f) (first.map a.eval) #[], _, H, ?_, fun w => ?_⟩
  ·simp only [Rel]
   exact ⟨_, rfl, by rw [Array.toList_map]; exact evals_rel r _⟩
  ·unfold execOp
   rw [ho]
   simp [Instr.makeFunc]
 ·exact flatK_sound H r
theorem sClaim {u : T} {v : Value} (H : claim h (some u) k) (hr : Rel M u v) (hy : Yield P o a v) : Found P o a M k := by
 obtain ⟨t, ht, hk⟩ := claim_some H
 injection ht with ht
 subst ht
 exact ⟨v, _, hk, hr, hy⟩
theorem nilSl_rel {x : T} {v : Value} {es : List T} (h : nilSl x = some es) (r : Rel M x v) : ∃ A n cap, v = .slice A n cap ∧ (A = none → es = []) := by
 unfold nilSl at h
 split at h
 ·injection h with h; subst h
  simp only [Rel] at r
  obtain ⟨A, cap, rfl, hd, _⟩ := r
  exact ⟨A, _, cap, rfl, fun e => List.eq_nil_of_length_eq_zero (hd.2.2.1 e).1⟩
 ·injection h with h; subst h
  simp only [Rel] at r
  obtain ⟨e0, A, cap, e1, hd, _⟩ := r
  exact ⟨A, _, cap, e0.trans e1, fun e => List.eq_nil_of_length_eq_zero (hd.2.2.1 e).1⟩
 ·injection h with h; subst h
  simp only [Rel] at r
  obtain ⟨A, rfl⟩ := r
  exact ⟨A, 0, 0, rfl, fun _ => rfl⟩
 ·cases h
theorem sNilCmp {q : Bool × List T} (hq : nilCmp P s o.op = some q) (H : nilK k q) (r : RelL M s.fr a.tmps.toList) : Found P o a M k := by
 have key : ∀ (neg : Bool) {t : TypeId} {x y : Operand} {e : TypeId} {u : TypeId} (ho : o.op = .binOp (if neg then .neq else .eql) t x y u) (hu : P.underlying t = some (.slice e)) (hy : s.eval y = .v (.slice none 0 0)) {es : List T} (hx : nilSl (s.eval x) = some es) (H : nilK k (!neg, es)), Found P o a M k := fun neg t x y e u ho hu hy es hx H => by
  obtain ⟨A, n, cap, e1, e2⟩ := nilSl_rel hx (eval_rel r x)
  have ry := eval_rel r y
  rw [hy] at ry
  simp only [Rel] at ry
  have run : ∀ w, (execOp a.eval o).run P w = .ok (.value (.bool (neg ^^ A.isNone))) w := fun w => by
   have hg : ∀ op, (eqGuard op t x y (a.eval x) (a.eval y)).run P w = .ok () w := fun op => by rw [e1, ry]; simp [eqGuard]
   unfold execOp
   rw [ho]
   refine run_value ?_
   have h0 : (binOp (if neg then .neq else .eql) t (a.eval x) (a.eval y)).run P w = .ok (.bool (neg ^^ A.isNone)) w := by
    rw [e1, ry]
    cases neg with
    | true => simp [run_neq_slice_nil w t e A n cap hu]
    | false => simp [binOp, run_equal_slice_nil w t e A n cap hu]
   simp only [Sem.run_bind, hg, Result.andThen_ok, h0]
  cases A with
  | none =>
   refine ⟨_, _, H.1 (by rw [e2 rfl]; rfl), ?_, run⟩
   simp only [Rel]; cases neg <;> rfl
  | some ad =>
   refine ⟨_, _, H.2, ?_, run⟩
   simp only [Rel]; cases neg <;> rfl
 unfold nilCmp at hq
 split at hq
 ·rename_i t x y u ho
  split at hq
  ·rename_i e hu hy
   rw [Option.map_eq_some_iff] at hq
   obtain ⟨es, hes, rfl⟩ := hq
   exact key false ho hu hy hes H
  ·cases hq
 ·rename_i t x y u ho
  split at hq
  ·rename_i e hu hy
   rw [Option.map_eq_some_iff] at hq
   obtain ⟨es, hes, rfl⟩ := hq
   exact key true ho hu hy hes H
  ·cases hq
 ·cases hq
theorem str_same (a b : ByteArray) : (a.toList == b.toList) = decide (a = b) := by
 rw [Bool.eq_iff_iff, beq_iff_eq, decide_eq_true_eq]
 constructor
 ·intro h
  rw [ByteArray.toList_eq, ByteArray.toList_eq] at h
  exact bs_ext h
 ·rintro rfl; rfl
theorem sStr {q : BinOp × ByteArray × ByteArray} (hq : strOp s o.op = some q) (H : strK h k q) (r : RelL M s.fr a.tmps.toList) : Found P o a M k := by
 unfold strOp at hq
 split at hq
 rotate_left
 ·cases hq
 rename_i op xt x y t ho
 split at hq
 rotate_left
 ·cases hq
 rename_i za zb hx hy
 have rx := eval_rel r x
 have ry := eval_rel r y
 rw [hx] at rx
 rw [hy] at ry
 simp only [Rel] at rx ry
 split at hq
 ·injection hq with hq
  subst hq
  obtain ⟨hl, H⟩ := H
  obtain ⟨u, hu, hk⟩ := claim_some H
  injection hu with hu
  subst hu
  refine ⟨.string (za ++ zb), _, hk, by simp only [Rel], fun w => ?_⟩
  unfold execOp
  rw [ho]
  have hz : ¬ (((za.size + zb.size : Nat) : Int) > IntKind.i64.max) := by
   have : IntKind.i64.max = 9223372036854775807 := rfl
   rw [this]; omega
  simp only [rx, ry]
  simp [eqGuard, binOp, Op.stringOp]
  simp at hz
  exact hz
 ·injection hq with hq
  subst hq
  refine ⟨.bool (decide (za = zb)), _, H, by simp only [Rel], fun w => ?_⟩
  unfold execOp
  rw [ho]
  simp only [rx, ry]
  simp [eqGuard, binOp, Op.stringOp, str_same]
 ·injection hq with hq
  subst hq
  refine ⟨.bool (!decide (za = zb)), _, H, by simp only [Rel], fun w => ?_⟩
  unfold execOp
  rw [ho]
  simp only [rx, ry]
  simp [eqGuard, binOp, Op.stringOp, str_same]
 ·cases hq
theorem pv_sound (H : pv P s o h k) (r : RelL M s.fr a.tmps.toList) : Found P o a M k := by
 unfold pv at H
 split at H
 ·rename_i x ho
  exact sClaim H (eval_rel r x) (fun w => by unfold execOp; rw [ho]; rfl)
 ·rename_i x ho
  exact sClaim H (eval_rel r x) (fun w => by unfold execOp; rw [ho]; rfl)
 ·rename_i c x y ho
  split at H
  rotate_left
  ·exact H.elim
  rename_i t hc
  have hr := eval_rel r c
  rw [hc] at hr
  simp only [Rel] at hr
  cases t with
  | true => exact ⟨_, _, H, eval_rel r x, fun w => by unfold execOp; rw [ho]; simp [hr, asBool]⟩
  | false => exact ⟨_, _, H, eval_rel r y, fun w => by unfold execOp; rw [ho]; simp [hr, asBool]⟩
 ·rename_i ho; exact sField ho H r
 ·rename_i ho; exact sExtract ho H r
 ·rename_i ho; exact sFieldAddr ho H r
 ·rename_i ho; exact sIndexAddr ho H r
 ·rename_i ho; exact sIndex ho H r
 ·rename_i ho; exact sSliceH ho H r
 ·rename_i ho; exact sNil ho H r
 ·rename_i ho; exact sBuild ho H r
 ·rename_i ho; exact sLen ho H r
 ·rename_i ho; exact sMakeFunc ho H r
 ·split at H
  ·rename_i q hq
   exact sStr hq H r
  ·split at H
   ·rename_i q hq
    exact sNilCmp hq H r
   ·split at H
    ·obtain ⟨v, t, ⟨rfl, hk⟩, h1, h2⟩ := flatK_sound H r
     exact ⟨v, _, hk, h1, h2⟩
    ·exact flatK_sound H r
end
end Go.Proofs.Ytafcbipmmjegcaa.Vm
