/- Texts of this claim: RgA, RgB, RgC, RgD. -/
import Derived.Test.YtafcbipmmjegcaaMg16
namespace Go.Proofs.Ytafcbipmmjegcaa
namespace Rep
theorem less_iff (a b : Stp) : less a b = true ↔ (a.n < b.n ∨ a.n = b.n ∧ (a.b < b.b ∨ a.b = b.b ∧ a.l < b.l)) := by unfold less; simp
theorem less_irr (a : Stp) : less a a = false := by
 cases h : less a a with
 | false => rfl
 | true => rw [less_iff] at h; omega
theorem less_tr {a b c : Stp} (h : less a b = true) (h' : less b c = true) : less a c = true := by rw [less_iff] at *; omega
theorem less_as {a b : Stp} (h : less a b = true) : less b a = false := by
 cases h' : less b a with
 | false => rfl
 | true => rw [less_iff] at h h'; omega
theorem less_tot {a b : Stp} (h : less a b = false) : b = a ∨ less b a = true := by
 by_cases e : less b a = true
 ·exact .inr e
 ·left
  have h1 : ¬ less a b = true := by rw [h]; decide
  rw [less_iff] at h1 e
  obtain ⟨an, ab, al⟩ := a
  obtain ⟨bn, bb, bl⟩ := b
  simp only [Stp.mk.injEq]
  dsimp only at h1 e
  omega
def Le (a b : Stp) : Prop := less b a = false
theorem Le.refl (a : Stp) : Le a a := less_irr a
theorem Le.of_less {a b : Stp} (h : less a b = true) : Le a b := less_as h
theorem Le.tr {a b c : Stp} (h : Le a b) (h' : Le b c) : Le a c := by
 unfold Le at *
 cases e : less c a with
 | false => rfl
 | true =>
  rcases less_tot h with e1 | e1
  ·subst e1; rw [e] at h'; cases h'
  ·rw [less_tr e e1] at h'; cases h'
theorem Le.less {a b c : Stp} (h : Le a b) (h' : Rep.less b c = true) : Rep.less a c = true := by
 rcases less_tot h with e1 | e1
 ·rw [e1]; exact h'
 ·exact less_tr e1 h'
theorem less_le {a b c : Stp} (h : Rep.less a b = true) (h' : Le b c) : Rep.less a c = true := by
 rcases less_tot h' with e1 | e1
 ·rw [← e1]; exact h
 ·exact less_tr h e1
theorem Le.cases {a b : Stp} (h : Le a b) : b = a ∨ Rep.less a b = true := (less_tot h).imp Eq.symm id
theorem not_less_le {a b : Stp} (h : ¬ Rep.less a b = true) : Le b a := by unfold Le; cases e : Rep.less a b with
 | false => rfl
 | true => exact absurd e h
structure Gh where
 g : Stp → Option Wrd
 H : Nat → Stp → Prop
 dn : Stp → Prop
 ab : Stp → Prop
 bs : Stp → Option Stp
def Gh.rm (G : Gh) (s : Stp) : Prop := ∃ w, G.g s = some w ∧ w.r = true
theorem Gh.rm_of {G : Gh} {w : Wrd} (h : G.g w.s = some w) (hr : w.r = true) : G.rm w.s := ⟨w, h, hr⟩
theorem Gh.rm_r {G : Gh} {w : Wrd} (h : G.g w.s = some w) (hr : G.rm w.s) : w.r = true := by
 obtain ⟨x, h1, h2⟩ := hr
 rw [h] at h1
 injection h1 with e
 rw [e]; exact h2
structure DrOk (n : Nat) (P : Nat → Plc) (G : Gh) (i : Nat) (d : Drv) : Prop where
 w : G.g d.w.s = some d.w
 h : G.H i d.w.s
 rm : d.w.r = true → d.own = true ∧ ¬ G.dn d.w.s ∧ ¬ G.ab d.w.s ∧ d.w.s.b = i + 1
 ak : ∀ j, j < n → d.acks (j + 1) = true → Le d.w.s (P j).c.w.s ∧ (d.w.r = true → G.H j d.w.s)
 ob : d.own = true → ∃ b, G.bs d.w.s = some b
structure FrOk (n : Nat) (P : Nat → Plc) (G : Gh) (f : Fm) : Prop where
 i : f.kind = 1 → G.g f.w.s = some f.w
 a : f.kind = 2 → ∀ j, j < n → f.frm = ad (j + 1) → Le f.w.s (P j).c.w.s ∧ (G.rm f.w.s → G.H j f.w.s)
 v : f.kind = 3 → G.rm f.w.s → G.dn f.w.s
 g : f.kind = 5 → G.g f.w.s = some f.w ∧ (f.flag = true → G.rm f.w.s → G.dn f.w.s)
 kn : f.kind = 2 ∨ f.kind = 3 → ∃ w, G.g f.w.s = some w
structure InvK (n : Nat) (P : Nat → Plc) (k : Nat) (W : List Fm) (G : Gh) : Prop where
 cw : ∀ i, i < n → G.g (P i).c.w.s = some (P i).c.w
 cH : ∀ i, i < n → G.H i (P i).c.w.s
 Hl : ∀ i, i < n → ∀ x, G.H i x → Le x (P i).c.w.s
 cv : ∀ i, i < n → (P i).c.st = 1 → G.rm (P i).c.w.s → G.dn (P i).c.w.s
 dr : ∀ i, i < n → ∀ d, (P i).dr = some d → DrOk n P G i d
 fr : ∀ f, f ∈ W → f.key = k → FrOk n P G f
 s0 : ∀ i, i < n → (P i).c.st ≠ 0
 gs : ∀ s w, G.g s = some w → w.s = s ∧ ((s.b = 0 ∧ w.r = false) ∨ ∃ i, i < n ∧ s.b = i + 1 ∧ s.l = 1 ∧ Le s (P i).c.w.s)
 dn : ∀ s, G.dn s → ((∃ w, G.g s = some w) ∧ ∃ b, G.bs s = some b) ∧ (∀ i, i < n → Le s (P i).c.w.s) ∧ (G.rm s → ∀ i, i < n → G.H i s)
 ab : ∀ a, G.ab a → G.rm a ∧ ¬ G.dn a ∧ ∃ i, i < n ∧ a.b = i + 1 ∧ less a (P i).c.w.s = true
 bs : ∀ s b, G.bs s = some b → (∃ w, G.g s = some w ∧ s.n = b.n + if w.r then 1 else 2) ∧ less b s = true ∧ ∃ i, i < n ∧ s.b = i + 1 ∧ ∀ x, G.H i x → Le x b ∨ Le s x
section
variable {n k : Nat} {P : Nat → Plc} {W : List Fm} {G : Gh} (h : InvK n P k W G)
include h
theorem InvK.reach {s : Stp} (hs : G.dn s) {i : Nat} (hi : i < n) : less (P i).c.w.s s = false := (h.dn s hs).2.1 i hi
theorem InvK.agree {i j : Nat} (hi : i < n) (hj : j < n) (e : (P i).c.w.s = (P j).c.w.s) : (P i).c.w = (P j).c.w := by
 have h1 := h.cw i hi
 rw [e, h.cw j hj] at h1
 injection h1 with h1
 exact h1.symm
theorem InvK.never {a : Stp} (ha : G.ab a) {i : Nat} (hi : i < n) : ¬ ((P i).c.st = 1 ∧ (P i).c.w.s = a) := by
 rintro ⟨h1, rfl⟩
 obtain ⟨h2, h3, _⟩ := h.ab _ ha
 exact h3 (h.cv i hi h1 h2)
end
def Gh.had (G : Gh) (i : Nat) (s : Stp) : Gh := { G with H := fun j x => G.H j x ∨ (j = i ∧ x = s) }
theorem DrOk.mono {n : Nat} {P P' : Nat → Plc} {G G' : Gh} {i : Nat} {d : Drv} (h : DrOk n P G i d) (hg : G'.g = G.g) (hd : G'.dn = G.dn) (ha : G'.ab = G.ab) (hb : G'.bs = G.bs) (hH : ∀ j x, G.H j x → G'.H j x) (hP : ∀ j, j < n → Le (P j).c.w.s (P' j).c.w.s) : DrOk n P' G' i d :=
 ⟨by rw [hg]; exact h.w, hH _ _ h.h, fun r => by rw [hd, ha]; exact h.rm r, fun j hj a => ⟨(h.ak j hj a).1.tr (hP j hj), fun r => hH _ _ ((h.ak j hj a).2 r)⟩, by rw [hb]; exact h.ob⟩
theorem FrOk.mono {n : Nat} {P P' : Nat → Plc} {G G' : Gh} {f : Fm} (h : FrOk n P G f) (hg : G'.g = G.g) (hd : ∀ s, G.dn s → G'.dn s) (hH : ∀ j x, G.H j x → G'.H j x) (hP : ∀ j, j < n → Le (P j).c.w.s (P' j).c.w.s) : FrOk n P' G' f := by
 have hr : ∀ s, G'.rm s → G.rm s := fun s ⟨w, h1, h2⟩ => ⟨w, by rw [← hg]; exact h1, h2⟩
 exact ⟨fun e => by rw [hg]; exact h.i e, fun e j hj ef => ⟨(h.a e j hj ef).1.tr (hP j hj), fun r => hH _ _ ((h.a e j hj ef).2 (hr _ r))⟩, fun e r => hd _ (h.v e (hr _ r)), fun e => by rw [hg]; exact ⟨(h.g e).1, fun fl r => hd _ ((h.g e).2 fl (hr _ r))⟩, fun e => by rw [hg]; exact h.kn e⟩
theorem InvK.cell {n k : Nat} {P : Nat → Plc} {W : List Fm} {G : Gh} (h : InvK n P k W G) {i : Nat} (hi : i < n) (p : Plc) (hw : G.g p.c.w.s = some p.c.w) (hl : Le (P i).c.w.s p.c.w.s)
  (h0 : p.c.st ≠ 0) (hv : p.c.st = 1 → G.rm p.c.w.s → G.dn p.c.w.s) (hd : ∀ d, p.dr = some d → DrOk n P G i d) : InvK n (put P i p) k W (G.had i p.c.w.s) := by
 have hP : ∀ j, j < n → Le (P j).c.w.s (put P i p j).c.w.s := fun j _ => by
  by_cases e : j = i
  ·subst e; rw [put_at]; exact hl
  ·rw [put_ne _ _ _ e]; exact Le.refl _
 have hH : ∀ j x, G.H j x → (G.had i p.c.w.s).H j x := fun j x hx => .inl hx
 refine ⟨fun j hj => ?_, fun j hj => ?_, fun j hj x hx => ?_, fun j hj hs => ?_, fun j hj d he => ?_, fun f hf ek => (h.fr f hf ek).mono rfl (fun _ x => x) hH hP, fun j hj => ?_, fun s w e => ?_, fun s e => ?_, fun a e => ?_, fun s b e => ?_⟩
 ·by_cases e : j = i
  ·subst e; rw [put_at]; exact hw
  ·rw [put_ne _ _ _ e]; exact h.cw j hj
 ·by_cases e : j = i
  ·subst e; rw [put_at]; exact .inr ⟨rfl, rfl⟩
  ·rw [put_ne _ _ _ e]; exact .inl (h.cH j hj)
 ·rcases hx with hx | ⟨e1, e2⟩
  ·exact (h.Hl j hj x hx).tr (hP j hj)
  ·subst e1 e2; rw [put_at]; exact Le.refl _
 ·by_cases e : j = i
  ·subst e; rw [put_at] at *; exact hv hs
  ·rw [put_ne _ _ _ e] at *; exact h.cv j hj hs
 ·by_cases e : j = i
  ·subst e; rw [put_at] at he; exact (hd d he).mono rfl rfl rfl rfl hH hP
  ·rw [put_ne _ _ _ e] at he; exact (h.dr j hj d he).mono rfl rfl rfl rfl hH hP
 ·by_cases e : j = i
  ·subst e; rw [put_at]; exact h0
  ·rw [put_ne _ _ _ e]; exact h.s0 j hj
 ·obtain ⟨h1, h2⟩ := h.gs s w e
  exact ⟨h1, h2.imp id fun ⟨j, hj, h3, hl1, h4⟩ => ⟨j, hj, h3, hl1, h4.tr (hP j hj)⟩⟩
 ·obtain ⟨h1, h2, h3⟩ := h.dn s e
  exact ⟨h1, fun j hj => (h2 j hj).tr (hP j hj), fun r j hj => hH _ _ (h3 r j hj)⟩
 ·obtain ⟨h1, h2, j, hj, h3, h4⟩ := h.ab a e
  exact ⟨h1, h2, j, hj, h3, less_le h4 (hP j hj)⟩
 ·obtain ⟨⟨w, h1, h1'⟩, h2, j, hj, h3, h4⟩ := h.bs s b e
  refine ⟨⟨w, h1, h1'⟩, h2, j, hj, h3, fun x hx => ?_⟩
  rcases hx with hx | ⟨e1, e2⟩
  ·exact h4 x hx
  ·subst e1 e2
   right
   obtain ⟨_, h5⟩ := h.gs s w h1
   rcases h5 with ⟨h5, _⟩ | ⟨j', hj', h5, _, h6⟩
   ·omega
   ·have : j' = j := by omega
    subst this
    exact h6.tr hl
theorem InvK.send {n k : Nat} {P : Nat → Plc} {W : List Fm} {G : Gh} (h : InvK n P k W G) (F : List Fm) (hF : ∀ f, f ∈ F → f.key = k → FrOk n P G f) : InvK n P k (W ++ F) G :=
 ⟨h.cw, h.cH, h.Hl, h.cv, h.dr, fun f hf ek => (List.mem_append.1 hf).elim (fun hf => h.fr f hf ek) (fun hf => hF f hf ek), h.s0, h.gs, h.dn, h.ab, h.bs⟩
theorem InvK.lost {n k : Nat} {P : Nat → Plc} {W W' : List Fm} {G : Gh} (h : InvK n P k W G) (hs : ∀ f, f ∈ W' → f ∈ W) : InvK n P k W' G :=
 ⟨h.cw, h.cH, h.Hl, h.cv, h.dr, fun f hf ek => h.fr f (hs f hf) ek, h.s0, h.gs, h.dn, h.ab, h.bs⟩
def Gh.done (G : Gh) (s : Stp) : Gh := { G with dn := fun x => G.dn x ∨ x = s }
def Gh.abort (G : Gh) (s : Stp) : Gh := { G with ab := fun x => G.ab x ∨ x = s }
theorem InvK.done {n k : Nat} {P : Nat → Plc} {W : List Fm} {G : Gh} (h : InvK n P k W G) {s : Stp} {w : Wrd} (hg : G.g s = some w) (hbs : ∃ b, G.bs s = some b) (hP : ∀ j, j < n → Le s (P j).c.w.s) (hH : w.r = true → ∀ j, j < n → G.H j s)
  (hd : ∀ j, j < n → ∀ d, (P j).dr = some d → d.w.r = true → d.w.s ≠ s) (ha : ¬ G.ab s) : InvK n P k W (G.done s) := by
 have hr : ∀ x, (G.done s).rm x → G.rm x := fun _ h => h
 refine ⟨h.cw, h.cH, h.Hl, fun i hi a r => .inl (h.cv i hi a r), fun i hi d e => ?_, fun f hf ek => (h.fr f hf ek).mono rfl (fun _ x => .inl x) (fun _ _ x => x) (fun _ _ => Le.refl _), h.s0, h.gs, fun x hx => ?_, fun a e => ?_, h.bs⟩
 ·have h1 := h.dr i hi d e
  exact ⟨h1.w, h1.h, fun r => by
   obtain ⟨a, b, c, d'⟩ := h1.rm r
   exact ⟨a, fun hx => hx.elim b (hd i hi d e r), c, d'⟩, h1.ak, h1.ob⟩
 ·rcases hx with hx | hx
  ·exact h.dn x hx
  ·subst hx
   exact ⟨⟨⟨w, hg⟩, hbs⟩, hP, fun ⟨w', e1, e2⟩ => by
    have e1 : G.g x = some w' := e1
    rw [hg] at e1
    injection e1 with e1
    subst e1
    exact hH e2⟩
 ·obtain ⟨h1, h2, h3⟩ := h.ab a e
  exact ⟨h1, fun hx => hx.elim h2 fun e1 => by subst e1; exact ha e, h3⟩
theorem InvK.abort {n k : Nat} {P : Nat → Plc} {W : List Fm} {G : Gh} (h : InvK n P k W G) {a : Stp} (hr : G.rm a) (hn : ¬ G.dn a) {i : Nat} (hi : i < n) (hb : a.b = i + 1) (hl : less a (P i).c.w.s = true)
  (hd : ∀ j, j < n → ∀ d, (P j).dr = some d → d.w.r = true → d.w.s ≠ a) : InvK n P k W (G.abort a) := by
 refine ⟨h.cw, h.cH, h.Hl, h.cv, fun j hj d e => ?_, fun f hf ek => (h.fr f hf ek).mono rfl (fun _ x => x) (fun _ _ x => x) (fun _ _ => Le.refl _), h.s0, h.gs, h.dn, fun x hx => ?_, h.bs⟩
 ·have h1 := h.dr j hj d e
  exact ⟨h1.w, h1.h, fun r => by
   obtain ⟨x, b, c, d'⟩ := h1.rm r
   exact ⟨x, b, fun hx => hx.elim c (hd j hj d e r), d'⟩, h1.ak, h1.ob⟩
 ·rcases hx with hx | hx
  ·exact h.ab x hx
  ·subst hx
   exact ⟨hr, hn, i, hi, hb, hl⟩
theorem InvK.one {n k : Nat} {P : Nat → Plc} {W : List Fm} {G : Gh} (h : InvK n P k W G) {i j : Nat} (hi : i < n) (hj : j < n) {d e : Drv} (hd : (P i).dr = some d) (he : (P j).dr = some e) (hr : e.w.r = true) (hs : e.w.s = d.w.s) : i = j := by
 have h1 := h.dr i hi d hd
 have h2 := h.dr j hj e he
 have hw : e.w = d.w := by
  have := h2.w
  rw [hs, h1.w] at this
  injection this with this
  exact this.symm
 have b1 := (h1.rm (by rw [← hw]; exact hr)).2.2.2
 have b2 := (h2.rm hr).2.2.2
 rw [hs, b1] at b2
 omega
end Rep
end Go.Proofs.Ytafcbipmmjegcaa
namespace Go.Proofs.Ytafcbipmmjegcaa
namespace Rep
open Vm.X5 (hasV othV)
structure Mate (n i : Nat) (r : RS) : Prop where
 self : r.self = i + 1
 life : r.life = 1
 oth : ∀ j, j < n → j ≠ i → j + 1 ∈ oth r
 mem : ∀ j, j < n → hasV r.v.ms (j + 1) 1 = true
 ohas : ∀ x, x ∈ Rep.oth r → ∃ j, j < n ∧ x = j + 1
 few : n ≤ 100
 vh : ∀ b l, hasV r.v.ms b l = true → ∃ j, j < n ∧ b = j + 1
structure Ext (G G' : Gh) : Prop where
 g : ∀ s w, G.g s = some w → G'.g s = some w
 bs : ∀ s b, G.bs s = some b → G'.bs s = some b
 dn : ∀ s, G.dn s → G'.dn s
 ab : ∀ s, G.ab s → G'.ab s
 H : ∀ i s, G.H i s → G'.H i s
theorem Ext.refl (G : Gh) : Ext G G := ⟨fun _ _ h => h, fun _ _ h => h, fun _ h => h, fun _ h => h, fun _ _ h => h⟩
theorem Ext.tr {G G' G2 : Gh} (h : Ext G G') (h' : Ext G' G2) : Ext G G2 :=
 ⟨fun _ _ x => h'.g _ _ (h.g _ _ x), fun _ _ x => h'.bs _ _ (h.bs _ _ x), fun _ x => h'.dn _ (h.dn _ x), fun _ x => h'.ab _ (h.ab _ x), fun _ _ x => h'.H _ _ (h.H _ _ x)⟩
theorem Ext.had (G : Gh) (i : Nat) (s : Stp) : Ext G (G.had i s) := ⟨fun _ _ h => h, fun _ _ h => h, fun _ h => h, fun _ h => h, fun _ _ h => .inl h⟩
theorem Ext.done (G : Gh) (s : Stp) : Ext G (G.done s) := ⟨fun _ _ h => h, fun _ _ h => h, fun _ h => .inl h, fun _ h => h, fun _ _ h => h⟩
theorem Ext.abort (G : Gh) (s : Stp) : Ext G (G.abort s) := ⟨fun _ _ h => h, fun _ _ h => h, fun _ h => h, fun _ h => .inl h, fun _ _ h => h⟩
def EvOk (k : Nat) (G G' : Gh) (E : List Ev) : Prop := ∀ e ∈ E, e.key = k ∧ (e.kind = 1 ∧ G'.dn e.s ∧ (G'.rm e.s → ¬ G.dn e.s) ∨ e.kind = 2 ∧ G'.ab e.s)
theorem EvOk.nil (k : Nat) (G G' : Gh) : EvOk k G G' [] := fun _ h => by cases h
def StepK (n k i : Nat) (P : Nat → Plc) (W : List Fm) (G : Gh) (p : Plc) (F : List Fm) (E : List Ev) : Prop := ∃ G', (Ext G G' ∧ G'.bs = G.bs) ∧ InvK n (put P i p) k (W ++ F) G' ∧ EvOk k G G' E
theorem StepK.stay {n k i : Nat} {P : Nat → Plc} {W : List Fm} {G : Gh} (h : InvK n P k W G) : StepK n k i P W G (P i) [] [] :=
 ⟨G, ⟨Ext.refl G, rfl⟩, by rw [put_self, List.append_nil]; exact h, EvOk.nil _ _ _⟩
theorem setP_P (r : RS) (k : Nat) (p : Plc) : (setP r k p).P k = p := put_at _ _ _
section
variable {n k i : Nat} {P : Nat → Plc} {W : List Fm} {G : Gh} {r : RS}
theorem look_step (h : InvK n P k W G) (hi : i < n) (m : Mate n i r) (hr : r.P k = P i) : StepK n k i P W G ((look r k).1.P k) (look r k).2.1 (look r k).2.2 := by
 unfold look
 cases hd : (r.P k).dr with
 | none => dsimp only; rw [hr]; exact StepK.stay h
 | some d =>
  dsimp only
  by_cases hdn : doneD d (oth r) = true
  ·rw [if_pos hdn]
   have hd' : (P i).dr = some d := by rw [← hr]; exact hd
   have hk := h.dr i hi d hd'
   have hak : ∀ j, j < n → j ≠ i → d.acks (j + 1) = true := fun j hj hji => by
    unfold doneD at hdn
    exact (List.all_eq_true.1 hdn) _ (m.oth j hj hji)
   have hle : ∀ j, j < n → Le d.w.s (P j).c.w.s := fun j hj => by
    by_cases e : j = i
    ·subst e; exact h.Hl j hj _ hk.h
    ·exact (hk.ak j hj (hak j hj e)).1
   have hHH : d.w.r = true → ∀ j, j < n → G.H j d.w.s := fun hrm j hj => by
    by_cases e : j = i
    ·subst e; exact hk.h
    ·exact (hk.ak j hj (hak j hj e)).2 hrm
   have h1 := h.cell hi { P i with dr := none } (h.cw i hi) (Le.refl _) (h.s0 i hi) (h.cv i hi) (fun _ e => by cases e)
   have hdr : ∀ j, j < n → ∀ e, (put P i { P i with dr := none } j).dr = some e → e.w.r = true → e.w.s ≠ d.w.s := fun j hj e he hrm hs => by
    by_cases ej : j = i
    ·subst ej; rw [put_at] at he; cases he
    ·rw [put_ne _ _ _ ej] at he
     exact ej (h.one hi hj hd' he hrm hs).symm
   have hc : ∀ j, (put P i { P i with dr := none } j).c = (P j).c := fun j => by
    by_cases ej : j = i
    ·subst ej; rw [put_at]
    ·rw [put_ne _ _ _ ej]
   have hab : ¬ G.ab d.w.s := fun ha => by
    obtain ⟨hrm, _, _⟩ := h.ab _ ha
    exact (hk.rm (Gh.rm_r hk.w hrm)).2.2.1 ha
   obtain ⟨G2, x2, h2, hdn2, hev⟩ : ∃ G2, (Ext G G2 ∧ G2.bs = G.bs) ∧ InvK n (put P i { P i with dr := none }) k W G2 ∧ (G2.rm d.w.s → G2.dn d.w.s) ∧ EvOk k G G2 (if d.own then [⟨k, 1, d.w.s⟩] else []) := by
    cases ho : d.own with
    | true =>
     refine ⟨(G.had i (P i).c.w.s).done d.w.s, ⟨(Ext.had _ _ _).tr (Ext.done _ _), rfl⟩, h1.done hk.w (hk.ob ho) (fun j hj => by rw [hc]; exact hle j hj) (fun hrm j hj => .inl (hHH hrm j hj)) hdr hab, fun _ => .inr rfl, fun e he => ?_⟩
     simp only [if_true, List.mem_singleton] at he
     subst he
     refine ⟨rfl, .inl ⟨rfl, .inr rfl, fun hrm => ?_⟩⟩
     exact (hk.rm (Gh.rm_r (G := G) hk.w hrm)).2.1
    | false =>
     refine ⟨G.had i (P i).c.w.s, ⟨Ext.had _ _ _, rfl⟩, h1, fun hrm => ?_, by simp only [Bool.false_eq_true, if_false]; exact EvOk.nil _ _ _⟩
     have := (hk.rm (Gh.rm_r (G := G) hk.w hrm)).1
     rw [ho] at this
     cases this
   by_cases hb : (r.P k).c.w.s = d.w.s ∧ d.cov = false
   ·rw [if_pos hb, setP_P]
    dsimp only
    rw [hr]
    have hs : (P i).c.w.s = d.w.s := by rw [← hr]; exact hb.1
    have hcw : (val (P i).c d.w.s).1.w = (P i).c.w := by unfold val; split <;> rfl
    have h3 := h2.cell hi { P i with dr := none, c := (val (P i).c d.w.s).1 } (by
      dsimp only; rw [hcw]; have := h2.cw i hi; rw [hc] at this; exact this)
     (by dsimp only; rw [hcw, hc]; exact Le.refl _) (by
      dsimp only; unfold val; split
      ·exact (by decide : (1 : Nat) ≠ 0)
      ·exact h.s0 i hi) (fun _ hrm => by dsimp only at hrm ⊢; rw [hcw, hs] at hrm ⊢; exact hdn2 hrm) (fun _ e => by cases e)
    rw [put_put] at h3
    refine ⟨_, ⟨x2.1.tr (Ext.had _ _ _), x2.2⟩, h3.send _ (fun f hf _ => ?_), fun e he => hev e he⟩
    obtain ⟨z, _, rfl⟩ := List.mem_map.1 hf
    exact ⟨fun e => absurd (show (3 : Nat) = 1 from e) (by decide), fun e => absurd (show (3 : Nat) = 2 from e) (by decide), fun _ hrm => hdn2 hrm, fun e => absurd (show (3 : Nat) = 5 from e) (by decide), fun _ => ⟨d.w, x2.1.g _ _ hk.w⟩⟩
   ·rw [if_neg hb, setP_P]
    dsimp only
    rw [hr]
    exact ⟨G2, x2, by rw [List.append_nil]; exact h2, hev⟩
  ·rw [if_neg hdn]
   dsimp only
   rw [hr]
   exact StepK.stay h
theorem way_step (h : InvK n P k W G) (hi : i < n) (c : Cel) (hw : G.g c.w.s = some c.w) (hl : less (P i).c.w.s c.w.s = true) (h0 : c.st ≠ 0) (hv : c.st = 1 → G.rm c.w.s → G.dn c.w.s) (hrc : (r.P k).c = c) (hrd : (r.P k).dr = (P i).dr) :
  StepK n k i P W G ((way r k).1.P k) [] (way r k).2 := by
 subst hrc
 have hL : Le (P i).c.w.s (r.P k).c.w.s := Le.of_less hl
 unfold way
 cases hd : (r.P k).dr with
 | none =>
  dsimp only
  rw [setP_P]
  exact ⟨_, ⟨Ext.had G i (r.P k).c.w.s, rfl⟩, by
   rw [List.append_nil]
   have := h.cell hi { r.P k with age := 0 } hw hL h0 hv (fun d e => by dsimp only at e; rw [hd] at e; cases e)
   exact this, EvOk.nil _ _ _⟩
 | some d =>
  have hd' : (P i).dr = some d := by rw [← hrd]; exact hd
  have hk := h.dr i hi d hd'
  have gone := h.cell hi { r.P k with age := 0, dr := none } hw hL h0 hv (fun _ e => by cases e)
  have hdr : ∀ j, j < n → ∀ e, (put P i { r.P k with age := 0, dr := none } j).dr = some e → e.w.r = true → e.w.s ≠ d.w.s := fun j hj e he hrm hs => by
   by_cases ej : j = i
   ·subst ej; rw [put_at] at he; cases he
   ·rw [put_ne _ _ _ ej] at he
    exact ej (h.one hi hj hd' he hrm hs).symm
  cases ho : d.own with
  | false =>
   simp only [ho, Bool.false_eq_true, if_false]
   rw [setP_P]
   exact ⟨_, ⟨Ext.had G i (r.P k).c.w.s, rfl⟩, by rw [List.append_nil]; exact gone, EvOk.nil _ _ _⟩
  | true =>
   cases hrm : d.w.r with
   | true =>
    simp only [ho, hrm, if_true]
    rw [setP_P]
    obtain ⟨_, n1, n2, hb⟩ := hk.rm hrm
    refine ⟨_, ⟨(Ext.had G i (r.P k).c.w.s).tr (Ext.abort _ d.w.s), rfl⟩, by
     rw [List.append_nil]
     exact gone.abort (Gh.rm_of (G := G.had i (r.P k).c.w.s) hk.w hrm) n1 hi hb (by rw [put_at]; exact (h.Hl i hi _ hk.h).less hl) hdr, fun e he => ?_⟩
    rw [List.mem_singleton] at he
    subst he
    exact ⟨rfl, .inr ⟨rfl, .inr rfl⟩⟩
   | false =>
    simp only [ho, hrm, if_true, Bool.false_eq_true, if_false]
    rw [setP_P]
    exact ⟨_, ⟨Ext.had G i (r.P k).c.w.s, rfl⟩, by
     rw [List.append_nil]
     have := h.cell hi { r.P k with age := 0 } hw hL h0 hv (fun d e => by dsimp only at e; rw [hrd] at e; exact h.dr i hi d e)
     exact this, EvOk.nil _ _ _⟩
theorem rest_step (h : InvK n P k W G) (hi : i < n) (c : Cel) (hw : G.g c.w.s = some c.w) (hl : Le (P i).c.w.s c.w.s) (h0 : c.st ≠ 0) (hv : c.st = 1 → G.rm c.w.s → G.dn c.w.s) (hrc : (r.P k).c = c) (hrd : (r.P k).dr = (P i).dr) :
  StepK n k i P W G ((rest r k).P k) [] [] := by
 subst hrc
 have st : ∀ dr', (∀ d, dr' = some d → (P i).dr = some d) → StepK n k i P W G { r.P k with age := 0, dr := dr' } [] [] := fun dr' hdr =>
  ⟨_, ⟨Ext.had G i (r.P k).c.w.s, rfl⟩, by
   rw [List.append_nil]
   have := h.cell hi { r.P k with age := 0, dr := dr' } hw hl h0 hv (fun d e => h.dr i hi d (hdr d e))
   exact this, EvOk.nil _ _ _⟩
 unfold rest
 split
 ·rename_i hd
  rw [setP_P]
  exact st _ fun d e => by rw [← hrd]; exact e
 ·rename_i d hd
  split
  ·rw [setP_P]
   exact st _ fun d e => by rw [← hrd]; exact e
  ·rw [setP_P]
   exact st none fun _ e => by cases e
end
end Rep
end Go.Proofs.Ytafcbipmmjegcaa
namespace Go.Proofs.Ytafcbipmmjegcaa
namespace Rep
open Vm.X5 (hasV othV)
section
variable {n k i : Nat} {P : Nat → Plc} {W : List Fm} {G : Gh} {r : RS}
theorem EvOk.mono {G' G2 : Gh} {E : List Ev} (h : EvOk k G G' E) (x : Ext G' G2) (hg : ∀ s, G'.dn s → ∃ w, G'.g s = some w) : EvOk k G G2 E := fun e he => by
 obtain ⟨h1, h2⟩ := h e he
 refine ⟨h1, h2.imp (fun ⟨a, b, c⟩ => ⟨a, x.dn _ b, fun hr => c ?_⟩) fun ⟨a, b⟩ => ⟨a, x.ab _ b⟩⟩
 obtain ⟨w, hw⟩ := hg _ b
 obtain ⟨w', e1, e2⟩ := hr
 rw [x.g _ _ hw] at e1
 injection e1 with e1
 subst e1
 exact ⟨_, hw, e2⟩
theorem StepK.next {p p' : Plc} {F F' : List Fm} {E E' : List Ev} (h : StepK n k i P W G p F E) (h' : ∀ G', InvK n (put P i p) k (W ++ F) G' → StepK n k i (put P i p) (W ++ F) G' p' F' E') : StepK n k i P W G p' (F ++ F') (E ++ E') := by
 obtain ⟨G1, x1, i1, e1⟩ := h
 obtain ⟨G2, x2, i2, e2⟩ := h' G1 i1
 refine ⟨G2, ⟨x1.1.tr x2.1, x2.2.trans x1.2⟩, by rw [put_put] at i2; rw [← List.append_assoc]; exact i2, fun e he => ?_⟩
 rcases List.mem_append.1 he with he | he
 ·exact (e1.mono x2.1 fun s hs => (i1.dn s hs).1.1) e he
 ·obtain ⟨a, b⟩ := e2 e he
  exact ⟨a, b.imp (fun ⟨a, b, c⟩ => ⟨a, b, fun hr hd => c hr (x1.1.dn _ hd)⟩) id⟩
theorem StepK.sends {p : Plc} {F F' : List Fm} {E : List Ev} (h : StepK n k i P W G p F E) (hF : ∀ G', Ext G G' → InvK n (put P i p) k (W ++ F) G' → ∀ f, f ∈ F' → f.key = k → FrOk n (put P i p) G' f) : StepK n k i P W G p (F ++ F') E := by
 obtain ⟨G1, x1, i1, e1⟩ := h
 exact ⟨G1, x1, by rw [← List.append_assoc]; exact i1.send F' (hF G1 x1.1 i1), e1⟩
theorem FrOk.inv {f : Fm} (hk : f.kind = 1) (hg : G.g f.w.s = some f.w) : FrOk n P G f :=
 ⟨fun _ => hg, fun e => absurd (hk.symm.trans e) (by decide), fun e => absurd (hk.symm.trans e) (by decide), fun e => absurd (hk.symm.trans e) (by decide), fun e => e.elim (fun e => absurd (hk.symm.trans e) (by decide)) (fun e => absurd (hk.symm.trans e) (by decide))⟩
theorem sent_ok {w : Wrd} (hg : G.g w.s = some w) : ∀ f, f ∈ sent r k w → f.key = k → FrOk n P G f := fun f hf _ => by
 unfold sent at hf
 rcases List.mem_append.1 hf with hf | hf
 ·split at hf
  ·cases hf
  ·rw [List.mem_singleton] at hf; subst hf; exact FrOk.inv rfl hg
 ·split at hf
  ·cases hf
  ·rw [List.mem_singleton] at hf; subst hf; exact FrOk.inv rfl hg
theorem sendOn_ok {f : Fm} (hk : f.kind = 1) (hg : G.g f.w.s = some f.w) : ∀ x, x ∈ sendOn r f → x.key = k → FrOk n P G x := fun x hx _ => by
 unfold sendOn at hx
 split at hx
 ·split at hx
  ·cases hx
  ·rw [List.mem_singleton] at hx; subst hx; exact FrOk.inv hk hg
 ·split at hx
  ·split at hx
   ·cases hx
   ·rw [List.mem_singleton] at hx; subst hx; exact FrOk.inv hk hg
  ·cases hx
theorem ad_inj {a b : Nat} (ha : a ≤ 100) (hb : b ≤ 100) (h : ad a = ad b) : a = b := by unfold ad at h; omega
theorem FrOk.ack (m : Mate n i r) (hi : i < n) {f : Fm} (hk : f.kind = 2) (hf : f.frm = ad r.self) (hl : Le f.w.s (P i).c.w.s) (hH : G.rm f.w.s → G.H i f.w.s) (hg : ∃ w, G.g f.w.s = some w) : FrOk n P G f :=
 ⟨fun e => absurd (hk.symm.trans e) (by decide), fun _ j hj ej => by
  have : j = i := by
   have := ad_inj (a := i + 1) (b := j + 1) (by have := m.few; omega) (by have := m.few; omega) (by rw [← m.self, ← hf]; exact ej)
   omega
  subst this
  exact ⟨hl, hH⟩, fun e => absurd (hk.symm.trans e) (by decide), fun e => absurd (hk.symm.trans e) (by decide), fun _ => hg⟩
theorem onInv_step (h : InvK n P k W G) (hi : i < n) (m : Mate n i r) (hr : r.P k = P i) (f : Fm) (frm : Nat) (hf : f ∈ W) (hk : f.key = k) (hki : f.kind = 1) : StepK n k i P W G ((onInv r f frm).1.P k) (onInv r f frm).2.1 (onInv r f frm).2.2 := by
 subst hk
 have hg := (h.fr f hf rfl).i hki
 have so := fun (P' : Nat → Plc) (G' : Gh) (x : Ext G G') => sendOn_ok (n := n) (k := f.key) (P := P') (G := G') (r := r) hki (x.g _ _ hg)
 have hin : inv (r.P f.key).c f.w = if less (r.P f.key).c.w.s f.w.s then (⟨f.w, 2⟩, 1) else if (r.P f.key).c.w.s = f.w.s then ((r.P f.key).c, 2) else if f.w.r then ((r.P f.key).c, 4) else ((r.P f.key).c, 3) := rfl
 unfold onInv
 by_cases hl : less (r.P f.key).c.w.s f.w.s = true
 ·rw [if_pos hl] at hin
  rw [hin]
  dsimp only
  rw [if_neg (by decide), if_pos rfl]
  dsimp only
  have ws := way_step (r := setC r f.key ⟨f.w, 2⟩) (k := f.key) h hi ⟨f.w, 2⟩ hg (by rw [← hr]; exact hl) (fun e => by cases (show (2 : Nat) = 0 from e)) (fun e => by cases (show (2 : Nat) = 1 from e)) (by unfold setC; rw [setP_P]) (by unfold setC; rw [setP_P, ← hr])
  have wc : ((way (setC r f.key ⟨f.w, 2⟩) f.key).1.P f.key).c = ⟨f.w, 2⟩ := by
   have e0 : ((setC r f.key ⟨f.w, 2⟩).P f.key).c = ⟨f.w, 2⟩ := by unfold setC; rw [setP_P]
   unfold way
   split
   ·rw [setP_P]; exact e0
   ·split
    ·split
     ·rw [setP_P]; exact e0
     ·rw [setP_P]; exact e0
    ·rw [setP_P]; exact e0
  have := ws.sends (F' := sendOn r f ++ [frW r 2 frm f.key (zS f.w.s) false 0]) fun G' x hI y hy ek => by
   rcases List.mem_append.1 hy with hy | hy
   ·exact so _ G' x y hy ek
   ·rw [List.mem_singleton] at hy
    subst hy
    refine FrOk.ack m hi rfl rfl ?_ (fun _ => ?_) ⟨f.w, x.g _ _ hg⟩
    ·rw [put_at, wc]; exact Le.refl _
    ·have := hI.cH i hi
     rw [put_at, wc] at this
     exact this
  exact this
 ·rw [if_neg hl] at hin
  have hle : Le f.w.s (P i).c.w.s := by rw [← hr]; exact not_less_le hl
  by_cases he : (r.P f.key).c.w.s = f.w.s
  ·rw [if_pos he] at hin
   rw [hin]
   dsimp only
   rw [if_neg (by decide), if_neg (by decide)]
   dsimp only
   unfold setC
   rw [setP_P, hr]
   have := (StepK.stay (i := i) h).sends (F' := sendOn r f ++ [frW r 2 frm f.key (zS f.w.s) (decide (2 = 3)) 0]) fun G' x hI y hy ek => by
    rw [put_self]
    rcases List.mem_append.1 hy with hy | hy
    ·exact so _ G' x y hy ek
    ·rw [List.mem_singleton] at hy
     subst hy
     refine FrOk.ack m hi rfl rfl hle (fun _ => x.H _ _ ?_) ⟨f.w, x.g _ _ hg⟩
     show G.H i f.w.s
     rw [← he, hr]
     exact h.cH i hi
   exact this
  ·rw [if_neg he] at hin
   cases hfr : f.w.r with
   | true =>
    rw [hfr, if_pos rfl] at hin
    rw [hin]
    dsimp only
    rw [if_pos rfl]
    dsimp only
    rw [hr]
    have := (StepK.stay (i := i) h).sends (F' := sendOn r f ++ [frW r 1 frm f.key (P i).c.w false 0]) fun G' x hI y hy ek => by
     rw [put_self]
     rcases List.mem_append.1 hy with hy | hy
     ·exact so _ G' x y hy ek
     ·rw [List.mem_singleton] at hy
      subst hy
      exact FrOk.inv rfl (x.g _ _ (h.cw i hi))
    exact this
   | false =>
    rw [hfr, if_neg (by decide)] at hin
    rw [hin]
    dsimp only
    rw [if_neg (by decide), if_neg (by decide)]
    dsimp only
    unfold setC
    rw [setP_P, hr]
    have := (StepK.stay (i := i) h).sends (F' := sendOn r f ++ [frW r 2 frm f.key (zS f.w.s) (decide (3 = 3)) 0]) fun G' x hI y hy ek => by
     rw [put_self]
     rcases List.mem_append.1 hy with hy | hy
     ·exact so _ G' x y hy ek
     ·rw [List.mem_singleton] at hy
      subst hy
      refine FrOk.ack m hi rfl rfl hle (fun hrm => ?_) ⟨f.w, x.g _ _ hg⟩
      have := Gh.rm_r (G := G') (w := f.w) (x.g _ _ hg) hrm
      rw [hfr] at this
      cases this
    exact this
end
end Rep
end Go.Proofs.Ytafcbipmmjegcaa
namespace Go.Proofs.Ytafcbipmmjegcaa
namespace Rep
open Vm.X5 (hasV othV)
section
variable {n k i : Nat} {P : Nat → Plc} {W : List Fm} {G : Gh} {r : RS}
theorem Mate.setP (m : Mate n i r) (k : Nat) (p : Plc) : Mate n i (setP r k p) := ⟨m.self, m.life, m.oth, m.mem, m.ohas, m.few, m.vh⟩
theorem onAck_step (h : InvK n P k W G) (hi : i < n) (m : Mate n i r) (hr : r.P k = P i) (f : Fm) (frm : Nat) (hf : f ∈ W) (hk : f.key = k) (hki : f.kind = 2) (hfo : frm ∈ oth r) (hfa : ad frm = f.frm) : StepK n k i P W G ((onAck r f frm).1.P k) (onAck r f frm).2.1 (onAck r f frm).2.2 := by
 subst hk
 unfold onAck
 cases hd : (r.P f.key).dr with
 | none => dsimp only; rw [hr]; exact StepK.stay h
 | some d =>
  dsimp only
  by_cases hs : d.w.s = f.w.s
  ·rw [if_pos hs]
   obtain ⟨j, hj, rfl⟩ := m.ohas frm hfo
   have hd' : (P i).dr = some d := by rw [← hr]; exact hd
   have hk := h.dr i hi d hd'
   have ha := (h.fr f hf rfl).a hki j hj hfa.symm
   have h1 := h.cell hi { P i with dr := some (ackD d (j + 1) f.flag) } (h.cw i hi) (Le.refl _) (h.s0 i hi) (h.cv i hi) (fun e he => by
    injection he with he
    subst he
    refine ⟨hk.w, hk.h, hk.rm, fun j' hj' a => ?_, hk.ob⟩
    by_cases ej : j' = j
    ·subst ej
     show Le d.w.s _ ∧ (d.w.r = true → G.H j' d.w.s)
     rw [hs]
     exact ⟨ha.1, fun hrm => ha.2 (by rw [← hs]; exact Gh.rm_of hk.w hrm)⟩
    ·refine hk.ak j' hj' ?_
     have : put d.acks (j + 1) true (j' + 1) = true := a
     rw [put_ne _ _ _ (by omega)] at this
     exact this)
   have hp : ({ r.P f.key with dr := some (ackD d (j + 1) f.flag) } : Plc) = { P i with dr := some (ackD d (j + 1) f.flag) } := by rw [hr]
   have st : StepK n f.key i P W G { P i with dr := some (ackD d (j + 1) f.flag) } [] [] := ⟨_, ⟨Ext.had _ _ _, rfl⟩, by rw [List.append_nil]; exact h1, EvOk.nil _ _ _⟩
   have := st.next fun G' hI => look_step (r := setP r f.key { r.P f.key with dr := some (ackD d (j + 1) f.flag) }) hI hi (m.setP _ _) (by rw [setP_P, put_at, hp])
   exact this
  ·rw [if_neg hs]
   dsimp only
   rw [hr]
   exact StepK.stay h
theorem onVal_step (h : InvK n P k W G) (hi : i < n) (hr : r.P k = P i) (f : Fm) (hf : f ∈ W) (hk : f.key = k) (hki : f.kind = 3) : StepK n k i P W G ((onVal r f).P k) [] [] := by
 subst hk
 unfold onVal
 by_cases hb : (val (r.P f.key).c f.w.s).2 = true
 ·rw [if_pos hb]
  have hv : val (r.P f.key).c f.w.s = (⟨(r.P f.key).c.w, 1⟩, true) ∧ (r.P f.key).c.w.s = f.w.s := by
   unfold val at hb ⊢
   split
   ·rename_i hc; exact ⟨rfl, hc.2⟩
   ·rename_i hc; rw [if_neg hc] at hb; cases hb
  rw [hv.1]
  have hfv := (h.fr f hf rfl).v hki
  refine rest_step (r := setC r f.key ⟨(r.P f.key).c.w, 1⟩) h hi ⟨(r.P f.key).c.w, 1⟩ ?_ ?_ (fun e => by cases (show (1 : Nat) = 0 from e)) (fun _ hrm => ?_) (by unfold setC; rw [setP_P]) (by unfold setC; rw [setP_P, ← hr])
  ·show G.g (r.P f.key).c.w.s = some (r.P f.key).c.w
   rw [hr]; exact h.cw i hi
  ·show Le (P i).c.w.s (r.P f.key).c.w.s
   rw [hr]; exact Le.refl _
  ·show G.dn (r.P f.key).c.w.s
   have hrm : G.rm (r.P f.key).c.w.s := hrm
   rw [hv.2] at hrm ⊢
   exact hfv hrm
 ·rw [if_neg hb, hr]
  exact StepK.stay h
theorem FrOk.give {f : Fm} (hk : f.kind = 5) (hg : G.g f.w.s = some f.w) (hd : f.flag = true → G.rm f.w.s → G.dn f.w.s) : FrOk n P G f :=
 ⟨fun e => absurd (hk.symm.trans e) (by decide), fun e => absurd (hk.symm.trans e) (by decide), fun e => absurd (hk.symm.trans e) (by decide), fun _ => ⟨hg, hd⟩, fun e => e.elim (fun e => absurd (hk.symm.trans e) (by decide)) (fun e => absurd (hk.symm.trans e) (by decide))⟩
theorem onNeed_step (h : InvK n P k W G) (hi : i < n) (hr : r.P k = P i) (f : Fm) (frm : Nat) (hk : f.key = k) : StepK n k i P W G (r.P k) (onNeed r f frm) [] := by
 subst hk
 rw [hr]
 refine (StepK.stay (i := i) h).sends (F' := onNeed r f frm) fun G' x hI y hy ek => ?_
 rw [put_self]
 unfold onNeed at hy
 split at hy
 ·rw [List.mem_singleton] at hy
  subst hy
  refine FrOk.give rfl ?_ fun hfl hrm => ?_
  ·show G'.g (r.P f.key).c.w.s = some (r.P f.key).c.w
   rw [hr]; exact x.g _ _ (h.cw i hi)
  ·have hst : decide ((r.P f.key).c.st = 1) = true := hfl
   rw [hr] at hst
   have hrm : G'.rm (r.P f.key).c.w.s := hrm
   show G'.dn (r.P f.key).c.w.s
   rw [hr] at hrm ⊢
   refine x.dn _ (h.cv i hi (of_decide_eq_true hst) ?_)
   exact Gh.rm_of (h.cw i hi) (Gh.rm_r (x.g _ _ (h.cw i hi)) hrm)
 ·cases hy
theorem onGive_step (h : InvK n P k W G) (hi : i < n) (hr : r.P k = P i) (f : Fm) (hf : f ∈ W) (hk : f.key = k) (hki : f.kind = 5) : StepK n k i P W G ((onGive r f).1.P k) [] (onGive r f).2 := by
 subst hk
 obtain ⟨hg, hfl⟩ := (h.fr f hf rfl).g hki
 have hs0 : (r.P f.key).c.st ≠ 0 := by rw [hr]; exact h.s0 i hi
 have hgot : (got r f.key).P = r.P := rfl
 unfold onGive
 by_cases hl : less (r.P f.key).c.w.s f.w.s = true
 ·have hgv : give (r.P f.key).c f.w f.flag = (⟨f.w, if f.flag then 1 else 2⟩, true) := by unfold give; rw [if_pos (.inr hl)]
  rw [hgv]
  dsimp only
  rw [if_pos rfl, if_pos hl]
  refine way_step (r := setC (got r f.key) f.key ⟨f.w, if f.flag then 1 else 2⟩) h hi ⟨f.w, if f.flag then 1 else 2⟩ hg (by rw [← hr]; exact hl) (fun e => ?_) (fun e hrm => ?_) (by unfold setC; rw [setP_P]) (by unfold setC; rw [setP_P, hgot, ← hr])
  ·have e : (if f.flag then 1 else 2) = 0 := e
   split at e <;> cases e
  ·have e : (if f.flag then 1 else 2) = 1 := e
   split at e
   ·rename_i hfl'; exact hfl hfl' hrm
   ·cases e
 ·have hgv : give (r.P f.key).c f.w f.flag = if f.flag then val (r.P f.key).c f.w.s else ((r.P f.key).c, false) := by
   unfold give
   rw [if_neg (by rintro (e | e); exact hs0 e; exact hl e)]
  cases hff : f.flag with
  | false =>
   rw [hff, if_neg (by decide)] at hgv
   rw [hgv]
   dsimp only
   rw [if_neg (by decide)]
   show StepK n f.key i P W G (r.P f.key) [] []
   rw [hr]
   exact StepK.stay h
  | true =>
   rw [hff, if_pos rfl] at hgv
   rw [hgv]
   by_cases hb : (val (r.P f.key).c f.w.s).2 = true
   ·have hv : val (r.P f.key).c f.w.s = (⟨(r.P f.key).c.w, 1⟩, true) ∧ (r.P f.key).c.w.s = f.w.s := by
     unfold val at hb ⊢
     split
     ·rename_i hc; exact ⟨rfl, hc.2⟩
     ·rename_i hc; rw [if_neg hc] at hb; cases hb
    rw [hv.1]
    dsimp only
    rw [if_pos rfl, less_irr, if_neg (by decide)]
    refine rest_step (r := setC (got r f.key) f.key ⟨(r.P f.key).c.w, 1⟩) h hi ⟨(r.P f.key).c.w, 1⟩ ?_ ?_ (fun e => by cases (show (1 : Nat) = 0 from e)) (fun _ hrm => ?_) (by unfold setC; rw [setP_P]) (by unfold setC; rw [setP_P, hgot, ← hr])
    ·show G.g (r.P f.key).c.w.s = some (r.P f.key).c.w
     rw [hr]; exact h.cw i hi
    ·show Le (P i).c.w.s (r.P f.key).c.w.s
     rw [hr]; exact Le.refl _
    ·show G.dn (r.P f.key).c.w.s
     have hrm : G.rm (r.P f.key).c.w.s := hrm
     rw [hv.2] at hrm ⊢
     exact hfl hff hrm
   ·rw [if_neg hb]
    show StepK n f.key i P W G (r.P f.key) [] []
    rw [hr]
    exact StepK.stay h
theorem on_step (h : InvK n P k W G) (hi : i < n) (m : Mate n i r) (hr : r.P k = P i) (f : Fm) (hf : f ∈ W) (hk : f.key = k) : StepK n k i P W G ((on r f true).1.P k) (on r f true).2.1 (on r f true).2.2 := by
 unfold on
 cases hs : sender r f with
 | none => dsimp only; rw [hr]; exact StepK.stay h
 | some frm =>
  dsimp only
  have hse : frm ∈ oth r ∧ ad frm = f.frm := by
   unfold sender at hs
   split at hs
   ·refine ⟨List.mem_of_find?_eq_some hs, ?_⟩
    have := List.find?_some hs
    simpa using this
   ·cases hs
  by_cases h1 : f.kind = 1
  ·rw [if_pos h1]; exact onInv_step h hi m hr f frm hf hk h1
  ·rw [if_neg h1]
   by_cases h2 : f.kind = 2
   ·rw [if_pos h2, if_pos rfl]; exact onAck_step h hi m hr f frm hf hk h2 hse.1 hse.2
   ·rw [if_neg h2]
    by_cases h3 : f.kind = 3
    ·rw [if_pos h3]; exact onVal_step h hi hr f hf hk h3
    ·rw [if_neg h3]
     by_cases h4 : f.kind = 4
     ·rw [if_pos h4]; exact onNeed_step h hi hr f frm hk
     ·rw [if_neg h4]
      by_cases h5 : f.kind = 5
      ·rw [if_pos h5]; exact onGive_step h hi hr f hf hk h5
      ·rw [if_neg h5]; dsimp only; rw [hr]; exact StepK.stay h
end
end Rep
end Go.Proofs.Ytafcbipmmjegcaa
