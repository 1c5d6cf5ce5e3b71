/- Texts of this claim: RgE, RgF, RgG, RgI, RgJ. -/
import Derived.Test.YtafcbipmmjegcaaMg27
import Derived.Test.YtafcbipmmjegcaaMg26
namespace Go.Proofs.Ytafcbipmmjegcaa
namespace Rep
open Vm.X5 (hasV othV)
def Gh.wrote (G : Gh) (i : Nat) (w : Wrd) (b : Stp) : Gh := { G with g := fun x => if x = w.s then some w else G.g x, H := fun j x => G.H j x ∨ (j = i ∧ x = w.s), bs := fun x => if x = w.s then some b else G.bs x }
section
variable {n k i : Nat} {P : Nat → Plc} {W : List Fm} {G : Gh} {r : RS}
theorem InvK.fresh (h : InvK n P k W G) (hi : i < n) {s : Stp} (hb : s.b = i + 1) (hl : less (P i).c.w.s s = true) : G.g s = none := by
 cases hg : G.g s with
 | none => rfl
 | some w =>
  obtain ⟨_, h2⟩ := h.gs s w hg
  rcases h2 with ⟨h2, _⟩ | ⟨j, _, h3, _, h4⟩
  ·omega
  ·have : j = i := by omega
   subst this
   unfold Le at h4
   rw [hl] at h4
   cases h4
theorem InvK.wrote (h : InvK n P k W G) (hi : i < n) (w : Wrd) (hb : w.s.b = i + 1) (hl1 : w.s.l = 1) (hl : less (P i).c.w.s w.s = true) (hn : w.s.n = (P i).c.w.s.n + if w.r then 1 else 2) :
  InvK n (put P i ⟨⟨w, 2⟩, some (newD w true), 0⟩) k W (G.wrote i w (P i).c.w.s) := by
 have hf := h.fresh hi hb hl
 have hg : ∀ s x, G.g s = some x → (G.wrote i w (P i).c.w.s).g s = some x := fun s x e => by
  show (if s = w.s then some w else G.g s) = some x
  rw [if_neg (by rintro rfl; rw [hf] at e; cases e)]
  exact e
 have hgw : (G.wrote i w (P i).c.w.s).g w.s = some w := if_pos rfl
 have hrm : ∀ s x, G.g s = some x → (G.wrote i w (P i).c.w.s).rm s → G.rm s := fun s x e ⟨y, e1, e2⟩ => by
  rw [hg s x e] at e1
  injection e1 with e1
  subst e1
  exact ⟨_, e, e2⟩
 have hbs' : ∀ s b, G.bs s = some b → (G.wrote i w (P i).c.w.s).bs s = some b := fun s b e => by
  show (if s = w.s then some (P i).c.w.s else G.bs s) = some b
  rw [if_neg (by
   rintro rfl
   obtain ⟨⟨x, hx, _⟩, _⟩ := h.bs _ _ e
   rw [hf] at hx; cases hx)]
  exact e
 have hL : Le (P i).c.w.s w.s := Le.of_less hl
 have hP : ∀ j, j < n → Le (P j).c.w.s (put P i ⟨⟨w, 2⟩, some (newD w true), 0⟩ j).c.w.s := fun j _ => by
  by_cases e : j = i
  ·subst e; rw [put_at]; exact hL
  ·rw [put_ne _ _ _ e]; exact Le.refl _
 have hH : ∀ j x, G.H j x → (G.wrote i w (P i).c.w.s).H j x := fun _ _ x => .inl x
 refine ⟨fun j hj => ?_, fun j hj => ?_, fun j hj x hx => ?_, fun j hj hs hr => ?_, fun j hj d he => ?_, fun f hfm ek => ?_, fun j hj => ?_, fun s x e => ?_, fun s e => ?_, fun a e => ?_, fun s b e => ?_⟩
 ·by_cases e : j = i
  ·subst e; rw [put_at]; exact hgw
  ·rw [put_ne _ _ _ e]; exact hg _ _ (h.cw j hj)
 ·by_cases e : j = i
  ·subst e; rw [put_at]; exact .inr ⟨rfl, rfl⟩
  ·rw [put_ne _ _ _ e]; exact .inl (h.cH j hj)
 ·rcases hx with hx | ⟨e1, e2⟩
  ·exact (h.Hl j hj x hx).tr (hP j hj)
  ·subst e1 e2; rw [put_at]; exact Le.refl _
 ·by_cases e : j = i
  ·subst e; rw [put_at] at hs; cases hs
  ·rw [put_ne _ _ _ e] at *
   exact h.cv j hj hs (hrm _ _ (h.cw j hj) hr)
 ·have hnd : ¬ G.dn w.s := fun hd => by
   obtain ⟨⟨⟨x, hx⟩, _⟩, _⟩ := h.dn _ hd
   rw [hf] at hx; cases hx
  have hna : ¬ G.ab w.s := fun ha => by
   obtain ⟨⟨x, hx, _⟩, _⟩ := h.ab _ ha
   rw [hf] at hx; cases hx
  by_cases e : j = i
  ·subst e
   rw [put_at] at he
   injection he with he
   subst he
   exact ⟨hgw, .inr ⟨rfl, rfl⟩, fun _ => ⟨rfl, hnd, hna, hb⟩, (fun _ _ a => by cases a), fun _ => ⟨_, if_pos rfl⟩⟩
  ·rw [put_ne _ _ _ e] at he
   have h1 := h.dr j hj d he
   exact ⟨hg _ _ h1.w, .inl h1.h, h1.rm, fun j' hj' a => ⟨(h1.ak j' hj' a).1.tr (hP j' hj'), fun rr => .inl ((h1.ak j' hj' a).2 rr)⟩, fun o => by
    obtain ⟨b, hb'⟩ := h1.ob o
    exact ⟨b, hbs' _ _ hb'⟩⟩
 ·have h1 := h.fr f hfm ek
  refine ⟨fun e => hg _ _ (h1.i e), fun e j hj ef => ?_, fun e hr => ?_, fun e => ?_, fun e => ?_⟩
  ·obtain ⟨x, hx⟩ := h1.kn (.inl e)
   exact ⟨(h1.a e j hj ef).1.tr (hP j hj), fun hr => .inl ((h1.a e j hj ef).2 (hrm _ _ hx hr))⟩
  ·obtain ⟨x, hx⟩ := h1.kn (.inr e)
   exact h1.v e (hrm _ _ hx hr)
  ·exact ⟨hg _ _ (h1.g e).1, fun fl hr => (h1.g e).2 fl (hrm _ _ (h1.g e).1 hr)⟩
  ·obtain ⟨x, hx⟩ := h1.kn e
   exact ⟨x, hg _ _ hx⟩
 ·by_cases e : j = i
  ·subst e; rw [put_at]; exact (by decide : (2 : Nat) ≠ 0)
  ·rw [put_ne _ _ _ e]; exact h.s0 j hj
 ·by_cases es : s = w.s
  ·subst es
   rw [hgw] at e
   injection e with e
   subst e
   exact ⟨rfl, .inr ⟨i, hi, hb, hl1, by rw [put_at]; exact Le.refl _⟩⟩
  ·have e : G.g s = some x := by
    have e : (if s = w.s then some w else G.g s) = some x := e
    rw [if_neg es] at e
    exact e
   obtain ⟨h1, h2⟩ := h.gs s x e
   exact ⟨h1, h2.imp id fun ⟨j, hj, h3, h5, h4⟩ => ⟨j, hj, h3, h5, h4.tr (hP j hj)⟩⟩
 ·obtain ⟨⟨⟨x, h1⟩, b0, hb0⟩, h2, h3⟩ := h.dn s e
  exact ⟨⟨⟨x, hg _ _ h1⟩, b0, hbs' _ _ hb0⟩, fun j hj => (h2 j hj).tr (hP j hj), fun hr j hj => .inl (h3 (hrm _ _ h1 hr) j hj)⟩
 ·obtain ⟨⟨x, h1, h1'⟩, h2, j, hj, h3, h4⟩ := h.ab a e
  exact ⟨⟨x, hg _ _ h1, h1'⟩, h2, j, hj, h3, less_le h4 (hP j hj)⟩
 ·by_cases es : s = w.s
  ·subst es
   have e : (if w.s = w.s then some (P i).c.w.s else G.bs w.s) = some b := e
   rw [if_pos rfl] at e
   injection e with e
   subst e
   refine ⟨⟨w, hgw, hn⟩, hl, i, hi, hb, fun x hx => ?_⟩
   rcases hx with hx | ⟨_, rfl⟩
   ·exact .inl (h.Hl i hi x hx)
   ·exact .inr (Le.refl _)
  ·have e : G.bs s = some b := by
    have e : (if s = w.s then some (P i).c.w.s else G.bs s) = some b := e
    rw [if_neg es] at e
    exact e
   obtain ⟨⟨x, h1, h1'⟩, h2, j, hj, h3, h4⟩ := h.bs s b e
   refine ⟨⟨x, hg _ _ h1, h1'⟩, h2, j, hj, h3, fun y hy => ?_⟩
   rcases hy with hy | ⟨e1, e2⟩
   ·exact h4 y hy
   ·subst e1 e2
    right
    obtain ⟨_, h5⟩ := h.gs s x h1
    rcases h5 with ⟨h5, _⟩ | ⟨j', hj', h5, _, h6⟩
    ·omega
    ·have : j' = j := by omega
     subst this
     exact h6.tr hL
theorem nextS_some {c s : Stp} {d a b : Nat} (h : nextS c d a b = some s) : s = ⟨c.n + d, a, b⟩ := by
 unfold nextS at h
 split at h
 ·injection h with h; exact h.symm
 ·cases h
theorem write_step (h : InvK n P k W G) (hi : i < n) (m : Mate n i r) (hr : r.P k = P i) (b : Bool) (t : ByteArray) (rmw : Bool) :
  ((write r k b t rmw).2 = none ∧ (write r k b t rmw).1 = (r, [], [])) ∨
  ∃ s, (write r k b t rmw).2 = some s ∧ ∃ G', G'.bs = (fun x => if x = s then some (P i).c.w.s else G.bs x) ∧ Ext G G' ∧ InvK n (put P i ((write r k b t rmw).1.1.P k)) k (W ++ (write r k b t rmw).1.2.1) G' ∧ EvOk k G G' (write r k b t rmw).1.2.2 := by
 unfold write
 by_cases hf : free r k = true
 ·rw [if_pos hf]
  cases hx : nextS (r.P k).c.w.s (if rmw then 1 else 2) r.self r.life with
  | none => exact .inl ⟨rfl, rfl⟩
  | some s =>
   right
   refine ⟨s, rfl, ?_⟩
   have hs := nextS_some hx
   rw [hr, m.self, m.life] at hs
   have hl : less (P i).c.w.s s = true := by rw [less_iff, hs]; left; dsimp only; split <;> omega
   have h1 := h.wrote hi ⟨s, b, t, rmw⟩ (by rw [hs]) (by rw [hs]) hl (by rw [hs])
   have h2 := h1.send (sent r k ⟨s, b, t, rmw⟩) fun f hf' ek => sent_ok (G := G.wrote i ⟨s, b, t, rmw⟩ (P i).c.w.s) (if_pos rfl) f hf' ek
   have hgh : G.g s = none := h.fresh hi (by rw [hs]) hl
   have x1 : Ext G (G.wrote i ⟨s, b, t, rmw⟩ (P i).c.w.s) := ⟨fun x y e => by
     show (if x = s then some (⟨s, b, t, rmw⟩ : Wrd) else G.g x) = some y
     rw [if_neg (by rintro rfl; rw [hgh] at e; cases e)]; exact e, fun x y e => by
     show (if x = s then some (P i).c.w.s else G.bs x) = some y
     rw [if_neg (by
      rintro rfl
      obtain ⟨⟨w, hw, _⟩, _⟩ := h.bs _ _ e
      rw [hgh] at hw; cases hw)]
     exact e, fun _ x => x, fun _ x => x, fun _ _ x => .inl x⟩
   have lk := look_step (r := setP r k ⟨⟨⟨s, b, t, rmw⟩, 2⟩, some (newD ⟨s, b, t, rmw⟩ true), 0⟩) h2 hi (m.setP _ _) (by rw [setP_P, put_at])
   obtain ⟨G2, x2, h3, e3⟩ := lk
   rw [put_put, List.append_assoc] at h3
   refine ⟨G2, by rw [x2.2]; rfl, x1.tr x2.1, h3, fun e he => ?_⟩
   obtain ⟨a, c⟩ := e3 e he
   exact ⟨a, c.imp (fun ⟨p, q, u⟩ => ⟨p, q, fun hr hd => u hr hd⟩) id⟩
 ·rw [if_neg hf]
  exact .inl ⟨rfl, rfl⟩
theorem stay_tk (h : InvK n P k W G) (hi : i < n) (d : Drv) (hd : (P i).dr = some d) (d' : Drv) (hw : d'.w = d.w) (ho : d'.own = d.own) (ha : d'.acks = d.acks) (a : Nat) : StepK n k i P W G { P i with dr := some d', age := a } [] [] := by
 have h1 := h.dr i hi d hd
 refine ⟨_, ⟨Ext.had G i (P i).c.w.s, rfl⟩, by
  rw [List.append_nil]
  exact h.cell hi { P i with dr := some d', age := a } (h.cw i hi) (Le.refl _) (h.s0 i hi) (h.cv i hi) fun e he => by
   injection he with he
   subst he
   exact ⟨by rw [hw]; exact h1.w, by rw [hw]; exact h1.h, by rw [hw, ho]; exact h1.rm, by rw [hw, ha]; exact h1.ak, by rw [hw, ho]; exact h1.ob⟩, EvOk.nil _ _ _⟩
theorem beat_step (h : InvK n P k W G) (hi : i < n) (hr : r.P k = P i) (every : Nat) : StepK n k i P W G ((beat r k every).1.P k) (beat r k every).2 [] := by
 unfold beat
 cases hd : (r.P k).dr with
 | none => dsimp only; rw [hr]; exact StepK.stay h
 | some d =>
  dsimp only
  rw [setP_P, hr]
  have hd' : (P i).dr = some d := by rw [← hr]; exact hd
  have ht : (tickD d every).1.w = d.w ∧ (tickD d every).1.own = d.own ∧ (tickD d every).1.acks = d.acks := by unfold tickD; split <;> exact ⟨rfl, rfl, rfl⟩
  have s1 := stay_tk h hi d hd' (tickD d every).1 ht.1 ht.2.1 ht.2.2 (P i).age
  have := s1.sends (F' := if (tickD d every).2 then sent r k d.w else []) fun G' x hI f hf ek => by
   split at hf
   ·exact sent_ok (x.g _ _ (h.dr i hi d hd').w) f hf ek
   ·cases hf
  exact this
theorem stall_step (h : InvK n P k W G) (hi : i < n) (m : Mate n i r) (hr : r.P k = P i) (replay : Nat) (lease : Bool) : StepK n k i P W G ((stall r k replay lease).1.P k) (stall r k replay lease).2 [] := by
 have ag : ∀ a : Nat, StepK n k i P W G { P i with age := a } [] [] := fun a => ⟨_, ⟨Ext.had G i (P i).c.w.s, rfl⟩, by
  rw [List.append_nil]
  exact h.cell hi { P i with age := a } (h.cw i hi) (Le.refl _) (h.s0 i hi) (h.cv i hi) (h.dr i hi), EvOk.nil _ _ _⟩
 unfold stall
 split
 ·split
  ·split
   ·rw [setP_P, hr]
    refine (ag 0).sends (F' := if (P i).c.w.s.b = r.self then [] else [fr r 4 (P i).c.w.s.b k]) fun G' x hI f hf _ => ?_
    split at hf
    ·cases hf
    ·rw [List.mem_singleton] at hf
     subst hf
     exact ⟨fun e => absurd (show (4 : Nat) = 1 from e) (by decide), fun e => absurd (show (4 : Nat) = 2 from e) (by decide), fun e => absurd (show (4 : Nat) = 3 from e) (by decide), fun e => absurd (show (4 : Nat) = 5 from e) (by decide), fun e => e.elim (fun e => absurd (show (4 : Nat) = 2 from e) (by decide)) (fun e => absurd (show (4 : Nat) = 3 from e) (by decide))⟩
   ·rename_i hrep
    rw [setP_P]
    have hg := h.cw i hi
    have hnr : (P i).c.w.r = false := by
     cases hr' : (P i).c.w.r with
     | false => rfl
     | true =>
      exfalso
      apply hrep
      rw [hr]
      refine ⟨hr', ?_⟩
      obtain ⟨_, h2⟩ := h.gs _ _ hg
      rcases h2 with ⟨_, h2⟩ | ⟨j, hj, h3, h4, _⟩
      ·rw [hr'] at h2; cases h2
      ·rw [h3, h4]; exact m.mem j hj
    rw [hr]
    have s1 : StepK n k i P W G { P i with age := 0, dr := some (newD (P i).c.w false) } [] [] := ⟨_, ⟨Ext.had G i (P i).c.w.s, rfl⟩, by
     rw [List.append_nil]
     exact h.cell hi { P i with age := 0, dr := some (newD (P i).c.w false) } hg (Le.refl _) (h.s0 i hi) (h.cv i hi) fun e he => by
      injection he with he
      subst he
      exact ⟨hg, h.cH i hi, (fun rr => by
       have rr : (P i).c.w.r = true := rr
       rw [hnr] at rr; cases rr), (fun _ _ a => by cases a), (fun o => by cases o)⟩, EvOk.nil _ _ _⟩
    exact s1.sends fun G' x hI f hf ek => sent_ok (x.g _ _ hg) f hf ek
  ·rw [setP_P, hr]
   exact ag _
 ·dsimp only
  rw [hr]
  exact StepK.stay h
theorem tickK_step (h : InvK n P k W G) (hi : i < n) (m : Mate n i r) (hr : r.P k = P i) (every replay : Nat) : StepK n k i P W G ((tickK r k every replay true).1.P k) (tickK r k every replay true).2.1 (tickK r k every replay true).2.2 := by
 unfold tickK
 cases hd : (r.P k).dr with
 | none => exact stall_step h hi m hr replay true
 | some d =>
  dsimp only
  rw [if_pos rfl]
  have := (look_step h hi m hr).next fun G' hI => beat_step (r := (look r k).1) hI hi (by rw [put_at]) every
  simp only [List.append_nil] at this
  exact this
end
end Rep
end Go.Proofs.Ytafcbipmmjegcaa
namespace Go.Proofs.Ytafcbipmmjegcaa
namespace Rep
open Vm.X5 (hasV othV aheadV behindV)
structure Keep (k : Nat) (r r' : RS) : Prop where
 self : r'.self = r.self
 life : r'.life = r.life
 v : r'.v = r.v
 P : ∀ j, j ≠ k → r'.P j = r.P j
 has : ∀ j, r.has j = true → r'.has j = true
theorem Keep.refl (k : Nat) (r : RS) : Keep k r r := ⟨rfl, rfl, rfl, fun _ _ => rfl, fun _ h => h⟩
theorem Keep.tr {k : Nat} {r r' r2 : RS} (h : Keep k r r') (h' : Keep k r' r2) : Keep k r r2 :=
 ⟨h'.self.trans h.self, h'.life.trans h.life, h'.v.trans h.v, fun j hj => (h'.P j hj).trans (h.P j hj), fun j hj => h'.has j (h.has j hj)⟩
theorem Keep.set (r : RS) (k : Nat) (p : Plc) : Keep k r (setP r k p) := ⟨rfl, rfl, rfl, fun _ hj => put_ne _ _ _ hj, fun _ h => h⟩
theorem Keep.setC (r : RS) (k : Nat) (c : Cel) : Keep k r (setC r k c) := Keep.set r k _
theorem Keep.got (r : RS) (k : Nat) : Keep k r (got r k) := ⟨rfl, rfl, rfl, fun _ _ => rfl, fun j h => by
 show put r.has k true j = true
 by_cases e : j = k
 ·subst e; exact put_at _ _ _
 ·rw [put_ne _ _ _ e]; exact h⟩
theorem Keep.look (r : RS) (k : Nat) : Keep k r (look r k).1 := by
 unfold Rep.look
 split
 ·exact Keep.refl _ _
 ·split
  ·split
   ·exact Keep.set _ _ _
   ·exact Keep.set _ _ _
  ·exact Keep.refl _ _
theorem Keep.way (r : RS) (k : Nat) : Keep k r (way r k).1 := by
 unfold Rep.way
 split
 ·exact Keep.set _ _ _
 ·split
  ·split
   ·exact Keep.set _ _ _
   ·exact Keep.set _ _ _
  ·exact Keep.set _ _ _
theorem Keep.rest (r : RS) (k : Nat) : Keep k r (rest r k) := by
 unfold Rep.rest
 split
 ·exact Keep.set _ _ _
 ·split
  ·exact Keep.set _ _ _
  ·exact Keep.set _ _ _
theorem Keep.beat (r : RS) (k every : Nat) : Keep k r (beat r k every).1 := by
 unfold Rep.beat
 split
 ·exact Keep.refl _ _
 ·exact Keep.set _ _ _
theorem Keep.stall (r : RS) (k replay : Nat) (lease : Bool) : Keep k r (stall r k replay lease).1 := by
 unfold Rep.stall
 split
 ·split
  ·split
   ·exact Keep.set _ _ _
   ·exact Keep.set _ _ _
  ·exact Keep.set _ _ _
 ·exact Keep.refl _ _
theorem Keep.tickK (r : RS) (k every replay : Nat) (lease : Bool) : Keep k r (tickK r k every replay lease).1 := by
 unfold Rep.tickK
 split
 ·split
  ·exact (Keep.look r k).tr (Keep.beat _ _ _)
  ·exact Keep.beat _ _ _
 ·exact Keep.stall _ _ _ _
theorem Keep.write (r : RS) (k : Nat) (b : Bool) (t : ByteArray) (rmw : Bool) : Keep k r (write r k b t rmw).1.1 := by
 unfold Rep.write
 split
 ·split
  ·exact Keep.refl _ _
  ·exact (Keep.set r k _).tr (Keep.look _ _)
 ·exact Keep.refl _ _
theorem Keep.on (r : RS) (f : Fm) (lease : Bool) : Keep f.key r (on r f lease).1 := by
 unfold Rep.on
 split
 ·exact Keep.refl _ _
 ·rename_i frm _
  split
  ·unfold Rep.onInv
   split
   ·exact Keep.refl _ _
   ·split
    ·exact (Keep.setC _ _ _).tr (Keep.way _ _)
    ·exact Keep.setC _ _ _
  ·split
   ·split
    ·unfold Rep.onAck
     split
     ·exact Keep.refl _ _
     ·split
      ·exact (Keep.set _ _ _).tr (Keep.look _ _)
      ·exact Keep.refl _ _
    ·exact Keep.refl _ _
   ·split
    ·show Keep f.key r (onVal r f)
     unfold Rep.onVal
     split
     ·exact (Keep.setC _ _ _).tr (Keep.rest _ _)
     ·exact Keep.refl _ _
    ·split
     ·exact Keep.refl _ _
     ·split
      ·show Keep f.key r (onGive r f).1
       unfold Rep.onGive
       split
       ·split
        ·exact ((Keep.got _ _).tr (Keep.setC _ _ _)).tr (Keep.way _ _)
        ·exact ((Keep.got _ _).tr (Keep.setC _ _ _)).tr (Keep.rest _ _)
       ·exact Keep.got _ _
      ·exact Keep.refl _ _
theorem Mate.keep {n i k : Nat} {r r' : RS} (m : Mate n i r) (h : Keep k r r') : Mate n i r' := by
 have ho : Rep.oth r' = Rep.oth r := by unfold Rep.oth; rw [h.v, h.self]
 exact ⟨h.self.trans m.self, h.life.trans m.life, fun j hj hji => by rw [ho]; exact m.oth j hj hji, fun j hj => by rw [h.v]; exact m.mem j hj, fun x hx => m.ohas x (by rw [← ho]; exact hx), m.few, fun b l hb => m.vh b l (by rw [← h.v]; exact hb)⟩
def Goes (n k : Nat) (F : List Fm) : Prop := ∀ f, f ∈ F → f.key = k ∧ ∃ j, j < n ∧ f.to = ad (j + 1)
theorem Goes.nil (n k : Nat) : Goes n k [] := fun _ h => by cases h
theorem Goes.app {n k : Nat} {F F' : List Fm} (h : Goes n k F) (h' : Goes n k F') : Goes n k (F ++ F') := fun f hf => (List.mem_append.1 hf).elim (h f) (h' f)
theorem Goes.one {n k : Nat} {f : Fm} (hk : f.key = k) {j : Nat} (hj : j < n) (ht : f.to = ad (j + 1)) : Goes n k [f] := fun x hx => by
 rw [List.mem_singleton] at hx; subst hx; exact ⟨hk, j, hj, ht⟩
structure Chain (n : Nat) (r : RS) : Prop where
 a : aheadV r.v.ms r.self ≠ 0 → ∃ j, j < n ∧ aheadV r.v.ms r.self = j + 1
 b : behindV r.v.ms r.self ≠ 0 → ∃ j, j < n ∧ behindV r.v.ms r.self = j + 1
theorem Chain.keep {n k : Nat} {r r' : RS} (c : Chain n r) (h : Keep k r r') : Chain n r' := ⟨by rw [h.v, h.self]; exact c.a, by rw [h.v, h.self]; exact c.b⟩
section
variable {n i k : Nat} {r : RS}
theorem goes_sent (c : Chain n r) (w : Wrd) : Goes n k (sent r k w) := by
 unfold sent
 refine Goes.app ?_ ?_
 ·split
  ·exact Goes.nil _ _
  ·rename_i h; obtain ⟨j, hj, e⟩ := c.a h; exact Goes.one rfl hj (by rw [e]; rfl)
 ·split
  ·exact Goes.nil _ _
  ·rename_i h; obtain ⟨j, hj, e⟩ := c.b h; exact Goes.one rfl hj (by rw [e]; rfl)
theorem goes_look (m : Mate n i r) : Goes n k (look r k).2.1 := by
 unfold look
 split
 ·exact Goes.nil _ _
 ·split
  ·split
   ·intro f hf
    obtain ⟨z, hz, rfl⟩ := List.mem_map.1 hf
    obtain ⟨j, hj, rfl⟩ := m.ohas z hz
    exact ⟨rfl, j, hj, rfl⟩
   ·exact Goes.nil _ _
  ·exact Goes.nil _ _
theorem goes_beat (c : Chain n r) (every : Nat) : Goes n k (beat r k every).2 := by
 unfold beat
 split
 ·exact Goes.nil _ _
 ·dsimp only
  split
  ·exact goes_sent c _
  ·exact Goes.nil _ _
theorem goes_sendOn (c : Chain n r) (f : Fm) : Goes n f.key (sendOn r f) := by
 unfold sendOn
 split
 ·split
  ·exact Goes.nil _ _
  ·rename_i h; obtain ⟨j, hj, e⟩ := c.a h; exact Goes.one rfl hj (by rw [e])
 ·split
  ·split
   ·exact Goes.nil _ _
   ·rename_i h; obtain ⟨j, hj, e⟩ := c.b h; exact Goes.one rfl hj (by rw [e])
  ·exact Goes.nil _ _
theorem goes_write (m : Mate n i r) (c : Chain n r) (b : Bool) (t : ByteArray) (rmw : Bool) : Goes n k (write r k b t rmw).1.2.1 := by
 unfold write
 split
 ·split
  ·exact Goes.nil _ _
  ·exact (goes_sent c _).app (goes_look (m.setP _ _))
 ·exact Goes.nil _ _
theorem goes_on (m : Mate n i r) (c : Chain n r) (f : Fm) (lease : Bool) : Goes n f.key (on r f lease).2.1 := by
 unfold on
 split
 ·exact Goes.nil _ _
 ·rename_i frm hs
  have hfo : frm ∈ oth r := by
   unfold sender at hs
   split at hs
   ·exact List.mem_of_find?_eq_some hs
   ·cases hs
  obtain ⟨j, hj, rfl⟩ := m.ohas frm hfo
  split
  ·unfold onInv
   split
   ·exact (goes_sendOn c f).app (Goes.one rfl hj rfl)
   ·split
    ·exact (goes_sendOn c f).app (Goes.one rfl hj rfl)
    ·exact (goes_sendOn c f).app (Goes.one rfl hj rfl)
  ·split
   ·split
    ·unfold onAck
     split
     ·exact Goes.nil _ _
     ·split
      ·exact goes_look (m.setP _ _)
      ·exact Goes.nil _ _
    ·exact Goes.nil _ _
   ·split
    ·exact Goes.nil _ _
    ·split
     ·show Goes n f.key (onNeed r f (j + 1))
      unfold onNeed
      split
      ·exact Goes.one rfl hj rfl
      ·exact Goes.nil _ _
     ·split
      ·exact Goes.nil _ _
      ·exact Goes.nil _ _
end
end Rep
end Go.Proofs.Ytafcbipmmjegcaa
namespace Go.Proofs.Ytafcbipmmjegcaa
namespace Rep
open Vm.X5 (hasV othV aheadV behindV)
structure GInv (n : Nat) (R : Nat → RS) (W : List Fm) (GG : Nat → Gh) : Prop where
 m : ∀ i, i < n → Mate n i (R i)
 c : ∀ i, i < n → Chain n (R i)
 has : ∀ i, i < n → ∀ k, k < 6 → (R i).has k = true
 to : ∀ f, f ∈ W → f.key < 6 ∧ ∃ j, j < n ∧ f.to = ad (j + 1)
 K : ∀ k, k < 6 → InvK n (fun i => (R i).P k) k W (GG k)
def GExt (GG GG' : Nat → Gh) : Prop := ∀ k, Ext (GG k) (GG' k)
theorem GExt.refl (GG : Nat → Gh) : GExt GG GG := fun _ => Ext.refl _
theorem GExt.tr {A B C : Nat → Gh} (h : GExt A B) (h' : GExt B C) : GExt A C := fun k => (h k).tr (h' k)
def GEv (GG GG' : Nat → Gh) (E : List Ev) : Prop := ∀ e ∈ E, e.key < 6 ∧ (e.kind = 1 ∧ (GG' e.key).dn e.s ∧ ((GG' e.key).rm e.s → ¬ (GG e.key).dn e.s) ∨ e.kind = 2 ∧ (GG' e.key).ab e.s)
theorem GEv.nil (GG GG' : Nat → Gh) : GEv GG GG' [] := fun _ h => by cases h
section
variable {n : Nat} {R : Nat → RS} {W : List Fm} {GG : Nat → Gh}
theorem GInv.set (h : GInv n R W GG) {i : Nat} (hi : i < n) {k : Nat} (hk : k < 6) {r' : RS} {F : List Fm} {G' : Gh} (kp : Keep k (R i) r') (go : Goes n k F)
  (hI : InvK n (put (fun j => (R j).P k) i (r'.P k)) k (W ++ F) G') : GInv n (put R i r') (W ++ F) (put GG k G') := by
 refine ⟨fun j hj => ?_, fun j hj => ?_, fun j hj q hq => ?_, fun f hf => ?_, fun q hq => ?_⟩
 ·by_cases e : j = i
  ·subst e; rw [put_at]; exact (h.m j hj).keep kp
  ·rw [put_ne _ _ _ e]; exact h.m j hj
 ·by_cases e : j = i
  ·subst e; rw [put_at]; exact (h.c j hj).keep kp
  ·rw [put_ne _ _ _ e]; exact h.c j hj
 ·by_cases e : j = i
  ·subst e; rw [put_at]; exact kp.has q (h.has j hj q hq)
  ·rw [put_ne _ _ _ e]; exact h.has j hj q hq
 ·rcases List.mem_append.1 hf with hf | hf
  ·exact h.to f hf
  ·obtain ⟨e, g⟩ := go f hf
   exact ⟨by rw [e]; exact hk, g⟩
 ·by_cases e : q = k
  ·subst e
   rw [put_at]
   have : (fun j => (put R i r' j).P q) = put (fun j => (R j).P q) i (r'.P q) := by
    funext j
    by_cases e : j = i
    ·subst e; rw [put_at, put_at]
    ·rw [put_ne _ _ _ e, put_ne _ _ _ e]
   rw [this]
   exact hI
  ·rw [put_ne _ _ _ e]
   have : (fun j => (put R i r' j).P q) = fun j => (R j).P q := by
    funext j
    by_cases ej : j = i
    ·subst ej; rw [put_at]; exact kp.P q e
    ·rw [put_ne _ _ _ ej]
   rw [this]
   exact (h.K q hq).send F fun f hf ek => absurd (ek.symm.trans (go f hf).1) e
theorem gext_put {k : Nat} {G' : Gh} (x : Ext (GG k) G') : GExt GG (put GG k G') := fun q => by
 by_cases e : q = k
 ·subst e; rw [put_at]; exact x
 ·rw [put_ne _ _ _ e]; exact Ext.refl _
theorem gev_put {k : Nat} (hk : k < 6) {G' : Gh} {E : List Ev} (h : EvOk k (GG k) G' E) : GEv GG (put GG k G') E := fun e he => by
 obtain ⟨h1, h2⟩ := h e he
 rw [h1, put_at]
 exact ⟨hk, h2⟩
theorem GInv.step (h : GInv n R W GG) {i : Nat} (hi : i < n) {k : Nat} (hk : k < 6) {r' : RS} {F : List Fm} {E : List Ev} (kp : Keep k (R i) r') (go : Goes n k F)
  (st : StepK n k i (fun j => (R j).P k) W (GG k) (r'.P k) F E) : ∃ GG', GExt GG GG' ∧ (∀ j, (GG' j).bs = (GG j).bs) ∧ GInv n (put R i r') (W ++ F) GG' ∧ GEv GG GG' E := by
 obtain ⟨G', x, hI, ev⟩ := st
 refine ⟨put GG k G', gext_put x.1, fun j => ?_, h.set hi hk kp go hI, gev_put hk ev⟩
 by_cases e : j = k
 ·subst e; rw [put_at]; exact x.2
 ·rw [put_ne _ _ _ e]
theorem GEv.mono {G1 G2 : Nat → Gh} {E : List Ev} (h : GEv GG G1 E) (x : GExt G1 G2) (hg : ∀ k, k < 6 → ∀ s, (G1 k).dn s → ∃ w, (G1 k).g s = some w) : GEv GG G2 E := fun e he => by
 obtain ⟨h1, h2⟩ := h e he
 refine ⟨h1, h2.imp (fun ⟨a, b, c⟩ => ⟨a, (x _).dn _ b, fun hr => c ?_⟩) fun ⟨a, b⟩ => ⟨a, (x _).ab _ b⟩⟩
 obtain ⟨w, hw⟩ := hg _ h1 _ b
 obtain ⟨w', e1, e2⟩ := hr
 rw [(x _).g _ _ hw] at e1
 injection e1 with e1
 subst e1
 exact ⟨_, hw, e2⟩
theorem GEv.app {G1 G2 : Nat → Gh} {E E' : List Ev} (h : GEv GG G1 E) (h' : GEv G1 G2 E') (x : GExt GG G1) (x' : GExt G1 G2) (hg : ∀ k, k < 6 → ∀ s, (G1 k).dn s → ∃ w, (G1 k).g s = some w) : GEv GG G2 (E ++ E') := fun e he => by
 rcases List.mem_append.1 he with he | he
 ·exact (h.mono x' hg) e he
 ·obtain ⟨a, b⟩ := h' e he
  exact ⟨a, b.imp (fun ⟨p, q, u⟩ => ⟨p, q, fun hr hd => u hr ((x _).dn _ hd)⟩) id⟩
theorem goes_tickK {i k : Nat} {r : RS} (m : Mate n i r) (c : Chain n r) (every replay : Nat) : Goes n k (tickK r k every replay true).2.1 := by
 unfold tickK
 split
 ·rw [if_pos rfl]
  exact (goes_look m).app (goes_beat (c.keep (Keep.look r k)) every)
 ·dsimp only
  unfold stall
  split
  ·split
   ·split
    ·rename_i hh
     dsimp only
     split
     ·exact Goes.nil _ _
     ·obtain ⟨j, hj, e⟩ := m.vh _ _ hh.2
      exact Goes.one rfl hj (by rw [← e]; rfl)
    ·exact goes_sent c _
   ·exact Goes.nil _ _
  ·exact Goes.nil _ _
theorem put_same (R : Nat → RS) (i : Nat) : put R i (R i) = R := put_self _ _
theorem tickL_step {i : Nat} (hi : i < n) (every replay : Nat) : ∀ (l : List Nat) (R : Nat → RS) (W : List Fm) (GG : Nat → Gh), GInv n R W GG → (∀ k ∈ l, k < 6) →
  ∃ GG', GExt GG GG' ∧ (∀ j, (GG' j).bs = (GG j).bs) ∧ GInv n (put R i (tickL (R i) every replay true l).1) (W ++ (tickL (R i) every replay true l).2.1) GG' ∧ GEv GG GG' (tickL (R i) every replay true l).2.2
 | [], R, W, GG, h, _ => ⟨GG, GExt.refl _, fun _ => rfl, by
   show GInv n (put R i (R i)) (W ++ []) GG
   rw [put_same, List.append_nil]; exact h, GEv.nil _ _⟩
 | k :: l, R, W, GG, h, hl => by
  have hk := hl k (List.mem_cons_self ..)
  have st := tickK_step (h.K k hk) hi (h.m i hi) (r := R i) rfl every replay
  obtain ⟨G1, x1, b1, h1, e1⟩ := h.step hi hk (Keep.tickK (R i) k every replay true) (goes_tickK (h.m i hi) (h.c i hi) every replay) st
  obtain ⟨G2, x2, b2, h2, e2⟩ := tickL_step hi every replay l _ _ G1 h1 fun k hk => hl k (List.mem_cons_of_mem _ hk)
  rw [put_at, put_put] at h2
  rw [put_at] at e2
  rw [List.append_assoc] at h2
  exact ⟨G2, x1.tr x2, fun j => (b2 j).trans (b1 j), h2, e1.app e2 x1 x2 fun k hk s hs => ((h1.K k hk).dn s hs).1.1⟩
theorem GInv.tick (h : GInv n R W GG) {i : Nat} (hi : i < n) (every replay : Nat) :
  ∃ GG', GExt GG GG' ∧ (∀ j, (GG' j).bs = (GG j).bs) ∧ GInv n (put R i (Rep.tick (R i) every replay true).1) (W ++ (Rep.tick (R i) every replay true).2.1) GG' ∧ GEv GG GG' (Rep.tick (R i) every replay true).2.2 := by
 have hin : inR (R i) = true := by
  unfold inR
  rw [(h.m i hi).self, (h.m i hi).life]
  exact (h.m i hi).mem i hi
 have has : complete (R i) = true := by
  unfold complete
  rw [h.has i hi 0 (by decide), h.has i hi 1 (by decide), h.has i hi 2 (by decide), h.has i hi 3 (by decide), h.has i hi 4 (by decide), h.has i hi 5 (by decide)]
  rfl
 have e : Rep.tick (R i) every replay true = tickL (R i) every replay true [0, 1, 2, 3, 4, 5] := by
  unfold Rep.tick asked
  rw [if_pos hin, if_pos has]
  rfl
 rw [e]
 exact tickL_step hi every replay [0, 1, 2, 3, 4, 5] R W GG h (by decide)
theorem GInv.on (h : GInv n R W GG) {i : Nat} (hi : i < n) (f : Fm) (hf : f ∈ W) :
  ∃ GG', GExt GG GG' ∧ (∀ j, (GG' j).bs = (GG j).bs) ∧ GInv n (put R i (Rep.on (R i) f true).1) (W ++ (Rep.on (R i) f true).2.1) GG' ∧ GEv GG GG' (Rep.on (R i) f true).2.2 :=
 h.step hi (h.to f hf).1 (Keep.on (R i) f true) (goes_on (h.m i hi) (h.c i hi) f true) (on_step (h.K f.key (h.to f hf).1) hi (h.m i hi) rfl f hf rfl)
theorem GInv.write (h : GInv n R W GG) {i : Nat} (hi : i < n) {k : Nat} (hk : k < 6) (b : Bool) (t : ByteArray) (rmw : Bool) :
  ((Rep.write (R i) k b t rmw).2 = none ∧ (Rep.write (R i) k b t rmw).1 = (R i, [], [])) ∨
  ∃ s, (Rep.write (R i) k b t rmw).2 = some s ∧ ∃ GG', (∀ j, (GG' j).bs = if j = k then (fun x => if x = s then some ((R i).P k).c.w.s else (GG k).bs x) else (GG j).bs) ∧ GExt GG GG' ∧ GInv n (put R i (Rep.write (R i) k b t rmw).1.1) (W ++ (Rep.write (R i) k b t rmw).1.2.1) GG' ∧ GEv GG GG' (Rep.write (R i) k b t rmw).1.2.2 := by
 rcases write_step (h.K k hk) hi (h.m i hi) (r := R i) rfl b t rmw with e | ⟨s, e, G', hb, x, hI, ev⟩
 ·exact .inl e
 ·refine .inr ⟨s, e, put GG k G', fun j => ?_, gext_put x, h.set hi hk (Keep.write (R i) k b t rmw) (goes_write (h.m i hi) (h.c i hi) b t rmw) hI, gev_put hk ev⟩
  by_cases ej : j = k
  ·subst ej; rw [put_at, if_pos rfl]; exact hb
  ·rw [put_ne _ _ _ ej, if_neg ej]
theorem GInv.lost (h : GInv n R W GG) {W' : List Fm} (hs : ∀ f, f ∈ W' → f ∈ W) : GInv n R W' GG :=
 ⟨h.m, h.c, h.has, fun f hf => h.to f (hs f hf), fun k hk => (h.K k hk).lost hs⟩
end
def G0 : Gh := ⟨fun s => if s = ⟨0, 0, 0⟩ then some z0 else none, fun _ s => s = ⟨0, 0, 0⟩, fun _ => False, fun _ => False, fun _ => none⟩
theorem InvK.start (n k : Nat) : InvK n (fun _ => ⟨⟨z0, 1⟩, none, 0⟩) k [] G0 := by
 have hz : ∀ s w, G0.g s = some w → s = ⟨0, 0, 0⟩ ∧ w = z0 := fun s w e => by
  have e : (if s = ⟨0, 0, 0⟩ then some z0 else none) = some w := e
  split at e
  ·rename_i h; injection e with e; exact ⟨h, e.symm⟩
  ·cases e
 refine ⟨fun _ _ => (show (if (⟨0, 0, 0⟩ : Stp) = ⟨0, 0, 0⟩ then some z0 else none) = some z0 from if_pos rfl), fun _ _ => rfl, fun _ _ x hx => by rw [show x = ⟨0, 0, 0⟩ from hx]; exact Le.refl _, fun _ _ _ hr => ?_, (fun _ _ _ e => by cases e), (fun _ e => by cases e), fun _ _ => by decide, fun s w e => ?_, (fun _ e => e.elim), (fun _ e => e.elim), (fun _ _ e => by cases e)⟩
 ·obtain ⟨w, e1, e2⟩ := hr
  rw [(hz _ _ e1).2] at e2
  cases e2
 ·obtain ⟨h1, h2⟩ := hz s w e
  subst h1 h2
  exact ⟨rfl, .inl ⟨rfl, rfl⟩⟩
def vN (n : Nat) : View.VS := ⟨1, Vm.X5.firstM n, Vm.X5.firstL n⟩
def rN (n i : Nat) : RS := { begun (i + 1) 1 true with v := vN n }
theorem mate_N {n i : Nat} (h1 : 1 ≤ n) (h5 : n ≤ 5) (hi : i < n) : Mate n i (rN n i) := by
 have hc : n = 1 ∨ n = 2 ∨ n = 3 ∨ n = 4 ∨ n = 5 := by omega
 refine ⟨rfl, rfl, ?_, ?_, ?_, by omega, ?_⟩
 ·rcases hc with rfl|rfl|rfl|rfl|rfl <;> (have hi' : i = 0 ∨ i = 1 ∨ i = 2 ∨ i = 3 ∨ i = 4 := by omega) <;> rcases hi' with rfl|rfl|rfl|rfl|rfl <;> first | omega | decide
 ·show ∀ j, j < n → hasV (vN n).ms (j + 1) 1 = true
  rcases hc with rfl|rfl|rfl|rfl|rfl <;> decide
 ·rcases hc with rfl|rfl|rfl|rfl|rfl <;> (have hi' : i = 0 ∨ i = 1 ∨ i = 2 ∨ i = 3 ∨ i = 4 := by omega) <;> rcases hi' with rfl|rfl|rfl|rfl|rfl <;> first | omega | decide
 ·intro b l hb
  refine Classical.byContradiction fun hno => ?_
  have hat : View.atI (Vm.X5.firstM n) b = -1 := View.atI_none fun j hj e => hno ⟨j, by rw [Vm.X5.firstM_len] at hj; exact hj, by
   rw [← e]
   simp [Vm.X5.firstM]⟩
  have hf : Vm.X5.findV (Vm.X5.firstM n) b = (⟨0, 0, false⟩, false) := by unfold Vm.X5.findV; rw [hat]; rfl
  have hb : hasV (Vm.X5.firstM n) b l = true := hb
  unfold Vm.X5.hasV at hb
  rw [hf] at hb
  cases hb
theorem chain_N {n i : Nat} (h1 : 1 ≤ n) (h5 : n ≤ 5) (hi : i < n) : Chain n (rN n i) := by
 have hc : n = 1 ∨ n = 2 ∨ n = 3 ∨ n = 4 ∨ n = 5 := by omega
 constructor
 ·rcases hc with rfl|rfl|rfl|rfl|rfl <;> (have hi' : i = 0 ∨ i = 1 ∨ i = 2 ∨ i = 3 ∨ i = 4 := by omega) <;> rcases hi' with rfl|rfl|rfl|rfl|rfl <;> first | omega | decide
 ·rcases hc with rfl|rfl|rfl|rfl|rfl <;> (have hi' : i = 0 ∨ i = 1 ∨ i = 2 ∨ i = 3 ∨ i = 4 := by omega) <;> rcases hi' with rfl|rfl|rfl|rfl|rfl <;> first | omega | decide
theorem GInv.start {n : Nat} (h1 : 1 ≤ n) (h5 : n ≤ 5) : GInv n (rN n) [] (fun _ => G0) :=
 ⟨fun _ hi => mate_N h1 h5 hi, fun _ hi => chain_N h1 h5 hi, fun _ _ _ _ => rfl, (fun _ hf => by cases hf), fun k _ => InvK.start n k⟩
end Rep
end Go.Proofs.Ytafcbipmmjegcaa
namespace Go.Proofs.Ytafcbipmmjegcaa.Vm
open Go Go.RowKit
namespace X20
open Rep (RS Fm Ev put)
theorem famR {f : FuncId} {a : List T} {b : Nat} {cs : List T} {gl : Glb} {Q Q' : T → Obs → Glb → Prop} (hg : gl b = some (.cells cs))
  (H : TCalls Try.prog f (.ptr 0 b 0 :: a) [(b, .cells cs)] (dropO gl b) Q')
  (hob : ∀ r ob' gl', Q' r ob' gl' → ∃ cs', ob' = [(b, .cells cs')])
  (hq : ∀ r cs' gl', gl' b = none → Q' r [(b, .cells cs')] gl' → Q r [] (setO gl' b (.cells cs'))) : TCalls Try.prog f (.gp b 0 :: a) [] gl Q :=
 (H.postA fun r ob' gl' ha hr => by
  obtain ⟨cs', rfl⟩ := hob r ob' gl' hr
  exact ⟨r, [], _, Imp.intoG (ob := []) rfl, hq r cs' gl' (ha.sep 0 _ b rfl rfl) hr⟩).pre ((Imp.slotR (j := 0) rfl (gp_ptr (i := 0))).trans (Imp.outG (b := b) rfl hg))
theorem Own.has {D : Dr} {r : RS} {gl : Glb} (h : Own D r gl) {b : Nat} (hb : In_ D r b) : gl b ≠ none := by
 rcases hb with rfl | ⟨k, hk, hs, hb⟩
 ·rw [h.tr]; intro e; cases e
 ·obtain ⟨d, hd⟩ := Option.isSome_iff_exists.1 hs
  obtain ⟨h1, es, ck, h2⟩ := h.dr k hk d hd
  rcases hb with rfl|rfl
  ·rw [h1]; intro e; cases e
  ·rw [h2]; intro e; cases e
theorem Own.same_at {D : Dr} {r : RS} {gl gl' : Glb} (h : Own D r gl) (he : ∀ b, In_ D r b → gl' b = gl b) : Own D r gl' := by
 refine ⟨by rw [he _ (.inl rfl)]; exact h.tr, fun k hk d hd => ?_, h.tg, h.gg, h.mm⟩
 have hs : (r.P k).dr.isSome = true := by rw [hd]; rfl
 obtain ⟨h1, es, ck, h2⟩ := h.dr k hk d hd
 exact ⟨by rw [he _ (.inr ⟨k, hk, hs, .inl rfl⟩)]; exact h1, es, ck, by rw [he _ (.inr ⟨k, hk, hs, .inr rfl⟩)]; exact h2⟩
structure Lot (n : Nat) (B : Nat → Nat) (R : Nat → RS) (DD : Nat → Dr) (gl : Glb) : Prop where
 cell : ∀ i, i < n → gl (B i) = some (.cells (repC (R i) (DD i)))
 own : ∀ i, i < n → Own (DD i) (R i) gl
 nb : ∀ i j, i < n → j < n → ¬ In_ (DD j) (R j) (B i)
 bb : ∀ i j, i < n → j < n → i ≠ j → B i ≠ B j
 sep : ∀ i j, i < n → j < n → i ≠ j → ∀ b, In_ (DD i) (R i) b → ¬ In_ (DD j) (R j) b
section
variable {n : Nat} {B : Nat → Nat} {R : Nat → RS} {DD : Nat → Dr} {gl : Glb}
theorem Lot.out (h : Lot n B R DD gl) {i : Nat} (hi : i < n) : Own (DD i) (R i) (dropO gl (B i)) :=
 (h.own i hi).same_at fun b hb => dropO_ne gl fun e => h.nb i i hi hi (e ▸ hb)
theorem Lot.step (h : Lot n B R DD gl) {i : Nat} (hi : i < n) {r' : RS} {D' : Dr} {gl' : Glb} (hn : gl' (B i) = none) (ho : Own D' r' gl') (hs : Step (dropO gl (B i)) (DD i) (R i) gl' D' r') :
  Lot n B (put R i r') (put DD i D') (setO gl' (B i) (.cells (repC r' D'))) := by
 have hB' : ¬ In_ D' r' (B i) := fun hb => ho.has hb hn
 have keep : ∀ j, j < n → j ≠ i → ∀ b, b = B j ∨ In_ (DD j) (R j) b → setO gl' (B i) (.cells (repC r' D')) b = gl b := fun j hj hji b hb => by
  have hbi : b ≠ B i := by
   rcases hb with rfl | hb
   ·exact h.bb j i hj hi hji
   ·intro e; subst e; exact h.nb i j hi hj hb
  have hin : ¬ In_ (DD i) (R i) b := by
   rcases hb with rfl | hb
   ·exact h.nb j i hj hi
   ·exact h.sep j i hj hi hji b hb
  have hne : gl b ≠ none := by
   rcases hb with rfl | hb
   ·rw [h.cell j hj]; intro e; cases e
   ·exact (h.own j hj).has hb
  rw [setO_ne _ _ hbi, hs.keep b hin (by rw [dropO_ne gl hbi]; exact hne), dropO_ne gl hbi]
 have new : ∀ j, j < n → j ≠ i → ∀ b, In_ D' r' b → ¬ (b = B j ∨ In_ (DD j) (R j) b) := fun j hj hji b hb hb' => by
  rcases hs.new b hb with h1 | h1
  ·rcases hb' with rfl | hb'
   ·exact h.nb j i hj hi h1
   ·exact h.sep i j hi hj (Ne.symm hji) b h1 hb'
  ·have hbi : b ≠ B i := fun e => hB' (e ▸ hb)
   rw [dropO_ne gl hbi] at h1
   rcases hb' with rfl | hb'
   ·rw [h.cell j hj] at h1; cases h1
   ·exact (h.own j hj).has hb' h1
 refine ⟨fun j hj => ?_, fun j hj => ?_, fun j q hj hq => ?_, h.bb, fun j q hj hq hjq b hb hb' => ?_⟩
 ·by_cases e : j = i
  ·subst e; rw [Rep.put_at, Rep.put_at]; exact setO_at _ _ _
  ·rw [Rep.put_ne _ _ _ e, Rep.put_ne _ _ _ e, keep j hj e _ (.inl rfl)]; exact h.cell j hj
 ·by_cases e : j = i
  ·subst e; rw [Rep.put_at, Rep.put_at]
   exact ho.same_at fun b hb => setO_ne _ _ fun e => hB' (e ▸ hb)
  ·rw [Rep.put_ne _ _ _ e, Rep.put_ne _ _ _ e]
   exact (h.own j hj).same_at fun b hb => keep j hj e b (.inr hb)
 ·by_cases e : q = i
  ·subst e
   rw [Rep.put_at, Rep.put_at]
   by_cases ej : j = q
   ·subst ej; exact hB'
   ·exact fun hb => new j hj ej _ hb (.inl rfl)
  ·rw [Rep.put_ne _ _ _ e, Rep.put_ne _ _ _ e]; exact h.nb j q hj hq
 ·by_cases e : j = i
  ·subst e
   rw [Rep.put_at, Rep.put_at] at hb
   rw [Rep.put_ne _ _ _ (Ne.symm hjq), Rep.put_ne _ _ _ (Ne.symm hjq)] at hb'
   exact new q hq (Ne.symm hjq) b hb (.inr hb')
  ·rw [Rep.put_ne _ _ _ e, Rep.put_ne _ _ _ e] at hb
   by_cases eq : q = i
   ·subst eq
    rw [Rep.put_at, Rep.put_at] at hb'
    exact new j hj e b hb' (.inr hb)
   ·rw [Rep.put_ne _ _ _ eq, Rep.put_ne _ _ _ eq] at hb'
    exact h.sep j q hj hq hjq b hb hb'
end
end X20
end Go.Proofs.Ytafcbipmmjegcaa.Vm
namespace Go.Proofs.Ytafcbipmmjegcaa.Vm
open Go Go.RowKit
namespace X20
open Rep (RS Fm Ev put)
section
variable {n : Nat} {B : Nat → Nat} {R : Nat → RS} {DD : Nat → Dr} {gl : Glb}
theorem lot_tick (h : Lot n B R DD gl) {i : Nat} (hi : i < n) (every replay : Nat) (lease : Bool) (hl : X5.lim (R i).v.ms) (ho5 : (Rep.oth (R i)).length ≤ 1000) (hB : Bd 999000 (R i) 0) (hc : (R i).calls ≤ 999000) (Q : T → Obs → Glb → Prop)
  (hQ : ∀ D' gl', Lot n B (put R i (Rep.tick (R i) every replay lease).1) (put DD i D') gl' → Q (outT (Rep.tick (R i) every replay lease).2.1 (Rep.tick (R i) every replay lease).2.2) [] gl') :
  TCalls Try.prog 12 [.gp (B i) 0, int every, int replay, bool lease] [] gl Q :=
 famR (h.cell i hi) (tick_any (B i) every replay lease (fun r ob' gl' => ∃ D', r = outT (Rep.tick (R i) every replay lease).2.1 (Rep.tick (R i) every replay lease).2.2 ∧ ob' = obsR (B i) (Rep.tick (R i) every replay lease).1 D' ∧ Own D' (Rep.tick (R i) every replay lease).1 gl' ∧ Step (dropO gl (B i)) (DD i) (R i) gl' D' (Rep.tick (R i) every replay lease).1)
   (R i) (DD i) _ (h.out hi) hl ho5 hB hc fun D' gl' h1 h2 => ⟨D', rfl, rfl, h1, h2⟩)
  (fun r ob' gl' ⟨D', _, e, _⟩ => ⟨_, e⟩)
  (fun r cs' gl' hn ⟨D', e1, e2, h1, h2⟩ => by
   have e2 : cs' = repC (Rep.tick (R i) every replay lease).1 D' := by injection e2 with e2 _; injection e2 with _ e2; injection e2
   rw [e1, e2]
   exact hQ D' _ (h.step hi hn h1 h2))
theorem lot_on (h : Lot n B R DD gl) {i : Nat} (hi : i < n) (f : Fm) (lease : Bool) (hl : X5.lim (R i).v.ms) (ho5 : (Rep.oth (R i)).length ≤ 1000) (Q : T → Obs → Glb → Prop)
  (hQ : ∀ D' gl', Lot n B (put R i (Rep.on (R i) f lease).1) (put DD i D') gl' → Q (outT (Rep.on (R i) f lease).2.1 (Rep.on (R i) f lease).2.2) [] gl') :
  TCalls Try.prog 15 [.gp (B i) 0, .agg (frC f), bool lease] [] gl Q :=
 famR (h.cell i hi) (on_any (B i) (R i) (DD i) f lease _ (h.out hi) hl ho5 (fun r ob' gl' => ∃ D', r = outT (Rep.on (R i) f lease).2.1 (Rep.on (R i) f lease).2.2 ∧ ob' = obsR (B i) (Rep.on (R i) f lease).1 D' ∧ Own D' (Rep.on (R i) f lease).1 gl' ∧ Step (dropO gl (B i)) (DD i) (R i) gl' D' (Rep.on (R i) f lease).1)
   fun gl' h1 h2 => ⟨DD i, rfl, rfl, h1, h2⟩)
  (fun r ob' gl' ⟨D', _, e, _⟩ => ⟨_, e⟩)
  (fun r cs' gl' hn ⟨D', e1, e2, h1, h2⟩ => by
   have e2 : cs' = repC (Rep.on (R i) f lease).1 D' := by injection e2 with e2 _; injection e2 with _ e2; injection e2
   rw [e1, e2]
   exact hQ D' _ (h.step hi hn h1 h2))
theorem lot_write (h : Lot n B R DD gl) {i : Nat} (hi : i < n) (k : Nat) (b : Bool) (t : ByteArray) (rmw : Bool) (hl : X5.lim (R i).v.ms) (ho5 : (Rep.oth (R i)).length ≤ 1000) (hn32 : k < 6 → ((R i).P k).c.w.s.n ≤ 4294967295) (Q : T → Obs → Glb → Prop)
  (hQ : ∀ D' gl', Lot n B (put R i (Rep.write (R i) k b t rmw).1.1) (put DD i D') gl' → Q (wrT (Rep.write (R i) k b t rmw).1 (Rep.write (R i) k b t rmw).2) [] gl') :
  TCalls Try.prog 14 [.gp (B i) 0, u8 k, .agg [bool b, txt t], bool rmw] [] gl Q :=
 famR (h.cell i hi) (write_any (B i) (R i) (DD i) k b t rmw _ (h.out hi) hl ho5 hn32 (fun r ob' gl' => ∃ D', r = wrT (Rep.write (R i) k b t rmw).1 (Rep.write (R i) k b t rmw).2 ∧ ob' = obsR (B i) (Rep.write (R i) k b t rmw).1.1 D' ∧ Own D' (Rep.write (R i) k b t rmw).1.1 gl' ∧ Step (dropO gl (B i)) (DD i) (R i) gl' D' (Rep.write (R i) k b t rmw).1.1)
   fun D' gl' h1 h2 => ⟨D', rfl, rfl, h1, h2⟩)
  (fun r ob' gl' ⟨D', _, e, _⟩ => ⟨_, e⟩)
  (fun r cs' gl' hn ⟨D', e1, e2, h1, h2⟩ => by
   have e2 : cs' = repC (Rep.write (R i) k b t rmw).1.1 D' := by injection e2 with e2 _; injection e2 with _ e2; injection e2
   rw [e1, e2]
   exact hQ D' _ (h.step hi hn h1 h2))
theorem lot_cell (h : Lot n B R DD gl) {i : Nat} (hi : i < n) (k : Nat) (Q : T → Obs → Glb → Prop)
  (hQ : Q (.tup [.agg (clC (cellOf (R i) k)), bool (decide (k < 6) && (R i).has k)]) [] gl) :
  TCalls Try.prog 13 [.gp (B i) 0, u8 k] [] gl Q :=
 famR (h.cell i hi) (cell_any (B i) (R i) (DD i) k _ (h.out hi) (fun r ob' gl' => r = .tup [.agg (clC (cellOf (R i) k)), bool (decide (k < 6) && (R i).has k)] ∧ ob' = obsR (B i) (R i) (DD i) ∧ gl' = dropO gl (B i)) ⟨rfl, rfl, rfl⟩)
  (fun r ob' gl' ⟨_, e, _⟩ => ⟨_, e⟩)
  (fun r cs' gl' hn ⟨e1, e2, e3⟩ => by
   have e2 : cs' = repC (R i) (DD i) := by injection e2 with e2 _; injection e2 with _ e2; injection e2
   rw [e1, e2, e3, setO_drop, setO_self gl (h.cell i hi)]
   exact hQ)
end
end X20
end Go.Proofs.Ytafcbipmmjegcaa.Vm
