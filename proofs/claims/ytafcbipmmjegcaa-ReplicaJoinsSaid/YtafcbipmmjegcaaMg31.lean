/- Texts of this claim: RhC, RhD. -/
import Derived.Test.YtafcbipmmjegcaaMg30
namespace Go.Proofs.Ytafcbipmmjegcaa
namespace Rep
open Vm.X5 (hasV othV aheadV behindV)
theorem Le.anti {a b : Stp} (h : Le a b) (h' : Le b a) : a = b := by
 rcases Le.cases h with e | e
 ·exact e.symm
 ·unfold Le at h'; rw [e] at h'; cases h'
theorem HasV.next {k j : Nat} {s : Stp} {f : Fm} {W F : List Fm} (h : HasV k (f :: W) j s) (hf : f.kind ≠ 3) : HasV k (W ++ F) j s := by
 obtain ⟨g, h1, h2, h3, h4⟩ := h
 rcases List.mem_cons.1 h1 with e | h1
 ·subst e; exact absurd h3 hf
 ·exact ⟨g, List.mem_append.2 (.inl h1), h2, h3, h4⟩
theorem HasV.more {k j : Nat} {s : Stp} {W F : List Fm} (h : HasV k W j s) : HasV k (W ++ F) j s := by
 obtain ⟨g, h1, h2⟩ := h
 exact ⟨g, List.mem_append.2 (.inl h1), h2⟩
theorem put_of {P : Nat → Plc} {i : Nat} {p : Plc} (h : p = P i) : put P i p = P := by rw [h]; exact put_self _ _
section
variable {n k i q : Nat} {P : Nat → Plc} {W : List Fm} {G : Gh} {r : RS} {f : Fm}
theorem LK.inv_s (h : LK n k P (f :: W)) (hI : InvK n P k (f :: W) G) (hi : i < n) (m : Mate n i r) (l : Lin n i r) (hr : r.P k = P i) (hk : f.key = k) (ht : f.to = ad (i + 1)) (hq : q < n) (hqi : q ≠ i) (hqf : f.frm = ad (q + 1)) (hki : f.kind = 1) :
  LK n k (put P i ((onInv r f (q + 1)).1.P k)) (W ++ (onInv r f (q + 1)).2.1) := by
 subst hk
 have hn := m.few
 have hin : Rep.inv (r.P f.key).c f.w = if less (r.P f.key).c.w.s f.w.s then (⟨f.w, 2⟩, 1) else if (r.P f.key).c.w.s = f.w.s then ((r.P f.key).c, 2) else if f.w.r then ((r.P f.key).c, 4) else ((r.P f.key).c, 3) := rfl
 have hu : Under n P f.w.s := h.fw f (List.mem_cons_self ..) rfl (.inl hki)
 have was : ∀ q' j d, q' < n → Evi n q' j d f → (q' = q ∧ f.w = d.w ∧ Heads n f j) ∨ (q' = i ∧ d.w.r = true ∧ less d.w.s f.w.s = true) := fun q' j d hq' e => by
  rcases e with ⟨_, e1, e2, e3⟩ | ⟨e1, _⟩ | ⟨e1, _, e2, e3⟩
  ·exact .inl ⟨adj hq' hq hn (e1.symm.trans hqf), e2, e3⟩
  ·rw [hki] at e1; cases e1
  ·exact .inr ⟨adj hq' hi hn (e2.symm.trans ht), e1, e3⟩
 have rel : ∀ (A : Fm) j d, j < n → j ≠ i → f.w = d.w → Heads n f j → HasE n f.key (sendOn r f ++ [A]) q j d := fun A j d hj hji e hh => by
  obtain ⟨g, g1, g2, g3, g4, g5, g6⟩ := relay l hi hn ht hj hji hh
  exact ⟨g, List.mem_append.2 (.inl g1), g2, .inl ⟨g3.trans hki, g4.trans hqf, g5.trans e, g6⟩⟩
 have me : ad r.self = ad (i + 1) := by rw [m.self]
 have ack : ∀ (fl : Bool) d, f.w = d.w → HasE n f.key (sendOn r f ++ [frW r 2 (q + 1) f.key (zS f.w.s) fl 0]) q i d := fun fl d e =>
  ⟨_, List.mem_append.2 (.inr (List.mem_singleton.2 rfl)), rfl, .inr (.inl ⟨rfl, me, rfl, by show f.w.s = d.w.s; rw [e]⟩)⟩
 have soK : ∀ {g : Fm} {z : Nat}, g ∈ sendOn r f → g.kind = z → z ≠ 1 → False := fun hg e hz => hz (e.symm.trans ((sendOn_kind hg).1.trans hki))
 unfold onInv
 by_cases hl : less (r.P f.key).c.w.s f.w.s = true
 ·rw [if_pos hl] at hin
  rw [hin]
  dsimp only
  rw [if_neg (by decide), if_pos rfl]
  dsimp only
  obtain ⟨w1, w2, _⟩ := way_place (setC r f.key ⟨f.w, 2⟩) f.key
  rw [setC_P] at w1 w2
  refine h.took hI hi (by rw [w1, ← hr]; exact hl) (by rw [w1]; exact .inr rfl) (fun d e => by rw [← hr]; exact w2 d e) (by rw [w1]; exact hu) (fun q' hq' d e hown j hj hjq ha => ?_) (fun g hg ek e2 ef => ?_) (fun g hg ek e1 => ?_)
  ·refine ((h.dr q' hq' d e).ev j hj hjq ha).next fun _ ev => ?_
   rcases was q' j d hq' ev with ⟨rfl, e1, e2⟩ | ⟨e1, e2, _⟩
   ·by_cases hji : j = i
    ·subst hji; exact ack false d e1
    ·exact rel _ j d hj hji e1 e2
   ·rw [(hown e1).2] at e2; cases e2
  ·rcases List.mem_append.1 hg with hg | hg
   ·exact .inl (List.mem_cons_of_mem _ hg)
   ·rcases List.mem_append.1 hg with hg | hg
    ·exact (soK hg e2 (by decide)).elim
    ·rw [List.mem_singleton] at hg; subst hg; cases ef
  ·rcases List.mem_append.1 hg with hg | hg
   ·exact .inl (List.mem_cons_of_mem _ hg)
   ·rcases List.mem_append.1 hg with hg | hg
    ·exact .inr (by rw [(sendOn_kind hg).2.1]; exact hu.up (by rw [w1, ← hr]; exact Le.of_less hl))
    ·rw [List.mem_singleton] at hg; subst hg
     exact e1.elim (fun e => absurd (show (2 : Nat) = 1 from e) (by decide)) (fun e => absurd (show (2 : Nat) = 5 from e) (by decide))
 ·rw [if_neg hl] at hin
  have nodr : ∀ d, (P i).dr = some d → d.w.r = true → less d.w.s f.w.s = true → False := fun d e hrm hle => by
   have := (h.dr i hi d e).own (.inr hrm)
   rw [← hr] at this
   rw [this] at hl
   exact hl hle
  have hgt : (r.P f.key).c.w.s ≠ f.w.s → less f.w.s (P i).c.w.s = true := fun hne => by
   rcases less_tot (a := (r.P f.key).c.w.s) (b := f.w.s) (by cases e : less (r.P f.key).c.w.s f.w.s with | true => exact absurd e hl | false => rfl) with e | e
   ·exact absurd e.symm hne
   ·rw [← hr]; exact e
  by_cases hrf : (r.P f.key).c.w.s ≠ f.w.s ∧ f.w.r = true
  ·rw [if_neg hrf.1, if_pos hrf.2] at hin
   rw [hin]
   dsimp only
   rw [if_pos rfl]
   dsimp only
   rw [put_of hr]
   refine h.same hi (fun q' hq' d e j hj hjq ha => ((h.dr q' hq' d e).ev j hj hjq ha).next fun _ ev => ?_) (fun g hg ek e2 ef => ?_) (fun g hg ek e1 => ?_) (fun j _ hv => .inr (hv.next (by rw [hki]; decide)))
   ·rcases was q' j d hq' ev with ⟨rfl, e1, e2⟩ | ⟨e1, e2, e3⟩
    ·by_cases hji : j = i
     ·subst hji
      exact ⟨frW r 1 (q' + 1) f.key (r.P f.key).c.w false 0, List.mem_append.2 (.inr (List.mem_singleton.2 rfl)), rfl, .inr (.inr ⟨by rw [← e1]; exact hrf.2, rfl, rfl, by rw [← e1]; show less f.w.s (r.P f.key).c.w.s = true; rw [hr]; exact hgt hrf.1⟩)⟩
     ·exact rel _ j d hj hji e1 e2
    ·subst e1; exact (nodr d e e2 e3).elim
   ·rcases List.mem_append.1 hg with hg | hg
    ·exact .inl (List.mem_cons_of_mem _ hg)
    ·rcases List.mem_append.1 hg with hg | hg
     ·exact (soK hg e2 (by decide)).elim
     ·rw [List.mem_singleton] at hg; subst hg; cases ef
   ·rcases List.mem_append.1 hg with hg | hg
    ·exact .inl (List.mem_cons_of_mem _ hg)
    ·rcases List.mem_append.1 hg with hg | hg
     ·exact .inr (by rw [(sendOn_kind hg).2.1]; exact hu)
     ·rw [List.mem_singleton] at hg; subst hg
      exact .inr ⟨i, hi, by show Le (r.P f.key).c.w.s _; rw [hr]; exact Le.refl _⟩
  ·obtain ⟨c, hc, hc1, hc4, hc3⟩ : ∃ c, Rep.inv (r.P f.key).c f.w = ((r.P f.key).c, c) ∧ c ≠ 1 ∧ c ≠ 4 ∧ (c = 3 → (r.P f.key).c.w.s ≠ f.w.s) := by
    by_cases e : (r.P f.key).c.w.s = f.w.s
    ·rw [if_pos e] at hin; exact ⟨2, hin, by decide, by decide, fun e => by cases e⟩
    ·rw [if_neg e, if_neg (fun x => hrf ⟨e, x⟩)] at hin; exact ⟨3, hin, by decide, by decide, fun _ => e⟩
   rw [hc]
   dsimp only
   rw [if_neg hc4, if_neg hc1]
   dsimp only
   rw [setC_P, put_of hr]
   refine h.same hi (fun q' hq' d e j hj hjq ha => ((h.dr q' hq' d e).ev j hj hjq ha).next fun _ ev => ?_) (fun g hg ek e2 ef => ?_) (fun g hg ek e1 => ?_) (fun j _ hv => .inr (hv.next (by rw [hki]; decide)))
   ·rcases was q' j d hq' ev with ⟨rfl, e1, e2⟩ | ⟨e1, e2, e3⟩
    ·by_cases hji : j = i
     ·subst hji; exact ack _ d e1
     ·exact rel _ j d hj hji e1 e2
    ·subst e1; exact (nodr d e e2 e3).elim
   ·rcases List.mem_append.1 hg with hg | hg
    ·exact .inl (List.mem_cons_of_mem _ hg)
    ·rcases List.mem_append.1 hg with hg | hg
     ·exact (soK hg e2 (by decide)).elim
     ·rw [List.mem_singleton] at hg; subst hg
      exact .inr ⟨i, hi, hgt (hc3 (by simpa [frW] using ef))⟩
   ·rcases List.mem_append.1 hg with hg | hg
    ·exact .inl (List.mem_cons_of_mem _ hg)
    ·rcases List.mem_append.1 hg with hg | hg
     ·exact .inr (by rw [(sendOn_kind hg).2.1]; exact hu)
     ·rw [List.mem_singleton] at hg; subst hg
      exact e1.elim (fun e => absurd (show (2 : Nat) = 1 from e) (by decide)) (fun e => absurd (show (2 : Nat) = 5 from e) (by decide))
theorem LK.need_s (h : LK n k P (f :: W)) (hi : i < n) (hr : r.P k = P i) (hk : f.key = k) (hki : f.kind = 4) : LK n k P (W ++ onNeed r f (q + 1)) := by
 subst hk
 have no : ∀ q' j d, Evi n q' j d f → False := fun q' j d e => by rcases e with ⟨e, _⟩ | ⟨e, _⟩ | ⟨_, e, _⟩ <;> (rw [hki] at e; cases e)
 refine h.same hi (fun q' hq' d e j hj hjq ha => ((h.dr q' hq' d e).ev j hj hjq ha).next fun _ ev => (no q' j d ev).elim) (fun g hg ek e2 ef => ?_) (fun g hg ek e1 => ?_) (fun j _ hv => .inr (hv.next (by rw [hki]; decide)))
 ·rcases List.mem_append.1 hg with hg | hg
  ·exact .inl (List.mem_cons_of_mem _ hg)
  ·unfold onNeed at hg
   split at hg
   ·rw [List.mem_singleton] at hg; subst hg; exact absurd (show (5 : Nat) = 2 from e2) (by decide)
   ·cases hg
 ·rcases List.mem_append.1 hg with hg | hg
  ·exact .inl (List.mem_cons_of_mem _ hg)
  ·unfold onNeed at hg
   split at hg
   ·rw [List.mem_singleton] at hg; subst hg; exact .inr ⟨i, hi, by show Le (r.P f.key).c.w.s _; rw [hr]; exact Le.refl _⟩
   ·cases hg
theorem LK.valid (h : LK n k P (f :: W)) (hi : i < n) (hno : ∀ q' j d, Evi n q' j d f → False) (p : Plc) (hc : p.c.w = (P i).c.w) (hst : p.c.st = 1) (h2 : ∀ d, p.dr = some d → (P i).dr = some d) (h3 : ∀ d, (P i).dr = some d → d.own = true → p.dr = some d)
  (hto : f.kind = 3 → f.to = ad (i + 1)) (hn : n ≤ 100) : LK n k (put P i p) (W ++ []) := by
 refine h.tells hi (by rw [hc]) (.inl hst) (fun d e => ?_) (fun d e o => ⟨d, h3 d e o, o, rfl⟩) (fun q' hq' _ d e j hj hjq ha => ((h.dr q' hq' d e).ev j hj hjq ha).next fun _ ev => (hno q' j d ev).elim) (fun g hg ek e2 ef => ?_) (fun g hg ek e1 => ?_) (fun j hj hv => ?_)
 ·have h1 := h.dr i hi d (h2 d e)
  exact ⟨d, h2 d e, rfl, rfl, h1.cv, h1.nd, fun j hj hji ha => (h1.ev j hj hji ha).next fun _ ev => (hno i j d ev).elim⟩
 ·rw [List.append_nil] at hg; exact List.mem_cons_of_mem _ hg
 ·rw [List.append_nil] at hg; exact .inl (List.mem_cons_of_mem _ hg)
 ·obtain ⟨g, g1, g2, g3, g4, g5⟩ := hv
  rcases List.mem_cons.1 g1 with e | g1
  ·subst e
   have : j = i := adj hj hi hn (g4.symm.trans (hto g3))
   subst this
   left; rw [put_at]; exact hst
  ·right; exact ⟨g, List.mem_append.2 (.inl g1), g2, g3, g4, g5⟩
theorem LK.val_s (h : LK n k P (f :: W)) (hi : i < n) (m : Mate n i r) (hr : r.P k = P i) (hk : f.key = k) (ht : f.to = ad (i + 1)) (hki : f.kind = 3) : LK n k (put P i ((onVal r f).P k)) (W ++ []) := by
 subst hk
 have no : ∀ q' j d, Evi n q' j d f → False := fun q' j d e => by rcases e with ⟨e, _⟩ | ⟨e, _⟩ | ⟨_, e, _⟩ <;> (rw [hki] at e; cases e)
 have hn := m.few
 have hv : Rep.val (r.P f.key).c f.w.s = if (r.P f.key).c.st = 2 ∧ (r.P f.key).c.w.s = f.w.s then (⟨(r.P f.key).c.w, 1⟩, true) else ((r.P f.key).c, false) := rfl
 unfold onVal
 by_cases hc : (r.P f.key).c.st = 2 ∧ (r.P f.key).c.w.s = f.w.s
 ·rw [if_pos hc] at hv
  rw [hv]
  dsimp only
  rw [if_pos rfl]
  obtain ⟨w1, w2, w3⟩ := rest_place (setC r f.key ⟨(r.P f.key).c.w, 1⟩) f.key
  rw [setC_P] at w1 w2 w3
  exact h.valid hi no _ (by rw [w1, ← hr]) (by rw [w1]) (fun d e => by rw [← hr]; exact w2 d e) (fun d e o => w3 d (by rw [hr]; exact e) o) (fun _ => ht) hn
 ·rw [if_neg hc] at hv
  rw [hv]
  dsimp only
  rw [if_neg (by decide), put_of hr]
  refine h.same hi (fun q' hq' d e j hj hjq ha => ((h.dr q' hq' d e).ev j hj hjq ha).next fun _ ev => (no q' j d ev).elim) (fun g hg ek e2 ef => ?_) (fun g hg ek e1 => ?_) (fun j hj hv => ?_)
  ·rw [List.append_nil] at hg; exact .inl (List.mem_cons_of_mem _ hg)
  ·rw [List.append_nil] at hg; exact .inl (List.mem_cons_of_mem _ hg)
  ·obtain ⟨g, g1, g2, g3, g4, g5⟩ := hv
   rcases List.mem_cons.1 g1 with e | g1
   ·subst e
    have : j = i := adj hj hi hn (g4.symm.trans ht)
    subst this
    left
    rcases h.st j hj with e | e
    ·exact e
    ·exact absurd ⟨by rw [hr]; exact e, by rw [hr]; exact g5.symm⟩ hc
   ·right; exact ⟨g, List.mem_append.2 (.inl g1), g2, g3, g4, g5⟩
theorem LK.give_s (h : LK n k P (f :: W)) (hI : InvK n P k (f :: W) G) (hi : i < n) (m : Mate n i r) (hr : r.P k = P i) (hk : f.key = k) (hki : f.kind = 5) : LK n k (put P i ((onGive r f).1.P k)) (W ++ []) := by
 subst hk
 have no : ∀ q' j d, Evi n q' j d f → False := fun q' j d e => by rcases e with ⟨e, _⟩ | ⟨e, _⟩ | ⟨_, e, _⟩ <;> (rw [hki] at e; cases e)
 have hn := m.few
 have hu : Under n P f.w.s := h.fw f (List.mem_cons_self ..) rfl (.inr hki)
 have st0 : (r.P f.key).c.st ≠ 0 := by rw [hr]; rcases h.st i hi with e | e <;> rw [e] <;> decide
 have hg : Rep.give (r.P f.key).c f.w f.flag = if (r.P f.key).c.st = 0 ∨ less (r.P f.key).c.w.s f.w.s = true then (⟨f.w, if f.flag then 1 else 2⟩, true) else if f.flag then Rep.val (r.P f.key).c f.w.s else ((r.P f.key).c, false) := rfl
 have gotP : ∀ c, ((setC (got r f.key) f.key c).P f.key) = { r.P f.key with c := c } := fun c => setC_P _ _ _
 unfold onGive
 by_cases hl : less (r.P f.key).c.w.s f.w.s = true
 ·rw [if_pos (.inr hl)] at hg
  rw [hg]
  dsimp only
  rw [if_pos rfl, if_pos hl]
  obtain ⟨w1, w2, _⟩ := way_place (setC (got r f.key) f.key ⟨f.w, if f.flag then 1 else 2⟩) f.key
  rw [gotP] at w1 w2
  refine h.took hI hi (by rw [w1, ← hr]; exact hl) (by rw [w1]; cases f.flag <;> simp) (fun d e => by rw [← hr]; exact w2 d e) (by rw [w1]; exact hu) (fun q' hq' d e _ j hj hjq ha => ((h.dr q' hq' d e).ev j hj hjq ha).next fun _ ev => (no q' j d ev).elim) (fun g hg _ _ _ => .inl ?_) (fun g hg _ _ => .inl ?_)
  ·rw [List.append_nil] at hg; exact List.mem_cons_of_mem _ hg
  ·rw [List.append_nil] at hg; exact List.mem_cons_of_mem _ hg
 ·rw [if_neg (fun e => e.elim st0 hl)] at hg
  have same : LK n f.key P (W ++ []) := h.same hi (fun q' hq' d e j hj hjq ha => ((h.dr q' hq' d e).ev j hj hjq ha).next fun _ ev => (no q' j d ev).elim) (fun g hg ek e2 ef => by rw [List.append_nil] at hg; exact .inl (List.mem_cons_of_mem _ hg)) (fun g hg ek e1 => by rw [List.append_nil] at hg; exact .inl (List.mem_cons_of_mem _ hg)) (fun j hj hv => .inr (hv.next (by rw [hki]; decide)))
  cases hfl : f.flag with
  | false =>
   rw [hfl] at hg
   simp only [Bool.false_eq_true, if_false] at hg
   rw [hg]
   dsimp only
   rw [if_neg (by decide)]
   show LK n f.key (put P i (r.P f.key)) (W ++ [])
   rw [put_of hr]
   exact same
  | true =>
   rw [hfl] at hg
   simp only [if_true] at hg
   have hv : Rep.val (r.P f.key).c f.w.s = if (r.P f.key).c.st = 2 ∧ (r.P f.key).c.w.s = f.w.s then (⟨(r.P f.key).c.w, 1⟩, true) else ((r.P f.key).c, false) := rfl
   by_cases hc : (r.P f.key).c.st = 2 ∧ (r.P f.key).c.w.s = f.w.s
   ·rw [if_pos hc] at hv
    rw [hg, hv]
    dsimp only
    rw [if_pos rfl, if_neg (by rw [less_irr]; decide)]
    dsimp only
    obtain ⟨w1, w2, w3⟩ := rest_place (setC (got r f.key) f.key ⟨(r.P f.key).c.w, 1⟩) f.key
    rw [gotP] at w1 w2 w3
    exact h.valid hi no _ (by rw [w1, ← hr]) (by rw [w1]) (fun d e => by rw [← hr]; exact w2 d e) (fun d e o => w3 d (by rw [hr]; exact e) o) (fun e => by rw [hki] at e; cases e) hn
   ·rw [if_neg hc] at hv
    rw [hg, hv]
    dsimp only
    rw [if_neg (by decide)]
    show LK n f.key (put P i (r.P f.key)) (W ++ [])
    rw [put_of hr]
    exact same
end
end Rep
end Go.Proofs.Ytafcbipmmjegcaa
namespace Go.Proofs.Ytafcbipmmjegcaa
namespace Rep
open Vm.X5 (hasV othV aheadV behindV)
section
variable {n k i q : Nat} {P : Nat → Plc} {W : List Fm} {G : Gh} {r : RS} {f : Fm}
theorem not_done (m : Mate n i r) {d : Drv} (h : doneD d (oth r) = false) : ∃ j, j < n ∧ j ≠ i ∧ d.acks (j + 1) = false := by
 unfold doneD at h
 rw [List.all_eq_false] at h
 obtain ⟨x, hx, e⟩ := h
 obtain ⟨j, hj, hji, rfl⟩ := m.oth_ne hx
 exact ⟨j, hj, hji, by simpa using e⟩
theorem done_all (m : Mate n i r) {d : Drv} (h : doneD d (oth r) = true) {j : Nat} (hj : j < n) (hji : j ≠ i) : d.acks (j + 1) = true := by
 unfold doneD at h
 exact (List.all_eq_true.1 h) _ (m.oth j hj hji)
theorem LK.ack_s (h : LK n k P (f :: W)) (hI : InvK n P k (f :: W) G) (hi : i < n) (m : Mate n i r) (hr : r.P k = P i) (hk : f.key = k) (ht : f.to = ad (i + 1)) (hq : q < n) (hqi : q ≠ i) (hqf : f.frm = ad (q + 1)) (hki : f.kind = 2) :
  LK n k (put P i ((onAck r f (q + 1)).1.P k)) (W ++ (onAck r f (q + 1)).2.1) := by
 subst hk
 have hn := m.few
 have was : ∀ q' j d, q' < n → j < n → Evi n q' j d f → q' = i ∧ j = q ∧ f.w.s = d.w.s := fun q' j d hq' hj e => by
  rcases e with ⟨e1, _⟩ | ⟨_, e1, e2, e3⟩ | ⟨_, e1, _⟩
  ·rw [hki] at e1; cases e1
  ·exact ⟨adj hq' hi hn (e2.symm.trans ht), adj hj hq hn (e1.symm.trans hqf), e3⟩
  ·rw [hki] at e1; cases e1
 have idle : (∀ d, (P i).dr = some d → d.w.s ≠ f.w.s) → LK n f.key (put P i (r.P f.key)) (W ++ []) := fun hne => by
  rw [put_of hr]
  exact h.same hi (fun q' hq' d e j hj hjq ha => ((h.dr q' hq' d e).ev j hj hjq ha).next fun _ ev => by
    obtain ⟨e1, _, e3⟩ := was q' j d hq' hj ev
    subst e1
    exact (hne d e e3.symm).elim) (fun g hg _ _ _ => .inl (by rw [List.append_nil] at hg; exact List.mem_cons_of_mem _ hg)) (fun g hg _ _ => .inl (by rw [List.append_nil] at hg; exact List.mem_cons_of_mem _ hg)) (fun j _ hv => .inr (hv.next (by rw [hki]; decide)))
 unfold onAck
 cases hd : (r.P f.key).dr with
 | none => exact idle fun d e => by rw [← hr, hd] at e; cases e
 | some d =>
  have hd' : (P i).dr = some d := by rw [← hr]; exact hd
  dsimp only
  by_cases hs : d.w.s = f.w.s
  rotate_left
  ·rw [if_neg hs]; exact idle fun d' e => by rw [hd'] at e; injection e with e; subst e; exact hs
  rw [if_pos hs]
  have h1 := h.dr i hi d hd'
  have hdk := hI.dr i hi d hd'
  have left : ∀ (F : List Fm) q', q' < n → q' ≠ i → ∀ d, (P q').dr = some d → ∀ j, j < n → j ≠ q' → d.acks (j + 1) = false → HasE n f.key (W ++ F) q' j d := fun F q' hq' hqi' d e j hj hjq ha =>
   ((h.dr q' hq' d e).ev j hj hjq ha).next fun _ ev => absurd (was q' j d hq' hj ev).1 hqi'
  have hca : ∀ F : List Fm, (∀ g ∈ F, g.kind = 3) → ∀ g, g ∈ W ++ F → g.kind = 2 → g ∈ f :: W := fun F hF g hg e => by
   rcases List.mem_append.1 hg with hg | hg
   ·exact List.mem_cons_of_mem _ hg
   ·rw [hF g hg] at e; cases e
  have hfw : ∀ F : List Fm, (∀ g ∈ F, g.kind = 3) → ∀ g, g ∈ W ++ F → g.kind = 1 ∨ g.kind = 5 → g ∈ f :: W := fun F hF g hg e => by
   rcases List.mem_append.1 hg with hg | hg
   ·exact List.mem_cons_of_mem _ hg
   ·rw [hF g hg] at e; exact e.elim (fun e => by cases e) (fun e => by cases e)
  have cov : (ackD d (q + 1) f.flag).cov = true → Above n P d.w.s := fun c => by
   have c : (d.cov || f.flag) = true := c
   rcases Bool.or_eq_true_iff.1 c with c | c
   ·exact h1.cv c
   ·rw [hs]; exact h.ca f (List.mem_cons_self ..) rfl hki c
  have ackF : ∀ j, (ackD d (q + 1) f.flag).acks (j + 1) = false → j ≠ q ∧ d.acks (j + 1) = false := fun j e => by
   have e : Rep.put d.acks (q + 1) true (j + 1) = false := e
   by_cases ej : j = q
   ·subst ej; rw [put_at] at e; cases e
   ·rw [put_ne _ _ _ (by omega)] at e; exact ⟨ej, e⟩
  have hoth : Rep.oth (setP r f.key { r.P f.key with dr := some (ackD d (q + 1) f.flag) }) = Rep.oth r := rfl
  unfold look
  rw [setP_P]
  dsimp only
  rw [hoth]
  cases hdn : doneD (ackD d (q + 1) f.flag) (Rep.oth r) with
  | false =>
   rw [if_neg (by decide)]
   dsimp only
   rw [setP_P]
   refine h.tells hi (by rw [← hr]) ?_ (fun d' e => ?_) (fun d0 e o => ?_) (left []) (fun g hg _ e _ => hca [] (fun _ h => by cases h) g hg e) (fun g hg _ e => .inl (hfw [] (fun _ h => by cases h) g hg e)) (fun j _ hv => .inr (hv.next (by rw [hki]; decide)))
   ·rw [hr]; rcases h.st i hi with e | e
    ·exact .inl e
    ·exact .inr ⟨e, e⟩
   ·injection e with e
    subst e
    refine ⟨d, hd', rfl, rfl, cov, not_done m hdn, fun j hj hji ha => ?_⟩
    obtain ⟨hjq, ha⟩ := ackF j ha
    exact (h1.ev j hj hji ha).next fun _ ev => absurd (was i j d hi hj ev).2.1 hjq
   ·rw [hd'] at e; injection e with e; subst e; exact ⟨_, rfl, o, rfl⟩
  | true =>
   rw [if_pos rfl]
   have all : ∀ j, j < n → Le d.w.s (P j).c.w.s := fun j hj => by
    by_cases eji : j = i
    ·subst eji; exact hI.Hl j hj _ hdk.h
    ·by_cases ejq : j = q
     ·subst ejq; rw [hs]; exact ((hI.fr f (List.mem_cons_self ..) rfl).a hki j hj hqf).1
     ·have := done_all m hdn hj eji
      have e : Rep.put d.acks (q + 1) true (j + 1) = true := this
      rw [put_ne _ _ _ (by omega)] at e
      exact (hdk.ak j hj e).1
   have top : ∀ o, o < n → Top n P o → d.w.s = (P o).c.w.s → (∀ j, j < n → (P j).c.w.s = d.w.s) ∧ (ackD d (q + 1) f.flag).cov = false := fun o ho hto e => by
    refine ⟨fun j hj => Le.anti (by rw [e]; exact hto j hj) (all j hj), ?_⟩
    cases hc : (ackD d (q + 1) f.flag).cov with
    | false => rfl
    | true =>
     obtain ⟨j, hj, hl⟩ := cov hc
     have := hto j hj
     rw [← e] at this
     unfold Le at this
     rw [hl] at this
     cases this
   by_cases hb : (r.P f.key).c.w.s = (ackD d (q + 1) f.flag).w.s ∧ (ackD d (q + 1) f.flag).cov = false
   ·rw [if_pos hb]
    dsimp only
    rw [setP_P]
    have hF : ∀ g ∈ (oth r).map (fun n => frW (setP r f.key { r.P f.key with dr := some (ackD d (q + 1) f.flag) }) 3 n f.key (zS (ackD d (q + 1) f.flag).w.s) false 0), g.kind = 3 := fun g hg => by
     obtain ⟨z, _, rfl⟩ := List.mem_map.1 hg; rfl
    have hci : (P i).c.w.s = d.w.s := by rw [← hr]; exact hb.1
    have hst1 : (Rep.val (r.P f.key).c (ackD d (q + 1) f.flag).w.s).1.st = 1 := by
     unfold Rep.val
     split
     ·rfl
     ·rename_i hx
      rcases h.st i hi with e | e
      ·rw [hr]; exact e
      ·exact absurd ⟨by rw [hr]; exact e, hb.1⟩ hx
    have hw1 : (Rep.val (r.P f.key).c (ackD d (q + 1) f.flag).w.s).1.w = (P i).c.w := by rw [← hr]; unfold Rep.val; split <;> rfl
    refine h.move hi (by dsimp only; rw [hw1]; exact Le.refl _) (.inl hst1) (fun _ e => by cases e) (left _) (fun g hg _ e _ => .inl (hca _ hF g hg e)) (fun g hg _ e => .inl (hfw _ hF g hg e)) fun o ho hto => ?_
    have sc : ∀ (p : Plc) j, p.c.w = (P i).c.w → (put P i p j).c.w.s = (P j).c.w.s := fun p j hp => by
     by_cases e : j = i
     ·subst e; rw [put_at, hp]
     ·rw [put_ne _ _ _ e]
    have hto' : Top n P o := fun j hj => by have := hto j hj; rwa [sc _ _ hw1, sc _ _ hw1] at this
    rw [sc _ _ hw1]
    have calm : (∀ j, j < n → (P j).c.w.s = (P o).c.w.s ∧ (j = i ∨ (P j).c.st = 1 ∨ HasV f.key (W ++ (oth r).map (fun n => frW (setP r f.key { r.P f.key with dr := some (ackD d (q + 1) f.flag) }) 3 n f.key (zS (ackD d (q + 1) f.flag).w.s) false 0)) j (P o).c.w.s)) → Quiet n f.key (put P i ⟨(Rep.val (r.P f.key).c (ackD d (q + 1) f.flag).w.s).1, none, (r.P f.key).age⟩) (W ++ (oth r).map (fun n => frW (setP r f.key { r.P f.key with dr := some (ackD d (q + 1) f.flag) }) 3 n f.key (zS (ackD d (q + 1) f.flag).w.s) false 0)) (P o).c.w.s := fun hc => .inr fun j hj => by
     obtain ⟨e1, e2⟩ := hc j hj
     refine ⟨by rw [sc _ _ hw1]; exact e1, ?_⟩
     by_cases e : j = i
     ·subst e; left; rw [put_at]; exact hst1
     ·rcases e2 with e2 | e2 | e2
      ·exact absurd e2 e
      ·left; rw [put_ne _ _ _ e]; exact e2
      ·exact .inr e2
    rcases h.mx o ho hto' with ⟨q0, hq0, d0, g1, g2, g3⟩ | hc
    ·by_cases e : q0 = i
     ·subst e
      rw [hd'] at g1
      injection g1 with g1
      subst g1
      obtain ⟨t1, t2⟩ := top o ho hto' g3
      refine calm fun j hj => ⟨by rw [t1 j hj, ← g3], ?_⟩
      by_cases e : j = q0
      ·exact .inl e
      ·exact .inr (.inr ⟨_, List.mem_append.2 (.inr (List.mem_map.2 ⟨j + 1, m.oth j hj e, rfl⟩)), rfl, rfl, rfl, g3⟩)
     ·exact .inl ⟨q0, hq0, d0, by rw [put_ne _ _ _ e]; exact g1, g2, g3⟩
    ·exact calm fun j hj => ⟨(hc j hj).1, .inr ((hc j hj).2.imp id fun hv => hv.next (by rw [hki]; decide))⟩
   ·rw [if_neg hb]
    dsimp only
    rw [setP_P]
    refine h.move hi (by rw [← hr]; exact Le.refl _) (by rw [hr]; exact h.st i hi) (fun _ e => by cases e) (left []) (fun g hg _ e _ => .inl (hca [] (fun _ h => by cases h) g hg e)) (fun g hg _ e => .inl (hfw [] (fun _ h => by cases h) g hg e)) fun o ho hto => ?_
    have sc : ∀ j, (put P i { r.P f.key with dr := none } j).c = (P j).c := fun j => by
     by_cases e : j = i
     ·subst e; rw [put_at, ← hr]
     ·rw [put_ne _ _ _ e]
    have hto' : Top n P o := fun j hj => by have := hto j hj; rwa [sc, sc] at this
    rw [sc]
    rcases h.mx o ho hto' with ⟨q0, hq0, d0, g1, g2, g3⟩ | hc
    ·by_cases e : q0 = i
     ·subst e
      rw [hd'] at g1
      injection g1 with g1
      subst g1
      obtain ⟨t1, t2⟩ := top o ho hto' g3
      exact absurd ⟨by rw [hr]; exact t1 q0 hi, t2⟩ hb
     ·exact .inl ⟨q0, hq0, d0, by rw [put_ne _ _ _ e]; exact g1, g2, g3⟩
    ·exact .inr fun j hj => by
      rw [sc]
      exact ⟨(hc j hj).1, (hc j hj).2.imp id fun hv => hv.next (by rw [hki]; decide)⟩
theorem LK.on_s (h : LK n k P (f :: W)) (hI : InvK n P k (f :: W) G) (hi : i < n) (m : Mate n i r) (l : Lin n i r) (hr : r.P k = P i) (hk : f.key = k) (hf : FW n f) (ht : f.to = ad (i + 1)) :
  LK n k (put P i ((on r f true).1.P k)) (W ++ (on r f true).2.1) := by
 obtain ⟨q, hq, hqi, hqf, hs⟩ := sender_some m l hi hf ht
 unfold on
 rw [hs]
 dsimp only
 by_cases h1 : f.kind = 1
 ·rw [if_pos h1]; exact h.inv_s hI hi m l hr hk ht hq hqi hqf h1
 rw [if_neg h1]
 by_cases h2 : f.kind = 2
 ·rw [if_pos h2, if_pos rfl]; exact h.ack_s hI hi m hr hk ht hq hqi hqf h2
 rw [if_neg h2]
 by_cases h3 : f.kind = 3
 ·rw [if_pos h3]; exact h.val_s hi m hr hk ht h3
 rw [if_neg h3]
 by_cases h4 : f.kind = 4
 ·rw [if_pos h4]; dsimp only; rw [put_of hr]; exact h.need_s hi hr hk h4
 rw [if_neg h4]
 by_cases h5 : f.kind = 5
 ·rw [if_pos h5]; exact h.give_s hI hi m hr hk h5
 rw [if_neg h5]
 dsimp only
 rw [put_of hr]
 have no : ∀ q' j d, Evi n q' j d f → False := fun q' j d e => by rcases e with ⟨e, _⟩ | ⟨e, _⟩ | ⟨_, e, _⟩ <;> first | exact h1 e | exact h2 e
 exact h.same hi (fun q' hq' d e j hj hjq ha => ((h.dr q' hq' d e).ev j hj hjq ha).next fun _ ev => (no q' j d ev).elim) (fun g hg _ _ _ => .inl (by rw [List.append_nil] at hg; exact List.mem_cons_of_mem _ hg)) (fun g hg _ _ => .inl (by rw [List.append_nil] at hg; exact List.mem_cons_of_mem _ hg)) (fun j _ hv => .inr (hv.next h3))
theorem LK.tick_s (h : LK n k P W) (hI : InvK n P k W G) (hW : ∀ g, g ∈ W → FW n g) (hi : i < n) (m : Mate n i r) (l : Lin n i r) (hr : r.P k = P i) (every replay : Nat) :
  LK n k (put P i ((tickK r k every replay true).1.P k)) (W ++ (tickK r k every replay true).2.1) := by
 have left : ∀ (F : List Fm) q', q' < n → ∀ d, (P q').dr = some d → ∀ j, j < n → j ≠ q' → d.acks (j + 1) = false → HasE n k (W ++ F) q' j d := fun F q' hq' d e j hj hjq ha =>
  ((h.dr q' hq' d e).ev j hj hjq ha).mono fun g hg _ => List.mem_append.2 (.inl hg)
 unfold tickK
 cases hd : (r.P k).dr with
 | some d =>
  have hd' : (P i).dr = some d := by rw [← hr]; exact hd
  have h1 := h.dr i hi d hd'
  have hdk := hI.dr i hi d hd'
  have hnd : doneD d (oth r) = false := by
   cases e : doneD d (oth r) with
   | false => rfl
   | true =>
    obtain ⟨j, hj, hji, ha⟩ := h1.nd
    rw [done_all m e hj hji] at ha
    cases ha
  dsimp only
  rw [if_pos rfl, look_nd (fun d' e => by rw [hd] at e; injection e with e; subst e; exact hnd)]
  dsimp only
  rw [List.nil_append]
  unfold beat
  rw [hd]
  dsimp only
  rw [setP_P]
  have tw : (tickD d every).1.w = d.w ∧ (tickD d every).1.own = d.own ∧ (tickD d every).1.acks = d.acks ∧ (tickD d every).1.cov = d.cov := by unfold tickD; split <;> exact ⟨rfl, rfl, rfl, rfl⟩
  have hF : ∀ g, g ∈ (if (tickD d every).2 = true then sent r k d.w else []) → g.kind = 1 ∧ g.w = d.w := fun g hg => by
   split at hg
   ·exact ⟨(sent_kind hg).1, (sent_kind hg).2.1⟩
   ·cases hg
  refine h.tells hi (by rw [← hr]) ?_ (fun d' e => ?_) (fun d0 e o => ?_) (fun q' hq' _ => left _ q' hq') (fun g hg _ e _ => ?_) (fun g hg _ e => ?_) (fun j _ hv => .inr hv.more)
  ·rw [hr]; rcases h.st i hi with e | e
   ·exact .inl e
   ·exact .inr ⟨e, e⟩
  ·injection e with e
   subst e
   refine ⟨d, hd', tw.1, tw.2.1, fun c => h1.cv (by rw [← tw.2.2.2]; exact c), by rw [tw.2.2.1]; exact h1.nd, fun j hj hji ha => left _ i hi d hd' j hj hji (by rw [← tw.2.2.1]; exact ha)⟩
  ·rw [hd'] at e; injection e with e; subst e; exact ⟨_, rfl, tw.2.1.trans o, by rw [tw.1]⟩
  ·rcases List.mem_append.1 hg with hg | hg
   ·exact hg
   ·rw [(hF g hg).1] at e; cases e
  ·rcases List.mem_append.1 hg with hg | hg
   ·exact .inl hg
   ·exact .inr ⟨i, hi, by rw [(hF g hg).2]; exact hI.Hl i hi _ hdk.h⟩
 | none =>
  have hd' : (P i).dr = none := by rw [← hr]; exact hd
  dsimp only
  unfold stall
  by_cases hc : r.has k = true ∧ (r.P k).c.st = 2
  rotate_left
  ·rw [if_neg hc]
   dsimp only
   rw [put_of hr, List.append_nil]
   exact h
  rw [if_pos hc]
  have quiet : ∀ (a : Nat) (F : List Fm), (∀ g ∈ F, g.kind = 4) → LK n k (put P i { r.P k with age := a }) (W ++ F) := fun a F hF => by
   refine h.tells hi (by rw [← hr]) (.inr ⟨hc.2, by rw [← hr]; exact hc.2⟩) (fun d' e => by dsimp only at e; rw [hd] at e; cases e) (fun d e _ => by rw [hd'] at e; cases e) (fun q' hq' _ => left _ q' hq') (fun g hg _ e _ => ?_) (fun g hg _ e => ?_) (fun j _ hv => .inr hv.more)
   ·rcases List.mem_append.1 hg with hg | hg
    ·exact hg
    ·rw [hF g hg] at e; cases e
   ·rcases List.mem_append.1 hg with hg | hg
    ·exact .inl hg
    ·rw [hF g hg] at e; exact e.elim (fun e => by cases e) (fun e => by cases e)
  by_cases ha : (r.P k).age + 1 ≥ replay ∧ true = true
  rotate_left
  ·rw [if_neg ha]; dsimp only; rw [setP_P]; exact quiet _ _ (fun _ h => by cases h)
  rw [if_pos ha]
  by_cases hm : (r.P k).c.w.r = true ∧ hasV r.v.ms (r.P k).c.w.s.b (r.P k).c.w.s.l = true
  ·rw [if_pos hm]; dsimp only; rw [setP_P]
   exact quiet _ _ (fun g hg => by
    split at hg
    ·cases hg
    ·rw [List.mem_singleton] at hg; subst hg; rfl)
  rw [if_neg hm]
  dsimp only
  rw [setP_P]
  have two : ∃ j, j < n ∧ j ≠ i := Classical.byContradiction fun hno => by
   have h0 : ∀ j, j < n → j = i := fun j hj => Classical.byContradiction fun e => hno ⟨j, hj, e⟩
   rcases h.mx i hi (fun j hj => by rw [h0 j hj]; exact Le.refl _) with ⟨q0, hq0, d, g1, _⟩ | hc'
   ·rw [h0 q0 hq0, hd'] at g1; cases g1
   ·rcases (hc' i hi).2 with e | ⟨g, hg, _⟩
    ·rw [← hr, hc.2] at e; cases e
    ·obtain ⟨a, b, ha, hb, hab, _⟩ := (hW g hg).ends
     exact hab ((h0 a ha).trans (h0 b hb).symm)
  have hF : ∀ g, g ∈ sent r k (r.P k).c.w → g.kind = 1 ∧ g.w = (P i).c.w := fun g hg => ⟨(sent_kind hg).1, by rw [(sent_kind hg).2.1, hr]⟩
  refine h.move hi (by rw [← hr]; exact Le.refl _) (by rw [hr]; exact h.st i hi) (fun d' e => ?_) (fun q' hq' _ => left _ q' hq') (fun g hg _ e _ => .inl ?_) (fun g hg _ e => ?_) (h.mxA (by rw [← hr]) (fun e => by rw [← hr, hc.2] at e; cases e) (fun d e _ => by rw [hd'] at e; cases e) (fun j _ hv => .inr hv.more))
  ·injection e with e
   subst e
   obtain ⟨j0, hj0, hne⟩ := two
   refine ⟨fun _ => by rw [put_at]; rfl, ⟨j0, hj0, hne, rfl⟩, fun j hj hji _ => ?_, (fun c => by cases c)⟩
   obtain ⟨g, g1, g2, g3, g4, g5, g6⟩ := sent_heads (k := k) m l hi (r.P k).c.w hj hji
   exact ⟨g, List.mem_append.2 (.inr g1), g2, .inl ⟨g3, g4, g5, g6⟩⟩
  ·rcases List.mem_append.1 hg with hg | hg
   ·exact hg
   ·rw [(hF g hg).1] at e; cases e
  ·rcases List.mem_append.1 hg with hg | hg
   ·exact .inl hg
   ·exact .inr (Under.up ⟨i, hi, by rw [(hF g hg).2]; exact Le.refl _⟩ (by rw [← hr]; exact Le.refl _))
theorem LK.write_s (h : LK n k P W) (hi : i < n) (m : Mate n i r) (l : Lin n i r) (hr : r.P k = P i) (b : Bool) (t : ByteArray) (rmw : Bool) :
  LK n k (put P i ((write r k b t rmw).1.1.P k)) (W ++ (write r k b t rmw).1.2.1) := by
 have idle : LK n k (put P i (r.P k)) (W ++ []) := by rw [put_of hr, List.append_nil]; exact h
 unfold write
 by_cases hf : free r k = true
 rotate_left
 ·rw [if_neg hf]; exact idle
 rw [if_pos hf]
 cases hs : nextS (r.P k).c.w.s (if rmw = true then 1 else 2) r.self r.life with
 | none => exact idle
 | some s =>
  dsimp only
  have hd' : (P i).dr = none := by
   unfold free at hf
   rw [← hr]
   simp only [Bool.and_eq_true, Option.isNone_iff_eq_none] at hf
   exact hf.2.2.2.2
  have hless : less (P i).c.w.s s = true := by
   have e := nextS_some hs
   rw [less_iff, e, ← hr]
   left
   cases rmw <;> simp
  have left : ∀ (F : List Fm) q', q' < n → ∀ d, (P q').dr = some d → ∀ j, j < n → j ≠ q' → d.acks (j + 1) = false → HasE n k (W ++ F) q' j d := fun F q' hq' d e j hj hjq ha =>
   ((h.dr q' hq' d e).ev j hj hjq ha).mono fun g hg _ => List.mem_append.2 (.inl hg)
  have hoth : ∀ p, Rep.oth (setP r k p) = Rep.oth r := fun p => rfl
  have hF : ∀ g, g ∈ sent r k ⟨s, b, t, rmw⟩ → g.kind = 1 ∧ g.w = ⟨s, b, t, rmw⟩ := fun g hg => ⟨(sent_kind hg).1, (sent_kind hg).2.1⟩
  unfold look
  rw [setP_P]
  dsimp only
  rw [hoth]
  cases hdn : doneD (newD ⟨s, b, t, rmw⟩ true) (Rep.oth r) with
  | true =>
   have h0 : ∀ j, j < n → j = i := fun j hj => Classical.byContradiction fun e => by
    have := done_all m hdn hj e
    cases this
   have ho : Rep.oth r = [] := List.eq_nil_iff_forall_not_mem.2 fun x hx => by
    obtain ⟨j, hj, hji, _⟩ := m.oth_ne hx
    exact hji (h0 j hj)
   have hv : Rep.val (⟨⟨s, b, t, rmw⟩, 2⟩ : Cel) s = (⟨⟨s, b, t, rmw⟩, 1⟩, true) := by unfold Rep.val; rw [if_pos ⟨rfl, rfl⟩]
   simp only [if_true]
   rw [if_pos ⟨rfl, rfl⟩]
   dsimp only
   rw [setP_P, ho]
   have hv' : Rep.val (⟨⟨s, b, t, rmw⟩, 2⟩ : Cel) (newD ⟨s, b, t, rmw⟩ true).w.s = (⟨⟨s, b, t, rmw⟩, 1⟩, true) := hv
   rw [hv', List.map_nil, List.append_nil]
   refine h.move hi (Le.of_less hless) (.inl rfl) (fun _ e => by cases e) (fun q' hq' _ => left _ q' hq') (fun g hg _ e _ => .inl ?_) (fun g hg _ e => ?_) fun o ho hto => ?_
   ·rcases List.mem_append.1 hg with hg | hg
    ·exact hg
    ·rw [(hF g hg).1] at e; cases e
   ·rcases List.mem_append.1 hg with hg | hg
    ·exact .inl hg
    ·exact .inr ⟨i, hi, by rw [(hF g hg).2, put_at]; exact Le.refl _⟩
   ·right
    intro j hj
    rw [h0 o ho, h0 j hj, put_at]
    exact ⟨rfl, .inl rfl⟩
  | false =>
   simp only [Bool.false_eq_true, if_false]
   rw [setP_P, List.append_nil]
   refine h.move hi (Le.of_less hless) (.inr rfl) (fun d' e => ?_) (fun q' hq' _ => left _ q' hq') (fun g hg _ e _ => .inl ?_) (fun g hg _ e => ?_) fun o ho hto => ?_
   ·injection e with e
    subst e
    refine ⟨fun _ => by rw [put_at]; rfl, not_done m hdn, fun j hj hji _ => ?_, (fun c => by cases c)⟩
    obtain ⟨g, g1, g2, g3, g4, g5, g6⟩ := sent_heads (k := k) m l hi ⟨s, b, t, rmw⟩ hj hji
    exact ⟨g, List.mem_append.2 (.inr g1), g2, .inl ⟨g3, g4, g5, g6⟩⟩
   ·rcases List.mem_append.1 hg with hg | hg
    ·exact hg
    ·rw [(hF g hg).1] at e; cases e
   ·rcases List.mem_append.1 hg with hg | hg
    ·exact .inl hg
    ·exact .inr ⟨i, hi, by rw [(hF g hg).2, put_at]; exact Le.refl _⟩
   ·have hpi : Le s (put P i ⟨⟨⟨s, b, t, rmw⟩, 2⟩, some (newD ⟨s, b, t, rmw⟩ true), 0⟩ o).c.w.s := by have := hto i hi; rwa [put_at] at this
    by_cases eo : (put P i ⟨⟨⟨s, b, t, rmw⟩, 2⟩, some (newD ⟨s, b, t, rmw⟩ true), 0⟩ o).c.w.s = s
    ·left
     exact ⟨i, hi, newD ⟨s, b, t, rmw⟩ true, by rw [put_at], rfl, eo.symm⟩
    ·have hgt : less s (put P i ⟨⟨⟨s, b, t, rmw⟩, 2⟩, some (newD ⟨s, b, t, rmw⟩ true), 0⟩ o).c.w.s = true := by
      rcases Le.cases hpi with e | e
      ·exact absurd e eo
      ·exact e
     have hoi : o ≠ i := fun e => by subst e; rw [put_at] at eo; exact eo rfl
     rw [put_ne _ _ _ hoi] at hgt ⊢
     have hto' : Top n P o := fun j hj => by
      by_cases e : j = i
      ·subst e; exact Le.of_less (less_tr hless hgt)
      ·have := hto j hj
       rwa [put_ne _ _ _ hoi, put_ne _ _ _ e] at this
     rcases h.mx o ho hto' with ⟨q0, hq0, d0, g1, g2, g3⟩ | hc
     ·left
      have e : q0 ≠ i := fun e => by subst e; rw [hd'] at g1; cases g1
      exact ⟨q0, hq0, d0, by rw [put_ne _ _ _ e]; exact g1, g2, g3⟩
     ·have := (hc i hi).1
      rw [this] at hless
      have h3 := less_tr hless hgt
      rw [less_irr] at h3
      cases h3
theorem LK.other (h : LK n k P W) {W' : List Fm} (h0 : ∀ g, g.key = k → (g ∈ W ↔ g ∈ W')) : LK n k P W' := by
 have up : ∀ {j s}, HasV k W j s → HasV k W' j s := fun ⟨g, a, b, c⟩ => ⟨g, (h0 g b).1 a, b, c⟩
 refine ⟨h.st, fun j hj d e => ?_, fun g hg ek => h.ca g ((h0 g ek).2 hg) ek, fun g hg ek => h.fw g ((h0 g ek).2 hg) ek, fun j hj ht => (h.mx j hj ht).imp id fun hc z hz => ⟨(hc z hz).1, (hc z hz).2.imp id up⟩⟩
 have h1 := h.dr j hj d e
 exact ⟨h1.own, h1.nd, fun z hz hzj ha => (h1.ev z hz hzj ha).mono fun g hg ek => (h0 g ek).1 hg, h1.cv⟩
end
theorem top_ex (P : Nat → Plc) : ∀ n, 0 < n → ∃ i, i < n ∧ Top n P i
 | 0, h => absurd h (by decide)
 | 1, _ => ⟨0, by decide, fun j hj => by rw [show j = 0 from by omega]; exact Le.refl _⟩
 | n + 2, _ => by
  obtain ⟨i, hi, ht⟩ := top_ex P (n + 1) (by omega)
  cases e : less (P i).c.w.s (P (n + 1)).c.w.s with
  | true => exact ⟨n + 1, by omega, fun j hj => by
    by_cases ej : j = n + 1
    ·rw [ej]; exact Le.refl _
    ·exact (ht j (by omega)).tr (Le.of_less e)⟩
  | false => exact ⟨i, by omega, fun j hj => by
    by_cases ej : j = n + 1
    ·rw [ej]; exact e
    ·exact ht j (by omega)⟩
theorem LK.rest_s {n k : Nat} {P : Nat → Plc} {G : Gh} (h : LK n k P []) (hI : InvK n P k [] G) (hn : 0 < n) {i : Nat} (hi : i < n) : (P i).dr = none ∧ (P i).c.st = 1 ∧ (P i).c = (P 0).c := by
 have nodr : ∀ j, j < n → (P j).dr = none := fun j hj => by
  cases e : (P j).dr with
  | none => rfl
  | some d =>
   have h1 := h.dr j hj d e
   obtain ⟨z, hz, hzj, ha⟩ := h1.nd
   obtain ⟨g, hg, _⟩ := h1.ev z hz hzj ha
   cases hg
 obtain ⟨o, ho, ht⟩ := top_ex P n hn
 have calm : Calm n k P [] (P o).c.w.s := (h.mx o ho ht).resolve_left fun ⟨q, hq, d, e, _⟩ => by rw [nodr q hq] at e; cases e
 have st : ∀ j, j < n → (P j).c.st = 1 := fun j hj => (calm j hj).2.resolve_right fun ⟨g, hg, _⟩ => by cases hg
 refine ⟨nodr i hi, st i hi, ?_⟩
 have hw := hI.agree hi hn (((calm i hi).1).trans (calm 0 hn).1.symm)
 have e1 := st i hi
 have e2 := st 0 hn
 cases hc : (P i).c with
 | mk w s =>
  cases hc0 : (P 0).c with
  | mk w0 s0 =>
   rw [hc] at hw e1
   rw [hc0] at hw e2
   dsimp only at hw e1 e2
   rw [hw, e1, e2]
end Rep
end Go.Proofs.Ytafcbipmmjegcaa
