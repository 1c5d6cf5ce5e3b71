/- Texts of this claim: RiD, RiE. -/
import Derived.Test.YtafcbipmmjegcaaMg33
namespace Go.Proofs.Ytafcbipmmjegcaa
namespace Rep
open Vm.X5 (hasV othV aheadV behindV)
section
variable {n N k i q : Nat} {e : Int} {g : Stp → Option Wrd} {P : Nat → Plc} {hs : Bool} {W : List Fm} {r : RS} {f : Fm}
theorem not_doneJ (v : VW n N e i r) {d : Drv} (h : doneD d (oth r) = false) : ∃ j, j < N ∧ j ≠ i ∧ d.acks (j + 1) = false := by
 unfold doneD at h
 rw [List.all_eq_false] at h
 obtain ⟨x, hx, e⟩ := h
 obtain ⟨j, hj, hji, rfl⟩ := v.ohas _ hx
 exact ⟨j, hj, hji, by simpa using e⟩
theorem done_allJ (v : VW n N e i r) {d : Drv} (h : doneD d (oth r) = true) {j : Nat} (hj : j < N) (hji : j ≠ i) : d.acks (j + 1) = true := by
 unfold doneD at h
 exact (List.all_eq_true.1 h) _ (v.oth j hj hji)
theorem LJ.own_lt (h : LJ n N k e g P hs W) (hi : i < N) {d : Drv} (hd : (P i).dr = some d) (ho : d.own = true) : i < n := by
 have h1 := h.dr i hi d hd
 rcases (h.gs _ _ h1.w).2 with eq | ⟨j, hj, hb, _⟩
 ·have := h1.ob ho; rw [eq] at this; cases this
 ·have := h1.ob ho; omega
theorem LJ.ack_s (h : LJ n N k e g P hs (f :: W)) (hi : i < N) (v : VW n N e i r) (hr : r.P k = P i) (hk : f.key = k) (he : f.epoch = e) (ht : f.to = ad (i + 1)) (hq : q < N) (hqi : q ≠ i) (hqf : f.frm = ad (q + 1)) (hki : f.kind = 2) :
  LJ n N k e g (put P i ((onAck r f (q + 1)).1.P k)) hs (W ++ (onAck r f (q + 1)).2.1) := by
 subst hk
 have hn := few100 v
 have hff := h.fr f (List.mem_cons_self ..) rfl he
 have was : ∀ q' j d, q' < N → j < N → Evi N q' j d f → q' = i ∧ j = q ∧ f.w.s = d.w.s := fun q' j d hq' hj ev => by
  rcases ev with ⟨e1, _⟩ | ⟨_, e1, e2, e3⟩ | ⟨_, e1, _⟩
  ·rw [hki] at e1; cases e1
  ·exact ⟨adj hq' hi hn (e2.symm.trans ht), adj hj hq hn (e1.symm.trans hqf), e3⟩
  ·rw [hki] at e1; cases e1
 have idle : (∀ d, (P i).dr = some d → d.w.s ≠ f.w.s) → LJ n N f.key e g (put P i (r.P f.key)) hs (W ++ []) := fun hne => by
  rw [put_of hr]
  exact h.same hi (fun q' hq' d ed j hj hjq ha => ((h.dr q' hq' d ed).ev j hj hjq ha).next fun _ _ ev => by
    obtain ⟨e1, _, e3⟩ := was q' j d hq' hj ev
    subst e1
    exact (hne d ed e3.symm).elim) (fun x hx _ _ => .inl (by rw [List.append_nil] at hx; exact List.mem_cons_of_mem _ hx)) (fun x hx _ _ _ _ => .inl (by rw [List.append_nil] at hx; exact List.mem_cons_of_mem _ hx))
 unfold onAck
 cases hd : (r.P f.key).dr with
 | none => exact idle fun d ed => by rw [← hr, hd] at ed; cases ed
 | some d =>
  have hd' : (P i).dr = some d := by rw [← hr]; exact hd
  dsimp only
  by_cases hss : d.w.s = f.w.s
  rotate_left
  ·rw [if_neg hss]; exact idle fun d' ed => by rw [hd'] at ed; injection ed with ed; subst ed; exact hss
  rw [if_pos hss]
  have h1 := h.dr i hi d hd'
  have left : ∀ (F : List Fm) q', q' < N → q' ≠ i → ∀ d, (P q').dr = some d → ∀ j, j < N → j ≠ q' → d.acks (j + 1) = false → HasJ N f.key e (W ++ F) q' j d := fun F q' hq' hqi' d ed j hj hjq ha =>
   ((h.dr q' hq' d ed).ev j hj hjq ha).next fun _ _ ev => absurd (was q' j d hq' hj ev).1 hqi'
  have mem3 : ∀ (F : List Fm) {P' : Nat → Plc}, (∀ x ∈ F, x.kind = 3) → ∀ x, x ∈ W ++ F → x ∈ f :: W ∨ FrJ N g P' x := fun F P' hF x hx => by
   rcases List.mem_append.1 hx with hx | hx
   ·exact .inl (List.mem_cons_of_mem _ hx)
   ·have a := hF x hx
    exact .inr ⟨fun c => (by rw [a] at c; exact c.elim (fun c => by cases c) (fun c => by cases c)), fun c => (by rw [a] at c; cases c), fun c => (by rw [a] at c; cases c)⟩
  have no5 : ∀ (F : List Fm), (∀ x ∈ F, x.kind = 3) → ∀ x, x ∈ W ++ F → x.kind = 5 → x ∈ f :: W := fun F hF x hx e5 => by
   rcases List.mem_append.1 hx with hx | hx
   ·exact List.mem_cons_of_mem _ hx
   ·rw [hF x hx] at e5; cases e5
  have cov : (ackD d (q + 1) f.flag).cov = true → Above N P d.w.s := fun c => by
   have c : (d.cov || f.flag) = true := c
   rcases Bool.or_eq_true_iff.1 c with c | c
   ·exact h1.cv c
   ·rw [hss]; exact hff.c hki c
  have ackF : ∀ j, (ackD d (q + 1) f.flag).acks (j + 1) = false → j ≠ q ∧ d.acks (j + 1) = false := fun j ej => by
   have ej : Rep.put d.acks (q + 1) true (j + 1) = false := ej
   by_cases eq : j = q
   ·subst eq; rw [put_at] at ej; cases ej
   ·rw [put_ne _ _ _ (by omega)] at ej; exact ⟨eq, ej⟩
  have ackT : ∀ j, j < N → (ackD d (q + 1) f.flag).acks (j + 1) = true → Le d.w.s (P j).c.w.s := fun j hj ej => by
   have ej : Rep.put d.acks (q + 1) true (j + 1) = true := ej
   by_cases eq : j = q
   ·subst eq; rw [hss]; exact hff.a hki j hj hqf
   ·rw [put_ne _ _ _ (by omega)] at ej; exact h1.ak j hj ej
  have hoth : Rep.oth (setP r f.key { r.P f.key with dr := some (ackD d (q + 1) f.flag) }) = Rep.oth r := rfl
  unfold look
  rw [setP_P]
  dsimp only
  rw [hoth]
  cases hdn : doneD (ackD d (q + 1) f.flag) (Rep.oth r) with
  | false =>
   rw [if_neg (by decide)]
   dsimp only
   rw [setP_P]
   refine h.tells hi (by rw [← hr]) (.inr (by rw [← hr])) (fun d' ed => ?_) (fun d0 ed o => ?_) (left []) (fun x hx _ _ => mem3 [] (fun _ h => by cases h) x hx) (fun x hx _ _ e5 => no5 [] (fun _ h => by cases h) x hx e5)
   ·injection ed with ed
    subst ed
    refine ⟨d, hd', rfl, rfl, cov, not_doneJ v hdn, ackT, fun j hj hji ha => ?_⟩
    obtain ⟨hjq, ha⟩ := ackF j ha
    exact (h1.ev j hj hji ha).next fun _ _ ev => absurd (was i j d hi hj ev).2.1 hjq
   ·rw [hd'] at ed; injection ed with ed; subst ed; exact ⟨_, rfl, o, rfl⟩
  | true =>
   rw [if_pos rfl]
   have all : ∀ j, j < N → Le d.w.s (P j).c.w.s := fun j hj => by
    by_cases eji : j = i
    ·subst eji; exact h1.le
    ·exact ackT j hj (done_allJ v hdn hj eji)
   have top : ∀ o, o < N → Top N P o → d.w.s = (P o).c.w.s → (∀ j, j < N → (P j).c.w.s = d.w.s) ∧ (ackD d (q + 1) f.flag).cov = false := fun o ho hto ew => by
    refine ⟨fun j hj => Le.anti (by rw [ew]; exact hto j hj) (all j hj), ?_⟩
    cases hc : (ackD d (q + 1) f.flag).cov with
    | false => rfl
    | true =>
     obtain ⟨j, hj, hl⟩ := cov hc
     have := hto j hj
     rw [← ew] at this
     unfold Le at this
     rw [hl] at this
     cases this
   by_cases hb : (r.P f.key).c.w.s = (ackD d (q + 1) f.flag).w.s ∧ (ackD d (q + 1) f.flag).cov = false
   ·rw [if_pos hb]
    dsimp only
    rw [setP_P]
    have hF : ∀ x ∈ (oth r).map (fun n => frW (setP r f.key { r.P f.key with dr := some (ackD d (q + 1) f.flag) }) 3 n f.key (zS (ackD d (q + 1) f.flag).w.s) false 0), x.kind = 3 := fun x hx => by
     obtain ⟨z, _, rfl⟩ := List.mem_map.1 hx; rfl
    have hw1 : (Rep.val (r.P f.key).c (ackD d (q + 1) f.flag).w.s).1.w = (P i).c.w := by rw [← hr]; unfold Rep.val; split <;> rfl
    have hst : ((Rep.val (r.P f.key).c (ackD d (q + 1) f.flag).w.s).1.st = 1 ∧ (P i).c.st ≠ 0) ∨ ((Rep.val (r.P f.key).c (ackD d (q + 1) f.flag).w.s).1.st = (P i).c.st ∧ (P i).c.st ≠ 2) := by
     rw [← hr]
     unfold Rep.val
     by_cases h2 : (r.P f.key).c.st = 2
     ·rw [if_pos ⟨h2, hb.1⟩]; exact .inl ⟨rfl, by rw [h2]; decide⟩
     ·rw [if_neg (fun x => h2 x.1)]; exact .inr ⟨rfl, h2⟩
    have st1 : (P i).c.st = 1 → (Rep.val (r.P f.key).c (ackD d (q + 1) f.flag).w.s).1.st = 1 := fun a => hst.elim And.left fun x => x.1.trans a
    have st0 : (P i).c.st ≠ 0 → (Rep.val (r.P f.key).c (ackD d (q + 1) f.flag).w.s).1.st = 1 := fun a => by
     rcases h.st i hi with (b | b) | ⟨_, b, _⟩
     ·exact st1 b
     ·exact hst.elim And.left fun x => absurd b x.2
     ·exact absurd b a
    have sc : ∀ (p : Plc) j, p.c.w = (P i).c.w → (put P i p j).c.w.s = (P j).c.w.s := fun p j hp => by
     by_cases eq : j = i
     ·subst eq; rw [put_at, hp]
     ·rw [put_ne _ _ _ eq]
    refine h.move hi (by dsimp only; rw [hw1]; exact Le.refl _) ?_ (.inl rfl) (by dsimp only; rw [hw1]; exact h.cw i hi) (fun _ ed => by cases ed) (left _) (fun x hx _ _ => mem3 _ hF x hx) fun o ho hto => ?_
    ·rcases h.st i hi with b | ⟨b1, b2, b3, b4⟩
     ·exact .inl (.inl (st0 (by rcases b with b | b <;> rw [b] <;> decide)))
     ·refine .inr ⟨b1, hst.elim (fun x => absurd b2 x.2) fun x => x.1.trans b2, ?_, b4⟩
      show (Rep.val (r.P f.key).c (ackD d (q + 1) f.flag).w.s).1.w.s = zs
      rw [hw1]; exact b3
    ·have hto' : Top N P o := fun j hj => by have := hto j hj; rwa [sc _ _ hw1, sc _ _ hw1] at this
     rw [sc _ _ hw1]
     rcases h.mx o ho hto' with ⟨q0, hq0, d0, g1, g2, g3⟩ | hc
     ·by_cases eq : q0 = i
      ·subst eq
       rw [hd'] at g1
       injection g1 with g1
       subst g1
       obtain ⟨t1, t2⟩ := top o ho hto' g3
       have hin := h.own_lt hq0 hd' g2
       have hNn : n ≤ N := by rcases h.hN with eq | eq <;> omega
       have hbq := h1.ob g2
       refine .inr ⟨fun j hj => by rw [sc _ _ hw1, ← g3]; exact t1 j (by omega), fun x hx eb => ?_, fun hN => .inl ⟨?_, by rw [sc _ _ hw1, ← g3]; exact t1 n (by omega)⟩⟩
       ·have : x = q0 := by rw [← g3] at eb; omega
        subst this
        rw [put_at]
        exact st0 (by
         rcases h.st x hq0 with (b | b) | ⟨b, _⟩
         ·rw [b]; decide
         ·rw [b]; decide
         ·omega)
       ·rw [put_ne _ _ _ (by omega)]
        intro b
        rcases h.st n (by omega) with (x | x) | ⟨_, _, x, _⟩
        ·rw [b] at x; cases x
        ·rw [b] at x; cases x
        ·rw [t1 n (by omega)] at x
         rw [x] at hbq
         cases hbq
      ·exact .inl ⟨q0, hq0, d0, by rw [put_ne _ _ _ eq]; exact g1, g2, g3⟩
     ·refine .inr ⟨fun j hj => by rw [sc _ _ hw1]; exact hc.all j hj, fun x hx eb => ?_, fun hN => (hc.jn hN).imp (fun ⟨a, b⟩ => ⟨?_, by rw [sc _ _ hw1]; exact b⟩) fun ⟨a, b⟩ => ⟨a, fun x hx ek ee e5 et => b x (no5 _ hF x hx e5) ek ee e5 et⟩⟩
      ·by_cases eq : x = i
       ·subst eq; rw [put_at]; exact st1 (hc.ow x hx eb)
       ·rw [put_ne _ _ _ eq]; exact hc.ow x hx eb
      ·by_cases eq : n = i
       ·subst eq; rw [put_at]; rw [st0 a]; decide
       ·rw [put_ne _ _ _ eq]; exact a
   ·rw [if_neg hb]
    dsimp only
    rw [setP_P]
    have sc : ∀ j, (put P i { r.P f.key with dr := none } j).c = (P j).c := fun j => by
     by_cases eq : j = i
     ·subst eq; rw [put_at, ← hr]
     ·rw [put_ne _ _ _ eq]
    refine h.move hi (by rw [← hr]; exact Le.refl _) (by rw [hr]; exact h.st i hi) (.inl rfl) (by rw [hr]; exact h.cw i hi) (fun _ ed => by cases ed) (left []) (fun x hx _ _ => mem3 [] (fun _ h => by cases h) x hx) fun o ho hto => ?_
    have hto' : Top N P o := fun j hj => by have := hto j hj; rwa [sc, sc] at this
    rw [sc]
    rcases h.mx o ho hto' with ⟨q0, hq0, d0, g1, g2, g3⟩ | hc
    ·by_cases eq : q0 = i
     ·subst eq
      rw [hd'] at g1
      injection g1 with g1
      subst g1
      obtain ⟨t1, t2⟩ := top o ho hto' g3
      exact absurd ⟨by rw [hr]; exact t1 q0 hi, t2⟩ hb
     ·exact .inl ⟨q0, hq0, d0, by rw [put_ne _ _ _ eq]; exact g1, g2, g3⟩
    ·refine .inr ⟨fun j hj => by rw [sc]; exact hc.all j hj, fun x hx eb => by rw [sc]; exact hc.ow x hx eb, fun hN => by rw [sc]; exact (hc.jn hN).imp id fun ⟨a, b⟩ => ⟨a, fun x hx ek ee e5 et => b x (no5 [] (fun _ h => by cases h) x hx e5) ek ee e5 et⟩⟩
theorem give_has (r : RS) (f : Fm) : (onGive r f).1.has f.key = true := by
 have hg : (got r f.key).has f.key = true := put_at _ _ _
 have hw : ∀ x : RS, (way x f.key).1.has = x.has := fun x => by
  unfold way
  split
  ·rfl
  ·split
   ·split <;> rfl
   ·rfl
 have hre : ∀ x : RS, (rest x f.key).has = x.has := fun x => by
  unfold rest
  split
  ·rfl
  ·split <;> rfl
 unfold onGive
 split
 ·split
  ·rw [hw]; exact hg
  ·show (rest (setC (got r f.key) f.key _) f.key).has f.key = true
   rw [hre]; exact hg
 ·exact hg
theorem LJ.on_s (h : LJ n N k e g P hs (f :: W)) (hi : i < N) (v : VW n N e i r) (hr : r.P k = P i) (hk : f.key = k) (hf : FJ N e f) (ht : f.to = ad (i + 1)) (hh : i = n → r.has k = hs) :
  LJ n N k e g (put P i ((on r f true).1.P k)) (if i = n then (on r f true).1.has k else hs) (W ++ (on r f true).2.1) := by
 have hsame : (if i = n then r.has k else hs) = hs := by by_cases eq : i = n <;> simp [eq, hh]
 by_cases he : f.epoch = e
 rotate_left
 ·rw [on_old v he]
  dsimp only
  rw [put_of hr, hsame]
  exact h.drop hi fun ee => absurd ee he
 obtain ⟨q, hq, hqi, hqf, hs1⟩ := sender_J v hi hf he ht
 have hidle : ∀ {x : RS × List Fm × List Ev}, x.1.has = r.has → LJ n N k e g (put P i (x.1.P k)) hs (W ++ x.2.1) → LJ n N k e g (put P i (x.1.P k)) (if i = n then x.1.has k else hs) (W ++ x.2.1) := fun {x} hx hl => by
  rw [hx, hsame]; exact hl
 unfold on
 rw [hs1]
 dsimp only
 have hlook : ∀ x : RS, (look x f.key).1.has = x.has := fun x => by
  unfold look
  split
  ·rfl
  ·split
   ·split <;> rfl
   ·rfl
 have hway : ∀ x : RS, (way x f.key).1.has = x.has := fun x => by
  unfold way
  split
  ·rfl
  ·split
   ·split <;> rfl
   ·rfl
 by_cases h1 : f.kind = 1
 ·rw [if_pos h1]
  refine hidle ?_ (h.inv_s hi v hr hk he ht hq hqf h1)
  unfold onInv
  split
  ·rfl
  ·split
   ·show (way (setC r f.key _) f.key).1.has = r.has
    rw [hway]; rfl
   ·rfl
 rw [if_neg h1]
 by_cases h2 : f.kind = 2
 ·rw [if_pos h2, if_pos rfl]
  refine hidle ?_ (h.ack_s hi v hr hk he ht hq hqi hqf h2)
  unfold onAck
  split
  ·rfl
  ·split
   ·rw [hlook]; rfl
   ·rfl
 rw [if_neg h2]
 by_cases h3 : f.kind = 3
 ·rw [if_pos h3]
  have hv : (onVal r f).has = r.has := by
   have hre : ∀ x : RS, (rest x f.key).has = x.has := fun x => by
    unfold rest
    split
    ·rfl
    ·split <;> rfl
   unfold onVal
   split
   ·rw [hre]; rfl
   ·rfl
  exact hidle (x := (onVal r f, [], [])) hv (h.val_s hi hr hk h3)
 rw [if_neg h3]
 by_cases h4 : f.kind = 4
 ·rw [if_pos h4]
  dsimp only
  rw [put_of hr, hsame]
  exact h.need_s hi hr hk h4 (fun eq => by rcases h.hN with x | x <;> omega) hq (Nat.le_trans v.few (by decide))
 rw [if_neg h4]
 by_cases h5 : f.kind = 5
 ·rw [if_pos h5]
  have hg := h.give_s hi hr hk he ht h5
  have hgh := give_has r f
  rw [hk] at hgh
  dsimp only
  rw [hgh]
  exact hg
 rw [if_neg h5]
 dsimp only
 rw [put_of hr, hsame]
 exact h.drop hi fun _ q' j d ev => by rcases ev with ⟨c, _⟩ | ⟨c, _⟩ | ⟨_, c, _⟩ <;> first | exact h1 c | exact h2 c
theorem LJ.tick_s (h : LJ n N k e g P hs W) (hN2 : 2 ≤ N) (hi : i < N) (v : VW n N e i r) (hr : r.P k = P i) (every replay : Nat) :
  LJ n N k e g (put P i ((tickK r k every replay true).1.P k)) hs (W ++ (tickK r k every replay true).2.1) := by
 have left : ∀ (F : List Fm) q', q' < N → ∀ d, (P q').dr = some d → ∀ j, j < N → j ≠ q' → d.acks (j + 1) = false → HasJ N k e (W ++ F) q' j d := fun F q' hq' d ed j hj hjq ha =>
  ((h.dr q' hq' d ed).ev j hj hjq ha).mono fun x hx _ => List.mem_append.2 (.inl hx)
 unfold tickK
 cases hd : (r.P k).dr with
 | some d =>
  have hd' : (P i).dr = some d := by rw [← hr]; exact hd
  have h1 := h.dr i hi d hd'
  have hnd : doneD d (oth r) = false := by
   cases ed : doneD d (oth r) with
   | false => rfl
   | true =>
    obtain ⟨j, hj, hji, ha⟩ := h1.nd
    rw [done_allJ v ed hj hji] at ha
    cases ha
  dsimp only
  rw [if_pos rfl, look_nd (fun d' ed => by rw [hd] at ed; injection ed with ed; subst ed; exact hnd)]
  dsimp only
  rw [List.nil_append]
  unfold beat
  rw [hd]
  dsimp only
  rw [setP_P]
  have tw : (tickD d every).1.w = d.w ∧ (tickD d every).1.own = d.own ∧ (tickD d every).1.acks = d.acks ∧ (tickD d every).1.cov = d.cov := by unfold tickD; split <;> exact ⟨rfl, rfl, rfl, rfl⟩
  have hF : ∀ x, x ∈ (if (tickD d every).2 = true then sent r k d.w else []) → x.kind = 1 ∧ x.w = d.w := fun x hx => by
   split at hx
   ·exact ⟨(sent_kind hx).1, (sent_kind hx).2.1⟩
   ·cases hx
  refine h.tells hi (by rw [← hr]) (.inr (by rw [← hr])) (fun d' ed => ?_) (fun d0 ed o => ?_) (fun q' hq' _ => left _ q' hq') (fun x hx _ _ => ?_) (fun x hx _ _ e5 => ?_)
  ·injection ed with ed
   subst ed
   refine ⟨d, hd', tw.1, tw.2.1, fun c => h1.cv (by rw [← tw.2.2.2]; exact c), by rw [tw.2.2.1]; exact h1.nd, by rw [tw.2.2.1]; exact h1.ak, fun j hj hji ha => left _ i hi d hd' j hj hji (by rw [← tw.2.2.1]; exact ha)⟩
  ·rw [hd'] at ed; injection ed with ed; subst ed; exact ⟨_, rfl, tw.2.1.trans o, by rw [tw.1]⟩
  ·rcases List.mem_append.1 hx with hx | hx
   ·exact .inl hx
   ·obtain ⟨a, b⟩ := hF x hx
    exact .inr ⟨fun _ => (by rw [b]; exact h1.w), fun c => (by rw [a] at c; cases c), fun c => (by rw [a] at c; cases c)⟩
  ·rcases List.mem_append.1 hx with hx | hx
   ·exact hx
   ·rw [(hF x hx).1] at e5; cases e5
 | none =>
  have hd' : (P i).dr = none := by rw [← hr]; exact hd
  dsimp only
  unfold stall
  by_cases hc : r.has k = true ∧ (r.P k).c.st = 2
  rotate_left
  ·rw [if_neg hc]
   dsimp only
   rw [put_of hr, List.append_nil]
   exact h
  rw [if_pos hc]
  have quiet : ∀ (a : Nat) (F : List Fm), (∀ x ∈ F, x.kind = 4) → LJ n N k e g (put P i { r.P k with age := a }) hs (W ++ F) := fun a F hF => by
   refine h.tells hi (by rw [← hr]) (.inr (by rw [← hr])) (fun d' ed => by dsimp only at ed; rw [hd] at ed; cases ed) (fun d ed _ => by rw [hd'] at ed; cases ed) (fun q' hq' _ => left _ q' hq') (fun x hx _ _ => ?_) (fun x hx _ _ e5 => ?_)
   ·rcases List.mem_append.1 hx with hx | hx
    ·exact .inl hx
    ·have a := hF x hx
     exact .inr ⟨fun c => (by rw [a] at c; exact c.elim (fun c => by cases c) (fun c => by cases c)), fun c => (by rw [a] at c; cases c), fun c => (by rw [a] at c; cases c)⟩
   ·rcases List.mem_append.1 hx with hx | hx
    ·exact hx
    ·rw [hF x hx] at e5; cases e5
  by_cases ha : (r.P k).age + 1 ≥ replay ∧ true = true
  rotate_left
  ·rw [if_neg ha]; dsimp only; rw [setP_P]; exact quiet _ _ (fun _ h => by cases h)
  rw [if_pos ha]
  by_cases hm : (r.P k).c.w.r = true ∧ hasV r.v.ms (r.P k).c.w.s.b (r.P k).c.w.s.l = true
  ·rw [if_pos hm]; dsimp only; rw [setP_P]
   exact quiet _ _ (fun x hx => by
    split at hx
    ·cases hx
    ·rw [List.mem_singleton] at hx; subst hx; rfl)
  rw [if_neg hm]
  dsimp only
  rw [setP_P]
  have hF : ∀ x, x ∈ sent r k (r.P k).c.w → x.kind = 1 ∧ x.w = (P i).c.w := fun x hx => ⟨(sent_kind hx).1, by rw [(sent_kind hx).2.1, hr]⟩
  have no5 : ∀ x, x ∈ W ++ sent r k (r.P k).c.w → x.kind = 5 → x ∈ W := fun x hx e5 => by
   rcases List.mem_append.1 hx with hx | hx
   ·exact hx
   ·rw [(hF x hx).1] at e5; cases e5
  refine h.move hi (by rw [← hr]; exact Le.refl _) (by rw [hr]; exact h.st i hi) (.inl rfl) (by rw [hr]; exact h.cw i hi) (fun d' ed => ?_) (fun q' hq' _ => left _ q' hq') (fun x hx _ _ => ?_)
   (h.mxA (by rw [← hr]) (fun e1 => by rw [← hr, hc.2] at e1; cases e1) (fun e1 => by rw [hr]; exact e1) (fun d ed _ => by rw [hd'] at ed; cases ed) (fun s _ _ ⟨a, b⟩ => .inr ⟨a, fun x hx ek ee e5 et => b x (no5 x hx e5) ek ee e5 et⟩))
  ·injection ed with ed
   subst ed
   obtain ⟨j0, hj0, hne⟩ : ∃ j, j < N ∧ j ≠ i := by
    by_cases eq : i = 0
    ·exact ⟨1, by omega, by omega⟩
    ·exact ⟨0, by omega, fun x => eq x.symm⟩
   refine ⟨fun _ => by rw [put_at]; rfl, ⟨j0, hj0, hne, rfl⟩, fun j hj hji _ => ?_, (fun c => by cases c), by rw [put_at]; exact Le.refl _, (fun j _ c => by cases c), (fun c => by cases c), by rw [hr]; exact h.cw i hi⟩
   obtain ⟨x, g1, g2, g0, g3, g4, g5, g6⟩ := sent_headsJ (k := k) v hi (r.P k).c.w hj hji
   exact ⟨x, List.mem_append.2 (.inr g1), g2, g0, .inl ⟨g3, g4, g5, g6⟩⟩
  ·rcases List.mem_append.1 hx with hx | hx
   ·exact .inl hx
   ·obtain ⟨a, b⟩ := hF x hx
    exact .inr ⟨fun _ => (by rw [b]; exact h.cw i hi), fun c => (by rw [a] at c; cases c), fun c => (by rw [a] at c; cases c)⟩
def gUp (g : Stp → Option Wrd) (w : Wrd) : Stp → Option Wrd := fun x => if x = w.s then some w else g x
theorem LJ.write_s (h : LJ n N k e g P hs W) (hi : i < n) (v : VW n N e i r) (hr : r.P k = P i) (b : Bool) (t : ByteArray) (rmw : Bool) :
  ∃ g', LJ n N k e g' (put P i ((write r k b t rmw).1.1.P k)) hs (W ++ (write r k b t rmw).1.2.1) := by
 have hNn : n ≤ N := by rcases h.hN with eq | eq <;> omega
 have hiN : i < N := by omega
 have idle : ∃ g', LJ n N k e g' (put P i (r.P k)) hs (W ++ []) := ⟨g, by rw [put_of hr, List.append_nil]; exact h⟩
 unfold write
 by_cases hf : free r k = true
 rotate_left
 ·rw [if_neg hf]; exact idle
 rw [if_pos hf]
 cases hs1 : nextS (r.P k).c.w.s (if rmw = true then 1 else 2) r.self r.life with
 | none => exact idle
 | some s =>
  dsimp only
  have hd' : (P i).dr = none := by
   unfold free at hf
   rw [← hr]
   simp only [Bool.and_eq_true, Option.isNone_iff_eq_none] at hf
   exact hf.2.2.2.2
  have es := nextS_some hs1
  have hsb : s.b = i + 1 := by rw [es]; exact v.self
  have hless : less (P i).c.w.s s = true := by
   rw [less_iff, es, ← hr]
   left
   cases rmw <;> simp
  have fresh : g s = none := by
   cases hg : g s with
   | none => rfl
   | some w =>
    rcases (h.gs s w hg).2 with eq | ⟨j, hj, hb, hl⟩
    ·rw [eq] at hsb; cases hsb
    ·have : j = i := by omega
     subst this
     unfold Le at hl
     rw [hless] at hl
     cases hl
  have gm : ∀ x y, g x = some y → gUp g ⟨s, b, t, rmw⟩ x = some y := fun x y hx => by
   unfold gUp
   rw [if_neg (fun eq => by rw [eq] at hx; dsimp only at hx; rw [fresh] at hx; cases hx)]
   exact hx
  have gself : gUp g ⟨s, b, t, rmw⟩ s = some ⟨s, b, t, rmw⟩ := if_pos rfl
  have left : ∀ (F : List Fm) q', q' < N → ∀ d, (P q').dr = some d → ∀ j, j < N → j ≠ q' → d.acks (j + 1) = false → HasJ N k e (W ++ F) q' j d := fun F q' hq' d ed j hj hjq ha =>
   ((h.dr q' hq' d ed).ev j hj hjq ha).mono fun x hx _ => List.mem_append.2 (.inl hx)
  have hoth : ∀ p, Rep.oth (setP r k p) = Rep.oth r := fun p => rfl
  have hF : ∀ x, x ∈ sent r k ⟨s, b, t, rmw⟩ → x.kind = 1 ∧ x.w = ⟨s, b, t, rmw⟩ := fun x hx => ⟨(sent_kind hx).1, (sent_kind hx).2.1⟩
  have no5 : ∀ x, x ∈ W ++ sent r k ⟨s, b, t, rmw⟩ → x.kind = 5 → x ∈ W := fun x hx e5 => by
   rcases List.mem_append.1 hx with hx | hx
   ·exact hx
   ·rw [(hF x hx).1] at e5; cases e5
  have frs : ∀ (p : Plc), p.c.w.s = s → ∀ x, x ∈ W ++ sent r k ⟨s, b, t, rmw⟩ → x.key = k → x.epoch = e → FrJ N (gUp g ⟨s, b, t, rmw⟩) (put P i p) x := fun p hp x hx ek ee => by
   rcases List.mem_append.1 hx with hx | hx
   ·have := (h.fr x hx ek ee).up (i := i) (p := p) (by rw [hp]; exact Le.of_less hless)
    exact ⟨fun c => gm _ _ (this.w c), this.a, this.c⟩
   ·obtain ⟨a, c⟩ := hF x hx
    exact ⟨fun _ => (by rw [c]; exact gself), fun c => (by rw [a] at c; cases c), fun c => (by rw [a] at c; cases c)⟩
  have make : ∀ (p : Plc), p.c.w = ⟨s, b, t, rmw⟩ → (p.c.st = 1 ∨ p.c.st = 2) → (∀ d, p.dr = some d → LDJ N k e (gUp g ⟨s, b, t, rmw⟩) (put P i p) (W ++ sent r k ⟨s, b, t, rmw⟩) i d) →
    (∀ o, o < N → Top N (put P i p) o → Driven N (put P i p) (put P i p o).c.w.s ∨ Had n N k e (put P i p) hs (W ++ sent r k ⟨s, b, t, rmw⟩) (put P i p o).c.w.s) → LJ n N k e (gUp g ⟨s, b, t, rmw⟩) (put P i p) hs (W ++ sent r k ⟨s, b, t, rmw⟩) := fun p hp hst hd hmx => by
   have hps : p.c.w.s = s := by rw [hp]
   have hl : Le (P i).c.w.s p.c.w.s := by rw [hps]; exact Le.of_less hless
   refine ⟨fun q hq => ?_, fun q hq => ?_, fun x w hg => ?_, fun q hq d ed => ?_, frs p hps, hmx, h.hN, h.hn, gm _ _ h.gz⟩
   ·by_cases eq : q = i
    ·subst eq; rw [put_at]; exact .inl hst
    ·rw [put_ne _ _ _ eq]; exact h.st q hq
   ·by_cases eq : q = i
    ·subst eq; rw [put_at, hp]; exact gself
    ·rw [put_ne _ _ _ eq]; exact gm _ _ (h.cw q hq)
   ·unfold gUp at hg
    by_cases ex : x = s
    ·rw [if_pos ex] at hg
     injection hg with hg
     subst hg
     exact ⟨ex.symm, .inr ⟨i, hi, by rw [ex]; exact hsb, by rw [put_at, hps, ex]; exact Le.refl _⟩⟩
    ·rw [if_neg ex] at hg
     obtain ⟨a, c⟩ := h.gs x w hg
     exact ⟨a, c.imp id fun ⟨j, hj, h1, h2⟩ => ⟨j, hj, h1, h2.tr (put_le hl j)⟩⟩
   ·by_cases eq : q = i
    ·subst eq; rw [put_at] at ed; exact hd d ed
    ·rw [put_ne _ _ _ eq] at ed
     have h1 := h.dr q hq d ed
     exact ⟨fun ho => by rw [put_ne _ _ _ eq]; exact h1.own ho, h1.nd, fun j hj hjq ha => left _ q hq d ed j hj hjq ha, fun c => (h1.cv c).up hl, h1.le.tr (put_le hl q), fun j hj ha => (h1.ak j hj ha).tr (put_le hl j), h1.ob, gm _ _ h1.w⟩
  refine ⟨gUp g ⟨s, b, t, rmw⟩, ?_⟩
  unfold look
  rw [setP_P]
  dsimp only
  rw [hoth]
  cases hdn : doneD (newD ⟨s, b, t, rmw⟩ true) (Rep.oth r) with
  | true =>
   have h0 : ∀ j, j < N → j = i := fun j hj => Classical.byContradiction fun eq => by
    have := done_allJ v hdn hj eq
    cases this
   have ho : Rep.oth r = [] := List.eq_nil_iff_forall_not_mem.2 fun x hx => by
    obtain ⟨j, hj, hji, _⟩ := v.ohas x hx
    exact hji (h0 j hj)
   have hv' : Rep.val (⟨⟨s, b, t, rmw⟩, 2⟩ : Cel) (newD ⟨s, b, t, rmw⟩ true).w.s = (⟨⟨s, b, t, rmw⟩, 1⟩, true) := by unfold Rep.val; rw [if_pos ⟨rfl, rfl⟩]
   simp only [if_true]
   rw [if_pos ⟨rfl, rfl⟩]
   dsimp only
   rw [setP_P, ho, hv', List.map_nil, List.append_nil]
   refine make _ rfl (.inl rfl) (fun _ ed => by cases ed) fun o ho hto => .inr ⟨fun j hj => by rw [h0 o ho, h0 j (by omega)], fun x hx _ => by rw [h0 x (by omega), put_at], fun hN => ?_⟩
   have a1 := h0 0 (by omega)
   have a2 := h0 n (by omega)
   have := h.hn
   omega
  | false =>
   simp only [Bool.false_eq_true, if_false]
   rw [setP_P, List.append_nil]
   refine make _ rfl (.inr rfl) (fun d' ed => ?_) fun o ho hto => ?_
   ·injection ed with ed
    subst ed
    refine ⟨fun _ => by rw [put_at]; rfl, not_doneJ v hdn, fun j hj hji _ => ?_, (fun c => by cases c), by rw [put_at]; exact Le.refl _, (fun j _ c => by cases c), fun _ => hsb, gself⟩
    obtain ⟨x, g1, g2, g0, g3, g4, g5, g6⟩ := sent_headsJ (k := k) v hiN ⟨s, b, t, rmw⟩ hj hji
    exact ⟨x, List.mem_append.2 (.inr g1), g2, g0, .inl ⟨g3, g4, g5, g6⟩⟩
   ·have hpi : Le s (put P i ⟨⟨⟨s, b, t, rmw⟩, 2⟩, some (newD ⟨s, b, t, rmw⟩ true), 0⟩ o).c.w.s := by have := hto i hiN; rwa [put_at] at this
    by_cases eo : (put P i ⟨⟨⟨s, b, t, rmw⟩, 2⟩, some (newD ⟨s, b, t, rmw⟩ true), 0⟩ o).c.w.s = s
    ·left
     exact ⟨i, hiN, newD ⟨s, b, t, rmw⟩ true, by rw [put_at], rfl, eo.symm⟩
    ·have hgt : less s (put P i ⟨⟨⟨s, b, t, rmw⟩, 2⟩, some (newD ⟨s, b, t, rmw⟩ true), 0⟩ o).c.w.s = true := by
      rcases Le.cases hpi with eq | eq
      ·exact absurd eq eo
      ·exact eq
     have hoi : o ≠ i := fun eq => by subst eq; rw [put_at] at eo; exact eo rfl
     rw [put_ne _ _ _ hoi] at hgt ⊢
     have hto' : Top N P o := fun j hj => by
      by_cases eq : j = i
      ·subst eq; exact Le.of_less (less_tr hless hgt)
      ·have := hto j hj
       rwa [put_ne _ _ _ hoi, put_ne _ _ _ eq] at this
     rcases h.mx o ho hto' with ⟨q0, hq0, d0, g1, g2, g3⟩ | hc
     ·left
      have eq : q0 ≠ i := fun eq => by subst eq; rw [hd'] at g1; cases g1
      exact ⟨q0, hq0, d0, by rw [put_ne _ _ _ eq]; exact g1, g2, g3⟩
     ·have := hc.all i hi
      rw [this] at hless
      have h3 := less_tr hless hgt
      rw [less_irr] at h3
      cases h3
theorem LJ.other (h : LJ n N k e g P hs W) {W' : List Fm} (h0 : ∀ x, x.key = k → (x ∈ W ↔ x ∈ W')) : LJ n N k e g P hs W' := by
 refine ⟨h.st, h.cw, h.gs, fun j hj d ed => ?_, fun x hx ek => h.fr x ((h0 x ek).2 hx) ek, fun j hj ht => (h.mx j hj ht).imp id fun hc => ⟨hc.all, hc.ow, fun hN => (hc.jn hN).imp id fun ⟨a, b⟩ => ⟨a, fun x hx ek => b x ((h0 x ek).2 hx) ek⟩⟩, h.hN, h.hn, h.gz⟩
 have h1 := h.dr j hj d ed
 exact ⟨h1.own, h1.nd, fun z hz hzj ha => (h1.ev z hz hzj ha).mono fun x hx ek => (h0 x ek).1 hx, h1.cv, h1.le, h1.ak, h1.ob, h1.w⟩
theorem LJ.rest_s (h : LJ n N k e g P hs []) (hh : N = n + 1 → hs = true) : ∃ w, g w.s = some w ∧ ∀ j, j < N → (P j).dr = none ∧ (P j).c.w = w ∧ ((P j).c.st = 1 ∨ (P j).c.st = 2) ∧ (j < n → w.s.b = j + 1 → (P j).c.st = 1) := by
 have hNn : n ≤ N := by rcases h.hN with eq | eq <;> omega
 have nodr : ∀ j, j < N → (P j).dr = none := fun j hj => by
  cases ed : (P j).dr with
  | none => rfl
  | some d =>
   have h1 := h.dr j hj d ed
   obtain ⟨z, hz, hzj, ha⟩ := h1.nd
   obtain ⟨x, hx, _⟩ := h1.ev z hz hzj ha
   cases hx
 obtain ⟨o, ho, ht⟩ := top_ex P N (Nat.lt_of_lt_of_le h.hn hNn)
 have had : Had n N k e P hs [] (P o).c.w.s := (h.mx o ho ht).resolve_left fun ⟨q, hq, d, ed, _⟩ => by rw [nodr q hq] at ed; cases ed
 have alls : ∀ j, j < N → (P j).c.w.s = (P o).c.w.s := fun j hj => by
  by_cases eq : j < n
  ·exact had.all j eq
  ·have hN : N = n + 1 := by rcases h.hN with eq | eq <;> omega
   have : j = n := by omega
   subst this
   exact ((had.jn hN).resolve_right fun ⟨a, _⟩ => by rw [hh hN] at a; cases a).2
 have hwo := h.cw o ho
 refine ⟨(P o).c.w, hwo, fun j hj => ⟨nodr j hj, ?_, ?_, fun hjn eb => had.ow j hjn eb⟩⟩
 ·have a := h.cw j hj
  rw [alls j hj, hwo] at a
  injection a with a
  exact a.symm
 ·rcases h.st j hj with a | ⟨a, _, _, b⟩
  ·exact a
  ·have hN : N = n + 1 := by rcases h.hN with eq | eq <;> omega
   rw [hh hN] at b; cases b
end
end Rep
end Go.Proofs.Ytafcbipmmjegcaa
namespace Go.Proofs.Ytafcbipmmjegcaa
namespace Rep
open Vm.X5 (hasV othV aheadV behindV)
section
variable {n N M k i : Nat} {e : Int} {r : RS} {S : Nat → List Stp} {f : Fm} {W : List Fm}
theorem wt_posJ (hNM : N ≤ M) (hM : M ≤ 5) (h : FJ N e f) : 1 ≤ wt S M f := by
 unfold wt
 split
 ·obtain ⟨j, hj, e2⟩ := h.to
  rw [ad_val (by omega)] at e2
  have h1 : 1 ≤ run_ M f := by
   unfold run_
   rw [e2]
   split
   ·omega
   ·split <;> omega
  have h2 : 1 ≤ hw S f.key f.w.s := by unfold hw; omega
  exact Nat.le_trans (by decide : 1 ≤ 1 * 1) (Nat.mul_le_mul h1 h2)
 ·split
  ·decide
  ·split <;> decide
theorem wts_lenJ (hNM : N ≤ M) (hM : M ≤ 5) : ∀ {W : List Fm}, (∀ f, f ∈ W → FJ N e f) → W.length ≤ wts S M W
 | [], _ => Nat.zero_le _
 | f :: W, h => by
  rw [wts_cons, List.length_cons]
  have h1 := wt_posJ (S := S) hNM hM (h f (List.mem_cons_self ..))
  have h2 := wts_lenJ hNM hM (W := W) fun x hx => h x (List.mem_cons_of_mem _ hx)
  omega
theorem wts_sentJ (v : VW n N e i r) (hi : i < N) (hNM : N ≤ M) (hM : M ≤ 5) (k : Nat) (w : Wrd) : wts S M (sent r k w) ≤ 268 := by
 unfold sent
 rw [v.a, v.b, wts_app]
 have hh := hw_le (S := S) k w.s
 have hA : wts S M (if i = 0 then [] else [frW r 1 i k w false 1]) ≤ i * 67 := by
  split
  ·exact Nat.zero_le _
  ·rw [wts_one]
   have e1 : wt S M (frW r 1 i k w false 1) = i * hw S k w.s := by
    unfold wt run_ frW
    dsimp only
    rw [if_pos rfl, if_neg (by decide), if_pos rfl, ad_val (by omega), Nat.add_sub_cancel_left]
   rw [e1]
   exact Nat.mul_le_mul (Nat.le_refl _) hh
 have hB : wts S M (if (if i + 1 < N then i + 2 else 0) = 0 then [] else [frW r 1 (if i + 1 < N then i + 2 else 0) k w false 2]) ≤ (M - (i + 1)) * 67 := by
  by_cases hb : i + 1 < N
  ·rw [if_pos hb, if_neg (by omega), wts_one]
   have e1 : wt S M (frW r 1 (i + 2) k w false 2) = (M - (i + 1)) * hw S k w.s := by
    unfold wt run_ frW
    dsimp only
    rw [if_pos rfl, if_pos rfl, ad_val (by omega), show M + 17 - (16 + (i + 2)) = M - (i + 1) from by omega]
   rw [e1]
   exact Nat.mul_le_mul (Nat.le_refl _) hh
  ·rw [if_neg hb, if_pos rfl]; exact Nat.zero_le _
 omega
theorem wts_onJ (v : VW n N e i r) (hi : i < N) (hNM : N ≤ M) (hM : M ≤ 5) (hS : ∀ k, (S k).length ≤ 61) (hf : FJ N e f) (ht : f.to = ad (i + 1)) (hin : f.kind = 1 → f.w.s ∈ S f.key) :
  wts S M (on r f true).2.1 + 1 ≤ wt S M f := by
 have pos := wt_posJ (S := S) hNM hM hf
 have htv : f.to = 16 + (i + 1) := by rw [ht, ad_val (by omega)]
 unfold on
 split
 ·exact pos
 rename_i frm hs
 by_cases h1 : f.kind = 1
 ·rw [if_pos h1]
  have hwt : wt S M f = run_ M f * hw S f.key f.w.s := by unfold wt; rw [if_pos h1]
  have hrel : wts S M (sendOn r f) + hw S f.key f.w.s ≤ wt S M f := by
   rw [hwt]
   unfold sendOn
   rw [v.a, v.b]
   by_cases hd1 : f.dir = 1
   ·rw [if_pos hd1]
    have e1 : run_ M f = i + 1 := by unfold run_; rw [if_neg (by omega), if_pos hd1, htv]; omega
    by_cases h0 : i = 0
    ·rw [if_pos h0, e1, h0, wts_nil]; omega
    ·rw [if_neg h0, wts_one]
     have e2 : wt S M { f with to := ad i } = i * hw S f.key f.w.s := by
      unfold wt run_
      dsimp only
      rw [if_pos h1, if_neg (by omega), if_pos hd1, ad_val (by omega), Nat.add_sub_cancel_left]
     rw [e2, e1, Nat.succ_mul]
     exact Nat.le_refl _
   ·rw [if_neg hd1]
    by_cases hd2 : f.dir = 2
    ·rw [if_pos hd2]
     have e1 : run_ M f = M - i := by unfold run_; rw [if_pos hd2, htv]; omega
     by_cases hb : i + 1 < N
     ·rw [if_pos hb, if_neg (by omega), wts_one]
      have e2 : wt S M { f with to := ad (i + 2) } = (M - (i + 1)) * hw S f.key f.w.s := by
       unfold wt run_
       dsimp only
       rw [if_pos h1, if_pos hd2, ad_val (by omega), show M + 17 - (16 + (i + 2)) = M - (i + 1) from by omega]
      rw [e2, e1, show M - i = (M - (i + 1)) + 1 from by omega, Nat.succ_mul]
      exact Nat.le_refl _
     ·rw [if_neg hb, if_pos rfl, e1, wts_nil]
      obtain ⟨q, hq⟩ : ∃ q, M - i = q + 1 := ⟨M - i - 1, by omega⟩
      rw [hq, Nat.succ_mul]
      omega
    ·rw [if_neg hd2]
     have e1 : run_ M f = 1 := by unfold run_; rw [if_neg hd2, if_neg hd1]
     rw [e1, wts_nil]; omega
  have hh : 6 ≤ hw S f.key f.w.s := by unfold hw; omega
  have hack : ∀ (w : Wrd) (fl : Bool), wt S M (frW r 2 frm f.key w fl 0) = 5 := fun w fl => by unfold wt frW; rfl
  unfold onInv
  by_cases h4 : (Rep.inv (r.P f.key).c f.w).2 = 4
  ·rw [if_pos h4]
   dsimp only
   rw [wts_app, wts_one]
   have hless : less f.w.s (r.P f.key).c.w.s = true := by
    unfold Rep.inv at h4
    split at h4
    ·cases h4
    ·rename_i hn1
     split at h4
     ·cases h4
     ·rename_i hn2
      rcases less_tot (a := (r.P f.key).c.w.s) (b := f.w.s) (by cases e : less (r.P f.key).c.w.s f.w.s with | true => exact absurd e hn1 | false => rfl) with e | e
      ·exact absurd e.symm hn2
      ·exact e
   have e1 : wt S M (frW r 1 frm f.key (r.P f.key).c.w false 0) = hw S f.key (r.P f.key).c.w.s := by
    unfold wt run_ frW
    dsimp only
    rw [if_pos rfl, if_neg (by decide), if_neg (by decide), Nat.one_mul]
   have hc : hw S f.key (r.P f.key).c.w.s + 1 ≤ hw S f.key f.w.s := by
    have h5 := cnt_less (l := S f.key) hless (hin h1)
    have h6 := cnt_le (S f.key) (r.P f.key).c.w.s
    have h7 := hS f.key
    unfold hw
    omega
   rw [e1]
   omega
  ·rw [if_neg h4]
   split
   ·dsimp only
    rw [wts_app, wts_one, hack]
    omega
   ·dsimp only
    rw [wts_app, wts_one, hack]
    omega
 rw [if_neg h1]
 by_cases h2 : f.kind = 2
 ·rw [if_pos h2, if_pos rfl]
  have e1 : wt S M f = 5 := by unfold wt; rw [if_neg h1, if_pos h2]
  rw [e1]
  unfold onAck
  split
  ·show wts S M [] + 1 ≤ 5; rw [wts_nil]; decide
  ·rename_i d _
   split
   ·have := wts_look (S := S) (n := M) (r := setP r f.key { r.P f.key with dr := some (ackD d frm f.flag) }) v.ol f.key
    exact Nat.succ_le_succ this
   ·show wts S M [] + 1 ≤ 5; rw [wts_nil]; decide
 rw [if_neg h2]
 by_cases h3 : f.kind = 3
 ·rw [if_pos h3]; exact pos
 rw [if_neg h3]
 by_cases h4 : f.kind = 4
 ·rw [if_pos h4]
  have e1 : wt S M f = 2 := by unfold wt; rw [if_neg h1, if_neg h2, if_pos h4]
  rw [e1]
  show wts S M (onNeed r f frm) + 1 ≤ 2
  unfold onNeed
  split
  ·rw [wts_one]; exact Nat.le_refl _
  ·rw [wts_nil]; decide
 rw [if_neg h4]
 by_cases h5 : f.kind = 5
 ·rw [if_pos h5]; exact pos
 rw [if_neg h5]
 exact pos
theorem wts_tickJ (v : VW n N e i r) (hi : i < N) (hNM : N ≤ M) (hM : M ≤ 5) (k every replay : Nat) : wts S M (tickK r k every replay true).2.1 ≤ 272 := by
 unfold tickK
 split
 ·rw [if_pos rfl]
  dsimp only
  rw [wts_app]
  have h1 := wts_look (S := S) (n := M) v.ol k
  have h2 : wts S M (beat (look r k).1 k every).2 ≤ 268 := by
   unfold beat
   split
   ·exact Nat.zero_le _
   ·dsimp only
    split
    ·exact wts_sentJ (v.keep (Keep.look r k)) hi hNM hM _ _
    ·exact Nat.zero_le _
  omega
 ·dsimp only
  unfold stall
  split
  ·split
   ·split
    ·dsimp only
     split
     ·exact Nat.zero_le _
     ·rw [wts_one]
      have : wt S M (fr r 4 (r.P k).c.w.s.b k) = 2 := rfl
      omega
    ·exact Nat.le_trans (wts_sentJ v hi hNM hM _ _) (by decide)
   ·exact Nat.zero_le _
  ·exact Nat.zero_le _
theorem wts_writeJ (v : VW n N e i r) (hi : i < N) (hNM : N ≤ M) (hM : M ≤ 5) (k : Nat) (b : Bool) (t : ByteArray) (rmw : Bool) : wts S M (write r k b t rmw).1.2.1 ≤ 272 := by
 unfold write
 split
 ·split
  ·exact Nat.zero_le _
  ·rename_i s _
   dsimp only
   rw [wts_app]
   have h1 := wts_sentJ (S := S) v hi hNM hM k ⟨s, b, t, rmw⟩
   have h2 := wts_look (S := S) (n := M) (r := setP r k ⟨⟨⟨s, b, t, rmw⟩, 2⟩, some (newD ⟨s, b, t, rmw⟩ true), 0⟩) v.ol k
   omega
 ·exact Nat.zero_le _
theorem look_key (r : RS) (k : Nat) : ∀ x, x ∈ (look r k).2.1 → x.key = k := by
 unfold look
 intro x hx
 split at hx
 ·cases hx
 ·split at hx
  ·split at hx
   ·obtain ⟨z, _, rfl⟩ := List.mem_map.1 hx; rfl
   ·cases hx
  ·cases hx
theorem on_key (r : RS) (f : Fm) : ∀ x, x ∈ (on r f true).2.1 → x.key = f.key := by
 unfold on
 intro x hx
 split at hx
 ·cases hx
 rename_i frm _
 by_cases h1 : f.kind = 1
 ·rw [if_pos h1] at hx
  have so : ∀ (A : Fm), A.key = f.key → x ∈ sendOn r f ++ [A] → x.key = f.key := fun A hA hx => by
   rcases List.mem_append.1 hx with hx | hx
   ·exact (sendOn_kind hx).2.2.1
   ·rw [List.mem_singleton] at hx; subst hx; exact hA
  unfold onInv at hx
  split at hx
  ·refine so _ ?_ hx; rfl
  ·split at hx
   ·refine so _ ?_ hx; rfl
   ·refine so _ ?_ hx; rfl
 rw [if_neg h1] at hx
 by_cases h2 : f.kind = 2
 ·rw [if_pos h2, if_pos rfl] at hx
  unfold onAck at hx
  split at hx
  ·cases hx
  ·split at hx
   ·exact look_key _ _ x hx
   ·cases hx
 rw [if_neg h2] at hx
 by_cases h3 : f.kind = 3
 ·rw [if_pos h3] at hx; cases hx
 rw [if_neg h3] at hx
 by_cases h4 : f.kind = 4
 ·rw [if_pos h4] at hx
  have hx : x ∈ onNeed r f frm := hx
  unfold onNeed at hx
  split at hx
  ·rw [List.mem_singleton] at hx; subst hx; rfl
  ·cases hx
 rw [if_neg h4] at hx
 by_cases h5 : f.kind = 5
 ·rw [if_pos h5] at hx; cases hx
 rw [if_neg h5] at hx
 cases hx
theorem tick_key (r : RS) (k every replay : Nat) : ∀ x, x ∈ (tickK r k every replay true).2.1 → x.key = k := by
 unfold tickK
 intro x hx
 split at hx
 ·rw [if_pos rfl] at hx
  rcases List.mem_append.1 hx with hx | hx
  ·exact look_key _ _ x hx
  ·unfold beat at hx
   split at hx
   ·cases hx
   ·dsimp only at hx
    split at hx
    ·exact (sent_kind hx).2.2
    ·cases hx
 ·dsimp only at hx
  unfold stall at hx
  split at hx
  ·split at hx
   ·split at hx
    ·dsimp only at hx
     split at hx
     ·cases hx
     ·rw [List.mem_singleton] at hx; subst hx; rfl
    ·exact (sent_kind hx).2.2
   ·cases hx
  ·cases hx
theorem write_key (r : RS) (k : Nat) (b : Bool) (t : ByteArray) (rmw : Bool) : ∀ x, x ∈ (write r k b t rmw).1.2.1 → x.key = k := by
 unfold write
 intro x hx
 split at hx
 ·split at hx
  ·cases hx
  ·rcases List.mem_append.1 hx with hx | hx
   ·exact (sent_kind hx).2.2
   ·exact look_key _ _ x hx
 ·cases hx
theorem look_has (r : RS) (k : Nat) : (look r k).1.has = r.has := by
 unfold look
 split
 ·rfl
 ·split
  ·split <;> rfl
  ·rfl
theorem way_has (r : RS) (k : Nat) : (way r k).1.has = r.has := by
 unfold way
 split
 ·rfl
 ·split
  ·split <;> rfl
  ·rfl
theorem rest_has (r : RS) (k : Nat) : (rest r k).has = r.has := by
 unfold rest
 split
 ·rfl
 ·split <;> rfl
theorem tickK_has (r : RS) (k every replay : Nat) : (tickK r k every replay true).1.has = r.has := by
 unfold tickK
 split
 ·rw [if_pos rfl]
  have : ∀ x : RS, (beat x k every).1.has = x.has := fun x => by
   unfold beat
   split <;> rfl
  exact (this _).trans (look_has r k)
 ·dsimp only
  unfold stall
  split
  ·split
   ·split <;> rfl
   ·rfl
  ·rfl
theorem write_has (r : RS) (k : Nat) (b : Bool) (t : ByteArray) (rmw : Bool) : (write r k b t rmw).1.1.has = r.has := by
 unfold write
 split
 ·split
  ·rfl
  ·exact look_has _ _
 ·rfl
theorem on_has (r : RS) (f : Fm) {j : Nat} (hj : j ≠ f.key) : (on r f true).1.has j = r.has j := by
 unfold on
 split
 ·rfl
 rename_i frm _
 by_cases h1 : f.kind = 1
 ·rw [if_pos h1]
  unfold onInv
  split
  ·rfl
  ·split
   ·show (way (setC r f.key _) f.key).1.has j = r.has j
    rw [way_has]; rfl
   ·rfl
 rw [if_neg h1]
 by_cases h2 : f.kind = 2
 ·rw [if_pos h2, if_pos rfl]
  unfold onAck
  split
  ·rfl
  ·split
   ·rw [look_has]; rfl
   ·rfl
 rw [if_neg h2]
 by_cases h3 : f.kind = 3
 ·rw [if_pos h3]
  show (onVal r f).has j = r.has j
  unfold onVal
  split
  ·rw [rest_has]; rfl
  ·rfl
 rw [if_neg h3]
 by_cases h4 : f.kind = 4
 ·rw [if_pos h4]
 rw [if_neg h4]
 by_cases h5 : f.kind = 5
 ·rw [if_pos h5]
  have hg : (got r f.key).has j = r.has j := put_ne _ _ _ hj
  show (onGive r f).1.has j = r.has j
  unfold onGive
  split
  ·split
   ·rw [way_has]; exact hg
   ·show (rest (setC (got r f.key) f.key _) f.key).has j = r.has j
    rw [rest_has]; exact hg
  ·exact hg
 rw [if_neg h5]
end
end Rep
end Go.Proofs.Ytafcbipmmjegcaa
