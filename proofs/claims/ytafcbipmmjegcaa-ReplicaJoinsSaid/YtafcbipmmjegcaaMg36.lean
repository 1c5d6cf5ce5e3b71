/- Texts of this claim: RiI, RiJ. -/
import Derived.Test.YtafcbipmmjegcaaMg35
import Derived.Test.YtafcbipmmjegcaaMg29
import Derived.Test.YtafcbipmmjegcaaMg30
namespace Go.Proofs.Ytafcbipmmjegcaa
namespace Rep
open Vm.X5 (hasV othV aheadV behindV)
def AskJ (n k : Nat) (e : Int) (hs : Bool) (W : List Fm) : Prop := hs = true ∨
 (∃ f, f ∈ W ∧ f.key = k ∧ f.epoch = e ∧ f.kind = 4 ∧ f.frm = ad (n + 1) ∧ ∃ q, q < n ∧ f.to = ad (q + 1)) ∨
 ∃ f, f ∈ W ∧ f.key = k ∧ f.epoch = e ∧ f.kind = 5 ∧ f.to = ad (n + 1)
section
variable {n N M w b : Nat} {e : Int} {R : Nat → RS} {W : List Fm}
theorem AskJ.mono {k : Nat} {hs hs' : Bool} {W' : List Fm} (h : AskJ n k e hs W) (h1 : hs = true → hs' = true) (h2 : ∀ f, f ∈ W → f ∈ W') : AskJ n k e hs' W' := by
 rcases h with h | ⟨f, hf, h⟩ | ⟨f, hf, h⟩
 ·exact .inl (h1 h)
 ·exact .inr (.inl ⟨f, h2 f hf, h⟩)
 ·exact .inr (.inr ⟨f, h2 f hf, h⟩)
theorem on_has_mono (r : RS) (f : Fm) (j : Nat) (h : r.has j = true) : (on r f true).1.has j = true := (Keep.on r f true).has j h
theorem AskJ.on {f : Fm} (h : CJ n N M e w b R (f :: W)) {i : Nat} (hi : i < N) (ht : f.to = ad (i + 1)) {k : Nat} (hk : k < 6) (a : AskJ n k e ((R n).has k) (f :: W)) :
  AskJ n k e ((put R i (Rep.on (R i) f true).1 n).has k) (W ++ (Rep.on (R i) f true).2.1) := by
 have v := h.v i hi
 have hm := h.m
 have hNn := h.hNn
 have hmono : (R n).has k = true → (put R i (Rep.on (R i) f true).1 n).has k = true := fun hx => by
  by_cases ej : n = i
  ·subst ej; rw [put_at]; exact on_has_mono _ _ _ hx
  ·rw [put_ne _ _ _ ej]; exact hx
 rcases a with a | ⟨x, hx, ek, ee, e4, ef, q, hq, et⟩ | ⟨x, hx, ek, ee, e5, et⟩
 ·exact .inl (hmono a)
 ·rcases List.mem_cons.1 hx with eq | hx
  ·subst eq
   have hiq : i = q := adj hi (by omega) (by omega) (ht.symm.trans et)
   subst hiq
   obtain ⟨s, hs, hsi, hsf, hsn⟩ := sender_J v hi (h.fj x (List.mem_cons_self ..)).1 ee ht
   have hsn' : s = n := by
    have := ad_inj (a := s + 1) (b := n + 1) (by omega) (by omega) (hsf.symm.trans ef)
    omega
   subst hsn'
   right; right
   refine ⟨frW (R i) 5 (s + 1) x.key ((R i).P x.key).c.w (decide (((R i).P x.key).c.st = 1)) 0, List.mem_append.2 (.inr ?_), ek, v.e, rfl, rfl⟩
   unfold Rep.on
   rw [hsn]
   dsimp only
   rw [if_neg (by rw [e4]; decide), if_neg (by rw [e4]; decide), if_neg (by rw [e4]; decide), if_pos e4]
   show _ ∈ onNeed (R i) x (s + 1)
   unfold onNeed
   rw [if_pos (by rw [ek]; exact h.has i hq k hk)]
   exact List.mem_singleton.2 rfl
  ·exact .inr (.inl ⟨x, List.mem_append.2 (.inl hx), ek, ee, e4, ef, q, hq, et⟩)
 ·rcases List.mem_cons.1 hx with eq | hx
  ·subst eq
   have hin : i = n := by
    have := ad_inj (a := i + 1) (b := n + 1) (by omega) (by omega) (ht.symm.trans et)
    omega
   subst hin
   obtain ⟨s, hs, hsi, hsf, hsn⟩ := sender_J v hi (h.fj x (List.mem_cons_self ..)).1 ee ht
   left
   rw [put_at]
   unfold Rep.on
   rw [hsn]
   dsimp only
   rw [if_neg (by rw [e5]; decide), if_neg (by rw [e5]; decide), if_neg (by rw [e5]; decide), if_neg (by rw [e5]; decide), if_pos e5]
   show (onGive (R i) x).1.has k = true
   rw [← ek]
   exact give_has _ _
  ·exact .inr (.inr ⟨x, List.mem_append.2 (.inl hx), ek, ee, e5, et⟩)
theorem tickL_has (every replay : Nat) : ∀ (L : List Nat) (r : RS), (Rep.tickL r every replay true L).1.has = r.has
 | [], _ => rfl
 | k :: L, r => (tickL_has every replay L _).trans (tickK_has r k every replay)
theorem tick_has (r : RS) (every replay : Nat) : (Rep.tick r every replay true).1.has = r.has := by
 unfold Rep.tick
 split
 ·show (Rep.tickL (asked r).1 every replay true [0, 1, 2, 3, 4, 5]).1.has = r.has
  rw [tickL_has, (asked_keep r 0).2.2]
 ·rfl
theorem AskJ.tick (h : CJ n (n + 1) M e w b R W) (every replay : Nat) {k : Nat} (hk : k < 6) : AskJ n k e ((put R n (Rep.tick (R n) every replay true).1 n).has k) (W ++ (Rep.tick (R n) every replay true).2.1) := by
 have v := h.v n (by omega)
 have hm := h.m
 have hn := h.hNn.2
 rw [put_at, tick_has]
 cases hh : (R n).has k with
 | true => exact .inl rfl
 | false =>
  right; left
  have hnc : complete (R n) = false := by
   unfold complete
   have : k = 0 ∨ k = 1 ∨ k = 2 ∨ k = 3 ∨ k = 4 ∨ k = 5 := by omega
   rcases this with rfl|rfl|rfl|rfl|rfl|rfl <;> simp [hh]
  have ho : oth (R n) ≠ [] := fun eq => by
   have := v.oth 0 (by omega) (by omega)
   rw [eq] at this; cases this
  have hin : (oth (R n)).getD (((R n).calls + k) % (oth (R n)).length) 0 ∈ oth (R n) := by
   have hl : ((R n).calls + k) % (oth (R n)).length < (oth (R n)).length := Nat.mod_lt _ (List.length_pos_iff.2 ho)
   rw [List.getD_eq_getElem?_getD, List.getElem?_eq_getElem hl]
   exact List.getElem_mem hl
  obtain ⟨q, hq, hqn, eq⟩ := v.ohas _ hin
  refine ⟨fr (R n) 4 (q + 1) k, List.mem_append.2 (.inr ?_), rfl, v.e, rfl, by show ad (R n).self = _; rw [v.self], q, by omega, rfl⟩
  unfold Rep.tick
  rw [if_pos v.inr]
  refine List.mem_append.2 (.inl ?_)
  unfold asked
  rw [if_neg (by rw [hnc]; decide)]
  refine List.mem_map.2 ⟨(k, q + 1), ?_, rfl⟩
  unfold needs
  rw [if_neg ho]
  refine List.mem_map.2 ⟨k, List.mem_filter.2 ⟨by simp only [List.mem_cons, List.mem_nil_iff, or_false]; omega, by simp [hh]⟩, by rw [eq]⟩
end
structure Fin (n N k : Nat) (e : Int) (P : Nat → Plc) (W : List Fm) (x : Wrd) : Prop where
 cs : ∀ i, i < N → (P i).c.w = x ∧ ((P i).c.st = 1 ∨ (P i).c.st = 2)
 ow : ∀ o, o < n → x.s.b = o + 1 → (P o).c.st = 1
 dr : ∀ i, i < N → ∀ d, (P i).dr = some d → d.own = false
 g5 : ∀ f, f ∈ W → f.key = k → f.epoch = e → f.kind = 5 → f.w = x
def Aw (n k : Nat) (e : Int) (P : Nat → Plc) (W : List Fm) (x : Wrd) (i : Nat) : Prop := (P i).c.st = 1 ∨ (∃ d, (P i).dr = some d) ∨
 (∃ f, f ∈ W ∧ f.key = k ∧ f.epoch = e ∧ f.kind = 4 ∧ f.frm = ad (i + 1) ∧ ∃ o, o < n ∧ x.s.b = o + 1 ∧ f.to = ad (o + 1)) ∨
 ∃ f, f ∈ W ∧ f.key = k ∧ f.epoch = e ∧ f.kind = 5 ∧ f.to = ad (i + 1) ∧ f.flag = true
def Yt (n k : Nat) (e : Int) (P : Nat → Plc) (W : List Fm) (x : Wrd) (s i : Nat) : Prop := Aw n k e P W x i ∨ (s < 3 ∧ s ≤ (P i).age)
section
variable {n N k i q : Nat} {e : Int} {g : Stp → Option Wrd} {P : Nat → Plc} {hs : Bool} {W W' : List Fm} {r : RS} {f : Fm} {x : Wrd} {p : Plc}
theorem Aw.mono {j : Nat} (h : Aw n k e P W x j) {P' : Nat → Plc} (h1 : (P j).c.st = 1 → (P' j).c.st = 1) (h2 : ∀ d, (P j).dr = some d → (P' j).c.st = 1 ∨ ∃ d', (P' j).dr = some d') (h3 : ∀ f, f ∈ W → f.key = k → f.epoch = e → f.kind = 4 ∨ f.kind = 5 → f ∈ W') : Aw n k e P' W' x j := by
 rcases h with h | ⟨d, h⟩ | ⟨f, hf, ek, ee, e4, h⟩ | ⟨f, hf, ek, ee, e5, h⟩
 ·exact .inl (h1 h)
 ·exact (h2 d h).imp id .inl
 ·exact .inr (.inr (.inl ⟨f, h3 f hf ek ee (.inl e4), ek, ee, e4, h⟩))
 ·exact .inr (.inr (.inr ⟨f, h3 f hf ek ee (.inr e5), ek, ee, e5, h⟩))
theorem Fin.move (h : Fin n N k e P W x) (hw : p.c.w = (P i).c.w) (hst : p.c.st = 1 ∨ p.c.st = (P i).c.st) (hd : ∀ d, p.dr = some d → d.own = false) (hg : ∀ f, f ∈ W' → f.key = k → f.epoch = e → f.kind = 5 → f ∈ W ∨ f.w = x) : Fin n N k e (put P i p) W' x := by
 refine ⟨fun j hj => ?_, fun o ho eb => ?_, fun j hj d ed => ?_, fun f hf ek ee e5 => (hg f hf ek ee e5).elim (fun hf => h.g5 f hf ek ee e5) id⟩
 ·by_cases ej : j = i
  ·subst ej; rw [put_at]; exact ⟨hw.trans (h.cs j hj).1, hst.elim .inl fun eq => by rw [eq]; exact (h.cs j hj).2⟩
  ·rw [put_ne _ _ _ ej]; exact h.cs j hj
 ·by_cases ej : o = i
  ·subst ej; rw [put_at]; exact hst.elim id fun eq => eq.trans (h.ow o ho eb)
  ·rw [put_ne _ _ _ ej]; exact h.ow o ho eb
 ·by_cases ej : j = i
  ·subst ej; rw [put_at] at ed; exact hd d ed
  ·rw [put_ne _ _ _ ej] at ed; exact h.dr j hj d ed
theorem put_Y {s j : Nat} (h : Yt n k e P W x s j) (hst : (P i).c.st = 1 → p.c.st = 1) (hd : ∀ d, (P i).dr = some d → p.c.st = 1 ∨ ∃ d', p.dr = some d') (ha : p.age = (P i).age ∨ p.c.st = 1)
  (h3 : ∀ f, f ∈ W → f.key = k → f.epoch = e → f.kind = 4 ∨ f.kind = 5 → f ∈ W') : Yt n k e (put P i p) W' x s j := by
 by_cases ej : j = i
 ·subst ej
  rcases h with h | ⟨h1, h2⟩
  ·exact .inl (h.mono (by rw [put_at]; exact hst) (by rw [put_at]; exact hd) h3)
  ·rcases ha with ha | ha
   ·exact .inr ⟨h1, by rw [put_at, ha]; exact h2⟩
   ·exact .inl (.inl (by rw [put_at]; exact ha))
 ·rcases h with h | ⟨h1, h2⟩
  ·exact .inl (h.mono (by rw [put_ne _ _ _ ej]; exact id) (fun d hd => .inr ⟨d, by rw [put_ne _ _ _ ej]; exact hd⟩) h3)
  ·exact .inr ⟨h1, by rw [put_ne _ _ _ ej]; exact h2⟩
theorem Fin.on (h : Fin n N k e P (f :: W) x) (l : LJ n N k e g P hs (f :: W)) (hi : i < N) (v : VW n N e i r) (hr : r.P k = P i) (hk : f.key = k) (hf : FJ N e f) (ht : f.to = ad (i + 1)) (hh : i < n → r.has k = true) :
  Fin n N k e (put P i ((on r f true).1.P k)) (W ++ (on r f true).2.1) x ∧ ∀ s j, j < N → Yt n k e P (f :: W) x s j → Yt n k e (put P i ((on r f true).1.P k)) (W ++ (on r f true).2.1) x s j := by
 subst hk
 have hn := few100 v
 have tail : ∀ {F : List Fm}, (f.epoch = e → f.kind ≠ 4 ∧ f.kind ≠ 5) → ∀ y, y ∈ f :: W → y.key = f.key → y.epoch = e → y.kind = 4 ∨ y.kind = 5 → y ∈ W ++ F := fun {F} hno y hy _ ee e45 => by
  rcases List.mem_cons.1 hy with eq | hy
  ·subst eq; exact e45.elim (fun c => absurd c (hno ee).1) (fun c => absurd c (hno ee).2)
  ·exact List.mem_append.2 (.inl hy)
 have noG : ∀ {F : List Fm}, (∀ y, y ∈ F → y.kind ≠ 5) → ∀ y, y ∈ W ++ F → y.key = f.key → y.epoch = e → y.kind = 5 → y ∈ f :: W ∨ y.w = x := fun {F} hF y hy _ _ e5 => by
  rcases List.mem_append.1 hy with hy | hy
  ·exact .inl (List.mem_cons_of_mem _ hy)
  ·exact absurd e5 (hF y hy)
 have idle : (f.epoch = e → f.kind ≠ 4 ∧ f.kind ≠ 5) → ∀ F : List Fm, (∀ y, y ∈ F → y.kind ≠ 5) → Fin n N f.key e (put P i (r.P f.key)) (W ++ F) x ∧ ∀ s j, j < N → Yt n f.key e P (f :: W) x s j → Yt n f.key e (put P i (r.P f.key)) (W ++ F) x s j := fun hno F hF =>
  ⟨h.move (by rw [hr]) (.inr (by rw [hr])) (fun d ed => h.dr i hi d (by rw [← hr]; exact ed)) (noG hF), fun s j _ hy => put_Y hy (by rw [hr]; exact id) (fun d ed => .inr ⟨d, by rw [hr]; exact ed⟩) (.inl (by rw [hr])) (tail hno)⟩
 by_cases he : f.epoch = e
 rotate_left
 ·rw [on_old v he]; exact idle (fun ee => absurd ee he) [] (fun _ h => by cases h)
 obtain ⟨q, hq, hqi, hqf, hs1⟩ := sender_J v hi hf he ht
 have hw := h.cs i hi
 unfold on
 rw [hs1]
 dsimp only
 by_cases h1 : f.kind = 1
 ·rw [if_pos h1]
  have hno : f.epoch = e → f.kind ≠ 4 ∧ f.kind ≠ 5 := fun _ => by rw [h1]; exact ⟨by decide, by decide⟩
  have hle : Le f.w.s (r.P f.key).c.w.s := by
   obtain ⟨u, hu, hul⟩ := l.und ((l.fr f (List.mem_cons_self ..) rfl he).w (.inl h1))
   rw [(h.cs u hu).1] at hul
   rw [hr, hw.1]; exact hul
  have hin : Rep.inv (r.P f.key).c f.w = if less (r.P f.key).c.w.s f.w.s then (⟨f.w, 2⟩, 1) else if (r.P f.key).c.w.s = f.w.s then ((r.P f.key).c, 2) else if f.w.r then ((r.P f.key).c, 4) else ((r.P f.key).c, 3) := rfl
  rw [if_neg (by rw [hle]; decide)] at hin
  have so5 : ∀ (A : Fm), A.kind ≠ 5 → ∀ y, y ∈ sendOn r f ++ [A] → y.kind ≠ 5 := fun A hA y hy => by
   rcases List.mem_append.1 hy with hy | hy
   ·rw [(sendOn_kind hy).1, h1]; decide
   ·rw [List.mem_singleton] at hy; subst hy; exact hA
  have h11 : (Rep.inv (r.P f.key).c f.w).1 = (r.P f.key).c ∧ (Rep.inv (r.P f.key).c f.w).2 ≠ 1 := by
   rw [hin]
   split
   ·exact ⟨rfl, fun (c : (2 : Nat) = 1) => by cases c⟩
   ·split
    ·exact ⟨rfl, fun (c : (4 : Nat) = 1) => by cases c⟩
    ·exact ⟨rfl, fun (c : (3 : Nat) = 1) => by cases c⟩
  unfold onInv
  by_cases h4 : (Rep.inv (r.P f.key).c f.w).2 = 4
  ·rw [if_pos h4]; exact idle hno _ (so5 _ (fun (c : (1 : Nat) = 5) => by cases c))
  ·rw [if_neg h4, if_neg h11.2]
   dsimp only
   rw [h11.1, setC_P]
   exact idle hno _ (so5 _ (fun (c : (2 : Nat) = 5) => by cases c))
 rw [if_neg h1]
 by_cases h2 : f.kind = 2
 ·rw [if_pos h2, if_pos rfl]
  have hno : f.epoch = e → f.kind ≠ 4 ∧ f.kind ≠ 5 := fun _ => by rw [h2]; exact ⟨by decide, by decide⟩
  unfold onAck
  cases hd : (r.P f.key).dr with
  | none => exact idle hno [] (fun _ h => by cases h)
  | some d =>
   have hd' : (P i).dr = some d := by rw [← hr]; exact hd
   have hown := h.dr i hi d hd'
   have hdl := l.dr i hi d hd'
   have hds : (P i).c.w.s = d.w.s := hdl.own (.inl hown)
   dsimp only
   by_cases hss : d.w.s = f.w.s
   rotate_left
   ·rw [if_neg hss]; exact idle hno [] (fun _ h => by cases h)
   rw [if_pos hss]
   unfold look
   rw [setP_P]
   dsimp only
   by_cases hdn : doneD (ackD d (q + 1) f.flag) (Rep.oth (setP r f.key { r.P f.key with dr := some (ackD d (q + 1) f.flag) })) = true
   ·rw [if_pos hdn]
    have cov : (ackD d (q + 1) f.flag).cov = false := by
     cases hc : (ackD d (q + 1) f.flag).cov with
     | false => rfl
     | true =>
      have hc : (d.cov || f.flag) = true := hc
      have ab : Above N P d.w.s := by
       rcases Bool.or_eq_true_iff.1 hc with c | c
       ·exact hdl.cv c
       ·rw [hss]; exact (l.fr f (List.mem_cons_self ..) rfl he).c h2 c
      obtain ⟨j, hj, hl⟩ := ab
      rw [(h.cs j hj).1, ← hds, hw.1, less_irr] at hl
      cases hl
    rw [if_pos ⟨by rw [hr]; exact hds, cov⟩]
    dsimp only
    rw [setP_P]
    have hF : ∀ (y : Fm), y ∈ (oth (setP r f.key { r.P f.key with dr := some (ackD d (q + 1) f.flag) })).map (fun n => frW (setP r f.key { r.P f.key with dr := some (ackD d (q + 1) f.flag) }) 3 n f.key (zS (ackD d (q + 1) f.flag).w.s) false 0) → y.kind ≠ 5 := fun y hy => by
     obtain ⟨z, _, rfl⟩ := List.mem_map.1 hy; exact fun (c : (3 : Nat) = 5) => by cases c
    have hv1 : (Rep.val (r.P f.key).c (ackD d (q + 1) f.flag).w.s).1.st = 1 := by
     unfold Rep.val
     split
     ·rfl
     ·rename_i hx
      rcases hw.2 with c | c
      ·rw [hr]; exact c
      ·exact absurd ⟨by rw [hr]; exact c, by rw [hr]; exact hds⟩ hx
    have hvw : (Rep.val (r.P f.key).c (ackD d (q + 1) f.flag).w.s).1.w = (P i).c.w := by rw [← hr]; unfold Rep.val; split <;> rfl
    exact ⟨h.move hvw (.inl hv1) (fun _ ed => by cases ed) (noG hF), fun s j _ hy => put_Y hy (fun _ => hv1) (fun _ _ => .inl hv1) (.inr hv1) (tail hno)⟩
   ·rw [if_neg hdn]
    dsimp only
    rw [setP_P]
    exact ⟨h.move (by rw [hr]) (.inr (by rw [hr])) (fun d' ed => by injection ed with ed; subst ed; exact hown) (noG (fun _ h => by cases h)), fun s j _ hy => put_Y hy (by rw [hr]; exact id) (fun _ _ => .inr ⟨_, rfl⟩) (.inl (by rw [hr])) (tail hno)⟩
 rw [if_neg h2]
 have told : ∀ (F : List Fm) (p : Plc), p.c.w = (P i).c.w → p.c.st = 1 → (∀ d, p.dr = some d → (P i).dr = some d) → (f.kind = 4 → False) → (∀ y, y ∈ F → y.kind ≠ 5) → Fin n N f.key e (put P i p) (W ++ F) x ∧ ∀ s j, j < N → Yt n f.key e P (f :: W) x s j → Yt n f.key e (put P i p) (W ++ F) x s j := fun F p hc hst hd h4 hF => by
  refine ⟨h.move hc (.inl hst) (fun d ed => h.dr i hi d (hd d ed)) (noG hF), fun s j hj hy => ?_⟩
  by_cases ej : j = i
  ·subst ej; exact .inl (.inl (by rw [put_at]; exact hst))
  ·have hy' : Yt n f.key e P (W ++ F) x s j := by
    rcases hy with hy | hy
    ·left
     rcases hy with c | c | ⟨y, hy, ek, ee, e4, c⟩ | ⟨y, hy, ek, ee, e5, et, c⟩
     ·exact .inl c
     ·exact .inr (.inl c)
     ·rcases List.mem_cons.1 hy with eq | hy
      ·subst eq; exact (h4 e4).elim
      ·exact .inr (.inr (.inl ⟨y, List.mem_append.2 (.inl hy), ek, ee, e4, c⟩))
     ·rcases List.mem_cons.1 hy with eq | hy
      ·subst eq; exact absurd (adj hj hi hn (et.symm.trans ht)) ej
      ·exact .inr (.inr (.inr ⟨y, List.mem_append.2 (.inl hy), ek, ee, e5, et, c⟩))
    ·exact .inr hy
   exact put_Y hy' (fun _ => hst) (fun _ _ => .inl hst) (.inr hst) (fun y hy _ _ _ => hy)
 by_cases h3 : f.kind = 3
 ·rw [if_pos h3]
  have hno : f.epoch = e → f.kind ≠ 4 ∧ f.kind ≠ 5 := fun _ => by rw [h3]; exact ⟨by decide, by decide⟩
  dsimp only
  have hv : Rep.val (r.P f.key).c f.w.s = if (r.P f.key).c.st = 2 ∧ (r.P f.key).c.w.s = f.w.s then (⟨(r.P f.key).c.w, 1⟩, true) else ((r.P f.key).c, false) := rfl
  unfold onVal
  by_cases hc : (r.P f.key).c.st = 2 ∧ (r.P f.key).c.w.s = f.w.s
  ·rw [if_pos hc] at hv
   rw [hv]
   dsimp only
   rw [if_pos rfl]
   obtain ⟨w1, w2, w3⟩ := rest_place (setC r f.key ⟨(r.P f.key).c.w, 1⟩) f.key
   rw [setC_P] at w1 w2
   exact told [] _ (by rw [w1, ← hr]) (by rw [w1]) (fun d ed => by rw [← hr]; exact w2 d ed) (fun c => by rw [h3] at c; cases c) (fun _ h => by cases h)
  ·rw [if_neg hc] at hv
   rw [hv]
   dsimp only
   rw [if_neg (by decide)]
   exact idle hno [] (fun _ h => by cases h)
 rw [if_neg h3]
 by_cases h4 : f.kind = 4
 ·rw [if_pos h4]
  dsimp only
  have hF : ∀ y, y ∈ onNeed r f (q + 1) → y.w = x := fun y hy => by
   unfold onNeed at hy
   split at hy
   ·rw [List.mem_singleton] at hy; subst hy; show (r.P f.key).c.w = x; rw [hr]; exact hw.1
   ·cases hy
  refine ⟨h.move (by rw [hr]) (.inr (by rw [hr])) (fun d ed => h.dr i hi d (by rw [← hr]; exact ed)) (fun y hy _ _ e5 => ?_), fun s j hj hy => ?_⟩
  ·rcases List.mem_append.1 hy with hy | hy
   ·exact .inl (List.mem_cons_of_mem _ hy)
   ·exact .inr (hF y hy)
  ·rw [put_of hr]
   rcases hy with hy | hy
   rotate_left
   ·exact .inr hy
   left
   rcases hy with c | c | ⟨y, hy, ek, ee, e4, ef, o, ho, eb, et⟩ | ⟨y, hy, ek, ee, e5, c⟩
   ·exact .inl c
   ·exact .inr (.inl c)
   ·rcases List.mem_cons.1 hy with eq | hy
    ·subst eq
     have hjq : j = q := adj hj hq hn (ef.symm.trans hqf)
     have hio : i = o := by
      have := ad_inj (a := i + 1) (b := o + 1) (by omega) (by have := l.hN; omega) (ht.symm.trans et)
      omega
     subst hjq hio
     refine .inr (.inr (.inr ⟨frW r 5 (j + 1) y.key (r.P y.key).c.w (decide ((r.P y.key).c.st = 1)) 0, List.mem_append.2 (.inr ?_), rfl, v.e, rfl, rfl, ?_⟩))
     ·unfold onNeed; rw [if_pos (hh ho)]; exact List.mem_singleton.2 rfl
     ·show decide ((r.P y.key).c.st = 1) = true
      rw [hr]; exact decide_eq_true (h.ow i ho eb)
    ·exact .inr (.inr (.inl ⟨y, List.mem_append.2 (.inl hy), ek, ee, e4, ef, o, ho, eb, et⟩))
   ·rcases List.mem_cons.1 hy with eq | hy
    ·subst eq; rw [h4] at e5; cases e5
    ·exact .inr (.inr (.inr ⟨y, List.mem_append.2 (.inl hy), ek, ee, e5, c⟩))
 rw [if_neg h4]
 by_cases h5 : f.kind = 5
 ·rw [if_pos h5]
  dsimp only
  have hfw := h.g5 f (List.mem_cons_self ..) rfl he h5
  have hs0 : (r.P f.key).c.w.s = f.w.s := by rw [hr, hw.1, hfw]
  have st0 : (r.P f.key).c.st ≠ 0 := by rw [hr]; rcases hw.2 with c | c <;> rw [c] <;> decide
  have hg : Rep.give (r.P f.key).c f.w f.flag = if (r.P f.key).c.st = 0 ∨ less (r.P f.key).c.w.s f.w.s = true then (⟨f.w, if f.flag then 1 else 2⟩, true) else if f.flag then Rep.val (r.P f.key).c f.w.s else ((r.P f.key).c, false) := rfl
  rw [if_neg (fun c => c.elim st0 fun c => by rw [hs0, less_irr] at c; cases c)] at hg
  have gotP : ∀ c, ((setC (got r f.key) f.key c).P f.key) = { r.P f.key with c := c } := fun c => setC_P _ _ _
  have same : (f.flag = true → (P i).c.st = 1) → Fin n N f.key e (put P i (r.P f.key)) (W ++ []) x ∧ ∀ s j, j < N → Yt n f.key e P (f :: W) x s j → Yt n f.key e (put P i (r.P f.key)) (W ++ []) x s j := fun hfl => by
   rw [put_of hr]
   refine ⟨⟨h.cs, h.ow, h.dr, fun y hy => h.g5 y (by rw [List.append_nil] at hy; exact List.mem_cons_of_mem _ hy)⟩, fun s j hj hy => ?_⟩
   rcases hy with hy | hy
   rotate_left
   ·exact .inr hy
   left
   rcases hy with c | c | ⟨y, hy, ek, ee, e4, c⟩ | ⟨y, hy, ek, ee, e5, et, c⟩
   ·exact .inl c
   ·exact .inr (.inl c)
   ·rcases List.mem_cons.1 hy with eq | hy
    ·subst eq; exact absurd e4 h4
    ·exact .inr (.inr (.inl ⟨y, List.mem_append.2 (.inl hy), ek, ee, e4, c⟩))
   ·rcases List.mem_cons.1 hy with eq | hy
    ·subst eq
     have ej : j = i := adj hj hi hn (et.symm.trans ht)
     subst ej
     exact .inl (hfl c)
    ·exact .inr (.inr (.inr ⟨y, List.mem_append.2 (.inl hy), ek, ee, e5, et, c⟩))
  unfold onGive
  cases hfl : f.flag with
  | false =>
   rw [hfl] at hg
   simp only [Bool.false_eq_true, if_false] at hg
   rw [hg]
   dsimp only
   rw [if_neg (by decide)]
   exact same fun c => by rw [hfl] at c; cases c
  | true =>
   rw [hfl] at hg
   simp only [if_true] at hg
   have hv : Rep.val (r.P f.key).c f.w.s = if (r.P f.key).c.st = 2 ∧ (r.P f.key).c.w.s = f.w.s then (⟨(r.P f.key).c.w, 1⟩, true) else ((r.P f.key).c, false) := rfl
   by_cases hc : (r.P f.key).c.st = 2 ∧ (r.P f.key).c.w.s = f.w.s
   ·rw [if_pos hc] at hv
    rw [hg, hv]
    dsimp only
    rw [if_pos rfl, if_neg (by rw [less_irr]; decide)]
    dsimp only
    obtain ⟨w1, w2, w3⟩ := rest_place (setC (got r f.key) f.key ⟨(r.P f.key).c.w, 1⟩) f.key
    rw [gotP] at w1 w2
    exact told [] _ (by rw [w1, ← hr]) (by rw [w1]) (fun d ed => by rw [← hr]; exact w2 d ed) h4 (fun _ h => by cases h)
   ·rw [if_neg hc] at hv
    rw [hg, hv]
    dsimp only
    rw [if_neg (by decide)]
    exact same fun _ => by
     rcases hw.2 with c | c
     ·exact c
     ·exact absurd ⟨by rw [hr]; exact c, hs0⟩ hc
 rw [if_neg h5]
 exact idle (fun _ => ⟨h4, h5⟩) [] (fun _ h => by cases h)
theorem Fin.tick (h : Fin n N k e P W x) (l : LJ n N k e g P hs W) (hi : i < N) (v : VW n N e i r) (hr : r.P k = P i) (hh : r.has k = true) (every : Nat) :
  Fin n N k e (put P i ((tickK r k every 3 true).1.P k)) (W ++ (tickK r k every 3 true).2.1) x ∧
  (∀ s j, j < N → j ≠ i → Yt n k e P W x s j → Yt n k e (put P i ((tickK r k every 3 true).1.P k)) (W ++ (tickK r k every 3 true).2.1) x s j) ∧
  ∀ s, Yt n k e P W x s i → Yt n k e (put P i ((tickK r k every 3 true).1.P k)) (W ++ (tickK r k every 3 true).2.1) x (s + 1) i := by
 have hw := h.cs i hi
 have up : ∀ {F : List Fm} {s j : Nat} {p : Plc}, j ≠ i → Yt n k e P W x s j → Yt n k e (put P i p) (W ++ F) x s j := fun {F s j p} ej hy => by
  rcases hy with hy | ⟨h1, h2⟩
  ·exact .inl (hy.mono (by rw [put_ne _ _ _ ej]; exact id) (fun d hd => .inr ⟨d, by rw [put_ne _ _ _ ej]; exact hd⟩) (fun f hf _ _ _ => List.mem_append.2 (.inl hf)))
  ·exact .inr ⟨h1, by rw [put_ne _ _ _ ej]; exact h2⟩
 have noG : ∀ {F : List Fm}, (∀ y, y ∈ F → y.kind ≠ 5) → ∀ y, y ∈ W ++ F → y.key = k → y.epoch = e → y.kind = 5 → y ∈ W ∨ y.w = x := fun {F} hF y hy _ _ e5 => by
  rcases List.mem_append.1 hy with hy | hy
  ·exact .inl hy
  ·exact absurd e5 (hF y hy)
 unfold tickK
 cases hd : (r.P k).dr with
 | some d =>
  have hd' : (P i).dr = some d := by rw [← hr]; exact hd
  have h1 := l.dr i hi d hd'
  have hnd : doneD d (oth r) = false := by
   cases ed : doneD d (oth r) with
   | false => rfl
   | true =>
    obtain ⟨j, hj, hji, ha⟩ := h1.nd
    rw [done_allJ v ed hj hji] at ha
    cases ha
  dsimp only
  rw [if_pos rfl, look_nd (fun d' ed => by rw [hd] at ed; injection ed with ed; subst ed; exact hnd)]
  dsimp only
  rw [List.nil_append]
  unfold beat
  rw [hd]
  dsimp only
  rw [setP_P]
  have tw : (tickD d every).1.own = d.own := by unfold tickD; split <;> rfl
  have hF : ∀ y, y ∈ (if (tickD d every).2 = true then sent r k d.w else []) → y.kind ≠ 5 := fun y hy => by
   split at hy
   ·rw [(sent_kind hy).1]; decide
   ·cases hy
  exact ⟨h.move (by rw [hr]) (.inr (by rw [hr])) (fun d' ed => by injection ed with ed; subst ed; exact tw.trans (h.dr i hi d hd')) (noG hF), fun s j _ ej hy => up ej hy, fun s _ => .inl (.inr (.inl ⟨_, by rw [put_at]⟩))⟩
 | none =>
  dsimp only
  unfold stall
  by_cases hc : r.has k = true ∧ (r.P k).c.st = 2
  rotate_left
  ·rw [if_neg hc]
   dsimp only
   rw [put_of hr, List.append_nil]
   have h1 : (P i).c.st = 1 := hw.2.resolve_right fun c => hc ⟨hh, by rw [hr]; exact c⟩
   exact ⟨h, fun s j _ _ hy => hy, fun s _ => .inl (.inl h1)⟩
  rw [if_pos hc]
  by_cases ha : (r.P k).age + 1 ≥ 3 ∧ true = true
  rotate_left
  ·rw [if_neg ha]
   dsimp only
   rw [setP_P]
   refine ⟨h.move (by rw [hr]) (.inr (by rw [hr])) (fun d ed => by dsimp only at ed; rw [hd] at ed; cases ed) (noG (fun _ h => by cases h)), fun s j _ ej hy => up ej hy, fun s hy => ?_⟩
   have hage : (P i).age + 1 < 3 := by rw [← hr]; exact Nat.lt_of_not_le fun c => ha ⟨c, rfl⟩
   rcases hy with hy | ⟨h1, h2⟩
   ·refine .inl (hy.mono (fun c => by rw [put_at, hr]; exact c) (fun d hd => by rw [put_at, hr]; exact .inr ⟨d, hd⟩) (fun f hf _ _ _ => List.mem_append.2 (.inl hf)))
   ·exact .inr ⟨by omega, by rw [put_at, hr]; dsimp only; omega⟩
  rw [if_pos ha]
  by_cases hm : (r.P k).c.w.r = true ∧ hasV r.v.ms (r.P k).c.w.s.b (r.P k).c.w.s.l = true
  ·rw [if_pos hm]
   dsimp only
   rw [setP_P]
   have hx : (r.P k).c.w = x := by rw [hr]; exact hw.1
   obtain ⟨o, ho, eb⟩ : ∃ o, o < n ∧ x.s.b = o + 1 := by
    have hg := l.cw i hi
    rw [hw.1] at hg
    rcases (l.gs _ _ hg).2 with c | ⟨o, ho, c, _⟩
    ·obtain ⟨j, _, c2⟩ := v.vh _ _ hm.2
     rw [hx, c] at c2; cases c2
    ·exact ⟨o, ho, c⟩
   have hoi : o ≠ i := fun c => by
    subst c
    have := h.ow o ho eb
    rw [← hr, hc.2] at this; cases this
   have hne : ¬ (r.P k).c.w.s.b = r.self := by rw [hx, v.self, eb]; omega
   rw [if_neg hne]
   refine ⟨h.move (by rw [hr]) (.inr (by rw [hr])) (fun d ed => by dsimp only at ed; rw [hd] at ed; cases ed) (noG (fun y hy => by rw [List.mem_singleton] at hy; subst hy; exact fun (c : (4 : Nat) = 5) => by cases c)), fun s j _ ej hy => up ej hy, fun s _ => ?_⟩
   exact .inl (.inr (.inr (.inl ⟨_, List.mem_append.2 (.inr (List.mem_singleton.2 rfl)), rfl, v.e, rfl, by show ad r.self = _; rw [v.self], o, ho, eb, by show ad (r.P k).c.w.s.b = _; rw [hx, eb]⟩)))
  ·rw [if_neg hm]
   dsimp only
   rw [setP_P]
   exact ⟨h.move (by rw [hr]) (.inr (by rw [hr])) (fun d' ed => by injection ed with ed; subst ed; rfl) (noG (fun y hy => by rw [(sent_kind hy).1]; decide)), fun s j _ ej hy => up ej hy, fun s _ => .inl (.inr (.inl ⟨_, by rw [put_at]⟩))⟩
end
end Rep
end Go.Proofs.Ytafcbipmmjegcaa
namespace Go.Proofs.Ytafcbipmmjegcaa
namespace Rep
section
variable {n N M w b : Nat} {e : Int} {R : Nat → RS} {W : List Fm} {T : Nat → Nat → Nat}
structure FinA (n N : Nat) (e : Int) (R : Nat → RS) (W : List Fm) (T : Nat → Nat → Nat) : Prop where
 has : ∀ j, j < N → ∀ k, k < 6 → (R j).has k = true
 K : ∀ k, k < 6 → ∃ x, Fin n N k e (fun i => (R i).P k) W x ∧ ∀ j, j < N → Yt n k e (fun i => (R i).P k) W x (T k j) j
theorem Yt.down {k : Nat} {P : Nat → Plc} {x : Wrd} {s s' i : Nat} (h : Yt n k e P W x s i) (hs : s' ≤ s) : Yt n k e P W x s' i := by
 rcases h with h | ⟨h1, h2⟩
 ·exact .inl h
 ·exact .inr ⟨by omega, by omega⟩
theorem FinA.down (h : FinA n N e R W T) {T' : Nat → Nat → Nat} (hT : ∀ k j, k < 6 → j < N → T' k j ≤ T k j) : FinA n N e R W T' :=
 ⟨h.has, fun k hk => by obtain ⟨x, a, b⟩ := h.K k hk; exact ⟨x, a, fun j hj => (b j hj).down (hT k j hk hj)⟩⟩
theorem Fin.other {k : Nat} {P : Nat → Plc} {x : Wrd} {W' : List Fm} (h : Fin n N k e P W x) (h0 : ∀ f, f.key = k → (f ∈ W ↔ f ∈ W')) : Fin n N k e P W' x :=
 ⟨h.cs, h.ow, h.dr, fun f hf ek => h.g5 f ((h0 f ek).2 hf) ek⟩
theorem Yt.other {k s i : Nat} {P : Nat → Plc} {x : Wrd} {W' : List Fm} (h : Yt n k e P W x s i) (h0 : ∀ f, f.key = k → (f ∈ W ↔ f ∈ W')) : Yt n k e P W' x s i := by
 rcases h with h | h
 ·exact .inl (h.mono id (fun d hd => .inr ⟨d, hd⟩) fun f hf ek _ _ => (h0 f ek).1 hf)
 ·exact .inr h
theorem P_other {i k q : Nat} {r' : RS} (kp : Keep k (R i) r') (hq : q ≠ k) : (fun j => (put R i r' j).P q) = fun j => (R j).P q := by
 funext j
 by_cases ej : j = i
 ·subst ej; rw [put_at]; exact kp.P q hq
 ·rw [put_ne _ _ _ ej]
theorem P_same {i k : Nat} {r' : RS} : (fun j => (put R i r' j).P k) = put (fun j => (R j).P k) i (r'.P k) := by
 funext j
 by_cases ej : j = i
 ·subst ej; rw [put_at, put_at]
 ·rw [put_ne _ _ _ ej, put_ne _ _ _ ej]
theorem FinA.on {f : Fm} (fa : FinA n N e R (f :: W) T) (h : CJ n N M e w b R (f :: W)) {i : Nat} (hi : i < N) (ht : f.to = ad (i + 1)) : FinA n N e (put R i (Rep.on (R i) f true).1) (W ++ (Rep.on (R i) f true).2.1) T := by
 have hf := (h.fj f (List.mem_cons_self ..)).1
 have kp := Keep.on (R i) f true
 refine ⟨fun j hj k hk => ?_, fun k hk => ?_⟩
 ·by_cases ej : j = i
  ·subst ej; rw [put_at]; exact kp.has k (fa.has j hj k hk)
  ·rw [put_ne _ _ _ ej]; exact fa.has j hj k hk
 ·obtain ⟨x, a, y⟩ := fa.K k hk
  by_cases ek : k = f.key
  ·subst ek
   obtain ⟨g, l⟩ := h.K f.key hf.key
   obtain ⟨a1, a2⟩ := a.on l hi (h.v i hi) rfl rfl hf ht (fun _ => fa.has i hi f.key hk)
   rw [P_same]
   exact ⟨x, a1, fun j hj => a2 _ j hj (y j hj)⟩
  ·rw [P_other kp ek]
   have h0 := cons_other (W := W) (on_key (R i) f)
   exact ⟨x, a.other fun z hz => h0 z (by rw [hz]; exact ek), fun j hj => (y j hj).other fun z hz => h0 z (by rw [hz]; exact ek)⟩
theorem FinA.tickK (fa : FinA n N e R W T) (h : CJ n N M e w b R W) {i : Nat} (hi : i < N) {k : Nat} (hk : k < 6) (every : Nat) :
  FinA n N e (put R i (Rep.tickK (R i) k every 3 true).1) (W ++ (Rep.tickK (R i) k every 3 true).2.1) (fun q j => if j = i ∧ q = k then T q j + 1 else T q j) := by
 have kp := Keep.tickK (R i) k every 3 true
 refine ⟨fun j hj q hq => ?_, fun q hq => ?_⟩
 ·by_cases ej : j = i
  ·subst ej; rw [put_at]; exact kp.has q (fa.has j hj q hq)
  ·rw [put_ne _ _ _ ej]; exact fa.has j hj q hq
 ·obtain ⟨x, a, y⟩ := fa.K q hq
  by_cases ek : q = k
  ·subst ek
   obtain ⟨g, l⟩ := h.K q hq
   obtain ⟨a1, a2, a3⟩ := a.tick l hi (h.v i hi) rfl (fa.has i hi q hq) every
   rw [P_same]
   refine ⟨x, a1, fun j hj => ?_⟩
   by_cases ej : j = i
   ·subst ej; rw [if_pos ⟨rfl, rfl⟩]; exact a3 _ (y j hj)
   ·rw [if_neg (fun c => ej c.1)]; exact a2 _ j hj ej (y j hj)
  ·rw [P_other kp ek]
   have h0 := app_other (W := W) (tick_key (R i) k every 3)
   refine ⟨x, a.other fun z hz => h0 z (by rw [hz]; exact ek), fun j hj => ?_⟩
   rw [if_neg (fun c => ek c.2)]
   exact (y j hj).other fun z hz => h0 z (by rw [hz]; exact ek)
theorem FinA.tickL (hN : 2 ≤ N) {i : Nat} (hi : i < N) (every : Nat) : ∀ (L : List Nat) (b : Nat) (R : Nat → RS) (W : List Fm) (T : Nat → Nat → Nat), CJ n N M e w b R W → FinA n N e R W T → (∀ k ∈ L, k < 6) → L.Nodup →
  FinA n N e (put R i (Rep.tickL (R i) every 3 true L).1) (W ++ (Rep.tickL (R i) every 3 true L).2.1) (fun q j => if j = i ∧ q ∈ L then T q j + 1 else T q j)
 | [], b, R, W, T, h, fa, _, _ => by
  show FinA n N e (put R i (R i)) (W ++ []) _
  rw [put_same, List.append_nil]
  exact fa.down fun k j _ _ => by simp
 | k :: L, b, R, W, T, h, fa, hL, hnd => by
  have hk := hL k (List.mem_cons_self ..)
  obtain ⟨hkL, hnL⟩ := List.nodup_cons.1 hnd
  have h1 := h.tickK hN hi hk every 3
  have f1 := fa.tickK h hi hk every
  have f2 := FinA.tickL hN hi every L _ _ _ _ h1 f1 (fun k hk => hL k (List.mem_cons_of_mem _ hk)) hnL
  rw [put_at, put_put, List.append_assoc] at f2
  refine f2.down fun q j _ _ => ?_
  by_cases ej : j = i
  ·by_cases eq : q = k
   ·subst eq; simp [ej, hkL]
   ·by_cases hq : q ∈ L <;> simp [ej, eq, hq]
  ·simp [ej]
theorem FinA.tick (fa : FinA n N e R W T) (h : CJ n N M e w b R W) (hN : 2 ≤ N) {i : Nat} (hi : i < N) (every : Nat) :
  FinA n N e (put R i (Rep.tick (R i) every 3 true).1) (W ++ (Rep.tick (R i) every 3 true).2.1) (fun q j => if j = i ∧ q < 6 then T q j + 1 else T q j) := by
 have has : complete (R i) = true := by
  unfold complete
  rw [fa.has i hi 0 (by decide), fa.has i hi 1 (by decide), fa.has i hi 2 (by decide), fa.has i hi 3 (by decide), fa.has i hi 4 (by decide), fa.has i hi 5 (by decide)]
  rfl
 have e1 : Rep.tick (R i) every 3 true = Rep.tickL (R i) every 3 true [0, 1, 2, 3, 4, 5] := by
  unfold Rep.tick asked
  rw [if_pos (h.v i hi).inr, if_pos has]
  rfl
 rw [e1]
 refine (FinA.tickL hN hi every [0, 1, 2, 3, 4, 5] _ _ _ _ h fa (by decide) (by decide)).down fun q j _ _ => ?_
 have hm : q ∈ [0, 1, 2, 3, 4, 5] ↔ q < 6 := by simp only [List.mem_cons, List.mem_nil_iff, or_false]; omega
 by_cases ej : j = i ∧ q < 6
 ·rw [if_pos ej, if_pos ⟨ej.1, hm.2 ej.2⟩]; exact Nat.le_refl _
 ·rw [if_neg ej, if_neg (fun c => ej ⟨c.1, hm.1 c.2⟩)]; exact Nat.le_refl _
theorem FinA.start (h : CJ n (n + 1) M e w b R []) (ha : ∀ k, k < 6 → AskJ n k e ((R n).has k) []) : FinA n (n + 1) e R [] (fun _ _ => 0) := by
 have hn : ∀ k, k < 6 → (R n).has k = true := fun k hk => by
  rcases ha k hk with c | ⟨_, c, _⟩ | ⟨_, c, _⟩
  ·exact c
  ·cases c
  ·cases c
 refine ⟨fun j hj k hk => ?_, fun k hk => ?_⟩
 ·by_cases ej : j = n
  ·subst ej; exact hn k hk
  ·exact h.has j (by omega) k hk
 ·obtain ⟨g, l⟩ := h.K k hk
  obtain ⟨x, _, hx⟩ := l.rest_s fun _ => hn k hk
  exact ⟨x, ⟨fun i hi => ⟨(hx i hi).2.1, (hx i hi).2.2.1⟩, fun o ho eb => (hx o (by omega)).2.2.2 ho eb, (fun i hi d ed => by rw [(hx i hi).1] at ed; cases ed), (fun _ c => by cases c)⟩, fun j _ => .inr ⟨by decide, Nat.zero_le _⟩⟩
theorem FinA.fin (fa : FinA n (n + 1) e R [] T) (h : CJ n (n + 1) M e w b R []) (hT : ∀ k j, k < 6 → j < n + 1 → 3 ≤ T k j) {k : Nat} (hk : k < 6) : ∃ x, ∀ j, j < n + 1 → ((R j).P k).c = ⟨x, 1⟩ ∧ (R j).has k = true := by
 obtain ⟨x, a, y⟩ := fa.K k hk
 obtain ⟨g, l⟩ := h.K k hk
 obtain ⟨_, _, hx⟩ := l.rest_s fun _ => fa.has n (by omega) k hk
 refine ⟨x, fun j hj => ⟨?_, fa.has j hj k hk⟩⟩
 have h1 : ((R j).P k).c.st = 1 := by
  rcases y j hj with c | ⟨c, _⟩
  ·rcases c with c | ⟨d, c⟩ | ⟨_, c, _⟩ | ⟨_, c, _⟩
   ·exact c
   ·rw [(hx j hj).1] at c; cases c
   ·cases c
   ·cases c
  ·have := hT k j hk hj; omega
 have h2 := (a.cs j hj).1
 cases hc : ((R j).P k).c with
 | mk w s => rw [hc] at h1; dsimp only at h1 h2; rw [hc] at h2; dsimp only at h2; rw [h1, h2]
end
end Rep
namespace Vm
open Go Go.RowKit
namespace X20
open Rep (RS Fm Ev put CJ rN vN)
structure JW (n N M : Nat) (e : Int) (w b m : Nat) (v : View.VS) (R : Nat → RS) (W : List Fm) : Prop where
 cj : CJ n N M e w b R W
 lv : ∀ j, j < N → (R j).v = v
 li : ∀ j, j < n → (R j).life = 1
 fit : ∀ j, j < N → Fit m (R j)
 ws : FB W
 vl : v.ms.length ≤ 10
section
variable {n N M w b m : Nat} {e : Int} {v : View.VS} {R : Nat → RS} {W : List Fm}
theorem JW.mono (h : JW n N M e w b m v R W) {w' b' m' : Nat} (hw : w ≤ w') (hb : b ≤ b') (hm : m ≤ m') : JW n N M e w' b' m' v R W := ⟨h.cj.mono hw hb, h.lv, h.li, fun j hj => (h.fit j hj).mono hm, h.ws, h.vl⟩
theorem lv_putJ (h : ∀ j, j < N → (R j).v = v) {i : Nat} (hi : i < N) {r' : RS} (ev : r'.v = (R i).v) : ∀ j, j < N → (put R i r' j).v = v := fun j hj => by
 by_cases ej : j = i
 ·subst ej; rw [Rep.put_at, ev]; exact h j hj
 ·rw [Rep.put_ne _ _ _ ej]; exact h j hj
theorem li_putJ (h : ∀ j, j < n → (R j).life = 1) {i : Nat} {r' : RS} (ev : r'.life = (R i).life) : ∀ j, j < n → (put R i r' j).life = 1 := fun j hj => by
 by_cases ej : j = i
 ·subst ej; rw [Rep.put_at, ev]; exact h j hj
 ·rw [Rep.put_ne _ _ _ ej]; exact h j hj
theorem fit_putJ {m' : Nat} (h : ∀ j, j < N → Fit m (R j)) (hm : m ≤ m') {i : Nat} {r' : RS} (h' : Fit m' r') : ∀ j, j < N → Fit m' (put R i r' j) := fun j hj => by
 by_cases ej : j = i
 ·subst ej; rw [Rep.put_at]; exact h'
 ·rw [Rep.put_ne _ _ _ ej]; exact (h j hj).mono hm
theorem tickL_life (every replay : Nat) : ∀ (L : List Nat) (r : RS), (Rep.tickL r every replay true L).1.life = r.life
 | [], _ => rfl
 | k :: L, r => (tickL_life every replay L _).trans (Rep.Keep.tickK r k every replay true).life
theorem tick_life (r : RS) (every replay : Nat) : (Rep.tick r every replay true).1.life = r.life := by
 unfold Rep.tick
 split
 ·show (Rep.tickL (Rep.asked r).1 every replay true [0, 1, 2, 3, 4, 5]).1.life = r.life
  rw [tickL_life]; exact (Rep.asked_keep r 0).1.life
 ·rfl
theorem JW.on {f : Fm} (h : JW n N M e w b m v R (f :: W)) (hw : w ≤ 60) {i : Nat} (hi : i < N) (ht : f.to = Rep.ad (i + 1)) :
  1 ≤ b ∧ JW n N M e w (b - 1) m v (put R i (Rep.on (R i) f true).1) (W ++ (Rep.on (R i) f true).2.1) := by
 obtain ⟨h1, h2⟩ := h.cj.on hw hi ht
 have hf := h.ws f (List.mem_cons_self ..)
 exact ⟨h1, h2, lv_putJ h.lv hi (on_v _ _ _), li_putJ h.li (Rep.Keep.on _ _ _).life, fit_putJ h.fit (Nat.le_refl _) ((h.fit i hi).on f true hf), FB.app (fun x hx => h.ws x (List.mem_cons_of_mem _ hx)) (fb_on (h.fit i hi) f true hf), h.vl⟩
theorem JW.tick (h : JW n N M e w b m v R W) (hN : 2 ≤ N) {i : Nat} (hi : i < N) (every replay : Nat) :
  JW n N M e w (b + 1644) (m + 7) v (put R i (Rep.tick (R i) every replay true).1) (W ++ (Rep.tick (R i) every replay true).2.1) :=
 ⟨h.cj.tick hN hi every replay, lv_putJ h.lv hi (tick_v _ _ _ _), li_putJ h.li (tick_life _ _ _), fit_putJ h.fit (Nat.le_add_right _ _) ((h.fit i hi).tick every replay true), h.ws.app (fb_tick (h.fit i hi) every replay true), h.vl⟩
theorem JW.write (h : JW n N M e w b m v R W) {i : Nat} (hi : i < n) (hiN : i < N) {k : Nat} (hk : k < 6) (c : Bool) (t : ByteArray) (rmw : Bool) :
  JW n N M e (w + 1) (b + 272) m v (put R i (Rep.write (R i) k c t rmw).1.1) (W ++ (Rep.write (R i) k c t rmw).1.2.1) :=
 ⟨h.cj.write hi hk c t rmw, lv_putJ h.lv hiN (write_v _ _ _ _ _), li_putJ h.li (Rep.Keep.write _ _ _ _ _).life, fit_putJ h.fit (Nat.le_refl _) ((h.fit i hiN).write k c t rmw), h.ws.app (fb_write (h.fit i hiN) k c t rmw), h.vl⟩
theorem JW.lim (h : JW n N M e w b m v R W) {i : Nat} (hi : i < N) : X5.lim (R i).v.ms := by
 rw [h.lv i hi]
 exact Nat.le_trans h.vl (by decide)
theorem JW.oth (h : JW n N M e w b m v R W) {i : Nat} (hi : i < N) : (Rep.oth (R i)).length ≤ 1000 := Nat.le_trans (h.cj.v i hi).ol (by decide)
theorem JW.start {n M : Nat} (h1 : 1 ≤ n) (hM : n ≤ M) (h5 : M ≤ 5) : JW n n M 1 0 0 0 (vN n) (rN n) [] :=
 ⟨CJ.start h1 hM h5, fun _ _ => rfl, fun _ _ => rfl, fun j _ => ⟨fun _ => Nat.le_refl _, (fun _ _ h => by cases h), Nat.le_refl _, fun _ => Nat.zero_le _, (fun _ _ h => by cases h)⟩, FB.nil, by show (X5.firstM n).length ≤ 10; rw [X5.firstM_len]; omega⟩
theorem JW.nil (h : JW n N M e w b m v R []) : JW n N M e w 0 m v R [] := ⟨h.cj.nil, h.lv, h.li, h.fit, h.ws, h.vl⟩
theorem fb_enter {r : RS} (hf : Fit m r) (v : View.VS) : FB (Rep.enter r v).2 := by
 have go : ∀ (L : List Nat) (r : RS), Fit m r → FB (Rep.againL r L).2 := by
  intro L
  induction L with
  | nil => intro r _; exact FB.nil
  | cons k L ih =>
   intro r hf
   have h1 : FB (Rep.again r k).2 := by
    unfold Rep.again
    split
    ·exact FB.nil
    ·rename_i d hd
     split
     ·exact fb_sent _ _ _ (hf.sd k d hd)
     ·exact FB.nil
   exact h1.app (ih _ (hf.again k))
 exact go _ _ ⟨hf.age, hf.tk, hf.ca, hf.st, hf.sd⟩
theorem JW.enter (h : JW n n M 1 w b m (vN n) R W) (h1 : 1 ≤ n) (h4 : n ≤ 4) (hM : n + 1 ≤ M) :
  JW n (n + 1) M 2 w (b + 8040) m (Rep.vJ n) (Rep.entR (Rep.newJ n R) (Rep.vJ n) (n + 1)) (W ++ Rep.entF (Rep.newJ n R) (Rep.vJ n) (n + 1)) := by
 have hfit : ∀ j, j < n + 1 → Fit m (Rep.newJ n R j) := fun j hj => by
  by_cases ej : j = n
  ·subst ej
   rw [show Rep.newJ j R j = Rep.begun (j + 1) 2 false from Rep.put_at _ _ _]
   exact (Fit.begun (j + 1) 2 false).mono (Nat.zero_le _)
  ·rw [show Rep.newJ n R j = R j from Rep.put_ne _ _ _ ej]; exact h.fit j (by omega)
 have eR : ∀ j, j < n + 1 → Rep.entR (Rep.newJ n R) (Rep.vJ n) (n + 1) j = (Rep.enter (Rep.newJ n R j) (Rep.vJ n)).1 := fun j hj => if_pos hj
 refine ⟨h.cj.enter h1 h4 hM h.li, fun j hj => by rw [eR j hj]; exact (Rep.enter_self _ _).2.2, fun j hj => ?_, fun j hj => by rw [eR j hj]; exact (hfit j hj).enter _, h.ws.app fun x hx => ?_, ?_⟩
 ·rw [eR j (by omega), (Rep.enter_self _ _).2.1, show Rep.newJ n R j = R j from Rep.put_ne _ _ _ (by omega)]
  exact h.li j hj
 ·obtain ⟨i, hi, hx⟩ := (Rep.mem_entF _).1 hx
  exact fb_enter (hfit i hi) _ x hx
 ·rw [(Rep.vJ_ms h1 h4).1, List.length_append, X5.firstM_len, List.length_singleton]; omega
end
def gpsC (B : Nat → Nat) (n : Nat) : List T := (List.range n).map fun i => .gp (B i) 0
theorem gpsC_at {B : Nat → Nat} {n i : Nat} (h : i < n) : (gpsC B n)[i]? = some (.gp (B i) 0) := by simp [gpsC, h]
theorem gpsC_len (B : Nat → Nat) (n : Nat) : (gpsC B n).length = n := by simp [gpsC]
theorem gpsC_snoc (B : Nat → Nat) (n b : Nat) : gpsC (put B n b) (n + 1) = gpsC B n ++ [.gp b 0] := by
 unfold gpsC
 rw [List.range_succ, List.map_append]
 congr 1
 ·refine List.map_congr_left fun i hi => ?_
  rw [Rep.put_ne _ _ _ (by have := List.mem_range.1 hi; omega)]
 ·simp [Rep.put_at]
theorem nI (k : Nat) : ((k : Nat) : Int).toNat = k := Int.toNat_natCast k
end X20
end Vm
end Go.Proofs.Ytafcbipmmjegcaa
