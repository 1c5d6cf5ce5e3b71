/- Texts of this claim: RiF, RiG, RiH. -/
import Derived.Test.YtafcbipmmjegcaaMg34
namespace Go.Proofs.Ytafcbipmmjegcaa
namespace Rep
open Vm.X5 (hasV othV aheadV behindV)
structure CJ (n N M : Nat) (e : Int) (w b : Nat) (R : Nat → RS) (W : List Fm) : Prop where
 v : ∀ i, i < N → VW n N e i (R i)
 has : ∀ i, i < n → ∀ k, k < 6 → (R i).has k = true
 fj : ∀ f, f ∈ W → FJ N e f ∧ f.epoch ≤ e
 K : ∀ k, k < 6 → ∃ g, LJ n N k e g (fun i => (R i).P k) ((R n).has k) W
 s : ∃ S : Nat → List Stp, (∀ k, (S k).length ≤ w + 1) ∧ (∀ i, i < N → InQ (fun k s => s ∈ S k) (R i)) ∧ FQ (fun k s => s ∈ S k) W ∧ wts S M W ≤ b ∧ ∀ k, zs ∈ S k
 m : N ≤ M ∧ M ≤ 5
section
variable {n N M w b : Nat} {e : Int} {R : Nat → RS} {W : List Fm}
theorem CJ.mono (h : CJ n N M e w b R W) {w' b' : Nat} (hw : w ≤ w') (hb : b ≤ b') : CJ n N M e w' b' R W := by
 obtain ⟨S, s1, s2, s3, s4, s5⟩ := h.s
 exact ⟨h.v, h.has, h.fj, h.K, ⟨S, fun k => Nat.le_trans (s1 k) (by omega), s2, s3, Nat.le_trans s4 hb, s5⟩, h.m⟩
theorem CJ.hNn (h : CJ n N M e w b R W) : (N = n ∨ N = n + 1) ∧ 0 < n := by
 obtain ⟨g, l⟩ := h.K 0 (by decide)
 exact ⟨l.hN, l.hn⟩
theorem vw_put {i k : Nat} {r' : RS} (kp : Keep k (R i) r') (h : ∀ j, j < N → VW n N e j (R j)) : ∀ j, j < N → VW n N e j (put R i r' j) := fun j hj => by
 by_cases eq : j = i
 ·subst eq; rw [put_at]; exact (h j hj).keep kp
 ·rw [put_ne _ _ _ eq]; exact h j hj
theorem has_put {i k : Nat} {r' : RS} (kp : Keep k (R i) r') (h : ∀ j, j < n → ∀ q, q < 6 → (R j).has q = true) : ∀ j, j < n → ∀ q, q < 6 → (put R i r' j).has q = true := fun j hj q hq => by
 by_cases eq : j = i
 ·subst eq; rw [put_at]; exact kp.has q (h j hj q hq)
 ·rw [put_ne _ _ _ eq]; exact h j hj q hq
theorem fj_app {F : List Fm} (h : ∀ f, f ∈ W → FJ N e f ∧ f.epoch ≤ e) (h' : FJs N e F) : ∀ f, f ∈ W ++ F → FJ N e f ∧ f.epoch ≤ e := fun f hf =>
 (List.mem_append.1 hf).elim (h f) fun hf => ⟨(h' f hf).1, by rw [(h' f hf).2]; exact Int.le_refl _⟩
theorem keys_J {i k : Nat} {r' : RS} {W' : List Fm} (kp : Keep k (R i) r') (hh : ∀ q, q ≠ k → r'.has q = (R i).has q) (h : ∀ q, q < 6 → ∃ g, LJ n N q e g (fun j => (R j).P q) ((R n).has q) W) (h0 : ∀ x, x.key ≠ k → (x ∈ W ↔ x ∈ W'))
  (h1 : ∃ g, LJ n N k e g (put (fun j => (R j).P k) i (r'.P k)) (if i = n then r'.has k else (R n).has k) W') :
  ∀ q, q < 6 → ∃ g, LJ n N q e g (fun j => (put R i r' j).P q) ((put R i r' n).has q) W' := fun q hq => by
 by_cases eq : q = k
 ·subst eq
  have e1 : (fun j => (put R i r' j).P q) = put (fun j => (R j).P q) i (r'.P q) := by
   funext j
   by_cases ej : j = i
   ·subst ej; rw [put_at, put_at]
   ·rw [put_ne _ _ _ ej, put_ne _ _ _ ej]
  have e2 : (put R i r' n).has q = if i = n then r'.has q else (R n).has q := by
   by_cases ej : i = n
   ·subst ej; rw [put_at, if_pos rfl]
   ·rw [put_ne _ _ _ (fun x => ej x.symm), if_neg ej]
  rw [e1, e2]
  exact h1
 ·obtain ⟨g, l⟩ := h q hq
  have e1 : (fun j => (put R i r' j).P q) = fun j => (R j).P q := by
   funext j
   by_cases ej : j = i
   ·subst ej; rw [put_at]; exact kp.P q eq
   ·rw [put_ne _ _ _ ej]
  have e2 : (put R i r' n).has q = (R n).has q := by
   by_cases ej : n = i
   ·subst ej; rw [put_at]; exact hh q eq
   ·rw [put_ne _ _ _ ej]
  rw [e1, e2]
  exact ⟨g, l.other fun x hx => h0 x (by rw [hx]; exact eq)⟩
theorem app_other {k : Nat} {F : List Fm} (hF : ∀ x, x ∈ F → x.key = k) : ∀ x, x.key ≠ k → (x ∈ W ↔ x ∈ W ++ F) := fun x hx =>
 ⟨fun h => List.mem_append.2 (.inl h), fun h => (List.mem_append.1 h).elim id fun h => absurd (hF x h) hx⟩
theorem cons_other {f : Fm} {F : List Fm} (hF : ∀ x, x ∈ F → x.key = f.key) : ∀ x, x.key ≠ f.key → (x ∈ f :: W ↔ x ∈ W ++ F) := fun x hx =>
 ⟨fun h => by
  rcases List.mem_cons.1 h with eq | h
  ·subst eq; exact absurd rfl hx
  ·exact List.mem_append.2 (.inl h), fun h => (List.mem_append.1 h).elim (List.mem_cons_of_mem _) fun h => absurd (hF x h) hx⟩
theorem CJ.in_ {f : Fm} (h : CJ n N M e w b R W) (hf : f ∈ W) : ∃ i, i < N ∧ f.to = ad (i + 1) ∧ 17 ≤ f.to ∧ f.to - 17 = i := by
 obtain ⟨j, hj, eq⟩ := (h.fj f hf).1.to
 have e2 := ad_val (j := j + 1) (by have := h.m; omega)
 exact ⟨j, hj, eq, by omega, by omega⟩
theorem CJ.on {f : Fm} (h : CJ n N M e w b R (f :: W)) (hw : w ≤ 60) {i : Nat} (hi : i < N) (ht : f.to = ad (i + 1)) :
  1 ≤ b ∧ CJ n N M e w (b - 1) (put R i (Rep.on (R i) f true).1) (W ++ (Rep.on (R i) f true).2.1) := by
 obtain ⟨S, s1, s2, s3, s4, s5⟩ := h.s
 have hm : f ∈ f :: W := List.mem_cons_self ..
 obtain ⟨hf, _⟩ := h.fj f hm
 have v := h.v i hi
 have kp := Keep.on (R i) f true
 have hlt := wts_onJ v hi h.m.1 h.m.2 (S := S) (fun k => Nat.le_trans (s1 k) (by omega)) hf ht (fun e1 => s3 f hm (.inl e1))
 obtain ⟨q1, q2⟩ := q_on (Q := fun k s => s ∈ S k) (s2 i hi) (f := f) (fun e1 => s3 f hm e1)
 rw [wts_cons] at s4
 refine ⟨by omega, vw_put kp h.v, has_put kp h.has, fj_app (fun x hx => h.fj x (List.mem_cons_of_mem _ hx)) (fj_on v hi hf ht), ?_, ⟨S, s1, inq_put s2 (fun _ _ x => x) q1, (fun x hx e1 => ?_), by rw [wts_app]; omega, s5⟩, h.m⟩
 ·obtain ⟨g, l⟩ := h.K f.key hf.key
  exact keys_J kp (fun q hq => on_has (R i) f hq) h.K (cons_other (on_key (R i) f)) ⟨g, l.on_s hi v rfl rfl hf ht (fun eq => by rw [eq])⟩
 ·rcases List.mem_append.1 hx with hx | hx
  ·exact s3 x (List.mem_cons_of_mem _ hx) e1
  ·exact q2 x hx e1
theorem CJ.tickK (h : CJ n N M e w b R W) (hN : 2 ≤ N) {i : Nat} (hi : i < N) {k : Nat} (hk : k < 6) (every replay : Nat) :
  CJ n N M e w (b + 272) (put R i (Rep.tickK (R i) k every replay true).1) (W ++ (Rep.tickK (R i) k every replay true).2.1) := by
 obtain ⟨S, s1, s2, s3, s4, s5⟩ := h.s
 have v := h.v i hi
 have kp := Keep.tickK (R i) k every replay true
 have hlt := wts_tickJ (S := S) v hi h.m.1 h.m.2 k every replay
 obtain ⟨q1, q2⟩ := q_tickK (Q := fun k s => s ∈ S k) (s2 i hi) k every replay
 refine ⟨vw_put kp h.v, has_put kp h.has, fj_app h.fj (fj_tickK v hi hk every replay), ?_, ⟨S, s1, inq_put s2 (fun _ _ x => x) q1, s3.app q2, by rw [wts_app]; omega, s5⟩, h.m⟩
 obtain ⟨g, l⟩ := h.K k hk
 refine keys_J kp (fun q _ => by rw [tickK_has]) h.K (app_other (tick_key (R i) k every replay)) ⟨g, ?_⟩
 have : (if i = n then (Rep.tickK (R i) k every replay true).1.has k else (R n).has k) = (R n).has k := by
  by_cases eq : i = n
  ·rw [if_pos eq, tickK_has, eq]
  ·rw [if_neg eq]
 rw [this]
 exact l.tick_s hN hi v rfl every replay
theorem CJ.tickL (hN : 2 ≤ N) {i : Nat} (hi : i < N) (every replay : Nat) : ∀ (L : List Nat) (b : Nat) (R : Nat → RS) (W : List Fm), CJ n N M e w b R W → (∀ k ∈ L, k < 6) →
  CJ n N M e w (b + 272 * L.length) (put R i (Rep.tickL (R i) every replay true L).1) (W ++ (Rep.tickL (R i) every replay true L).2.1)
 | [], b, R, W, h, _ => by
  show CJ n N M e w b (put R i (R i)) (W ++ [])
  rw [put_same, List.append_nil]
  exact h
 | k :: L, b, R, W, h, hL => by
  have h1 := h.tickK hN hi (hL k (List.mem_cons_self ..)) every replay
  have h2 := CJ.tickL hN hi every replay L _ _ _ h1 fun k hk => hL k (List.mem_cons_of_mem _ hk)
  rw [put_at, put_put, List.append_assoc] at h2
  exact h2.mono (Nat.le_refl _) (by rw [List.length_cons]; omega)
theorem fj_needs {i : Nat} {r : RS} (v : VW n N e i r) (hi : i < N) : ∀ x, x ∈ (asked r).2 → FJ N e x ∧ x.epoch = e ∧ x.kind = 4 := by
 unfold asked
 intro x hx
 split at hx
 ·cases hx
 ·obtain ⟨p, hp, rfl⟩ := List.mem_map.1 hx
  unfold needs at hp
  split at hp
  ·cases hp
  ·rename_i ho
   obtain ⟨k, hk, rfl⟩ := List.mem_map.1 hp
   have hk6 : k < 6 := by
    have := (List.mem_filter.1 hk).1
    simp only [List.mem_cons, List.mem_nil_iff, or_false] at this
    omega
   have hin : (oth r).getD ((r.calls + k) % (oth r).length) 0 ∈ oth r := by
    have hl : (r.calls + k) % (oth r).length < (oth r).length := Nat.mod_lt _ (List.length_pos_iff.2 ho)
    rw [List.getD_eq_getElem?_getD, List.getElem?_eq_getElem hl]
    exact List.getElem_mem hl
   obtain ⟨j, hj, hji, eq⟩ := v.ohas _ hin
   have := fj_to v hi hk6 hj hji 4 z0 false _ (List.mem_singleton.2 rfl)
   dsimp only
   rw [eq]
   exact ⟨this.1, this.2, rfl⟩
theorem asked_keep (r : RS) (k : Nat) : Keep k r (asked r).1 ∧ (asked r).1.P = r.P ∧ (asked r).1.has = r.has := by
 unfold asked
 split
 ·exact ⟨Keep.refl _ _, rfl, rfl⟩
 ·exact ⟨⟨rfl, rfl, rfl, fun _ _ => rfl, fun _ h => h⟩, rfl, rfl⟩
theorem wts_asked {S : Nat → List Stp} (r : RS) : wts S M (asked r).2 ≤ 12 := by
 unfold asked
 split
 ·exact Nat.zero_le _
 ·dsimp only
  have hx : ∀ L : List Fm, (∀ x ∈ L, x.kind = 4) → wts S M L = 2 * L.length := by
   intro L
   induction L with
   | nil => intro _; rfl
   | cons x L ih =>
    intro hL
    rw [wts_cons, List.length_cons, ih fun y hy => hL y (List.mem_cons_of_mem _ hy)]
    have e4 := hL x (List.mem_cons_self ..)
    have : wt S M x = 2 := by unfold wt; rw [if_neg (by rw [e4]; decide), if_neg (by rw [e4]; decide), if_pos e4]
    omega
  rw [hx _ (fun x hx => by obtain ⟨p, _, rfl⟩ := List.mem_map.1 hx; rfl), List.length_map]
  unfold needs
  split
  ·decide
  ·rw [List.length_map]
   have := List.length_filter_le (fun k => !r.has k) [0, 1, 2, 3, 4, 5]
   simp only [List.length_cons, List.length_nil] at this
   omega
theorem CJ.asked (h : CJ n N M e w b R W) {i : Nat} (hi : i < N) : CJ n N M e w (b + 12) (put R i (Rep.asked (R i)).1) (W ++ (Rep.asked (R i)).2) := by
 obtain ⟨S, s1, s2, s3, s4, s5⟩ := h.s
 have v := h.v i hi
 obtain ⟨kp, hP, hh⟩ := asked_keep (R i) 0
 have hlt := wts_asked (S := S) (M := M) (R i)
 have hF := fj_needs v hi
 refine ⟨vw_put kp h.v, has_put kp h.has, fj_app h.fj (fun x hx => ⟨(hF x hx).1, (hF x hx).2.1⟩), fun k hk => ?_, ⟨S, s1, inq_put s2 (fun _ _ x => x) (fun k => by rw [hP]; exact s2 i hi k), s3.app (fun x hx e1 => by rw [(hF x hx).2.2] at e1; exact e1.elim (fun c => by cases c) (fun c => by cases c)), by rw [wts_app]; omega, s5⟩, h.m⟩
 obtain ⟨g, l⟩ := h.K k hk
 have e1 : (fun j => (put R i (Rep.asked (R i)).1 j).P k) = fun j => (R j).P k := by
  funext j
  by_cases ej : j = i
  ·subst ej; rw [put_at, hP]
  ·rw [put_ne _ _ _ ej]
 have e2 : (put R i (Rep.asked (R i)).1 n).has k = (R n).has k := by
  by_cases ej : n = i
  ·subst ej; rw [put_at, hh]
  ·rw [put_ne _ _ _ ej]
 rw [e1, e2]
 refine ⟨g, l.same hi (fun q' hq' d ed j hj hjq ha => ((l.dr q' hq' d ed).ev j hj hjq ha).mono fun x hx _ => List.mem_append.2 (.inl hx)) (fun x hx _ _ => ?_) (fun x hx _ _ e5 _ => ?_)⟩
 ·rcases List.mem_append.1 hx with hx | hx
  ·exact .inl hx
  ·have a := (hF x hx).2.2
   exact .inr ⟨fun c => (by rw [a] at c; exact c.elim (fun c => by cases c) (fun c => by cases c)), fun c => (by rw [a] at c; cases c), fun c => (by rw [a] at c; cases c)⟩
 ·rcases List.mem_append.1 hx with hx | hx
  ·exact .inl hx
  ·rw [(hF x hx).2.2] at e5; cases e5
theorem CJ.tick (h : CJ n N M e w b R W) (hN : 2 ≤ N) {i : Nat} (hi : i < N) (every replay : Nat) :
  CJ n N M e w (b + 1644) (put R i (Rep.tick (R i) every replay true).1) (W ++ (Rep.tick (R i) every replay true).2.1) := by
 have h1 := h.asked hi
 have h2 := CJ.tickL hN hi every replay [0, 1, 2, 3, 4, 5] _ _ _ h1 (by decide)
 rw [put_at, put_put, List.append_assoc] at h2
 unfold Rep.tick
 rw [if_pos (h.v i hi).inr]
 exact h2.mono (Nat.le_refl _) (by simp only [List.length_cons, List.length_nil]; omega)
theorem CJ.write (h : CJ n N M e w b R W) {i : Nat} (hi : i < n) {k : Nat} (hk : k < 6) (c : Bool) (t : ByteArray) (rmw : Bool) :
  CJ n N M e (w + 1) (b + 272) (put R i (Rep.write (R i) k c t rmw).1.1) (W ++ (Rep.write (R i) k c t rmw).1.2.1) := by
 obtain ⟨S, s1, s2, s3, s4, s5⟩ := h.s
 have hiN : i < N := by rcases h.hNn.1 with eq | eq <;> omega
 have v := h.v i hiN
 have kp := Keep.write (R i) k c t rmw
 obtain ⟨g, l⟩ := h.K k hk
 have hK : ∀ q, q < 6 → ∃ g, LJ n N q e g (fun j => (put R i (Rep.write (R i) k c t rmw).1.1 j).P q) ((put R i (Rep.write (R i) k c t rmw).1.1 n).has q) (W ++ (Rep.write (R i) k c t rmw).1.2.1) := by
  refine keys_J kp (fun q _ => by rw [write_has]) h.K (app_other (write_key (R i) k c t rmw)) ?_
  rw [if_neg (by omega)]
  exact l.write_s hi v rfl c t rmw
 have more : ∀ s q x, x ∈ S q → x ∈ put S k (S k ++ [s]) q := fun s q x hx => by
  by_cases eq : q = k
  ·subst eq; rw [put_at]; exact List.mem_append.2 (.inl hx)
  ·rw [put_ne _ _ _ eq]; exact hx
 have cm : ∀ s q x, cnt (S q) x ≤ cnt (put S k (S k ++ [s]) q) x := fun s q x => by
  by_cases eq : q = k
  ·subst eq; rw [put_at]; unfold cnt; rw [List.countP_append]; omega
  ·rw [put_ne _ _ _ eq]; exact Nat.le_refl _
 obtain ⟨s, hs⟩ : ∃ s, ∀ x, (Rep.write (R i) k c t rmw).2 = some x → x = s := by
  cases hx : (Rep.write (R i) k c t rmw).2 with
  | none => exact ⟨zs, fun _ c => by cases c⟩
  | some s => exact ⟨s, fun x c => by injection c with c; exact c.symm⟩
 have hlt := wts_writeJ (S := put S k (S k ++ [s])) v hiN h.m.1 h.m.2 k c t rmw
 obtain ⟨q1, q2⟩ := q_write (Q := fun q x => x ∈ put S k (S k ++ [s]) q) ((s2 i hiN).mono (more s)) k c t rmw (fun x hx => by
  rw [hs x hx]
  show s ∈ put S k (S k ++ [s]) k
  rw [put_at]; exact List.mem_append.2 (.inr (List.mem_singleton.2 rfl)))
 have hmw := wts_more (n := M) (cm s) W
 refine ⟨vw_put kp h.v, has_put kp h.has, fj_app h.fj (fj_write v hiN hk c t rmw), hK, ⟨put S k (S k ++ [s]), fun q => ?_, inq_put s2 (more s) q1, (s3.mono (more s)).app q2, by rw [wts_app]; omega, fun q => more s q zs (s5 q)⟩, h.m⟩
 by_cases eq : q = k
 ·subst eq; rw [put_at, List.length_append, List.length_singleton]; have := s1 q; omega
 ·rw [put_ne _ _ _ eq]; have := s1 q; omega
theorem CJ.len (h : CJ n N M e w b R W) : W.length ≤ b := by
 obtain ⟨S, _, _, _, s4, _⟩ := h.s
 exact Nat.le_trans (wts_lenJ h.m.1 h.m.2 fun f hf => (h.fj f hf).1) s4
theorem CJ.nil (h : CJ n N M e w b R []) : CJ n N M e w 0 R [] := by
 obtain ⟨S, s1, s2, s3, _, s5⟩ := h.s
 exact ⟨h.v, h.has, h.fj, h.K, ⟨S, s1, s2, s3, Nat.le_refl _, s5⟩, h.m⟩
end
def gz0 : Stp → Option Wrd := fun s => if s = zs then some z0 else none
theorem LJ.start {n : Nat} (hn : 0 < n) (k : Nat) (hs : Bool) : LJ n n k 1 gz0 (fun _ => ⟨⟨z0, 1⟩, none, 0⟩) hs [] :=
 ⟨fun _ _ => .inl (.inl rfl), fun _ _ => if_pos rfl, fun s w h => (by
  unfold gz0 at h
  split at h
  ·rename_i eq; injection h with h; subst h; exact ⟨eq.symm, .inl eq⟩
  ·cases h), (fun _ _ _ ed => by cases ed), (fun _ h => by cases h), fun _ _ _ => .inr ⟨fun _ _ => rfl, fun _ _ _ => rfl, fun h => (by omega)⟩, .inl rfl, hn, if_pos rfl⟩
theorem vw_N {n i : Nat} (h1 : 1 ≤ n) (h5 : n ≤ 5) (hi : i < n) : VW n n 1 i (rN n i) := by
 have m := mate_N h1 h5 hi
 have l := lin_N h1 h5 hi
 exact ⟨m.self, m.inR hi, m.oth, fun x hx => m.oth_ne hx, h5, m.vh, m.mem, l.e, l.a, l.b, oth_N h1 h5 hi⟩
theorem CJ.start {n M : Nat} (h1 : 1 ≤ n) (hM : n ≤ M) (h5 : M ≤ 5) : CJ n n M 1 0 0 (rN n) [] :=
 ⟨fun _ hi => vw_N h1 (by omega) hi, fun _ _ _ _ => rfl, (fun _ h => by cases h), fun k _ => ⟨gz0, LJ.start h1 k _⟩, ⟨fun _ => [zs], fun _ => Nat.le_refl _, fun _ _ _ => ⟨List.mem_singleton.2 rfl, fun _ ed => by cases ed⟩, FQ.nil, Nat.le_refl _, fun _ => List.mem_singleton.2 rfl⟩, hM, h5⟩
end Rep
end Go.Proofs.Ytafcbipmmjegcaa
namespace Go.Proofs.Ytafcbipmmjegcaa
namespace Rep
open Vm.X5 (hasV othV aheadV behindV)
def anew (p : Plc) : Plc := match p.dr with
 | none => p
 | some d => { p with dr := some (newD d.w d.own) }
theorem anew_c (p : Plc) : (anew p).c = p.c := by unfold anew; split <;> rfl
theorem anew_dr {p : Plc} {d : Drv} (h : (anew p).dr = some d) : ∃ d0, p.dr = some d0 ∧ d = newD d0.w d0.own := by
 unfold anew at h
 split at h
 ·rename_i hp; rw [hp] at h; cases h
 ·rename_i d0 hp; injection h with h; exact ⟨d0, hp, h.symm⟩
theorem anew_some {p : Plc} {d : Drv} (h : p.dr = some d) : (anew p).dr = some (newD d.w d.own) := by unfold anew; rw [h]
theorem again_P (r : RS) (k : Nat) (hi : inR r = true) : (again r k).1 = setP r k (anew (r.P k)) ∧ (again r k).2 = (match (r.P k).dr with | none => [] | some d => sent r k d.w) := by
 unfold again anew
 cases hd : (r.P k).dr with
 | none => exact ⟨by dsimp only; unfold setP; rw [put_self], rfl⟩
 | some d => dsimp only; rw [if_pos hi]; exact ⟨rfl, rfl⟩
theorem inR_set (r : RS) (k : Nat) (p : Plc) : inR (setP r k p) = inR r := rfl
theorem againL_P : ∀ (L : List Nat) (r : RS), inR r = true → L.Nodup → (∀ j, (Rep.againL r L).1.P j = if j ∈ L then anew (r.P j) else r.P j) ∧ (Rep.againL r L).1.has = r.has ∧
  (∀ x, x ∈ (Rep.againL r L).2 ↔ ∃ k, k ∈ L ∧ ∃ d, (r.P k).dr = some d ∧ x ∈ sent r k d.w)
 | [], r, _, _ => ⟨fun j => by rw [if_neg (by simp)]; rfl, rfl, fun x => ⟨fun h => (by cases h), fun ⟨_, h, _⟩ => (by cases h)⟩⟩
 | k :: L, r, hi, hn => by
  obtain ⟨a1, a2⟩ := again_P r k hi
  obtain ⟨hk, hL⟩ := List.nodup_cons.1 hn
  obtain ⟨b1, b2, b3⟩ := againL_P L (again r k).1 (by rw [a1, inR_set]; exact hi) hL
  have e1 : (Rep.againL r (k :: L)).1 = (Rep.againL (again r k).1 L).1 := rfl
  have e2 : (Rep.againL r (k :: L)).2 = (again r k).2 ++ (Rep.againL (again r k).1 L).2 := rfl
  have hP : ∀ j, (again r k).1.P j = if j = k then anew (r.P k) else r.P j := fun j => by rw [a1]; rfl
  refine ⟨fun j => ?_, by rw [e1, b2, a1]; rfl, fun x => ?_⟩
  ·rw [e1, b1 j, hP]
   by_cases ej : j = k
   ·subst ej
    rw [if_neg hk, if_pos rfl, if_pos (List.mem_cons_self ..)]
   ·rw [if_neg ej]
    by_cases hj : j ∈ L
    ·rw [if_pos hj, if_pos (List.mem_cons_of_mem _ hj)]
    ·rw [if_neg hj, if_neg (fun h => (List.mem_cons.1 h).elim ej hj)]
  ·rw [e2, List.mem_append, b3, a2]
   have hs : ∀ q w, sent (again r k).1 q w = sent r q w := fun q w => by rw [a1]; rfl
   constructor
   ·rintro (h | ⟨q, hq, d, hd, h⟩)
    ·cases hd : (r.P k).dr with
     | none => rw [hd] at h; cases h
     | some d => rw [hd] at h; exact ⟨k, List.mem_cons_self .., d, hd, h⟩
    ·rw [hP, if_neg (fun e => hk (by rw [← e]; exact hq))] at hd
     rw [hs] at h
     exact ⟨q, List.mem_cons_of_mem _ hq, d, hd, h⟩
   ·rintro ⟨q, hq, d, hd, h⟩
    rcases List.mem_cons.1 hq with eq | hq
    ·subst eq; left; rw [hd]; exact h
    ·right
     refine ⟨q, hq, d, ?_, by rw [hs]; exact h⟩
     rw [hP, if_neg (fun e => hk (by rw [← e]; exact hq))]
     exact hd
theorem enter_P (r : RS) (v : View.VS) (hi : inR { r with v := v } = true) : (∀ k, k < 6 → (Rep.enter r v).1.P k = anew (r.P k)) ∧ (∀ k, 6 ≤ k → (Rep.enter r v).1.P k = r.P k) ∧ (Rep.enter r v).1.has = r.has ∧
  (∀ x, x ∈ (Rep.enter r v).2 ↔ ∃ k, k < 6 ∧ ∃ d, (r.P k).dr = some d ∧ x ∈ sent { r with v := v } k d.w) := by
 obtain ⟨a, b, c⟩ := againL_P [0, 1, 2, 3, 4, 5] { r with v := v } hi (by decide)
 have hm : ∀ k, k ∈ [0, 1, 2, 3, 4, 5] ↔ k < 6 := fun k => by simp only [List.mem_cons, List.mem_nil_iff, or_false]; omega
 refine ⟨fun k hk => ?_, fun k hk => ?_, b, fun x => ?_⟩
 ·show (Rep.againL { r with v := v } [0, 1, 2, 3, 4, 5]).1.P k = anew (r.P k)
  rw [a k, if_pos ((hm k).2 hk)]
 ·show (Rep.againL { r with v := v } [0, 1, 2, 3, 4, 5]).1.P k = r.P k
  rw [a k, if_neg (fun h => absurd ((hm k).1 h) (by omega))]
 ·show x ∈ (Rep.againL { r with v := v } [0, 1, 2, 3, 4, 5]).2 ↔ _
  rw [c x]
  exact ⟨fun ⟨k, h1, h2⟩ => ⟨k, (hm k).1 h1, h2⟩, fun ⟨k, h1, h2⟩ => ⟨k, (hm k).2 h1, h2⟩⟩
theorem LJ.enter {n k : Nat} {g : Stp → Option Wrd} {P P' : Nat → Plc} {hs : Bool} {W W' : List Fm} (h : LJ n n k 1 g P hs W) (hP : ∀ i, i < n → P' i = anew (P i)) (hPn : P' n = ⟨⟨z0, 0⟩, none, 0⟩)
  (hW : ∀ x, x ∈ W' → x.key = k → x.epoch = 2 → ∃ i, i < n ∧ ∃ d, (P i).dr = some d ∧ x.kind = 1 ∧ x.w = d.w)
  (hev : ∀ i, i < n → ∀ d, (P i).dr = some d → ∀ j, j < n + 1 → j ≠ i → HasJ (n + 1) k 2 W' i j d) : LJ n (n + 1) k 2 g P' false W' := by
 have sc : ∀ j, j < n → (P' j).c = (P j).c := fun j hj => by rw [hP j hj]; exact anew_c _
 have lt : ∀ {j}, j < n + 1 → j ≠ n → j < n := fun {j} a b => by omega
 refine ⟨fun i hi => ?_, fun i hi => ?_, fun s w hg => ?_, fun i hi d ed => ?_, fun x hx ek ee => ?_, fun o ho hto => ?_, .inr rfl, h.hn, h.gz⟩
 ·by_cases eq : i = n
  ·subst eq; rw [hPn]; exact .inr ⟨rfl, rfl, rfl, rfl⟩
  ·rw [sc i (lt hi eq)]
   rcases h.st i (lt hi eq) with a | ⟨a, _⟩
   ·exact .inl a
   ·exact absurd a eq
 ·by_cases eq : i = n
  ·subst eq; rw [hPn]; exact h.gz
  ·rw [sc i (lt hi eq)]; exact h.cw i (lt hi eq)
 ·obtain ⟨a, b⟩ := h.gs s w hg
  exact ⟨a, b.imp id fun ⟨j, hj, h1, h2⟩ => ⟨j, hj, h1, by rw [sc j hj]; exact h2⟩⟩
 ·by_cases eq : i = n
  ·subst eq; rw [hPn] at ed; cases ed
  ·have hin := lt hi eq
   rw [hP i hin] at ed
   obtain ⟨d0, hd0, rfl⟩ := anew_dr ed
   have h1 := h.dr i hin d0 hd0
   have hn := h.hn
   refine ⟨fun ho => by rw [sc i hin]; exact h1.own ho, ⟨n, by omega, by omega, rfl⟩, fun j hj hji _ => (hev i hin d0 hd0 j hj hji).word rfl, (fun c => by cases c), by rw [sc i hin]; exact h1.le, (fun j _ c => by cases c), h1.ob, h1.w⟩
 ·obtain ⟨i, hi, d, hd, a, b⟩ := hW x hx ek ee
  exact ⟨fun _ => (by rw [b]; exact (h.dr i hi d hd).w), fun c => (by rw [a] at c; cases c), fun c => (by rw [a] at c; cases c)⟩
 ·obtain ⟨t, ht, hts, htop⟩ : ∃ t, t < n ∧ (P t).c.w.s = (P' o).c.w.s ∧ Top n P t := by
   by_cases eq : o = n
   ·subst eq
    have hz : ∀ j, j < o → (P j).c.w.s = zs := fun j hj => by
     have := hto j (by omega)
     rw [sc j hj, hPn] at this
     exact Le.anti this (zs_le _)
    exact ⟨0, h.hn, by rw [hz 0 h.hn, hPn]; rfl, fun j hj => by rw [hz j hj, hz 0 h.hn]; exact Le.refl _⟩
   ·exact ⟨o, lt ho eq, by rw [sc o (lt ho eq)], fun j hj => by have := hto j (by omega); rwa [sc j hj, sc o (lt ho eq)] at this⟩
  rw [← hts]
  rcases h.mx t ht htop with ⟨q, hq, d, e1, e2, e3⟩ | hc
  ·exact .inl ⟨q, by omega, newD d.w d.own, by rw [hP q hq]; exact anew_some e1, e2, e3⟩
  ·refine .inr ⟨fun j hj => by rw [sc j hj]; exact hc.all j hj, fun x hx eb => by rw [sc x hx]; exact hc.ow x hx eb, fun _ => .inr ⟨rfl, fun x hx ek ee e5 _ => ?_⟩⟩
   obtain ⟨_, _, _, _, a, _⟩ := hW x hx ek ee
   rw [a] at e5; cases e5
def vJ (n : Nat) : View.VS := (View.applyV (vN n) 1 (n + 1) 2 0).1
def entF (R : Nat → RS) (v : View.VS) : Nat → List Fm
 | 0 => []
 | i + 1 => entF R v i ++ (Rep.enter (R i) v).2
theorem mem_entF {R : Nat → RS} {v : View.VS} {x : Fm} : ∀ m, x ∈ entF R v m ↔ ∃ i, i < m ∧ x ∈ (Rep.enter (R i) v).2
 | 0 => ⟨fun h => (by cases h), fun ⟨_, h, _⟩ => absurd h (Nat.not_lt_zero _)⟩
 | m + 1 => by
  show x ∈ entF R v m ++ (Rep.enter (R m) v).2 ↔ _
  rw [List.mem_append, mem_entF m]
  constructor
  ·rintro (⟨i, hi, h⟩ | h)
   ·exact ⟨i, by omega, h⟩
   ·exact ⟨m, by omega, h⟩
  ·rintro ⟨i, hi, h⟩
   by_cases eq : i = m
   ·subst eq; exact .inr h
   ·exact .inl ⟨i, by omega, h⟩
end Rep
end Go.Proofs.Ytafcbipmmjegcaa
namespace Go.Proofs.Ytafcbipmmjegcaa
namespace Rep
open Vm.X5 (hasV othV aheadV behindV)
theorem again_self (r : RS) (k : Nat) : (again r k).1.self = r.self ∧ (again r k).1.life = r.life ∧ (again r k).1.v = r.v := by
 unfold again
 split
 ·exact ⟨rfl, rfl, rfl⟩
 ·split <;> exact ⟨rfl, rfl, rfl⟩
theorem againL_selfJ : ∀ (L : List Nat) (r : RS), (Rep.againL r L).1.self = r.self ∧ (Rep.againL r L).1.life = r.life ∧ (Rep.againL r L).1.v = r.v
 | [], _ => ⟨rfl, rfl, rfl⟩
 | k :: L, r => by
  obtain ⟨a1, a2, a3⟩ := again_self r k
  obtain ⟨b1, b2, b3⟩ := againL_selfJ L (again r k).1
  exact ⟨b1.trans a1, b2.trans a2, b3.trans a3⟩
theorem enter_self (r : RS) (v : View.VS) : (Rep.enter r v).1.self = r.self ∧ (Rep.enter r v).1.life = r.life ∧ (Rep.enter r v).1.v = v := againL_selfJ _ _
theorem vJ_ms {n : Nat} (h1 : 1 ≤ n) (h4 : n ≤ 4) : (vJ n).ms = Vm.X5.firstM n ++ [⟨n + 1, 2, false⟩] ∧ (vJ n).e = 2 := by
 have hc : n = 1 ∨ n = 2 ∨ n = 3 ∨ n = 4 := by omega
 rcases hc with rfl|rfl|rfl|rfl <;> exact ⟨by decide, by decide⟩
theorem hasV_node {ms : List View.Mem} {b l : Nat} (h : hasV ms b l = true) : ∃ j, ∃ hj : j < ms.length, (ms[j]'hj).node = b := by
 refine Classical.byContradiction fun hno => ?_
 have hat : View.atI ms b = -1 := View.atI_none fun j hj e => hno ⟨j, hj, e⟩
 have hf : Vm.X5.findV ms b = (⟨0, 0, false⟩, false) := by unfold Vm.X5.findV; rw [hat]; rfl
 unfold Vm.X5.hasV at h
 rw [hf] at h
 cases h
theorem vw_J {n i : Nat} (h1 : 1 ≤ n) (h4 : n ≤ 4) (hi : i < n + 1) {r : RS} (hs : r.self = i + 1) (hl : r.life = if i = n then 2 else 1) (hv : r.v = vJ n) : VW n (n + 1) 2 i r := by
 obtain ⟨m1, m2⟩ := vJ_ms h1 h4
 have hms : r.v.ms = Vm.X5.firstM n ++ [⟨n + 1, 2, false⟩] := by rw [hv]; exact m1
 have hc : n = 1 ∨ n = 2 ∨ n = 3 ∨ n = 4 := by omega
 have hoth : Rep.oth r = othV (Vm.X5.firstM n ++ [⟨n + 1, 2, false⟩]) (i + 1) := by unfold Rep.oth; rw [hms, hs]
 refine ⟨hs, ?_, ?_, ?_, by omega, fun b l hb => ?_, ?_, by rw [hv]; exact m2, ?_, ?_, ?_⟩
 ·unfold Rep.inR; rw [hms, hs, hl]
  rcases hc with rfl|rfl|rfl|rfl <;> (have hi' : i = 0 ∨ i = 1 ∨ i = 2 ∨ i = 3 ∨ i = 4 := by omega) <;> rcases hi' with rfl|rfl|rfl|rfl|rfl <;> first | omega | decide
 ·rw [hoth]
  rcases hc with rfl|rfl|rfl|rfl <;> (have hi' : i = 0 ∨ i = 1 ∨ i = 2 ∨ i = 3 ∨ i = 4 := by omega) <;> rcases hi' with rfl|rfl|rfl|rfl|rfl <;> first | omega | decide
 ·rw [hoth]
  rcases hc with rfl|rfl|rfl|rfl <;> (have hi' : i = 0 ∨ i = 1 ∨ i = 2 ∨ i = 3 ∨ i = 4 := by omega) <;> rcases hi' with rfl|rfl|rfl|rfl|rfl <;> first | omega | decide
 ·rw [hms] at hb
  obtain ⟨j, hj, e⟩ := hasV_node hb
  have hl : (Vm.X5.firstM n ++ ([⟨n + 1, 2, false⟩] : List View.Mem)).length = n + 1 := by rw [List.length_append, Vm.X5.firstM_len]; rfl
  refine ⟨j, by rw [hl] at hj; exact hj, ?_⟩
  rw [← e, List.getElem_append]
  split
  ·simp [Vm.X5.firstM]
  ·rename_i h
   rw [Vm.X5.firstM_len] at h
   have : j = n := by omega
   subst this
   simp [Vm.X5.firstM_len]
 ·rw [hms]
  rcases hc with rfl|rfl|rfl|rfl <;> decide
 ·rw [hms, hs]
  rcases hc with rfl|rfl|rfl|rfl <;> (have hi' : i = 0 ∨ i = 1 ∨ i = 2 ∨ i = 3 ∨ i = 4 := by omega) <;> rcases hi' with rfl|rfl|rfl|rfl|rfl <;> first | omega | decide
 ·rw [hms, hs]
  rcases hc with rfl|rfl|rfl|rfl <;> (have hi' : i = 0 ∨ i = 1 ∨ i = 2 ∨ i = 3 ∨ i = 4 := by omega) <;> rcases hi' with rfl|rfl|rfl|rfl|rfl <;> first | omega | decide
 ·rw [hoth]
  rcases hc with rfl|rfl|rfl|rfl <;> (have hi' : i = 0 ∨ i = 1 ∨ i = 2 ∨ i = 3 ∨ i = 4 := by omega) <;> rcases hi' with rfl|rfl|rfl|rfl|rfl <;> first | omega | decide
theorem wts_againL {n N M i : Nat} {e : Int} {S : Nat → List Stp} (hi : i < N) (hNM : N ≤ M) (hM : M ≤ 5) : ∀ (L : List Nat) (r : RS), VW n N e i r → wts S M (Rep.againL r L).2 ≤ 268 * L.length
 | [], _, _ => Nat.zero_le _
 | k :: L, r, v => by
  obtain ⟨a1, a2⟩ := again_P r k v.inr
  have h1 : wts S M (again r k).2 ≤ 268 := by
   rw [a2]
   split
   ·exact Nat.zero_le _
   ·exact wts_sentJ v hi hNM hM _ _
  have h2 := wts_againL (S := S) hi hNM hM L (again r k).1 (by rw [a1]; exact v.setP _ _)
  show wts S M ((again r k).2 ++ (Rep.againL (again r k).1 L).2) ≤ _
  rw [wts_app, List.length_cons]
  omega
def newJ (n : Nat) (R : Nat → RS) : Nat → RS := put R n (begun (n + 1) 2 false)
def entR (R : Nat → RS) (v : View.VS) (m : Nat) : Nat → RS := fun i => if i < m then (Rep.enter (R i) v).1 else R i
theorem CJ.enter {n M w b : Nat} {R : Nat → RS} {W : List Fm} (h : CJ n n M 1 w b R W) (h1 : 1 ≤ n) (h4 : n ≤ 4) (hM : n + 1 ≤ M) (hl : ∀ i, i < n → (R i).life = 1) :
  CJ n (n + 1) M 2 w (b + 8040) (entR (newJ n R) (vJ n) (n + 1)) (W ++ entF (newJ n R) (vJ n) (n + 1)) := by
 obtain ⟨S, s1, s2, s3, s4, s5⟩ := h.s
 have hm5 := h.m.2
 have old : ∀ {i}, i < n → newJ n R i = R i := fun {i} hi => put_ne _ _ _ (by omega)
 have new : newJ n R n = begun (n + 1) 2 false := put_at _ _ _
 have eR : ∀ {i}, i < n + 1 → entR (newJ n R) (vJ n) (n + 1) i = (Rep.enter (newJ n R i) (vJ n)).1 := fun {i} hi => if_pos hi
 have life : ∀ {i}, i < n + 1 → (newJ n R i).self = i + 1 ∧ (newJ n R i).life = if i = n then 2 else 1 := fun {i} hi => by
  by_cases eq : i = n
  ·rw [if_pos eq, eq, new]; exact ⟨rfl, rfl⟩
  ·rw [if_neg eq, old (by omega)]; exact ⟨(h.v i (by omega)).self, hl i (by omega)⟩
 have vb : ∀ {i}, i < n + 1 → VW n (n + 1) 2 i { newJ n R i with v := vJ n } := fun {i} hi => vw_J h1 h4 hi (life hi).1 (life hi).2 rfl
 have va : ∀ {i}, i < n + 1 → VW n (n + 1) 2 i (Rep.enter (newJ n R i) (vJ n)).1 := fun {i} hi => by
  obtain ⟨a, b, c⟩ := enter_self (newJ n R i) (vJ n)
  exact vw_J h1 h4 hi (a.trans (life hi).1) (b.trans (life hi).2) c
 have ep := fun {i} (hi : i < n + 1) => enter_P (newJ n R i) (vJ n) (vb hi).inr
 have nodr : ∀ k, ((newJ n R n).P k).dr = none := fun k => by rw [new]; rfl
 have old1 : ∀ f, f ∈ W → f.epoch ≠ 2 := fun f hf ee => by
  have := (h.fj f hf).2
  rw [ee] at this
  exact absurd this (by decide)
 have sentA : ∀ x, x ∈ entF (newJ n R) (vJ n) (n + 1) → ∃ i, i < n ∧ ∃ k, k < 6 ∧ ∃ d, ((R i).P k).dr = some d ∧ x ∈ sent { R i with v := vJ n } k d.w := fun x hx => by
  obtain ⟨i, hi, hx⟩ := (mem_entF _).1 hx
  obtain ⟨k, hk, d, hd, hx⟩ := ((ep hi).2.2.2 x).1 hx
  have hin : i < n := by
   by_cases eq : i = n
   ·subst eq; rw [nodr] at hd; cases hd
   ·omega
  rw [old hin] at hd hx
  exact ⟨i, hin, k, hk, d, hd, hx⟩
 refine ⟨fun i hi => by rw [eR hi]; exact va hi, fun i hi k hk => ?_, fun f hf => ?_, fun k hk => ?_, ⟨S, s1, fun i hi => ?_, ?_, ?_, s5⟩, hM, hm5⟩
 ·rw [eR (by omega), (ep (by omega)).2.2.1, old hi]; exact h.has i hi k hk
 ·rcases List.mem_append.1 hf with hf | hf
  ·obtain ⟨a, b⟩ := h.fj f hf
   obtain ⟨j, hj, eq⟩ := a.to
   exact ⟨⟨a.key, ⟨j, by omega, eq⟩, fun ee => absurd ee (old1 f hf)⟩, Int.le_trans b (by decide)⟩
  ·obtain ⟨i, hi, k, hk, d, _, hx⟩ := sentA f hf
   have v := vb (i := i) (by omega)
   rw [old hi] at v
   obtain ⟨a, b⟩ := fj_sent v (by omega) hk d.w f hx
   exact ⟨a, by rw [b]; exact Int.le_refl _⟩
 ·obtain ⟨g, l⟩ := h.K k hk
  have hh : (entR (newJ n R) (vJ n) (n + 1) n).has k = false := by rw [eR (by omega), (ep (by omega)).2.2.1, new]; rfl
  rw [hh]
  refine ⟨g, l.enter (fun i hi => ?_) ?_ (fun x hx ek ee => ?_) (fun i hi d hd j hj hji => ?_)⟩
  ·show (entR (newJ n R) (vJ n) (n + 1) i).P k = anew ((R i).P k)
   rw [eR (by omega), (ep (by omega)).1 k hk, old hi]
  ·show (entR (newJ n R) (vJ n) (n + 1) n).P k = _
   rw [eR (by omega), (ep (by omega)).1 k hk]
   unfold anew
   rw [nodr]
   rw [new]; rfl
  ·rcases List.mem_append.1 hx with hx | hx
   ·exact absurd ee (old1 x hx)
   ·obtain ⟨i, hi, q, hq, d, hd, hx⟩ := sentA x hx
    obtain ⟨a1, a2, a3⟩ := sent_kind hx
    have : q = k := a3.symm.trans ek
    subst this
    exact ⟨i, hi, d, hd, a1, a2⟩
  ·have v := vb (i := i) (by omega)
   obtain ⟨x, g1, g2, g0, g3, g4, g5, g6⟩ := sent_headsJ (k := k) v (by omega) d.w hj hji
   refine ⟨x, List.mem_append.2 (.inr ((mem_entF _).2 ⟨i, by omega, ((ep (by omega)).2.2.2 x).2 ⟨k, hk, d, by rw [old hi]; exact hd, g1⟩⟩)), g2, g0, .inl ⟨g3, g4, g5, g6⟩⟩
 ·rw [eR hi]
  intro k
  have base : (fun k s => s ∈ S k) k ((newJ n R i).P k).c.w.s ∧ ∀ d, ((newJ n R i).P k).dr = some d → (fun k s => s ∈ S k) k d.w.s := by
   by_cases eq : i = n
   ·subst eq; exact ⟨by rw [new]; exact s5 k, fun d hd => by rw [nodr] at hd; cases hd⟩
   ·rw [old (by omega)]; exact s2 i (by omega) k
  by_cases hk : k < 6
  ·rw [(ep hi).1 k hk]
   refine ⟨by rw [anew_c]; exact base.1, fun d hd => ?_⟩
   obtain ⟨d0, hd0, rfl⟩ := anew_dr hd
   exact base.2 d0 hd0
  ·rw [(ep hi).2.1 k (by omega)]; exact base
 ·refine s3.app fun x hx _ => ?_
  obtain ⟨i, hi, k, hk, d, hd, hx⟩ := sentA x hx
  obtain ⟨a1, a2, a3⟩ := sent_kind hx
  rw [a2, a3]
  exact (s2 i hi k).2 d hd
 ·rw [wts_app]
  have hE : ∀ m, m ≤ n + 1 → wts S M (entF (newJ n R) (vJ n) m) ≤ 1608 * m := by
   intro m
   induction m with
   | zero => intro _; exact Nat.zero_le _
   | succ m ih =>
    intro hm
    show wts S M (entF (newJ n R) (vJ n) m ++ (Rep.enter (newJ n R m) (vJ n)).2) ≤ _
    rw [wts_app]
    have a := ih (by omega)
    have c : wts S M (Rep.enter (newJ n R m) (vJ n)).2 ≤ 268 * 6 := wts_againL (S := S) (by omega) hM hm5 [0, 1, 2, 3, 4, 5] _ (vb (i := m) (by omega))
    omega
  have := hE (n + 1) (Nat.le_refl _)
  omega
end Rep
end Go.Proofs.Ytafcbipmmjegcaa
