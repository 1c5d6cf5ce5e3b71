/- Texts of this claim: RiA, RiB, RiC. -/
import Derived.Test.YtafcbipmmjegcaaMg32
namespace Go.Proofs.Ytafcbipmmjegcaa
namespace Rep
open Vm.X5 (hasV othV aheadV behindV)
abbrev zs : Stp := ⟨0, 0, 0⟩
theorem zs_le (s : Stp) : Le zs s := by
 unfold Le
 cases h : less s zs with
 | false => rfl
 | true => rw [less_iff] at h; dsimp only at h; omega
def HasJ (N k : Nat) (e : Int) (W : List Fm) (i j : Nat) (d : Drv) : Prop := ∃ f, f ∈ W ∧ f.key = k ∧ f.epoch = e ∧ Evi N i j d f
structure LDJ (N k : Nat) (e : Int) (g : Stp → Option Wrd) (P : Nat → Plc) (W : List Fm) (i : Nat) (d : Drv) : Prop where
 own : d.own = false ∨ d.w.r = true → (P i).c.w.s = d.w.s
 nd : ∃ j, j < N ∧ j ≠ i ∧ d.acks (j + 1) = false
 ev : ∀ j, j < N → j ≠ i → d.acks (j + 1) = false → HasJ N k e W i j d
 cv : d.cov = true → Above N P d.w.s
 le : Le d.w.s (P i).c.w.s
 ak : ∀ j, j < N → d.acks (j + 1) = true → Le d.w.s (P j).c.w.s
 ob : d.own = true → d.w.s.b = i + 1
 w : g d.w.s = some d.w
structure Had (n N k : Nat) (e : Int) (P : Nat → Plc) (hs : Bool) (W : List Fm) (s : Stp) : Prop where
 all : ∀ j, j < n → (P j).c.w.s = s
 ow : ∀ o, o < n → s.b = o + 1 → (P o).c.st = 1
 jn : N = n + 1 → ((P n).c.st ≠ 0 ∧ (P n).c.w.s = s) ∨ (hs = false ∧ ∀ f, f ∈ W → f.key = k → f.epoch = e → f.kind = 5 → f.to = ad (n + 1) → f.w.s = s)
def Driven (N : Nat) (P : Nat → Plc) (s : Stp) : Prop := ∃ q, q < N ∧ ∃ d, (P q).dr = some d ∧ d.own = true ∧ d.w.s = s
structure FrJ (N : Nat) (g : Stp → Option Wrd) (P : Nat → Plc) (f : Fm) : Prop where
 w : f.kind = 1 ∨ f.kind = 5 → g f.w.s = some f.w
 a : f.kind = 2 → ∀ j, j < N → f.frm = ad (j + 1) → Le f.w.s (P j).c.w.s
 c : f.kind = 2 → f.flag = true → Above N P f.w.s
structure LJ (n N k : Nat) (e : Int) (g : Stp → Option Wrd) (P : Nat → Plc) (hs : Bool) (W : List Fm) : Prop where
 st : ∀ i, i < N → ((P i).c.st = 1 ∨ (P i).c.st = 2) ∨ (i = n ∧ (P i).c.st = 0 ∧ (P i).c.w.s = zs ∧ hs = false)
 cw : ∀ i, i < N → g (P i).c.w.s = some (P i).c.w
 gs : ∀ s w, g s = some w → w.s = s ∧ (s = zs ∨ ∃ i, i < n ∧ s.b = i + 1 ∧ Le s (P i).c.w.s)
 dr : ∀ i, i < N → ∀ d, (P i).dr = some d → LDJ N k e g P W i d
 fr : ∀ f, f ∈ W → f.key = k → f.epoch = e → FrJ N g P f
 mx : ∀ i, i < N → Top N P i → Driven N P (P i).c.w.s ∨ Had n N k e P hs W (P i).c.w.s
 hN : N = n ∨ N = n + 1
 hn : 0 < n
 gz : g zs = some z0
section
variable {n N k i : Nat} {e : Int} {g : Stp → Option Wrd} {P : Nat → Plc} {hs hs' : Bool} {W W0 W' F : List Fm} {r : RS} {p : Plc} {f : Fm}
theorem LJ.und (h : LJ n N k e g P hs W) {s : Stp} {w : Wrd} (hg : g s = some w) : Under N P s := by
 have hN : n ≤ N := by rcases h.hN with e | e <;> omega
 rcases (h.gs s w hg).2 with e | ⟨j, hj, _, hl⟩
 ·exact ⟨0, Nat.lt_of_lt_of_le h.hn hN, by rw [e]; exact zs_le _⟩
 ·exact ⟨j, by omega, hl⟩
theorem FrJ.up (h : FrJ N g P f) (hl : Le (P i).c.w.s p.c.w.s) : FrJ N g (put P i p) f :=
 ⟨h.w, fun ek j hj ef => (h.a ek j hj ef).tr (put_le hl j), fun ek ef => (h.c ek ef).up hl⟩
theorem HasJ.mono {q j : Nat} {d : Drv} (h : HasJ N k e W q j d) (hs : ∀ f, f ∈ W → f.key = k → f ∈ W') : HasJ N k e W' q j d := by
 obtain ⟨f, h1, h2, h3⟩ := h
 exact ⟨f, hs f h1 h2, h2, h3⟩
theorem HasJ.next {q j : Nat} {d : Drv} (h : HasJ N k e (f :: W0) q j d) (hx : f.key = k → f.epoch = e → Evi N q j d f → HasJ N k e F q j d) : HasJ N k e (W0 ++ F) q j d := by
 obtain ⟨g, h1, h2, h3, h4⟩ := h
 rcases List.mem_cons.1 h1 with e | h1
 ·subst e
  exact (hx h2 h3 h4).mono fun f hf _ => List.mem_append.2 (.inr hf)
 ·exact ⟨g, List.mem_append.2 (.inl h1), h2, h3, h4⟩
theorem HasJ.word {q j : Nat} {d d' : Drv} (h : HasJ N k e W q j d) (ew : d'.w = d.w) : HasJ N k e W q j d' := by
 obtain ⟨f, h1, h2, h3, h4⟩ := h
 exact ⟨f, h1, h2, h3, by unfold Evi at *; rw [ew]; exact h4⟩
theorem LJ.move (h : LJ n N k e g P hs W) (hi : i < N) (hl : Le (P i).c.w.s p.c.w.s) (hst : (p.c.st = 1 ∨ p.c.st = 2) ∨ (i = n ∧ p.c.st = 0 ∧ p.c.w.s = zs ∧ hs' = false)) (hh : hs' = hs ∨ i = n)
  (hcw : g p.c.w.s = some p.c.w) (hd : ∀ d, p.dr = some d → LDJ N k e g (put P i p) W' i d)
  (hev : ∀ q, q < N → q ≠ i → ∀ d, (P q).dr = some d → ∀ j, j < N → j ≠ q → d.acks (j + 1) = false → HasJ N k e W' q j d)
  (hfr : ∀ f, f ∈ W' → f.key = k → f.epoch = e → f ∈ W ∨ FrJ N g (put P i p) f)
  (hmx : ∀ o, o < N → Top N (put P i p) o → Driven N (put P i p) (put P i p o).c.w.s ∨ Had n N k e (put P i p) hs' W' (put P i p o).c.w.s) : LJ n N k e g (put P i p) hs' W' := by
 refine ⟨fun q hq => ?_, fun q hq => ?_, fun s w hg => ?_, fun q hq d ed => ?_, fun f hf ek ee => ?_, hmx, h.hN, h.hn, h.gz⟩
 ·by_cases eq : q = i
  ·subst eq; rw [put_at]; exact hst
  ·rw [put_ne _ _ _ eq]
   rcases h.st q hq with h1 | ⟨h1, h2, h3, h4⟩
   ·exact .inl h1
   ·rcases hh with hh | hh
    ·exact .inr ⟨h1, h2, h3, hh.trans h4⟩
    ·exact absurd (h1.trans hh.symm) eq
 ·by_cases eq : q = i
  ·subst eq; rw [put_at]; exact hcw
  ·rw [put_ne _ _ _ eq]; exact h.cw q hq
 ·obtain ⟨a, b⟩ := h.gs s w hg
  exact ⟨a, b.imp id fun ⟨j, hj, h1, h2⟩ => ⟨j, hj, h1, h2.tr (put_le hl j)⟩⟩
 ·by_cases eq : q = i
  ·subst eq; rw [put_at] at ed; exact hd d ed
  ·rw [put_ne _ _ _ eq] at ed
   have h1 := h.dr q hq d ed
   exact ⟨fun ho => by rw [put_ne _ _ _ eq]; exact h1.own ho, h1.nd, fun j hj hjq ha => hev q hq eq d ed j hj hjq ha, fun c => (h1.cv c).up hl, h1.le.tr (put_le hl q), fun j hj ha => (h1.ak j hj ha).tr (put_le hl j), h1.ob, h1.w⟩
 ·rcases hfr f hf ek ee with h1 | h1
  ·exact (h.fr f h1 ek ee).up hl
  ·exact h1
theorem LJ.mxA (h : LJ n N k e g P hs W) (hs1 : p.c.w.s = (P i).c.w.s) (hst : (P i).c.st = 1 → p.c.st = 1) (hst0 : (P i).c.st ≠ 0 → p.c.st ≠ 0)
  (hd : ∀ d, (P i).dr = some d → d.own = true → ∃ d', p.dr = some d' ∧ d'.own = true ∧ d'.w.s = d.w.s)
  (hjn : ∀ s, N = n + 1 → Had n N k e P hs W s → (hs = false ∧ ∀ f, f ∈ W → f.key = k → f.epoch = e → f.kind = 5 → f.to = ad (n + 1) → f.w.s = s) →
   ((put P i p n).c.st ≠ 0 ∧ (put P i p n).c.w.s = s) ∨ (hs' = false ∧ ∀ f, f ∈ W' → f.key = k → f.epoch = e → f.kind = 5 → f.to = ad (n + 1) → f.w.s = s)) :
  ∀ o, o < N → Top N (put P i p) o → Driven N (put P i p) (put P i p o).c.w.s ∨ Had n N k e (put P i p) hs' W' (put P i p o).c.w.s := by
 have sc : ∀ j, (put P i p j).c.w.s = (P j).c.w.s := fun j => by
  by_cases eq : j = i
  ·subst eq; rw [put_at]; exact hs1
  ·rw [put_ne _ _ _ eq]
 have st1 : ∀ j, (P j).c.st = 1 → (put P i p j).c.st = 1 := fun j hj => by
  by_cases eq : j = i
  ·subst eq; rw [put_at]; exact hst hj
  ·rw [put_ne _ _ _ eq]; exact hj
 have st0 : ∀ j, (P j).c.st ≠ 0 → (put P i p j).c.st ≠ 0 := fun j hj => by
  by_cases eq : j = i
  ·subst eq; rw [put_at]; exact hst0 hj
  ·rw [put_ne _ _ _ eq]; exact hj
 intro o ho ht
 have ht' : Top N P o := fun j hj => by have := ht j hj; rwa [sc, sc] at this
 rw [sc]
 rcases h.mx o ho ht' with ⟨q, hq, d, e1, e2, e3⟩ | hc
 ·left
  by_cases eq : q = i
  ·subst eq
   obtain ⟨d', g1, g2, g3⟩ := hd d e1 e2
   exact ⟨q, hq, d', by rw [put_at]; exact g1, g2, g3.trans e3⟩
  ·exact ⟨q, hq, d, by rw [put_ne _ _ _ eq]; exact e1, e2, e3⟩
 ·refine .inr ⟨fun j hj => by rw [sc]; exact hc.all j hj, fun q hq eb => st1 q (hc.ow q hq eb), fun hN => ?_⟩
  rcases hc.jn hN with ⟨h1, h2⟩ | h1
  ·exact .inl ⟨st0 n h1, by rw [sc]; exact h2⟩
  ·exact hjn _ hN hc h1
theorem LJ.took (h : LJ n N k e g P hs W) (hi : i < N) (hless : less (P i).c.w.s p.c.w.s = true) (hst : p.c.st = 1 ∨ p.c.st = 2) (hh : hs' = hs ∨ i = n)
  (hcw : g p.c.w.s = some p.c.w) (hpd : ∀ d, p.dr = some d → (P i).dr = some d ∧ d.own = true ∧ d.w.r = false)
  (hev : ∀ q, q < N → ∀ d, (P q).dr = some d → (q = i → d.own = true ∧ d.w.r = false) → ∀ j, j < N → j ≠ q → d.acks (j + 1) = false → HasJ N k e W' q j d)
  (hfr : ∀ f, f ∈ W' → f.key = k → f.epoch = e → f ∈ W ∨ FrJ N g (put P i p) f)
  (hg5 : ∀ f, f ∈ W' → f.key = k → f.epoch = e → f.kind = 5 → f ∈ W)
  (hjn : ∀ s, N = n + 1 → i = n → hs' ≠ hs → (∀ f, f ∈ W → f.key = k → f.epoch = e → f.kind = 5 → f.to = ad (n + 1) → f.w.s = s) → p.c.w.s = s) : LJ n N k e g (put P i p) hs' W' := by
 have hl : Le (P i).c.w.s p.c.w.s := Le.of_less hless
 refine h.move hi hl (.inl hst) hh hcw (fun d ed => ?_) (fun q hq hqi d ed => hev q hq d ed (fun x => absurd x hqi)) hfr fun o ho ht => ?_
 ·obtain ⟨e1, e2, e3⟩ := hpd d ed
  have h1 := h.dr i hi d e1
  exact ⟨fun ho => by rcases ho with ho | ho <;> simp_all, h1.nd, fun j hj hji ha => hev i hi d e1 (fun _ => ⟨e2, e3⟩) j hj hji ha, fun c => (h1.cv c).up hl, h1.le.tr (put_le hl i), fun j hj ha => (h1.ak j hj ha).tr (put_le hl j), h1.ob, h1.w⟩
 ·obtain ⟨u, hu, hul⟩ := h.und hcw
  have hui : u ≠ i := fun eq => by
   subst eq
   unfold Le at hul
   rw [hless] at hul
   cases hul
  have huP : (put P i p u) = P u := put_ne _ _ _ hui
  have htop : ∃ t, t < N ∧ t ≠ i ∧ Top N P t ∧ (P t).c.w.s = (put P i p o).c.w.s := by
   by_cases eq : o = i
   ·subst eq
    rw [put_at]
    have h1 : Le (P u).c.w.s p.c.w.s := by have := ht u hu; rwa [put_at, huP] at this
    have h2 : (P u).c.w.s = p.c.w.s := Le.anti h1 hul
    refine ⟨u, hu, hui, fun j hj => ?_, h2⟩
    rw [h2]
    have := ht j hj
    rw [put_at] at this
    exact (put_le hl j).tr this
   ·refine ⟨o, ho, eq, fun j hj => ?_, by rw [put_ne _ _ _ eq]⟩
    have := ht j hj
    rw [put_ne _ _ _ eq] at this
    exact (put_le hl j).tr this
  obtain ⟨t, ht1, hti, ht2, ht3⟩ := htop
  rw [← ht3]
  have hpt : Le p.c.w.s (P t).c.w.s := hul.tr (ht2 u hu)
  have hlt : less (P i).c.w.s (P t).c.w.s = true := less_le hless hpt
  rcases h.mx t ht1 ht2 with ⟨q, hq, d, e1, e2, e3⟩ | hc
  ·left
   have hqi : q ≠ i := fun eq => by
    subst eq
    have h1 := (h.dr q hq d e1).le
    rw [e3] at h1
    unfold Le at h1
    rw [hlt] at h1
    cases h1
   exact ⟨q, hq, d, by rw [put_ne _ _ _ hqi]; exact e1, e2, e3⟩
  ·right
   have hin : ¬ i < n := fun hin => by
    have := hc.all i hin
    rw [this, less_irr] at hlt
    cases hlt
   have hiN : i = n ∧ N = n + 1 := by rcases h.hN with eq | eq <;> omega
   refine ⟨fun j hj => by rw [put_ne _ _ _ (by omega)]; exact hc.all j hj, fun q hq eb => by rw [put_ne _ _ _ (by omega)]; exact hc.ow q hq eb, fun _ => ?_⟩
   rcases hc.jn hiN.2 with ⟨_, h2⟩ | ⟨h1, h2⟩
   ·rw [← hiN.1] at h2
    rw [h2, less_irr] at hlt
    cases hlt
   ·by_cases eq : hs' = hs
    ·by_cases es : p.c.w.s = (P t).c.w.s
     ·left; rw [← hiN.1, put_at]
      exact ⟨by rcases hst with h | h <;> rw [h] <;> decide, es⟩
     ·right
      exact ⟨eq.trans h1, fun f hf ek ee e5 et => h2 f (hg5 f hf ek ee e5) ek ee e5 et⟩
    ·left
     rw [← hiN.1, put_at]
     exact ⟨by rcases hst with h | h <;> rw [h] <;> decide, hjn _ hiN.2 hiN.1 eq h2⟩
theorem LJ.same (h : LJ n N k e g P hs W) (hi : i < N)
  (hev : ∀ q, q < N → ∀ d, (P q).dr = some d → ∀ j, j < N → j ≠ q → d.acks (j + 1) = false → HasJ N k e W' q j d)
  (hfr : ∀ f, f ∈ W' → f.key = k → f.epoch = e → f ∈ W ∨ FrJ N g P f)
  (hg5 : ∀ f, f ∈ W' → f.key = k → f.epoch = e → f.kind = 5 → f.to = ad (n + 1) → f ∈ W ∨ ∀ s, (∀ j, j < n → (P j).c.w.s = s) → f.w.s = s) : LJ n N k e g P hs W' := by
 have := h.move (p := P i) (W' := W') (hs' := hs) hi (Le.refl _) (h.st i hi) (.inl rfl) (h.cw i hi) (fun d ed => by
   have h1 := h.dr i hi d ed
   rw [put_self]
   exact ⟨h1.own, h1.nd, fun j hj hji ha => hev i hi d ed j hj hji ha, h1.cv, h1.le, h1.ak, h1.ob, h1.w⟩) (fun q hq _ d ed => hev q hq d ed) (by rw [put_self]; exact hfr)
  (h.mxA rfl id id (fun d ed o => ⟨d, ed, o, rfl⟩) (fun s _ hc ⟨h1, h2⟩ => .inr ⟨h1, fun f hf ek ee e5 et => (hg5 f hf ek ee e5 et).elim (fun hf => h2 f hf ek ee e5 et) fun x => x s hc.all⟩))
 rwa [put_self] at this
theorem LJ.tells (h : LJ n N k e g P hs W) (hi : i < N) (hw : p.c.w = (P i).c.w) (hst : p.c.st = 1 ∧ (P i).c.st ≠ 0 ∨ p.c.st = (P i).c.st)
  (hpd : ∀ d', p.dr = some d' → ∃ d, (P i).dr = some d ∧ d'.w = d.w ∧ d'.own = d.own ∧ (d'.cov = true → Above N P d.w.s) ∧ (∃ j, j < N ∧ j ≠ i ∧ d'.acks (j + 1) = false) ∧ (∀ j, j < N → d'.acks (j + 1) = true → Le d.w.s (P j).c.w.s) ∧ ∀ j, j < N → j ≠ i → d'.acks (j + 1) = false → HasJ N k e W' i j d)
  (hkeep : ∀ d, (P i).dr = some d → d.own = true → ∃ d', p.dr = some d' ∧ d'.own = true ∧ d'.w.s = d.w.s)
  (hev : ∀ q, q < N → q ≠ i → ∀ d, (P q).dr = some d → ∀ j, j < N → j ≠ q → d.acks (j + 1) = false → HasJ N k e W' q j d)
  (hfr : ∀ f, f ∈ W' → f.key = k → f.epoch = e → f ∈ W ∨ FrJ N g P f)
  (hg5 : ∀ f, f ∈ W' → f.key = k → f.epoch = e → f.kind = 5 → f ∈ W) : LJ n N k e g (put P i p) hs W' := by
 have hl : Le (P i).c.w.s p.c.w.s := by rw [hw]; exact Le.refl _
 have h0 : (P i).c.st ≠ 0 → p.c.st ≠ 0 := fun e0 => by rcases hst with ⟨a, _⟩ | a <;> rw [a]; decide; exact e0
 refine h.move hi hl ?_ (.inl rfl) (by rw [hw]; exact h.cw i hi) (fun d' ed => ?_) hev (fun f a b c => (hfr f a b c).imp id fun u => u.up hl)
  (h.mxA (by rw [hw]) (fun e1 => hst.elim And.left fun x => x.trans e1) h0 hkeep (fun s _ _ ⟨h1, h2⟩ => .inr ⟨h1, fun f hf ek ee e5 et => h2 f (hg5 f hf ek ee e5) ek ee e5 et⟩))
 ·rcases hst with ⟨a, _⟩ | a
  ·exact .inl (.inl a)
  ·rcases h.st i hi with h1 | ⟨h1, h2, h3, h4⟩
   ·exact .inl (by rw [a]; exact h1)
   ·exact .inr ⟨h1, a.trans h2, by rw [hw]; exact h3, h4⟩
 ·obtain ⟨d, e1, e2, e3, e4, e5, e6, e7⟩ := hpd d' ed
  have h1 := h.dr i hi d e1
  exact ⟨fun ho => by rw [put_at, hw, e2]; exact h1.own (by rw [e3, e2] at ho; exact ho), e5, fun j hj hji ha => (e7 j hj hji ha).word e2, fun c => by rw [e2]; exact (e4 c).up hl, by rw [e2]; exact h1.le.tr (put_le hl i), fun j hj ha => by rw [e2]; exact (e6 j hj ha).tr (put_le hl j), fun o => by rw [e2]; exact h1.ob (e3.symm.trans o), by rw [e2]; exact h1.w⟩
end
end Rep
end Go.Proofs.Ytafcbipmmjegcaa
namespace Go.Proofs.Ytafcbipmmjegcaa
namespace Rep
open Vm.X5 (hasV othV aheadV behindV)
structure VW (n N : Nat) (e : Int) (i : Nat) (r : RS) : Prop where
 self : r.self = i + 1
 inr : inR r = true
 oth : ∀ j, j < N → j ≠ i → j + 1 ∈ oth r
 ohas : ∀ x, x ∈ Rep.oth r → ∃ j, j < N ∧ j ≠ i ∧ x = j + 1
 few : N ≤ 5
 vh : ∀ b l, hasV r.v.ms b l = true → ∃ j, j < N ∧ b = j + 1
 om : ∀ j, j < n → hasV r.v.ms (j + 1) 1 = true
 e : r.v.e = e
 a : aheadV r.v.ms r.self = i
 b : behindV r.v.ms r.self = if i + 1 < N then i + 2 else 0
 ol : (Rep.oth r).length ≤ 4
structure FJ (N : Nat) (e : Int) (f : Fm) : Prop where
 key : f.key < 6
 to : ∃ j, j < N ∧ f.to = ad (j + 1)
 ends : f.epoch = e → ∃ i j, i < N ∧ j < N ∧ i ≠ j ∧ f.frm = ad (i + 1) ∧ f.to = ad (j + 1) ∧ (f.kind = 1 → f.dir = 0 ∨ (f.dir = 1 ∧ j < i) ∨ (f.dir = 2 ∧ i < j))
def FJs (N : Nat) (e : Int) (F : List Fm) : Prop := ∀ f, f ∈ F → FJ N e f ∧ f.epoch = e
section
variable {n N k i : Nat} {e : Int} {r : RS}
theorem VW.keep {k : Nat} {r' : RS} (v : VW n N e i r) (h : Keep k r r') : VW n N e i r' := by
 have ho := oth_keep h
 exact ⟨h.self.trans v.self, by have := v.inr; unfold Rep.inR at *; rw [h.v, h.self, h.life]; exact this, fun j hj hji => by rw [ho]; exact v.oth j hj hji, fun x hx => v.ohas x (by rw [← ho]; exact hx), v.few, fun b l hb => v.vh b l (by rw [← h.v]; exact hb), fun j hj => by rw [h.v]; exact v.om j hj, by rw [h.v]; exact v.e, by rw [h.v, h.self]; exact v.a, by rw [h.v, h.self]; exact v.b, by rw [ho]; exact v.ol⟩
theorem FJs.nil : FJs N e [] := fun _ h => by cases h
theorem FJs.app {F F' : List Fm} (h : FJs N e F) (h' : FJs N e F') : FJs N e (F ++ F') := fun f hf => (List.mem_append.1 hf).elim (h f) (h' f)
theorem FJs.one {f : Fm} (h : FJ N e f) (he : f.epoch = e) : FJs N e [f] := fun x hx => by rw [List.mem_singleton] at hx; subst hx; exact ⟨h, he⟩
theorem fj_to (v : VW n N e i r) (hi : i < N) (hk : k < 6) {q : Nat} (hq : q < N) (hqi : q ≠ i) (kind : Nat) (w : Wrd) (fl : Bool) : FJs N e [frW r kind (q + 1) k w fl 0] :=
 FJs.one ⟨hk, ⟨q, hq, rfl⟩, fun _ => ⟨i, q, hi, hq, Ne.symm hqi, by show ad r.self = _; rw [v.self], rfl, fun _ => .inl rfl⟩⟩ v.e
theorem fj_sent (v : VW n N e i r) (hi : i < N) (hk : k < 6) (w : Wrd) : FJs N e (sent r k w) := by
 unfold sent
 rw [v.a, v.b]
 refine FJs.app ?_ ?_
 ·split
  ·exact FJs.nil
  ·rename_i h
   obtain ⟨q, rfl⟩ : ∃ q, i = q + 1 := ⟨i - 1, by omega⟩
   exact FJs.one ⟨hk, ⟨q, by omega, rfl⟩, fun _ => ⟨q + 1, q, hi, by omega, by omega, by show ad r.self = _; rw [v.self], rfl, fun _ => .inr (.inl ⟨rfl, by omega⟩)⟩⟩ v.e
 ·by_cases hb : i + 1 < N
  ·rw [if_pos hb, if_neg (by omega)]
   exact FJs.one ⟨hk, ⟨i + 1, hb, rfl⟩, fun _ => ⟨i, i + 1, hi, hb, by omega, by show ad r.self = _; rw [v.self], rfl, fun _ => .inr (.inr ⟨rfl, by omega⟩)⟩⟩ v.e
  ·rw [if_neg hb, if_pos rfl]; exact FJs.nil
theorem sent_headsJ (v : VW n N e i r) (hi : i < N) (w : Wrd) {j : Nat} (hj : j < N) (hji : j ≠ i) : ∃ f, f ∈ sent r k w ∧ f.key = k ∧ f.epoch = e ∧ f.kind = 1 ∧ f.frm = ad (i + 1) ∧ f.w = w ∧ Heads N f j := by
 unfold sent
 rw [v.a, v.b]
 by_cases h : j < i
 ·obtain ⟨q, rfl⟩ : ∃ q, i = q + 1 := ⟨i - 1, by omega⟩
  refine ⟨frW r 1 (q + 1) k w false 1, List.mem_append.2 (.inl (by rw [if_neg (by omega)]; exact List.mem_singleton.2 rfl)), rfl, v.e, rfl, by show ad r.self = _; rw [v.self], rfl, q, by omega, rfl, ?_⟩
  by_cases eq : q = j
  ·exact .inl eq
  ·exact .inr (.inr ⟨rfl, by omega⟩)
 ·have hb : i + 1 < N := by omega
  rw [if_pos hb]
  refine ⟨frW r 1 (i + 2) k w false 2, List.mem_append.2 (.inr (by rw [if_neg (by omega)]; exact List.mem_singleton.2 rfl)), rfl, v.e, rfl, by show ad r.self = _; rw [v.self], rfl, i + 1, hb, rfl, ?_⟩
  by_cases eq : i + 1 = j
  ·exact .inl eq
  ·exact .inr (.inl ⟨rfl, by omega⟩)
theorem few100 (v : VW n N e i r) : N ≤ 100 := Nat.le_trans v.few (by decide)
theorem fj_sendOn (v : VW n N e i r) (hi : i < N) {f : Fm} (hf : FJ N e f) (he : f.epoch = e) (hk : f.kind = 1) (ht : f.to = ad (i + 1)) : FJs N e (sendOn r f) := by
 obtain ⟨q, j, hq, hj, hqj, e1, e2, e3⟩ := hf.ends he
 have : j = i := adj hj hi (few100 v) (e2.symm.trans ht)
 subst this
 unfold sendOn
 rw [v.a, v.b]
 split
 ·rename_i hd
  split
  ·exact FJs.nil
  ·rename_i h0
   obtain ⟨p, rfl⟩ : ∃ p, j = p + 1 := ⟨j - 1, by omega⟩
   have hlt : p + 1 < q := by rcases e3 hk with h | ⟨_, h⟩ | ⟨h, _⟩ <;> omega
   exact FJs.one ⟨hf.key, ⟨p, by omega, rfl⟩, fun _ => ⟨q, p, hq, by omega, by omega, e1, rfl, fun _ => .inr (.inl ⟨hd, by omega⟩)⟩⟩ he
 ·split
  ·rename_i hd
   by_cases hb : j + 1 < N
   ·rw [if_pos hb, if_neg (by omega)]
    have hlt : q < j := by rcases e3 hk with h | ⟨h, _⟩ | ⟨_, h⟩ <;> omega
    exact FJs.one ⟨hf.key, ⟨j + 1, hb, rfl⟩, fun _ => ⟨q, j + 1, hq, hb, by omega, e1, rfl, fun _ => .inr (.inr ⟨hd, by omega⟩)⟩⟩ he
   ·rw [if_neg hb, if_pos rfl]; exact FJs.nil
  ·exact FJs.nil
theorem relayJ (v : VW n N e i r) (hi : i < N) {f : Fm} (ht : f.to = ad (i + 1)) {j : Nat} (hj : j < N) (hji : j ≠ i) (h : Heads N f j) : ∃ g, g ∈ sendOn r f ∧ g.key = f.key ∧ g.epoch = f.epoch ∧ g.kind = f.kind ∧ g.frm = f.frm ∧ g.w = f.w ∧ Heads N g j := by
 obtain ⟨m', hm, e1, hh⟩ := h
 have : m' = i := adj hm hi (few100 v) (e1.symm.trans ht)
 subst this
 unfold sendOn
 rw [v.a, v.b]
 rcases hh with e2 | ⟨hd, hl⟩ | ⟨hd, hl⟩
 ·exact absurd e2.symm hji
 ·refine ⟨{ f with to := ad (m' + 2) }, ?_, rfl, rfl, rfl, rfl, rfl, m' + 1, by omega, rfl, ?_⟩
  ·rw [if_neg (by omega), if_pos hd, if_pos (show m' + 1 < N by omega), if_neg (by omega)]; exact List.mem_singleton.2 rfl
  ·by_cases eq : m' + 1 = j
   ·exact .inl eq
   ·exact .inr (.inl ⟨hd, by omega⟩)
 ·obtain ⟨q, rfl⟩ : ∃ q, m' = q + 1 := ⟨m' - 1, by omega⟩
  refine ⟨{ f with to := ad (q + 1) }, ?_, rfl, rfl, rfl, rfl, rfl, q, by omega, rfl, ?_⟩
  ·rw [if_pos hd, if_neg (by omega)]; exact List.mem_singleton.2 rfl
  ·by_cases eq : q = j
   ·exact .inl eq
   ·exact .inr (.inr ⟨hd, by omega⟩)
theorem sender_J (v : VW n N e i r) (hi : i < N) {f : Fm} (hf : FJ N e f) (he : f.epoch = e) (ht : f.to = ad (i + 1)) : ∃ q, q < N ∧ q ≠ i ∧ f.frm = ad (q + 1) ∧ sender r f = some (q + 1) := by
 obtain ⟨q, j, hq, hj, hqj, e1, e2, e3⟩ := hf.ends he
 have : j = i := adj hj hi (few100 v) (e2.symm.trans ht)
 subst this
 refine ⟨q, hq, hqj, e1, ?_⟩
 unfold sender
 rw [if_pos ⟨v.inr, by rw [v.self]; exact ht, by rw [v.e]; exact he, hf.key⟩]
 cases hx : (oth r).find? (fun n => ad n == f.frm) with
 | none =>
  have := List.find?_eq_none.1 hx (q + 1) (v.oth q hq hqj)
  simp [e1] at this
 | some x =>
  have h1 := List.find?_some hx
  obtain ⟨y, hy, _, eq⟩ := v.ohas _ (List.mem_of_find?_eq_some hx)
  subst eq
  have h2 : ad (y + 1) = ad (q + 1) := by rw [← e1]; simpa using h1
  rw [adj hy hq (few100 v) h2]
theorem on_old (v : VW n N e i r) {f : Fm} (he : f.epoch ≠ e) : on r f true = (r, [], []) := by
 unfold on sender
 rw [if_neg (fun h => he (h.2.2.1.trans v.e))]
theorem fj_look (v : VW n N e i r) (hi : i < N) (hk : k < 6) : FJs N e (look r k).2.1 := by
 unfold look
 split
 ·exact FJs.nil
 ·split
  ·split
   ·intro f hf
    obtain ⟨z, hz, rfl⟩ := List.mem_map.1 hf
    obtain ⟨j, hj, hji, rfl⟩ := v.ohas z hz
    exact fj_to v hi hk hj hji _ _ _ _ (List.mem_singleton.2 rfl)
   ·exact FJs.nil
  ·exact FJs.nil
theorem VW.setP (v : VW n N e i r) (k : Nat) (p : Plc) : VW n N e i (Rep.setP r k p) := ⟨v.self, v.inr, v.oth, v.ohas, v.few, v.vh, v.om, v.e, v.a, v.b, v.ol⟩
theorem fj_on (v : VW n N e i r) (hi : i < N) {f : Fm} (hf : FJ N e f) (ht : f.to = ad (i + 1)) : FJs N e (on r f true).2.1 := by
 by_cases he : f.epoch = e
 rotate_left
 ·rw [on_old v he]; exact FJs.nil
 obtain ⟨q, hq, hqi, hqf, hs⟩ := sender_J v hi hf he ht
 have one : ∀ kind w fl, FJs N e [frW r kind (q + 1) f.key w fl 0] := fun kind w fl => fj_to v hi hf.key hq hqi kind w fl
 unfold on
 rw [hs]
 dsimp only
 by_cases h1 : f.kind = 1
 ·rw [if_pos h1]
  have so := fj_sendOn v hi hf he h1 ht
  unfold onInv
  split
  ·exact so.app (one _ _ _)
  ·split
   ·exact so.app (one _ _ _)
   ·exact so.app (one _ _ _)
 rw [if_neg h1]
 by_cases h2 : f.kind = 2
 ·rw [if_pos h2, if_pos rfl]
  unfold onAck
  split
  ·exact FJs.nil
  ·split
   ·exact fj_look (v.setP _ _) hi hf.key
   ·exact FJs.nil
 rw [if_neg h2]
 by_cases h3 : f.kind = 3
 ·rw [if_pos h3]; exact FJs.nil
 rw [if_neg h3]
 by_cases h4 : f.kind = 4
 ·rw [if_pos h4]
  show FJs N e (onNeed r f (q + 1))
  unfold onNeed
  split
  ·exact one _ _ _
  ·exact FJs.nil
 rw [if_neg h4]
 by_cases h5 : f.kind = 5
 ·rw [if_pos h5]; exact FJs.nil
 rw [if_neg h5]
 exact FJs.nil
theorem fj_tickK (v : VW n N e i r) (hi : i < N) (hk : k < 6) (every replay : Nat) : FJs N e (tickK r k every replay true).2.1 := by
 unfold tickK
 split
 ·rw [if_pos rfl]
  refine (fj_look v hi hk).app ?_
  have kp := Keep.look r k
  unfold beat
  split
  ·exact FJs.nil
  ·dsimp only
   split
   ·exact fj_sent (v.keep kp) hi hk _
   ·exact FJs.nil
 ·dsimp only
  unfold stall
  split
  ·split
   ·split
    ·rename_i hh
     dsimp only
     split
     ·exact FJs.nil
     ·rename_i hne
      obtain ⟨j, hj, eq⟩ := v.vh _ _ hh.2
      rw [eq]
      exact fj_to v hi hk hj (fun e' => hne (by rw [eq, v.self, e'])) _ _ _
    ·exact fj_sent v hi hk _
   ·exact FJs.nil
  ·exact FJs.nil
theorem fj_write (v : VW n N e i r) (hi : i < N) (hk : k < 6) (b : Bool) (t : ByteArray) (rmw : Bool) : FJs N e (write r k b t rmw).1.2.1 := by
 unfold write
 split
 ·split
  ·exact FJs.nil
  ·exact (fj_sent v hi hk _).app (fj_look (v.setP _ _) hi hk)
 ·exact FJs.nil
end
end Rep
end Go.Proofs.Ytafcbipmmjegcaa
namespace Go.Proofs.Ytafcbipmmjegcaa
namespace Rep
open Vm.X5 (hasV othV aheadV behindV)
section
variable {n N k i q : Nat} {e : Int} {g : Stp → Option Wrd} {P : Nat → Plc} {hs : Bool} {W : List Fm} {r : RS} {f : Fm}
theorem LJ.inv_s (h : LJ n N k e g P hs (f :: W)) (hi : i < N) (v : VW n N e i r) (hr : r.P k = P i) (hk : f.key = k) (he : f.epoch = e) (ht : f.to = ad (i + 1)) (hq : q < N) (hqf : f.frm = ad (q + 1)) (hki : f.kind = 1) :
  LJ n N k e g (put P i ((onInv r f (q + 1)).1.P k)) hs (W ++ (onInv r f (q + 1)).2.1) := by
 subst hk
 have hn := few100 v
 have hin : Rep.inv (r.P f.key).c f.w = if less (r.P f.key).c.w.s f.w.s then (⟨f.w, 2⟩, 1) else if (r.P f.key).c.w.s = f.w.s then ((r.P f.key).c, 2) else if f.w.r then ((r.P f.key).c, 4) else ((r.P f.key).c, 3) := rfl
 have hgw : g f.w.s = some f.w := (h.fr f (List.mem_cons_self ..) rfl he).w (.inl hki)
 have was : ∀ q' j d, q' < N → Evi N q' j d f → (q' = q ∧ f.w = d.w ∧ Heads N f j) ∨ (q' = i ∧ d.w.r = true ∧ less d.w.s f.w.s = true) := fun q' j d hq' ev => by
  rcases ev with ⟨_, e1, e2, e3⟩ | ⟨e1, _⟩ | ⟨e1, _, e2, e3⟩
  ·exact .inl ⟨adj hq' hq hn (e1.symm.trans hqf), e2, e3⟩
  ·rw [hki] at e1; cases e1
  ·exact .inr ⟨adj hq' hi hn (e2.symm.trans ht), e1, e3⟩
 have rel : ∀ (A : Fm) j d, j < N → j ≠ i → f.w = d.w → Heads N f j → HasJ N f.key e (sendOn r f ++ [A]) q j d := fun A j d hj hji ew hh => by
  obtain ⟨x, g1, g2, g0, g3, g4, g5, g6⟩ := relayJ v hi ht hj hji hh
  exact ⟨x, List.mem_append.2 (.inl g1), g2, g0.trans he, .inl ⟨g3.trans hki, g4.trans hqf, g5.trans ew, g6⟩⟩
 have me : ad r.self = ad (i + 1) := by rw [v.self]
 have ack : ∀ (fl : Bool) d, f.w = d.w → HasJ N f.key e (sendOn r f ++ [frW r 2 (q + 1) f.key (zS f.w.s) fl 0]) q i d := fun fl d ew =>
  ⟨_, List.mem_append.2 (.inr (List.mem_singleton.2 rfl)), rfl, v.e, .inr (.inl ⟨rfl, me, rfl, by show f.w.s = d.w.s; rw [ew]⟩)⟩
 have so : ∀ {P' : Nat → Plc} {x : Fm}, x ∈ sendOn r f → FrJ N g P' x := fun {P' x} hx => by
  obtain ⟨a, b, _, _⟩ := sendOn_kind hx
  exact ⟨fun _ => (by rw [b]; exact hgw), fun e2 => (by rw [a, hki] at e2; cases e2), fun e2 => (by rw [a, hki] at e2; cases e2)⟩
 have no5 : ∀ (A : Fm), A.kind ≠ 5 → ∀ x, x ∈ W ++ (sendOn r f ++ [A]) → x.kind = 5 → x ∈ f :: W := fun A hA x hx e5 => by
  rcases List.mem_append.1 hx with hx | hx
  ·exact List.mem_cons_of_mem _ hx
  ·rcases List.mem_append.1 hx with hx | hx
   ·rw [(sendOn_kind hx).1, hki] at e5; cases e5
   ·rw [List.mem_singleton] at hx; subst hx; exact absurd e5 hA
 have ackF : ∀ (P' : Nat → Plc) (fl : Bool), Le f.w.s (P' i).c.w.s → (fl = true → Above N P' f.w.s) → FrJ N g P' (frW r 2 (q + 1) f.key (zS f.w.s) fl 0) := fun P' fl hl hfl =>
  ⟨fun ek => ek.elim (fun ek => absurd (show (2 : Nat) = 1 from ek) (by decide)) (fun ek => absurd (show (2 : Nat) = 5 from ek) (by decide)), fun _ j hj ej => by
   have : j = i := adj hj hi hn (ej.symm.trans me)
   subst this; exact hl, fun _ x => hfl x⟩
 have mem3 : ∀ {P' : Nat → Plc} (A : Fm), FrJ N g P' A → ∀ x, x ∈ W ++ (sendOn r f ++ [A]) → x ∈ f :: W ∨ FrJ N g P' x := fun {P'} A hA x hx => by
  rcases List.mem_append.1 hx with hx | hx
  ·exact .inl (List.mem_cons_of_mem _ hx)
  ·rcases List.mem_append.1 hx with hx | hx
   ·exact .inr (so hx)
   ·rw [List.mem_singleton] at hx; subst hx; exact .inr hA
 unfold onInv
 by_cases hl : less (r.P f.key).c.w.s f.w.s = true
 ·rw [if_pos hl] at hin
  rw [hin]
  dsimp only
  rw [if_neg (by decide), if_pos rfl]
  dsimp only
  obtain ⟨w1, w2, _⟩ := way_place (setC r f.key ⟨f.w, 2⟩) f.key
  rw [setC_P] at w1 w2
  refine h.took hi (by rw [w1, ← hr]; exact hl) (by rw [w1]; exact .inr rfl) (.inl rfl) (by rw [w1]; exact hgw) (fun d ed => by rw [← hr]; exact w2 d ed) (fun q' hq' d ed hown j hj hjq ha => ?_)
   (fun x hx _ _ => mem3 _ (ackF _ _ (by rw [put_at, w1]; exact Le.refl _) (fun c => by cases c)) x hx) (fun x hx _ _ e5 => no5 _ (fun (c : (2 : Nat) = 5) => by cases c) x hx e5) (fun s _ _ c _ => absurd rfl c)
  refine ((h.dr q' hq' d ed).ev j hj hjq ha).next fun _ _ ev => ?_
  rcases was q' j d hq' ev with ⟨rfl, e1, e2⟩ | ⟨e1, e2, _⟩
  ·by_cases hji : j = i
   ·subst hji; exact ack false d e1
   ·exact rel _ j d hj hji e1 e2
  ·rw [(hown e1).2] at e2; cases e2
 ·rw [if_neg hl] at hin
  have nodr : ∀ d, (P i).dr = some d → d.w.r = true → less d.w.s f.w.s = true → False := fun d ed hrm hle => by
   have := (h.dr i hi d ed).own (.inr hrm)
   rw [← hr] at this
   rw [this] at hl
   exact hl hle
  have hle : Le f.w.s (P i).c.w.s := by rw [← hr]; exact not_less_le hl
  have hgt : (r.P f.key).c.w.s ≠ f.w.s → less f.w.s (P i).c.w.s = true := fun hne => by
   rcases Le.cases hle with eq | eq
   ·exact absurd (by rw [hr]; exact eq) hne
   ·exact eq
  have evs : ∀ (A : Fm), (∀ d, f.w = d.w → HasJ N f.key e (sendOn r f ++ [A]) q i d) → ∀ q', q' < N → ∀ d, (P q').dr = some d → ∀ j, j < N → j ≠ q' → d.acks (j + 1) = false → HasJ N f.key e (W ++ (sendOn r f ++ [A])) q' j d := fun A hA q' hq' d ed j hj hjq ha =>
   ((h.dr q' hq' d ed).ev j hj hjq ha).next fun _ _ ev => by
     rcases was q' j d hq' ev with ⟨rfl, e1, e2⟩ | ⟨e1, e2, e3⟩
     ·by_cases hji : j = i
      ·subst hji; exact hA d e1
      ·exact rel _ j d hj hji e1 e2
     ·subst e1; exact (nodr d ed e2 e3).elim
  by_cases hrf : (r.P f.key).c.w.s ≠ f.w.s ∧ f.w.r = true
  ·rw [if_neg hrf.1, if_pos hrf.2] at hin
   rw [hin]
   dsimp only
   rw [if_pos rfl]
   dsimp only
   rw [put_of hr]
   refine h.same hi (evs _ fun d e1 => ?_) (fun x hx _ _ => mem3 _ ⟨fun _ => by show g (r.P f.key).c.w.s = some (r.P f.key).c.w; rw [hr]; exact h.cw i hi, fun c => absurd (show (1 : Nat) = 2 from c) (by decide), fun c => absurd (show (1 : Nat) = 2 from c) (by decide)⟩ x hx) (fun x hx _ _ e5 _ => .inl (no5 _ (fun (c : (1 : Nat) = 5) => by cases c) x hx e5))
   exact ⟨frW r 1 (q + 1) f.key (r.P f.key).c.w false 0, List.mem_append.2 (.inr (List.mem_singleton.2 rfl)), rfl, v.e, .inr (.inr ⟨by rw [← e1]; exact hrf.2, rfl, rfl, by rw [← e1]; show less f.w.s (r.P f.key).c.w.s = true; rw [hr]; exact hgt hrf.1⟩)⟩
  ·obtain ⟨c, hc, hc1, hc4, hc3⟩ : ∃ c, Rep.inv (r.P f.key).c f.w = ((r.P f.key).c, c) ∧ c ≠ 1 ∧ c ≠ 4 ∧ (c = 3 → (r.P f.key).c.w.s ≠ f.w.s) := by
    by_cases eq : (r.P f.key).c.w.s = f.w.s
    ·rw [if_pos eq] at hin; exact ⟨2, hin, by decide, by decide, fun c => by cases c⟩
    ·rw [if_neg eq, if_neg (fun x => hrf ⟨eq, x⟩)] at hin; exact ⟨3, hin, by decide, by decide, fun _ => eq⟩
   rw [hc]
   dsimp only
   rw [if_neg hc4, if_neg hc1]
   dsimp only
   rw [setC_P, put_of hr]
   exact h.same hi (evs _ fun d e1 => ack _ d e1) (fun x hx _ _ => mem3 _ (ackF _ _ hle fun c3 => ⟨i, hi, hgt (hc3 (by simpa using c3))⟩) x hx) (fun x hx _ _ e5 _ => .inl (no5 _ (fun (c : (2 : Nat) = 5) => by cases c) x hx e5))
theorem LJ.need_s (h : LJ n N k e g P hs (f :: W)) (hi : i < N) (hr : r.P k = P i) (hk : f.key = k) (hki : f.kind = 4) (hqn : q = n → i < n) (hq : q < N) (hN : N ≤ 50) : LJ n N k e g P hs (W ++ onNeed r f (q + 1)) := by
 subst hk
 have no : ∀ q' j d, Evi N q' j d f → False := fun q' j d ev => by rcases ev with ⟨ev, _⟩ | ⟨ev, _⟩ | ⟨_, ev, _⟩ <;> (rw [hki] at ev; cases ev)
 have new : ∀ x, x ∈ onNeed r f (q + 1) → x.kind = 5 ∧ x.w = (P i).c.w ∧ x.to = ad (q + 1) := fun x hx => by
  unfold onNeed at hx
  split at hx
  ·rw [List.mem_singleton] at hx; subst hx; exact ⟨rfl, by rw [← hr]; rfl, rfl⟩
  ·cases hx
 refine h.same hi (fun q' hq' d ed j hj hjq ha => ((h.dr q' hq' d ed).ev j hj hjq ha).next fun _ _ ev => (no q' j d ev).elim) (fun x hx ek ee => ?_) (fun x hx ek ee e5 et => ?_)
 ·rcases List.mem_append.1 hx with hx | hx
  ·exact .inl (List.mem_cons_of_mem _ hx)
  ·obtain ⟨a, b, _⟩ := new x hx
   exact .inr ⟨fun _ => by rw [b]; exact h.cw i hi, fun c => (by rw [a] at c; cases c), fun c => (by rw [a] at c; cases c)⟩
 ·rcases List.mem_append.1 hx with hx | hx
  ·exact .inl (List.mem_cons_of_mem _ hx)
  ·obtain ⟨a, b, c⟩ := new x hx
   refine .inr fun s hall => ?_
   rw [b]
   refine hall i (hqn ?_)
   have h1 := ad_inj (a := q + 1) (b := n + 1) (by omega) (by rcases h.hN with eq | eq <;> omega) (c.symm.trans et)
   omega
theorem LJ.valid (h : LJ n N k e g P hs (f :: W)) (hi : i < N) (hno : ∀ q' j d, Evi N q' j d f → False) (p : Plc) (hc : p.c.w = (P i).c.w) (hst : p.c.st = 1) (h0 : (P i).c.st ≠ 0) (h2 : ∀ d, p.dr = some d → (P i).dr = some d) (h3 : ∀ d, (P i).dr = some d → d.own = true → p.dr = some d) :
  LJ n N k e g (put P i p) hs (W ++ []) := by
 refine h.tells hi hc (.inl ⟨hst, h0⟩) (fun d ed => ?_) (fun d ed o => ⟨d, h3 d ed o, o, rfl⟩) (fun q' hq' _ d ed j hj hjq ha => ((h.dr q' hq' d ed).ev j hj hjq ha).next fun _ _ ev => (hno q' j d ev).elim) (fun x hx _ _ => ?_) (fun x hx _ _ _ => ?_)
 ·have h1 := h.dr i hi d (h2 d ed)
  exact ⟨d, h2 d ed, rfl, rfl, h1.cv, h1.nd, h1.ak, fun j hj hji ha => (h1.ev j hj hji ha).next fun _ _ ev => (hno i j d ev).elim⟩
 ·rw [List.append_nil] at hx; exact .inl (List.mem_cons_of_mem _ hx)
 ·rw [List.append_nil] at hx; exact List.mem_cons_of_mem _ hx
theorem LJ.drop (h : LJ n N k e g P hs (f :: W)) (hi : i < N) (hno : f.epoch = e → ∀ q' j d, Evi N q' j d f → False) : LJ n N k e g P hs (W ++ []) :=
 h.same hi (fun q' hq' d ed j hj hjq ha => ((h.dr q' hq' d ed).ev j hj hjq ha).next fun _ ee ev => (hno ee q' j d ev).elim) (fun x hx _ _ => .inl (by rw [List.append_nil] at hx; exact List.mem_cons_of_mem _ hx)) (fun x hx _ _ _ _ => .inl (by rw [List.append_nil] at hx; exact List.mem_cons_of_mem _ hx))
theorem LJ.val_s (h : LJ n N k e g P hs (f :: W)) (hi : i < N) (hr : r.P k = P i) (hk : f.key = k) (hki : f.kind = 3) : LJ n N k e g (put P i ((onVal r f).P k)) hs (W ++ []) := by
 subst hk
 have no : ∀ q' j d, Evi N q' j d f → False := fun q' j d ev => by rcases ev with ⟨ev, _⟩ | ⟨ev, _⟩ | ⟨_, ev, _⟩ <;> (rw [hki] at ev; cases ev)
 have hv : Rep.val (r.P f.key).c f.w.s = if (r.P f.key).c.st = 2 ∧ (r.P f.key).c.w.s = f.w.s then (⟨(r.P f.key).c.w, 1⟩, true) else ((r.P f.key).c, false) := rfl
 unfold onVal
 by_cases hc : (r.P f.key).c.st = 2 ∧ (r.P f.key).c.w.s = f.w.s
 ·rw [if_pos hc] at hv
  rw [hv]
  dsimp only
  rw [if_pos rfl]
  obtain ⟨w1, w2, w3⟩ := rest_place (setC r f.key ⟨(r.P f.key).c.w, 1⟩) f.key
  rw [setC_P] at w1 w2 w3
  exact h.valid hi no _ (by rw [w1, ← hr]) (by rw [w1]) (by rw [← hr, hc.1]; decide) (fun d ed => by rw [← hr]; exact w2 d ed) (fun d ed o => w3 d (by rw [hr]; exact ed) o)
 ·rw [if_neg hc] at hv
  rw [hv]
  dsimp only
  rw [if_neg (by decide), put_of hr]
  exact h.drop hi fun _ => no
theorem LJ.give_s (h : LJ n N k e g P hs (f :: W)) (hi : i < N) (hr : r.P k = P i) (hk : f.key = k) (he : f.epoch = e) (ht : f.to = ad (i + 1)) (hki : f.kind = 5) :
  LJ n N k e g (put P i ((onGive r f).1.P k)) (if i = n then true else hs) (W ++ []) := by
 subst hk
 have no : ∀ q' j d, Evi N q' j d f → False := fun q' j d ev => by rcases ev with ⟨ev, _⟩ | ⟨ev, _⟩ | ⟨_, ev, _⟩ <;> (rw [hki] at ev; cases ev)
 have hgw : g f.w.s = some f.w := (h.fr f (List.mem_cons_self ..) rfl he).w (.inr hki)
 have hg : Rep.give (r.P f.key).c f.w f.flag = if (r.P f.key).c.st = 0 ∨ less (r.P f.key).c.w.s f.w.s = true then (⟨f.w, if f.flag then 1 else 2⟩, true) else if f.flag then Rep.val (r.P f.key).c f.w.s else ((r.P f.key).c, false) := rfl
 have gotP : ∀ c, ((setC (got r f.key) f.key c).P f.key) = { r.P f.key with c := c } := fun c => setC_P _ _ _
 have fl : (if f.flag = true then 1 else 2) = 1 ∨ (if f.flag = true then (1 : Nat) else 2) = 2 := by cases f.flag <;> simp
 have evs : ∀ q', q' < N → ∀ d, (P q').dr = some d → ∀ j, j < N → j ≠ q' → d.acks (j + 1) = false → HasJ N f.key e (W ++ []) q' j d := fun q' hq' d ed j hj hjq ha => ((h.dr q' hq' d ed).ev j hj hjq ha).next fun _ _ ev => (no q' j d ev).elim
 have mem : ∀ {x : Fm}, x ∈ W ++ [] → x ∈ f :: W := fun {x} hx => by rw [List.append_nil] at hx; exact List.mem_cons_of_mem _ hx
 have hit : ∀ s, i = n → (∀ x, x ∈ f :: W → x.key = f.key → x.epoch = e → x.kind = 5 → x.to = ad (n + 1) → x.w.s = s) → f.w.s = s := fun s hin hx => hx f (List.mem_cons_self ..) rfl he hki (by rw [← hin]; exact ht)
 have hh : (if i = n then true else hs) = hs ∨ i = n := by by_cases eq : i = n <;> simp [eq]
 unfold onGive
 by_cases hl : less (r.P f.key).c.w.s f.w.s = true
 ·rw [if_pos (.inr hl)] at hg
  rw [hg]
  dsimp only
  rw [if_pos rfl, if_pos hl]
  obtain ⟨w1, w2, _⟩ := way_place (setC (got r f.key) f.key ⟨f.w, if f.flag then 1 else 2⟩) f.key
  rw [gotP] at w1 w2
  exact h.took hi (by rw [w1, ← hr]; exact hl) (by rw [w1]; exact fl) hh (by rw [w1]; exact hgw) (fun d ed => by rw [← hr]; exact w2 d ed) (fun q' hq' d ed _ => evs q' hq' d ed) (fun x hx _ _ => .inl (mem hx)) (fun x hx _ _ _ => mem hx) (fun s _ hin _ hx => by rw [w1]; exact hit s hin hx)
 ·-- the cell's stamp stays, or nothing turns: but it is had now
  have noted : ∀ p : Plc, p.c.w = (P i).c.w → (p.c.st = 1 ∨ p.c.st = 2) → ((P i).c.st = 1 → p.c.st = 1) → (∀ d, p.dr = some d → (P i).dr = some d) → (∀ d, (P i).dr = some d → d.own = true → p.dr = some d) → LJ n N f.key e g (put P i p) (if i = n then true else hs) (W ++ []) := fun p hc hst h1 h2 h3 => by
   have hle : Le f.w.s (P i).c.w.s := by rw [← hr]; exact not_less_le hl
   have d1 : p.c.st ≠ 0 := by rcases hst with x | x <;> rw [x] <;> decide
   refine h.move hi (by rw [hc]; exact Le.refl _) (.inl hst) hh (by rw [hc]; exact h.cw i hi) (fun d ed => ?_) (fun q' hq' _ d ed => evs q' hq' d ed) (fun x hx _ _ => .inl (mem hx)) (h.mxA (by rw [hc]) h1 (fun _ => d1) (fun d ed o => ⟨d, h3 d ed o, o, rfl⟩) fun s hN hd ⟨a, b⟩ => ?_)
   ·have h4 := h.dr i hi d (h2 d ed)
    have hlp : Le (P i).c.w.s p.c.w.s := by rw [hc]; exact Le.refl _
    exact ⟨fun o => by rw [put_at, hc]; exact h4.own o, h4.nd, fun j hj hji ha => evs i hi d (h2 d ed) j hj hji ha, fun c => (h4.cv c).up hlp, h4.le.tr (put_le hlp i), fun j hj ha => (h4.ak j hj ha).tr (put_le hlp j), h4.ob, h4.w⟩
   ·by_cases hin : i = n
    ·left
     subst hin
     rw [put_at]
     refine ⟨d1, ?_⟩
     rw [hc]
     have e1 := hit s rfl b
     rw [e1] at hle
     have e2 := h.cw i hi
     rcases (h.gs _ _ e2).2 with eq | ⟨j, hj, _, hj2⟩
     ·rw [eq] at hle ⊢
      exact (Le.anti hle (zs_le s)).symm
     ·rw [hd.all j hj] at hj2
      exact Le.anti hj2 hle
    ·right
     rw [if_neg hin]
     exact ⟨a, fun x hx => b x (mem hx)⟩
  by_cases h0 : (r.P f.key).c.st = 0
  ·-- it had nothing yet
   rw [if_pos (.inl h0)] at hg
   rw [hg]
   dsimp only
   rw [if_pos rfl, if_neg hl]
   dsimp only
   obtain ⟨w1, w2, w3⟩ := rest_place (setC (got r f.key) f.key ⟨f.w, if f.flag then 1 else 2⟩) f.key
   rw [gotP] at w1 w2 w3
   have hz : (P i).c.w.s = zs := by
    rcases h.st i hi with (x | x) | ⟨_, _, x, _⟩
    ·rw [hr, x] at h0; cases h0
    ·rw [hr, x] at h0; cases h0
    ·exact x
   have hfz : f.w.s = (P i).c.w.s := by
    rw [hr, hz] at hl
    rw [hz]
    exact (Le.anti (zs_le _) (not_less_le hl)).symm
   have hfw : f.w = (P i).c.w := by
    have a := h.cw i hi
    rw [← hfz, hgw] at a
    injection a
   exact noted _ (by rw [w1]; exact hfw) (by rw [w1]; exact fl) (fun x => by rw [← hr, h0] at x; cases x) (fun d ed => by rw [← hr]; exact w2 d ed) (fun d ed o => w3 d (by rw [hr]; exact ed) o)
  ·rw [if_neg (fun x => x.elim h0 hl)] at hg
   have hst : (P i).c.st = 1 ∨ (P i).c.st = 2 := by
    rcases h.st i hi with x | ⟨_, x, _⟩
    ·exact x
    ·rw [← hr] at x; exact absurd x h0
   have same : LJ n N f.key e g (put P i (r.P f.key)) (if i = n then true else hs) (W ++ []) := noted _ (by rw [hr]) (by rw [hr]; exact hst) (by rw [hr]; exact id) (fun d ed => by rw [← hr]; exact ed) (fun d ed _ => by rw [hr]; exact ed)
   cases hfl : f.flag with
   | false =>
    rw [hfl] at hg
    simp only [Bool.false_eq_true, if_false] at hg
    rw [hg]
    dsimp only
    rw [if_neg (by decide)]
    exact same
   | true =>
    rw [hfl] at hg
    simp only [if_true] at hg
    have hv : Rep.val (r.P f.key).c f.w.s = if (r.P f.key).c.st = 2 ∧ (r.P f.key).c.w.s = f.w.s then (⟨(r.P f.key).c.w, 1⟩, true) else ((r.P f.key).c, false) := rfl
    by_cases hc : (r.P f.key).c.st = 2 ∧ (r.P f.key).c.w.s = f.w.s
    ·rw [if_pos hc] at hv
     rw [hg, hv]
     dsimp only
     rw [if_pos rfl, if_neg (by rw [less_irr]; decide)]
     dsimp only
     obtain ⟨w1, w2, w3⟩ := rest_place (setC (got r f.key) f.key ⟨(r.P f.key).c.w, 1⟩) f.key
     rw [gotP] at w1 w2 w3
     exact noted _ (by rw [w1, ← hr]) (by rw [w1]; exact .inl rfl) (fun _ => by rw [w1]) (fun d ed => by rw [← hr]; exact w2 d ed) (fun d ed o => w3 d (by rw [hr]; exact ed) o)
    ·rw [if_neg hc] at hv
     rw [hg, hv]
     dsimp only
     rw [if_neg (by decide)]
     exact same
end
end Rep
end Go.Proofs.Ytafcbipmmjegcaa
