/- Texts of this claim: PgX, PgA. -/
import Derived.Test.YtcmcmafeaabjmaaGreatMg21
import Derived.Test.YtcmcmafeaabjmaaGreatMg26
import Derived.Test.YtcmcmafeaabjmaaGreatMg31
namespace Go.Proofs.YtcmcmafeaabjmaaGreat.Vm
namespace Pg
open X12 (PP P0 Ent Cmd hasM withM cntM Mask Mas isMas noteB updE belowB topOf Top Win mkEnts cmdAt ent0 accP pStart pPromise pPropose pAccepted IsU32)
open Acp (AS En IsE XOk blw)
def cnt (n : Nat) (P : Nat → Bool) : Nat := ((List.range n).filter P).length
def Maj (n : Nat) (P : Nat → Bool) : Prop := n < 2 * cnt n P
theorem cnt_succ (n : Nat) (P : Nat → Bool) : cnt (n + 1) P = cnt n P + if P n then 1 else 0 := by
  unfold cnt
  rw [List.range_succ, List.filter_append, List.length_append]
  cases h : P n <;> simp [h]
theorem cnt_apart {P Q : Nat → Bool} : ∀ n, (∀ j, j < n → ¬ (P j = true ∧ Q j = true)) → cnt n P + cnt n Q ≤ n
  | 0, _ => by simp [cnt]
  | n + 1, h => by
    have ih := cnt_apart n fun j hj => h j (by omega)
    have := h n (by omega)
    rw [cnt_succ, cnt_succ]
    cases hp : P n <;> cases hq : Q n <;> simp_all <;> omega
theorem Maj.meet {n : Nat} {P Q : Nat → Bool} (hp : Maj n P) (hq : Maj n Q) : ∃ j, j < n ∧ P j = true ∧ Q j = true := by
  by_cases h : ∃ j, j < n ∧ P j = true ∧ Q j = true
  · exact h
  · exfalso
    have := cnt_apart n (P := P) (Q := Q) fun j hj hh => h ⟨j, hj, hh⟩
    unfold Maj at hp hq
    omega
theorem cnt_mono {P Q : Nat → Bool} : ∀ n, (∀ j, j < n → P j = true → Q j = true) → cnt n P ≤ cnt n Q
  | 0, _ => by simp [cnt]
  | n + 1, h => by
    have ih := cnt_mono n fun j hj => h j (by omega)
    have := h n (by omega)
    rw [cnt_succ, cnt_succ]
    cases hp : P n <;> cases hq : Q n <;> simp_all <;> omega
theorem Maj.mono {n : Nat} {P Q : Nat → Bool} (hp : Maj n P) (h : ∀ j, j < n → P j = true → Q j = true) : Maj n Q := by
  have := cnt_mono n h
  unfold Maj at hp ⊢
  omega
def Bits (n : Nat) (m : Int) : Prop := ∀ i : Nat, i < 6 → hasM m i = true → 1 ≤ i ∧ i ≤ n
theorem cntM_maj {n : Nat} {m : Int} (hm : Mask m) (hn : n ≤ 5) (hb : Bits n m) (h : 2 * cntM m > n) : Maj n fun j => hasM m ((j : Int) + 1) := by
  obtain ⟨k, rfl⟩ := hm.fin
  have key : ∀ (k : Fin 64) (n : Fin 6), (∀ i : Fin 6, hasM (k.val : Int) ((i.val : Nat) : Int) = true → 1 ≤ i.val ∧ i.val ≤ n.val) → cntM (k.val : Int) ≤ ((((List.range n.val).filter fun j : Nat => hasM (k.val : Int) ((j : Int) + 1)).length : Nat) : Int) := by decide +kernel
  have := key k ⟨n, by omega⟩ fun i hi => hb i.val i.isLt hi
  unfold Maj cnt
  have h2 : ((((List.range n).filter fun j : Nat => hasM (k.val : Int) ((j : Int) + 1)).length : Nat) : Int) ≥ cntM (k.val : Int) := this
  omega
theorem bits_zero (n : Nat) : Bits n 0 := fun i hi h => by
  have : ∀ i : Fin 6, hasM 0 ((i.val : Nat) : Int) = false := by decide +kernel
  rw [this ⟨i, hi⟩] at h; cases h
theorem has_zero {j : Int} (hj : Mas j) : hasM 0 j = false := by
  obtain ⟨j, rfl⟩ := hj.fin
  have : ∀ j : Fin 5, hasM 0 ((j.val : Int) + 1) = false := by decide +kernel
  exact this j
theorem bits_with {n : Nat} {m : Int} (hm : Mask m) (hb : Bits n m) {j : Nat} (hj : j < n) (hn : n ≤ 5) : Bits n (withM m ((j : Int) + 1)) := by
  intro i hi h
  obtain ⟨k, rfl⟩ := hm.fin
  have key : ∀ (k : Fin 64) (j : Fin 5) (i : Fin 6), hasM (withM k.val ((j.val : Int) + 1)) ((i.val : Nat) : Int) = true → hasM (k.val : Int) ((i.val : Nat) : Int) = true ∨ i.val = j.val + 1 := by decide +kernel
  rcases key k ⟨j, by omega⟩ ⟨i, hi⟩ h with h | h
  · exact hb i hi h
  · have h : i = j + 1 := h
    omega
structure Gh where
  own : Nat → Nat
  G : Nat → Int → Option Cmd
  V : Nat → Nat → Int → Bool
structure CmdOk (c : Cmd) : Prop where
  k : 0 ≤ c.k ∧ c.k < 256
  d : 0 ≤ c.d ∧ c.d < 256
  l : 0 ≤ c.l ∧ c.l < 256
  e : 0 ≤ c.e ∧ c.e < 4294967296
  q : 0 ≤ c.q ∧ c.q < 4294967296
def toEnt (y : En) : Ent := ⟨y.slot, y.n, y.b, ⟨y.kind, y.node, y.life, y.ep, y.rq⟩⟩
def ofEnt (e : Ent) : En := ⟨e.s.toNat, e.n.toNat, e.b.toNat, e.c.k.toNat, e.c.d.toNat, e.c.l.toNat, e.c.e.toNat, e.c.q.toNat⟩
theorem toEnt_of {e : Ent} (h1 : 0 ≤ e.s) (h2 : 0 ≤ e.n) (h3 : 0 ≤ e.b) (hc : CmdOk e.c) : toEnt (ofEnt e) = e := by
  obtain ⟨s, n, b, k, d, l, e, q⟩ := e
  have a1 := hc.k.1; have a2 := hc.d.1; have a3 := hc.l.1; have a4 := hc.e.1; have a5 := hc.q.1
  unfold toEnt ofEnt
  dsimp only at *
  rw [Int.toNat_of_nonneg h1, Int.toNat_of_nonneg h2, Int.toNat_of_nonneg h3, Int.toNat_of_nonneg a1, Int.toNat_of_nonneg a2, Int.toNat_of_nonneg a3, Int.toNat_of_nonneg a4, Int.toNat_of_nonneg a5]
def Blk (n : Nat) (A : Nat → AS) (g : Gh) (t0 : Nat) (s : Int) : Prop := ∃ Q : Nat → Bool, Maj n Q ∧ ∀ j, j < n → Q j = true → t0 < (A j).pn ∧ g.V j t0 s = false
structure AOk (n top : Nat) (g : Gh) (j : Nat) (x : AS) : Prop where
  ok : XOk x
  low : x.low = 0
  pn : x.pn ≤ top
  E : ∀ s y, x.E s = some y → 1 ≤ y.n ∧ y.n ≤ x.pn ∧ g.G y.n s = some (toEnt y).c ∧ ∀ t, g.V j t s = true → t ≤ y.n
  V : ∀ t s, g.V j t s = true → 1 ≤ t ∧ t ≤ x.pn ∧ 0 ≤ s ∧ (x.E s.toNat).isSome = true
structure Ask (n : Nat) (g : Gh) (A : Nat → AS) (t : Nat) (p : PP) : Prop where
  ph : p.x.ph = 1
  l : p.l = []
  fr : p.x.fr = 0
  bits : Bits n p.x.pm
  new : ∀ s, g.G t s = none
  pm : ∀ j : Nat, j < n → hasM p.x.pm ((j : Int) + 1) = true → t ≤ (A j).pn ∧ ∀ s t0, t0 < t → g.V j t0 s = true → ∃ w, p.f s = some w ∧ (t0 : Int) ≤ w.n
  f : ∀ s w, p.f s = some w → 0 ≤ s ∧ s < 16 ∧ ∃ t1 : Nat, t1 < t ∧ w.n = t1 ∧ g.G t1 s = some w.c
structure Lead (n : Nat) (g : Gh) (A : Nat → AS) (i t : Nat) (p : PP) : Prop where
  ph : p.x.ph = 2
  l : ∀ q ∈ p.l, q.1.n = t ∧ q.1.b = (i : Int) + 1 ∧ 0 ≤ q.1.s ∧ g.G t q.1.s = some q.1.c ∧ Bits n q.2 ∧ ∀ j : Nat, j < n → hasM q.2 ((j : Int) + 1) = true → g.V j t q.1.s = true
  lt : ∀ s c, g.G t s = some c → s < p.x.nx
  blk : ∀ s t0, p.x.nx ≤ s → t0 < t → Blk n A g t0 s
structure POk (n top : Nat) (g : Gh) (A : Nat → AS) (i : Nat) (p : PP) : Prop where
  ok : p.Ok
  ms : p.x.ms = n
  at_ : p.x.ph = 0 ∧ p.l = [] ∨ ∃ t : Nat, 1 ≤ t ∧ t ≤ top ∧ p.x.n = t ∧ p.x.b = (i : Int) + 1 ∧ g.own t = i ∧ (Ask n g A t p ∨ Lead n g A i t p)
structure Inv (n top : Nat) (g : Gh) (A : Nat → AS) (P : Nat → PP) (dec : Int → Option Cmd) : Prop where
  a : ∀ j, j < n → AOk n top g j (A j)
  p : ∀ i, i < n → POk n top g A i (P i)
  s : ∀ t s c, g.G t s = some c → 1 ≤ t ∧ t ≤ top ∧ 0 ≤ s ∧ CmdOk c ∧ ∀ t0, t0 < t → Blk n A g t0 s ∨ g.G t0 s = some c
  d : ∀ s c, dec s = some c → ∃ t, Maj n (fun j => g.V j t s) ∧ g.G t s = some c
theorem Inv.agree {n top : Nat} {g : Gh} {A : Nat → AS} {P : Nat → PP} {dec : Int → Option Cmd} (h : Inv n top g A P dec) {t t' : Nat} {s : Int} {c c' : Cmd} (h1 : Maj n fun j => g.V j t s) (h2 : g.G t s = some c) (h3 : Maj n fun j => g.V j t' s) (h4 : g.G t' s = some c') : c = c' := by
  have key : ∀ {t t' : Nat} {c c' : Cmd}, (Maj n fun j => g.V j t s) → g.G t s = some c → (Maj n fun j => g.V j t' s) → g.G t' s = some c' → t < t' → c = c' := fun {t t' c c'} h1 h2 h3 h4 hlt => by
    obtain ⟨_, _, _, _, h5⟩ := h.s t' s c' h4
    rcases h5 t hlt with ⟨Q, q1, q2⟩ | h6
    · obtain ⟨j, j1, j2, j3⟩ := q1.meet h1
      rw [(q2 j j1 j2).2] at j3; cases j3
    · rw [h2] at h6; injection h6
  rcases Nat.lt_trichotomy t t' with hlt | rfl | hlt
  · exact key h1 h2 h3 h4 hlt
  · rw [h2] at h4; injection h4
  · exact (key h3 h4 h1 h2 hlt).symm
structure Ext (n : Nat) (g g' : Gh) (A A' : Nat → AS) : Prop where
  G : ∀ t s c, g.G t s = some c → g'.G t s = some c
  pn : ∀ j, j < n → (A j).pn ≤ (A' j).pn
  V : ∀ j t s, g.V j t s = true → g'.V j t s = true
  V' : ∀ j, j < n → ∀ t s, g'.V j t s = true → g.V j t s = true ∨ (A j).pn ≤ t
theorem Ext.refl (n : Nat) (g : Gh) (A : Nat → AS) : Ext n g g A A := ⟨fun _ _ _ h => h, fun _ _ => Nat.le_refl _, fun _ _ _ h => h, fun _ _ _ _ h => .inl h⟩
theorem Blk.ext {n : Nat} {g g' : Gh} {A A' : Nat → AS} (e : Ext n g g' A A') {t0 : Nat} {s : Int} (h : Blk n A g t0 s) : Blk n A' g' t0 s := by
  obtain ⟨Q, q1, q2⟩ := h
  refine ⟨Q, q1, fun j hj hQ => ?_⟩
  obtain ⟨a, b⟩ := q2 j hj hQ
  have := e.pn j hj
  refine ⟨by omega, ?_⟩
  cases hv : g'.V j t0 s with
  | false => rfl
  | true =>
    rcases e.V' j hj t0 s hv with h | h
    · rw [b] at h; cases h
    · omega
theorem Ask.ext {n : Nat} {g g' : Gh} {A A' : Nat → AS} (e : Ext n g g' A A') {t : Nat} {p : PP} (hG : ∀ s, g'.G t s = g.G t s) (h : Ask n g A t p) : Ask n g' A' t p :=
  ⟨h.ph, h.l, h.fr, h.bits, fun s => by rw [hG]; exact h.new s, fun j hj hm => by
    obtain ⟨a, b⟩ := h.pm j hj hm
    have := e.pn j hj
    refine ⟨by omega, fun s t0 ht hv => ?_⟩
    rcases e.V' j hj t0 s hv with h | h
    · exact b s t0 ht h
    · omega, fun s w hw => by
    obtain ⟨a, b, t1, c, d, f⟩ := h.f s w hw
    exact ⟨a, b, t1, c, d, e.G _ _ _ f⟩⟩
theorem Lead.ext {n : Nat} {g g' : Gh} {A A' : Nat → AS} (e : Ext n g g' A A') {i t : Nat} {p : PP} (hG : ∀ s, g'.G t s = g.G t s) (h : Lead n g A i t p) : Lead n g' A' i t p :=
  ⟨h.ph, fun q hq => by
    obtain ⟨a, b, c, d, f, k⟩ := h.l q hq
    exact ⟨a, b, c, e.G _ _ _ d, f, fun j hj hm => e.V _ _ _ (k j hj hm)⟩, fun s c hc => h.lt s c (by rw [← hG]; exact hc), fun s t0 h1 h2 => (h.blk s t0 h1 h2).ext e⟩
theorem POk.ext {n top top' : Nat} {g g' : Gh} {A A' : Nat → AS} (e : Ext n g g' A A') (ht : top ≤ top') {i : Nat} {p : PP} (h : POk n top g A i p) (ho : ∀ t, t ≤ top → g'.own t = g.own t) (hG : ∀ t, t ≤ top → g.own t = i → ∀ s, g'.G t s = g.G t s) : POk n top' g' A' i p := by
  refine ⟨h.ok, h.ms, ?_⟩
  rcases h.at_ with h1 | ⟨t, a, b, c, d, f, k⟩
  · exact .inl h1
  · refine .inr ⟨t, a, by omega, c, d, by rw [ho t b]; exact f, ?_⟩
    rcases k with k | k
    · exact .inl (k.ext e (hG t b f))
    · exact .inr (k.ext e (hG t b f))
theorem AOk.ext {n top top' : Nat} {g g' : Gh} (hG : ∀ t s c, g.G t s = some c → g'.G t s = some c) (ht : top ≤ top') {j : Nat} {x : AS} (h : AOk n top g j x) (hV : ∀ t s, g'.V j t s = g.V j t s) : AOk n top' g' j x :=
  ⟨h.ok, h.low, Nat.le_trans h.pn ht, fun s y hy => by
    obtain ⟨a, b, c, d⟩ := h.E s y hy
    exact ⟨a, b, hG _ _ _ c, fun t hv => d t (by rw [← hV]; exact hv)⟩, fun t s hv => h.V t s (by rw [← hV]; exact hv)⟩
def upd {α : Type} (f : Nat → α) (i : Nat) (x : α) : Nat → α := fun k => if k = i then x else f k
theorem upd_at {α : Type} (f : Nat → α) (i : Nat) (x : α) : upd f i x i = x := if_pos rfl
theorem upd_ne {α : Type} (f : Nat → α) {i k : Nat} (x : α) (h : k ≠ i) : upd f i x k = f k := if_neg h
section
variable {n top : Nat} {g : Gh} {A : Nat → AS} {P : Nat → PP} {dec : Int → Option Cmd}
theorem Inv.start (h : Inv n top g A P dec) {i : Nat} (hi : i < n) : Inv n (top + 1) { g with own := upd g.own (top + 1) i } A (upd P i (pStart (P i) (top + 1 : Nat) ((i : Int) + 1) 0)) dec := by
  have e : Ext n g { g with own := upd g.own (top + 1) i } A A := ⟨fun _ _ _ h => h, fun _ _ => Nat.le_refl _, fun _ _ _ h => h, fun _ _ _ _ h => .inl h⟩
  refine ⟨fun j hj => AOk.ext (g := g) (g' := { g with own := upd g.own (top + 1) i }) (fun _ _ _ h => h) (Nat.le_succ _) (h.a j hj) (fun _ _ => rfl), fun k hk => ?_, fun t s c hc => ?_, fun s c hc => h.d s c hc⟩
  · by_cases hki : k = i
    · subst hki
      rw [upd_at]
      have hp := h.p k hk
      refine ⟨X12.pStart_ok hp.ok _ _ (by unfold IsU32; omega), hp.ms, .inr ⟨top + 1, by omega, Nat.le_refl _, rfl, rfl, upd_at _ _ _, .inl ⟨rfl, rfl, rfl, bits_zero n, fun s => ?_, fun j hj hm => ?_, fun s w hw => by cases hw⟩⟩⟩
      · show g.G (top + 1) s = none
        cases hg : g.G (top + 1) s with
        | none => rfl
        | some c => have := (h.s _ _ _ hg).2.1; omega
      · have hms := hp.ok.ms
        have := hp.ms
        have hm : hasM 0 ((j : Int) + 1) = true := hm
        rw [has_zero ⟨by omega, by omega⟩] at hm
        cases hm
    · rw [upd_ne _ _ hki]
      exact (h.p k hk).ext e (Nat.le_succ _) (fun t ht => upd_ne _ _ (by omega)) (fun _ _ _ _ => rfl)
  · obtain ⟨a, b, c', d, f⟩ := h.s t s c hc
    exact ⟨a, by omega, c', d, f⟩
theorem Inv.prepare (h : Inv n top g A P dec) {j : Nat} (_ : j < n) {t b : Nat} (ht : t ≤ top) (hb8 : b < 256) (ht32 : t < 4294967296) : Inv n top g (upd A j (Acp.promise (A j) t b)) P dec ∧ Ext n g g A (upd A j (Acp.promise (A j) t b)) := by
  obtain ⟨e1, e2, e3⟩ := Acp.promise_E (A j) t b
  have hpn : (A j).pn ≤ (Acp.promise (A j) t b).pn ∧ ((Acp.promise (A j) t b).pn ≤ t ∨ (Acp.promise (A j) t b).pn = (A j).pn) := by
    unfold Acp.promise
    split
    · rename_i hl
      unfold blw at hl
      simp only [decide_eq_true_eq] at hl
      exact ⟨by show (A j).pn ≤ t; omega, .inl (Nat.le_refl _)⟩
    · exact ⟨Nat.le_refl _, .inr rfl⟩
  have e : Ext n g g A (upd A j (Acp.promise (A j) t b)) := ⟨fun _ _ _ h => h, fun k _ => by
    by_cases hk : k = j
    · subst hk; rw [upd_at]; exact hpn.1
    · rw [upd_ne _ _ hk]; exact Nat.le_refl _, fun _ _ _ h => h, fun _ _ _ _ h => .inl h⟩
  refine ⟨⟨fun k hk => ?_, fun k hk => (h.p k hk).ext e (Nat.le_refl _) (fun _ _ => rfl) (fun _ _ _ _ => rfl), fun t s c hc => ?_, h.d⟩, e⟩
  · by_cases hkj : k = j
    · subst hkj
      rw [upd_at]
      have ha := h.a k hk
      refine ⟨ha.ok.promise ht32 hb8, e2.trans ha.low, ?_, fun s y hy => ?_, fun t' s hv => ?_⟩
      · have := ha.pn
        rcases hpn.2 with h | h <;> omega
      · rw [e1] at hy
        obtain ⟨a, b, c, d⟩ := ha.E s y hy
        exact ⟨a, by have := hpn.1; omega, c, d⟩
      · obtain ⟨a, b, c, d⟩ := ha.V t' s hv
        exact ⟨a, by have := hpn.1; omega, c, by rw [e1]; exact d⟩
    · rw [upd_ne _ _ hkj]; exact h.a k hk
  · obtain ⟨a, b, c', d, f⟩ := h.s t s c hc
    exact ⟨a, b, c', d, fun t0 h0 => (f t0 h0).imp (·.ext e) id⟩
theorem noteB_or (f : Int → Option Ent) (e : Ent) : (noteB 0 f e = f ∧ (0 ≤ e.s → e.s < 16 → ∃ w, f e.s = some w ∧ e.n ≤ w.n)) ∨ (noteB 0 f e = updE f e.s e ∧ 0 ≤ e.s ∧ e.s < 16 ∧ ∀ w, f e.s = some w → w.n ≤ e.n) := by
  unfold noteB
  by_cases h : e.s < 0 ∨ 16 ≤ e.s - 0
  · rw [if_pos h]
    exact .inl ⟨rfl, fun h1 h2 => by omega⟩
  · rw [if_neg h]
    cases hf : f e.s with
    | none => exact .inr ⟨rfl, by omega, by omega, fun w hw => by cases hw⟩
    | some w0 =>
      dsimp only
      by_cases hb : belowB w0.n w0.b e.n e.b = true
      · rw [if_pos hb]
        refine .inr ⟨rfl, by omega, by omega, fun w hw => ?_⟩
        injection hw with hw
        subst hw
        unfold belowB at hb
        simp only [Bool.or_eq_true, decide_eq_true_eq, Bool.and_eq_true, beq_iff_eq] at hb
        omega
      · rw [if_neg hb]
        refine .inl ⟨rfl, fun _ _ => ⟨w0, rfl, ?_⟩⟩
        unfold belowB at hb
        simp only [Bool.or_eq_true, decide_eq_true_eq, Bool.and_eq_true, beq_iff_eq, not_or, not_and] at hb
        omega
theorem noteB_at {f : Int → Option Ent} {e : Ent} {s : Int} {w : Ent} (h : noteB 0 f e s = some w) : f s = some w ∨ (w = e ∧ s = e.s ∧ 0 ≤ e.s ∧ e.s < 16) := by
  rcases noteB_or f e with ⟨h1, _⟩ | ⟨h1, h2, h3, _⟩
  · rw [h1] at h; exact .inl h
  · rw [h1] at h
    unfold updE at h
    split at h
    · injection h with h; exact .inr ⟨h.symm, by assumption, h2, h3⟩
    · exact .inl h
theorem noteB_keep {f : Int → Option Ent} {e : Ent} {s : Int} {w : Ent} (h : f s = some w) : ∃ w', noteB 0 f e s = some w' ∧ w.n ≤ w'.n := by
  rcases noteB_or f e with ⟨h1, _⟩ | ⟨h1, h2, h3, h4⟩
  · exact ⟨w, by rw [h1]; exact h, Int.le_refl _⟩
  · rw [h1]
    unfold updE
    split
    · rename_i hs
      exact ⟨e, rfl, h4 w (by rw [← hs]; exact h)⟩
    · exact ⟨w, h, Int.le_refl _⟩
theorem noteB_in {f : Int → Option Ent} {e : Ent} (h0 : 0 ≤ e.s) (h16 : e.s < 16) : ∃ w', noteB 0 f e e.s = some w' ∧ e.n ≤ w'.n := by
  rcases noteB_or f e with ⟨h1, h2⟩ | ⟨h1, _⟩
  · rw [h1]; exact h2 h0 h16
  · exact ⟨e, by rw [h1]; exact if_pos rfl, Int.le_refl _⟩
theorem fold_at : ∀ {el : List Ent} {f : Int → Option Ent} {s : Int} {w : Ent}, el.foldl (noteB 0) f s = some w → f s = some w ∨ (w ∈ el ∧ s = w.s ∧ 0 ≤ s ∧ s < 16)
  | [], _, _, _, h => .inl h
  | e :: el, f, s, w, h => by
    rcases fold_at (el := el) h with h | ⟨h1, h2⟩
    · rcases noteB_at h with h | ⟨rfl, h1, h2, h3⟩
      · exact .inl h
      · exact .inr ⟨List.mem_cons_self .., h1, by omega, by omega⟩
    · exact .inr ⟨List.mem_cons_of_mem _ h1, h2⟩
theorem fold_keep : ∀ {el : List Ent} {f : Int → Option Ent} {s : Int} {w : Ent}, f s = some w → ∃ w', el.foldl (noteB 0) f s = some w' ∧ w.n ≤ w'.n
  | [], _, _, w, h => ⟨w, h, Int.le_refl _⟩
  | e :: el, f, s, w, h => by
    obtain ⟨w1, h1, h2⟩ := noteB_keep (e := e) h
    obtain ⟨w2, h3, h4⟩ := fold_keep (el := el) h1
    exact ⟨w2, h3, by omega⟩
theorem fold_in : ∀ {el : List Ent} {f : Int → Option Ent} {e : Ent}, e ∈ el → 0 ≤ e.s → e.s < 16 → ∃ w', el.foldl (noteB 0) f e.s = some w' ∧ e.n ≤ w'.n
  | x :: el, f, e, h, h0, h16 => by
    rcases List.mem_cons.1 h with rfl | h
    · obtain ⟨w1, h1, h2⟩ := noteB_in (f := f) h0 h16
      obtain ⟨w2, h3, h4⟩ := fold_keep (el := el) h1
      exact ⟨w2, h3, by omega⟩
    · exact fold_in (f := noteB 0 f x) h h0 h16
theorem topOf_gt {f : Int → Option Ent} : ∀ (k : Nat) {s : Int}, (f s).isSome = true → 0 ≤ s → s < k → s < topOf 0 f k
  | 0, s, _, h0, h1 => by omega
  | k + 1, s, h, h0, h1 => by
    unfold topOf
    split
    · push_cast at h1; omega
    · rename_i hn
      refine topOf_gt k h h0 ?_
      have : s ≠ (0 : Int) + k := fun e => hn (e ▸ h)
      push_cast at h1
      omega
theorem mkEnts_mem {n b : Int} {f : Int → Option Ent} : ∀ {k : Nat} {s : Int} {e : Ent}, e ∈ mkEnts n b f s k → s ≤ e.s ∧ e.s < s + k ∧ e = ⟨e.s, n, b, cmdAt f e.s⟩
  | 0, s, e, h => by cases h
  | k + 1, s, e, h => by
    rcases List.mem_cons.1 h with rfl | h
    · exact ⟨Int.le_refl _, by show s < s + ((k + 1 : Nat) : Int); push_cast; omega, rfl⟩
    · obtain ⟨a, b, c⟩ := mkEnts_mem h
      exact ⟨by omega, by push_cast; omega, c⟩
theorem cmdAt_ok {f : Int → Option Ent} {s : Int} (h : ∀ w, f s = some w → CmdOk w.c) : CmdOk (cmdAt f s) := by
  unfold cmdAt
  cases e : f s with
  | none => exact ⟨⟨Int.le_refl _, by decide⟩, ⟨Int.le_refl _, by decide⟩, ⟨Int.le_refl _, by decide⟩, ⟨Int.le_refl _, by decide⟩, ⟨Int.le_refl _, by decide⟩⟩
  | some w => exact h w e
def addG (g : Gh) (t : Nat) (D : Int → Option Cmd) : Gh := { g with G := fun t' s => if t' = t then (g.G t s).or (D s) else g.G t' s }
theorem addG_ext (g : Gh) (A : Nat → AS) (t : Nat) (D : Int → Option Cmd) : Ext n g (addG g t D) A A :=
  ⟨fun t' s c hc => by
    show (if t' = t then (g.G t s).or (D s) else g.G t' s) = some c
    split
    · rename_i e; subst e; rw [hc]; rfl
    · exact hc, fun _ _ => Nat.le_refl _, fun _ _ _ h => h, fun _ _ _ _ h => .inl h⟩
theorem addG_ne (g : Gh) {t t' : Nat} (D : Int → Option Cmd) (h : t' ≠ t) (s : Int) : (addG g t D).G t' s = g.G t' s := if_neg h
theorem addG_at (g : Gh) (t : Nat) (D : Int → Option Cmd) (s : Int) : (addG g t D).G t s = (g.G t s).or (D s) := if_pos rfl
theorem Inv.put (h : Inv n top g A P dec) {i t : Nat} (ht1 : 1 ≤ t) (ht : t ≤ top) (ho : g.own t = i) (D : Int → Option Cmd) (hD : ∀ s c, D s = some c → 0 ≤ s ∧ CmdOk c ∧ ∀ t0, t0 < t → Blk n A g t0 s ∨ g.G t0 s = some c) {p' : PP} (hp : POk n top (addG g t D) A i p') : Inv n top (addG g t D) A (upd P i p') dec := by
  have e : Ext n g (addG g t D) A A := addG_ext g A t D
  refine ⟨fun j hj => (h.a j hj).ext e.G (Nat.le_refl _) (fun _ _ => rfl), fun k hk => ?_, fun t' s c hc => ?_, fun s c hc => ?_⟩
  · by_cases hki : k = i
    · subst hki; rw [upd_at]; exact hp
    · rw [upd_ne _ _ hki]
      exact (h.p k hk).ext e (Nat.le_refl _) (fun _ _ => rfl) fun t' _ hot s => addG_ne g D (fun e => hki (by rw [← hot, e, ho])) s
  · by_cases htt : t' = t
    · subst htt
      rw [addG_at] at hc
      cases hg : g.G t' s with
      | some c0 =>
        rw [hg] at hc
        have hc : c0 = c := by simpa using hc
        subst hc
        obtain ⟨a, b, c', d, f⟩ := h.s t' s c0 hg
        exact ⟨a, b, c', d, fun t0 h0 => (f t0 h0).imp (·.ext e) (e.G _ _ _)⟩
      | none =>
        rw [hg] at hc
        have hc : D s = some c := by simpa using hc
        obtain ⟨a, b, f⟩ := hD s c hc
        exact ⟨ht1, ht, a, b, fun t0 h0 => (f t0 h0).imp (·.ext e) (e.G _ _ _)⟩
    · rw [addG_ne g D htt] at hc
      obtain ⟨a, b, c', d, f⟩ := h.s t' s c hc
      exact ⟨a, b, c', d, fun t0 h0 => (f t0 h0).imp (·.ext e) (e.G _ _ _)⟩
  · obtain ⟨t', a, b⟩ := h.d s c hc
    exact ⟨t', a, e.G _ _ _ b⟩
theorem Inv.same (h : Inv n top g A P dec) {i : Nat} {p' : PP} (hp : POk n top g A i p') : Inv n top g A (upd P i p') dec := by
  refine ⟨h.a, fun k hk => ?_, h.s, h.d⟩
  by_cases hki : k = i
  · subst hki; rw [upd_at]; exact hp
  · rw [upd_ne _ _ hki]; exact h.p k hk
theorem Inv.propose (h : Inv n top g A P dec) {i : Nat} (hi : i < n) {c : Cmd} (hc : CmdOk c) : ∃ g', Inv n top g' A (upd P i (pPropose (P i) c).1) dec := by
  have hp := h.p i hi
  have hok := X12.pPropose_ok hp.ok c
  unfold pPropose at hok ⊢
  split
  · rename_i hph
    rw [if_pos hph] at hok
    rcases hp.at_ with ⟨h0, _⟩ | ⟨t, t1, t2, hn, hb, ho, h0 | hl⟩
    · omega
    · have := h0.ph; omega
    · have hnx := hp.ok.nx
      have hfresh : g.G t (P i).x.nx = none := by
        cases hg : g.G t (P i).x.nx with
        | none => rfl
        | some c => have := hl.lt _ _ hg; omega
      refine ⟨addG g t fun s => if s = (P i).x.nx then some c else none, h.put t1 t2 ho _ (fun s c' hs => ?_) ⟨hok, hp.ms, .inr ⟨t, t1, t2, hn, hb, ho, .inr ?_⟩⟩⟩
      · split at hs
        · rename_i e
          injection hs with hs
          subst hs
          exact ⟨by have := hnx.1; omega, hc, fun t0 h0 => .inl (hl.blk s t0 (by omega) h0)⟩
        · cases hs
      · have e := addG_ext (n := n) g A t fun s => if s = (P i).x.nx then some c else none
        refine ⟨hl.ph, fun q hq => ?_, fun s c' hs => ?_, fun s t0 h1 h2 => ?_⟩
        · rcases List.mem_append.1 hq with hq | hq
          · obtain ⟨a, b, c', d, f, k⟩ := hl.l q hq
            exact ⟨a, b, c', e.G _ _ _ d, f, k⟩
          · rw [List.mem_singleton.1 hq]
            refine ⟨hn, hb, hnx.1, ?_, bits_zero n, fun j hj hm => ?_⟩
            · rw [addG_at]
              show (g.G t (P i).x.nx).or (if (P i).x.nx = (P i).x.nx then some c else none) = some c
              rw [hfresh, if_pos rfl]; rfl
            · have hms := hp.ok.ms
              have := hp.ms
              rw [has_zero ⟨by omega, by omega⟩] at hm; cases hm
        · show s < (P i).x.nx + 1
          rw [addG_at] at hs
          cases hg : g.G t s with
          | some c0 => have := hl.lt _ _ hg; omega
          | none =>
            rw [hg] at hs
            have hs : (if s = (P i).x.nx then some c else none) = some c' := by simpa using hs
            split at hs
            · omega
            · cases hs
        · have h1 : (P i).x.nx + 1 ≤ s := h1
          exact (hl.blk s t0 (by omega) h2).ext e
  · exact ⟨g, h.same hp⟩
end
end Pg
end Go.Proofs.YtcmcmafeaabjmaaGreat.Vm
namespace Go.Proofs.YtcmcmafeaabjmaaGreat.Vm
open Go Go.RowKit
namespace X11
open Acp (En AS Rc blw VOk IsE XOk)
open Jrn (Dk)
open X9 (dkC obsK dkH dk_post)
open X10 (strs jC obsJ)
open X12 (PM PP)
def pmF (b : Nat) (r : T) (p : PP) (R : Glb) : Hint := .call false (PM × Glb) (fun a => X12.Left p a.1 a.2 ∧ Dj a.2 R) [0, 1, 2] true (fun _ => r) (fun a => a.1.obs b) (fun a => joinG a.2 R)
theorem frame_pm {Pr : Program} {f : FuncId} {ts : List T} {b : Nat} {s : PM} {g R : Glb} {r : T} {p' : PP} (h : TCalls Pr f ts (s.obs b) g (callPost (pmH b r p'))) (hd : Dj g R) : TCalls Pr f ts (s.obs b) (joinG g R) (callPost (pmF b r p' R)) := by
  refine (h.frameG R hd).post ?_
  rintro r' ob' gl' ⟨g', rfl, dj, ⟨s', g1⟩, h1, h2, h3, h4, h5⟩
  have h5 : g' = g1 := h5 rfl
  subst h5
  exact ⟨r', ob', _, Imp.refl _ _ _, ⟨(s', g'), ⟨h1, dj⟩, h2, h3, h4, fun _ => rfl⟩⟩
def acPd (db jb ab mb : Nat) (y : T) (d : Dk) (l : List (List UInt8)) (x : AS) : Hint := .call false (Value × Array MapEntry × Nat) (fun _ => True) [0, 1, 2, 3, 4] false (fun _ => y) (fun a => obsA db jb ab mb d l a.1 false x a.2.1 a.2.2) (fun _ => none_)
def acHd (i j r a m : Nat) (y : T) (d : Dk) (l : List (List UInt8)) (x : AS) : Hint := .withB fun B => .call false (Value × Array MapEntry × Nat) (fun _ => True) [i, j, r, a, m] false (fun _ => y) (fun c => obsA (B.getD i 0) (B.getD j 0) (B.getD a 0) (B.getD m 0) d l c.1 false x c.2.1 c.2.2) (fun _ => none_)
theorem pd_post {db jb ab mb : Nat} {y : T} {d : Dk} {l : List (List UInt8)} {x : AS} (hd : Value) (es : Array MapEntry) (ck : Nat) : callPost (acPd db jb ab mb y d l x) y (obsA db jb ab mb d l hd false x es ck) none_ := ⟨(hd, es, ck), trivial, rfl, rfl, Nat.le_of_ble_eq_true rfl, fun h => by cases h⟩
structure LOk (l : List (List UInt8)) (i : Nat) : Prop where
  v : Jrn.Vs l
  n : (Jrn.flat l).length ≤ 70 + 70 * i
theorem LOk.add {l : List (List UInt8)} {i : Nat} (h : LOk l i) (hi : i ≤ 1000) {r : Rc} (hr : r.Ok) : LOk (l ++ [r.b]) (i + 1) := by
  have h1 := h.n
  obtain ⟨a, b⟩ := vs_add h.v hr (by omega)
  exact ⟨a, by omega⟩
theorem LOk.succ {l : List (List UInt8)} {i : Nat} (h : LOk l i) : LOk l (i + 1) := ⟨h.v, by have := h.n; omega⟩
theorem LOk.room {l : List (List UInt8)} {i : Nat} (h : LOk l i) (hi : i ≤ 1000) : (Jrn.flat l).length + 70 ≤ 1048576 := by have := h.n; omega
section
variable (db jb ab mb : Nat) (l : List (List UInt8)) (hd : Value) (x : AS) (es : Array MapEntry) (ck : Nat)
theorem prep_z (i : Nat) (hi : i ≤ 1000) (hl : LOk l i) (hx : XOk x) (h0 : x.low = 0) (n b : Nat) (hn : n < 4294967296) (hb8 : b < 256) :
    (blw n b x.pn x.pb = true ∧ TCalls Tryz.prog 13 [.ptr 3 ab 0, .agg [u32 n, u8 b], u32 0] (obsA db jb ab mb (Jrn.jd l) l hd false x es ck) none_ (callPost (acPd db jb ab mb (.tup [.v nilS, int 8]) (Jrn.jd l) l x))) ∨
    (blw n b x.pn x.pb = false ∧ ∃ l2, LOk l2 (i + 1) ∧ ∀ L, IsE x.E 0 L → TCalls Tryz.prog 13 [.ptr 3 ab 0, .agg [u32 n, u8 b], u32 0] (obsA db jb ab mb (Jrn.jd l) l hd false x es ck) none_ (callPost (acPd db jb ab mb (.tup [.sl 8 (Row.aggs enC L), int 0]) (Jrn.jd l2) l2 (Acp.promise x n b)))) := by
  have h1 : ¬ 0 < x.low := by omega
  cases hb : blw n b x.pn x.pb with
  | true => exact .inl ⟨rfl, prep_old db jb ab mb l hd x es ck n b 0 h1 hb _ (pd_post hd es ck)⟩
  | false =>
    refine .inr ⟨rfl, ?_⟩
    cases hb2 : blw x.pn x.pb n b with
    | true =>
      refine ⟨_, hl.add hi (r := .prom n b) ⟨hn, hb8⟩, fun L hL => ?_⟩
      exact prep_new db jb ab mb l hd x es ck hl.v (hl.room hi) n b 0 hn hb8 h1 hb hb2 L _ (fun hd es ck Q' hq => entries_any db jb ab mb _ _ hd false _ es ck (hx.promise hn hb8) 0 L (by rw [(Acp.promise_E x n b).1]; exact hL) Q' hq) fun hd es ck => pd_post hd es ck
    | false =>
      have e : Acp.promise x n b = x := by unfold Acp.promise; rw [hb2]; rfl
      refine ⟨l, hl.succ, fun L hL => ?_⟩
      rw [e]
      exact prep_same db jb ab mb l hd x es ck n b 0 h1 hb hb2 L _ (fun Q' hq => entries_any db jb ab mb _ _ hd false x es ck hx 0 L hL Q' hq) (pd_post hd es ck)
theorem acc_z (i : Nat) (hi : i ≤ 1000) (hl : LOk l i) (h0 : x.low = 0) (y : En) (hy : y.Ok) :
    (∃ f : Int, f ≠ 0 ∧ TCalls Tryz.prog 18 [.ptr 3 ab 0, .agg [u32 y.n, u8 y.b], u32 y.slot, .agg [u8 y.kind, u8 y.node, u8 y.life, u32 y.ep, u32 y.rq]] (obsA db jb ab mb (Jrn.jd l) l hd false x es ck) none_ (callPost (acPd db jb ab mb (int f) (Jrn.jd l) l x))) ∨
    (y.slot < 16 ∧ blw y.n y.b x.pn x.pb = false ∧ LOk (l ++ [(Rc.acc y).b]) (i + 1) ∧ TCalls Tryz.prog 18 [.ptr 3 ab 0, .agg [u32 y.n, u8 y.b], u32 y.slot, .agg [u8 y.kind, u8 y.node, u8 y.life, u32 y.ep, u32 y.rq]] (obsA db jb ab mb (Jrn.jd l) l hd false x es ck) none_ (callPost (acPd db jb ab mb (int 0) (Jrn.jd (l ++ [(Rc.acc y).b])) (l ++ [(Rc.acc y).b]) (Acp.accept x y)))) := by
  have h1 : ¬ y.slot < x.low := by omega
  by_cases h2 : y.slot < x.low + 16
  · cases hb : blw y.n y.b x.pn x.pb with
    | true => exact .inl ⟨8, by decide, acc_old db jb ab mb l hd x es ck y.n y.b y.slot _ _ _ _ _ h1 h2 hy.slot hb _ (pd_post hd es ck)⟩
    | false => exact .inr ⟨by omega, rfl, hl.add hi hy, acc_new db jb ab mb l hd x es ck hl.v (hl.room hi) y hy h1 h2 hb _ fun hd es ck => pd_post hd es ck⟩
  · exact .inl ⟨6, by decide, acc_full db jb ab mb l hd x es ck y.n y.b y.slot _ _ _ _ _ h1 (by omega) hy.slot _ (pd_post hd es ck)⟩
end
structure LotA (n i : Nat) (A : Nat → AS) (B : Nat → Nat) (us : List Glb) : Prop where
  len : us.length = n
  at_ : ∀ o, o < n → ∃ db jb mb l hd es ck, us[o]? = some (pkO (obsA db jb (B o) mb (Jrn.jd l) l hd false (A o) es ck)) ∧ LOk l i ∧ Sole (obsA db jb (B o) mb (Jrn.jd l) l hd false (A o) es ck) ∧ Rooms (obsA db jb (B o) mb (Jrn.jd l) l hd false (A o) es ck)
structure LotP (n : Nat) (P : Nat → PP) (C : Nat → Nat) (us : List Glb) : Prop where
  len : us.length = n
  at_ : ∀ w, w < n → ∃ s g, us[w]? = some (joinG (pkO (s.obs (C w))) g) ∧ X12.Left (P w) s g ∧ Sole (s.obs (C w)) ∧ Rooms (s.obs (C w)) ∧ Dj (pkO (s.obs (C w))) g
structure Lots (n i : Nat) (A : Nat → AS) (B : Nat → Nat) (P : Nat → PP) (C : Nat → Nat) (gl : Glb) : Prop where
  ex : ∃ ua up, gl = joinG (lotG ua) (lotG up) ∧ AllDj ua ∧ AllDj up ∧ Dj (lotG ua) (lotG up) ∧ LotA n i A B ua ∧ LotP n P C up
theorem noFix_pm (s : PM) (b : Nat) : (s.obs b).all noFix = true := by cases s <;> rfl
theorem set_ne {α : Type} {us : List α} {i k : Nat} {u : α} (h : k ≠ i) : (us.set i u)[k]? = us[k]? := by rw [List.getElem?_set]; rw [if_neg (fun e => h e.symm)]
theorem set_at {α : Type} {us : List α} {i : Nat} {u : α} (h : i < us.length) : (us.set i u)[i]? = some u := by rw [List.getElem?_set, if_pos rfl, if_pos h]
theorem Lots.out {n i : Nat} {A : Nat → AS} {B : Nat → Nat} {P : Nat → PP} {C : Nat → Nat} {gl : Glb} (h : Lots n i A B P C gl) {o w : Nat} (ho : o < n) (hw : w < n) :
    ∃ db jb mb l hd es ck s g R, LOk l i ∧ X12.Left (P w) s g ∧ Dj g R ∧
      (∀ ts dm, Imp ts [dm] gl ts ([dm] ++ (obsA db jb (B o) mb (Jrn.jd l) l hd false (A o) es ck ++ s.obs (C w))) (joinG g R)) ∧
      ∀ l' hd' x' es' ck' s' g' p', LOk l' (i + 1) → X12.Left p' s' g' → Dj g' R → ∀ ts dm, Apart ([dm] ++ (obsA db jb (B o) mb (Jrn.jd l') l' hd' false x' es' ck' ++ s'.obs (C w))) (joinG g' R) → Rooms ([dm] ++ (obsA db jb (B o) mb (Jrn.jd l') l' hd' false x' es' ck' ++ s'.obs (C w))) →
        ∃ gl', Lots n (i + 1) (Pg.upd A o x') B (Pg.upd P w p') C gl' ∧ Imp ts ([dm] ++ (obsA db jb (B o) mb (Jrn.jd l') l' hd' false x' es' ck' ++ s'.obs (C w))) (joinG g' R) ts [dm] gl' := by
  obtain ⟨ua, up, e, d1, d2, d3, hA, hP⟩ := h.ex
  obtain ⟨db, jb, mb, l, hd, es, ck, a1, a2, a3, a4⟩ := hA.at_ o ho
  obtain ⟨s, g, p1, p2, p3, p4, p5⟩ := hP.at_ w hw
  obtain ⟨ea, da⟩ := lotG_out d1 a1
  obtain ⟨ep, dp⟩ := lotG_out d2 p1
  rw [ea, ep] at d3
  have e2 : gl = joinG (pkO (obsA db jb (B o) mb (Jrn.jd l) l hd false (A o) es ck)) (joinG (pkO (s.obs (C w))) (joinG g (joinG (lotG (ua.eraseIdx o)) (lotG (up.eraseIdx w))))) := by
    rw [e, ea, ep, two_out d3, joinG_assoc]
  have dgp : Dj (joinG (pkO (s.obs (C w))) g) (joinG (lotG (ua.eraseIdx o)) (lotG (up.eraseIdx w))) := Dj.join (Dj.right d3.symm).symm.symm.lefts.symm.symm dp
  refine ⟨db, jb, mb, l, hd, es, ck, s, g, joinG (lotG (ua.eraseIdx o)) (lotG (up.eraseIdx w)), a2, p2, dgp.rights, fun ts dm => ?_, fun l' hd' x' es' ck' s' g' p' hl' hp' hdj ts dm hap hro => ?_⟩
  · rw [e2]
    have dA : Dj (pkO (obsA db jb (B o) mb (Jrn.jd l) l hd false (A o) es ck)) (joinG (pkO (s.obs (C w))) (joinG g (joinG (lotG (ua.eraseIdx o)) (lotG (up.eraseIdx w))))) := by
      have h1 : Dj (pkO (obsA db jb (B o) mb (Jrn.jd l) l hd false (A o) es ck)) (joinG (joinG (pkO (s.obs (C w))) g) (lotG (up.eraseIdx w))) := d3.lefts
      rw [← joinG_assoc]
      exact (Dj.left h1).join (Dj.join da (Dj.right h1))
    refine (Imp.unpark (ob := [dm]) a3 a4 rfl dA).trans ?_
    rw [← List.append_assoc]
    exact Imp.unpark p3 p4 (noFix_pm s _) (p5.join dgp.lefts)
  · -- put back
    have hap' : Apart (([dm] ++ (obsA db jb (B o) mb (Jrn.jd l') l' hd' false x' es' ck')) ++ s'.obs (C w)) (joinG g' (joinG (lotG (ua.eraseIdx o)) (lotG (up.eraseIdx w)))) := by rw [List.append_assoc]; exact hap
    have hs := hap.sole
    have hdj2 := hap.dj
    have dOP : Dj (pkO (s'.obs (C w))) (joinG g' (joinG (lotG (ua.eraseIdx o)) (lotG (up.eraseIdx w)))) := hap'.dj
    have dOA : Dj (pkO (obsA db jb (B o) mb (Jrn.jd l') l' hd' false x' es' ck')) (joinG g' (joinG (lotG (ua.eraseIdx o)) (lotG (up.eraseIdx w)))) := fun c hc => hdj2 c (by
      obtain ⟨X, e⟩ := Option.isSome_iff_exists.1 hc
      obtain ⟨k, b, k1, k2⟩ := pkO_some e
      cases e3 : pkO (obsA db jb (B o) mb (Jrn.jd l') l' hd' false x' es' ck' ++ s'.obs (C w)) c with
      | some Y => rfl
      | none => exact absurd k2 (pkO_none e3 (i := k) (by rw [List.getElem?_append_left (List.getElem?_eq_some_iff.1 k1).1]; exact k1)))
    have dAP := hs.dj
    have dU : Dj (joinG (pkO (s'.obs (C w))) g') (joinG (lotG (ua.eraseIdx o)) (lotG (up.eraseIdx w))) := (Dj.right dOP).joinl hdj
    obtain ⟨ia, ja⟩ := lotG_in (u' := pkO (obsA db jb (B o) mb (Jrn.jd l') l' hd' false x' es' ck')) d1 (by rw [hA.len]; exact ho) (Dj.left (Dj.right dOA))
    obtain ⟨ip, jp⟩ := lotG_in (u' := joinG (pkO (s'.obs (C w))) g') d2 (by rw [hP.len]; exact hw) (Dj.right dU)
    have dall : Dj (joinG (pkO (obsA db jb (B o) mb (Jrn.jd l') l' hd' false x' es' ck')) (lotG (ua.eraseIdx o))) (joinG (joinG (pkO (s'.obs (C w))) g') (lotG (up.eraseIdx w))) :=
      ((dAP.join (Dj.left dOA)).join (Dj.right (Dj.right dOA))).joinl ((Dj.left dU).symm.join (d3.rights.symm.rights.symm))
    refine ⟨joinG (lotG (ua.set o (pkO (obsA db jb (B o) mb (Jrn.jd l') l' hd' false x' es' ck')))) (lotG (up.set w (joinG (pkO (s'.obs (C w))) g'))), ⟨_, _, rfl, ja, jp, by rw [ia, ip]; exact dall, ⟨by rw [List.length_set]; exact hA.len, fun k hk => ?_⟩, ⟨by rw [List.length_set]; exact hP.len, fun k hk => ?_⟩⟩, ?_⟩
    · by_cases hko : k = o
      · subst hko
        refine ⟨db, jb, mb, l', hd', es', ck', ?_, hl', ?_, ?_⟩
        · rw [set_at (by rw [hA.len]; exact ho), Pg.upd_at]
        · rw [Pg.upd_at]; exact hs.l
        · rw [Pg.upd_at]; exact hro.r.l
      · obtain ⟨db2, jb2, mb2, l2, hd2, es2, ck2, k1, k2, k3, k4⟩ := hA.at_ k hk
        refine ⟨db2, jb2, mb2, l2, hd2, es2, ck2, ?_, k2.succ, ?_, ?_⟩
        · rw [set_ne hko, Pg.upd_ne _ _ hko]; exact k1
        · rw [Pg.upd_ne _ _ hko]; exact k3
        · rw [Pg.upd_ne _ _ hko]; exact k4
    · by_cases hkw : k = w
      · subst hkw
        refine ⟨s', g', ?_, ?_, hs.r, hro.r.r, Dj.left dOP⟩
        · rw [set_at (by rw [hP.len]; exact hw)]
        · rw [Pg.upd_at]; exact hp'
      · obtain ⟨s2, g2, k1, k2, k3⟩ := hP.at_ k hk
        refine ⟨s2, g2, ?_, ?_, k3⟩
        · rw [set_ne hkw]; exact k1
        · rw [Pg.upd_ne _ _ hkw]; exact k2
    · rw [ia, ip, two_out dall, joinG_assoc]
      rw [← List.append_assoc]
      exact Imp.park.trans Imp.park
end X11
end Go.Proofs.YtcmcmafeaabjmaaGreat.Vm
