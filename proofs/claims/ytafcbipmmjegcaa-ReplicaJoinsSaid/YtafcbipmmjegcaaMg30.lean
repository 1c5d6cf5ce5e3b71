/- Texts of this claim: RgP, RhA, RhB. -/
import Derived.Test.YtafcbipmmjegcaaMg29
import Derived.Test.YtafcbipmmjegcaaMg28
namespace Go.Proofs.Ytafcbipmmjegcaa.Vm
open Go Go.RowKit
namespace X20
open Rep (Stp Wrd Cel Drv Plc RS Fm Ev put setP setC vN rN Low GInv GEv GExt Mate Chain Bk BkOk)
def FB (F : List Fm) : Prop := ∀ f, f ∈ F → f.w.s.n ≤ 4294967295
theorem FB.nil : FB [] := fun _ h => by cases h
theorem FB.app {F F' : List Fm} (h : FB F) (h' : FB F') : FB (F ++ F') := fun f hf => (List.mem_append.1 hf).elim (h f) (h' f)
theorem FB.one {f : Fm} (h : f.w.s.n ≤ 4294967295) : FB [f] := fun x hx => by rw [List.mem_singleton] at hx; subst hx; exact h
section
variable {m : Nat} {r : RS}
theorem fb_sent (r : RS) (k : Nat) (w : Wrd) (h : w.s.n ≤ 4294967295) : FB (Rep.sent r k w) := by
 unfold Rep.sent
 refine FB.app ?_ ?_ <;> split <;> first | exact FB.nil | exact FB.one h
theorem fb_look (h : Fit m r) (k : Nat) : FB (Rep.look r k).2.1 := by
 unfold Rep.look
 split
 ·exact FB.nil
 ·rename_i d hd
  split
  ·split
   ·intro f hf
    obtain ⟨n, _, rfl⟩ := List.mem_map.1 hf
    exact h.sd k d hd
   ·exact FB.nil
  ·exact FB.nil
theorem fb_beat (h : Fit m r) (k every : Nat) : FB (Rep.beat r k every).2 := by
 unfold Rep.beat
 split
 ·exact FB.nil
 ·rename_i d hd
  dsimp only
  split
  ·exact fb_sent _ _ _ (h.sd k d hd)
  ·exact FB.nil
theorem fb_stall (h : Fit m r) (k replay : Nat) (lease : Bool) : FB (Rep.stall r k replay lease).2 := by
 unfold Rep.stall
 split
 ·split
  ·split
   ·dsimp only
    split
    ·exact FB.nil
    ·exact FB.one (Nat.zero_le _)
   ·exact fb_sent _ _ _ (h.st k)
  ·exact FB.nil
 ·exact FB.nil
theorem fb_tickK (h : Fit m r) (k every replay : Nat) (lease : Bool) : FB (Rep.tickK r k every replay lease).2.1 := by
 unfold Rep.tickK
 split
 ·split
  ·exact (fb_look h k).app (fb_beat (h.look k) k every)
  ·exact fb_beat h k every
 ·exact fb_stall h k replay lease
theorem fb_tickL (every replay : Nat) (lease : Bool) : ∀ (l : List Nat) {m : Nat} {r : RS}, Fit m r → FB (Rep.tickL r every replay lease l).2.1
 | [], _, _, _ => FB.nil
 | k :: l, _, _, h => (fb_tickK h k every replay lease).app (fb_tickL every replay lease l (h.tickK k every replay lease))
theorem fb_asked (r : RS) : FB (Rep.asked r).2 := by
 unfold Rep.asked
 split
 ·exact FB.nil
 ·intro f hf
  obtain ⟨n, _, rfl⟩ := List.mem_map.1 hf
  exact Nat.zero_le _
theorem fb_tick (h : Fit m r) (every replay : Nat) (lease : Bool) : FB (Rep.tick r every replay lease).2.1 := by
 have h1 := fb_tickL every replay lease [0, 1, 2, 3, 4, 5] h.asked
 have h2 := fb_asked r
 unfold Rep.tick
 split
 ·exact h2.app h1
 ·exact FB.nil
theorem fb_write (h : Fit m r) (k : Nat) (b : Bool) (t : ByteArray) (rmw : Bool) : FB (Rep.write r k b t rmw).1.2.1 := by
 unfold Rep.write
 split
 ·split
  ·exact FB.nil
  ·rename_i s hs
   have hn := nextS_n hs
   have h2 : Fit m (setP r k ⟨⟨⟨s, b, t, rmw⟩, 2⟩, some (Rep.newD ⟨s, b, t, rmw⟩ true), 0⟩) := h.set k _ (Nat.zero_le _) (fun d hd => by injection hd with hd; subst hd; exact ⟨Nat.zero_le _, hn⟩) hn
   exact (fb_sent _ _ _ hn).app (fb_look h2 k)
 ·exact FB.nil
theorem fb_sendOn (r : RS) (f : Fm) (hf : f.w.s.n ≤ 4294967295) : FB (Rep.sendOn r f) := by
 unfold Rep.sendOn
 split
 ·split
  ·exact FB.nil
  ·exact FB.one hf
 ·split
  ·split
   ·exact FB.nil
   ·exact FB.one hf
  ·exact FB.nil
theorem fb_on (h : Fit m r) (f : Fm) (lease : Bool) (hf : f.w.s.n ≤ 4294967295) : FB (Rep.on r f lease).2.1 := by
 unfold Rep.on
 split
 ·exact FB.nil
 ·rename_i frm _
  split
  ·unfold Rep.onInv
   split
   ·exact (fb_sendOn r f hf).app (FB.one (h.st _))
   ·split
    ·exact (fb_sendOn r f hf).app (FB.one hf)
    ·exact (fb_sendOn r f hf).app (FB.one hf)
  ·split
   ·split
    ·unfold Rep.onAck
     split
     ·exact FB.nil
     ·rename_i d hd
      split
      ·refine fb_look (m := m) (h.set f.key { r.P f.key with dr := some (Rep.ackD d frm f.flag) } (h.age _) (fun d' e => ?_) (h.st _)) f.key
       injection e with e
       subst e
       exact ⟨h.tk _ d hd, h.sd _ d hd⟩
      ·exact FB.nil
    ·exact FB.nil
   ·split
    ·exact FB.nil
    ·split
     ·show FB (Rep.onNeed r f frm)
      unfold Rep.onNeed
      split
      ·exact FB.one (h.st _)
      ·exact FB.nil
     ·split
      ·exact FB.nil
      ·exact FB.nil
end
theorem two_len : ∀ {l : List Nat}, l.Nodup → (∀ a ∈ l, a < 2) → l.length ≤ 2
 | [], _, _ => by simp
 | [_], _, _ => by simp
 | [_, _], _, _ => by simp
 | a :: b :: c :: l, hn, h2 => by
  have h1 := h2 a (by simp)
  have h3 := h2 b (by simp)
  have h4 := h2 c (by simp)
  simp only [List.nodup_cons, List.mem_cons, not_or] at hn
  omega
structure Bz where
 d : List (Stp × Stp × Bool)
 a : List Stp
 o : List Stp
 hd : Value
 ha : Value
 ho : Value
structure Grw (m : Nat) (z z' : Bz) : Prop where
 d : z'.d = z.d
 a : z'.a = z.a
 hd : z'.hd = z.hd
 ha : z'.ha = z.ha
 o : ∃ l, z'.o = z.o ++ l ∧ (∀ s ∈ l, s ∈ z.a) ∧ l.length ≤ m
theorem Grw.refl (z : Bz) : Grw 0 z z := ⟨rfl, rfl, rfl, rfl, [], (List.append_nil _).symm, (fun _ h => by cases h), Nat.le_refl _⟩
theorem Grw.tr {m m' : Nat} {x y z : Bz} (h : Grw m x y) (h' : Grw m' y z) : Grw (m + m') x z := by
 obtain ⟨l, e, g, b⟩ := h.o
 obtain ⟨l', e', g', b'⟩ := h'.o
 refine ⟨h'.d.trans h.d, h'.a.trans h.a, h'.hd.trans h.hd, h'.ha.trans h.ha, l ++ l', by rw [e', e, List.append_assoc], fun s hs => (List.mem_append.1 hs).elim (g s) fun hs => h.a ▸ g' s hs, by rw [List.length_append]; omega⟩
theorem Grw.mono {m m' : Nat} {x y : Bz} (h : Grw m x y) (hm : m ≤ m') : Grw m' x y := by
 obtain ⟨l, e, g, b⟩ := h.o
 exact ⟨h.d, h.a, h.hd, h.ha, l, e, g, by omega⟩
theorem Grw.one (x : Bz) (a : Stp) (ha : a ∈ x.a) (v : Value) : Grw 1 x { x with o := x.o ++ [a], ho := v } :=
 ⟨rfl, rfl, rfl, rfl, [a], rfl, (fun s hs => by rw [List.mem_singleton] at hs; exact hs ▸ ha), Nat.le_refl _⟩
theorem Grw.len {m : Nat} {x y : Bz} (h : Grw m x y) : y.o.length ≤ x.o.length + m := by
 obtain ⟨l, e, _, b⟩ := h.o
 rw [e, List.length_append]; omega
structure SoOk (n : Nat) (cs : Nat → Cel) (x : Bz) : Prop where
 dn : ∀ i, i < n → ∀ d ∈ x.d, Rep.less (cs i).w.s d.1 = false
 ag : ∀ i j, i < n → j < n → (cs i).w.s = (cs j).w.s → (cs i).w = (cs j).w
 ov : ∀ i, i < n → ∀ a, a ∈ x.o ∨ a ∈ x.a → ¬ ((cs i).st = 1 ∧ (cs i).w.s = a)
def bsA (A : Stp → Option Stp) (s : Stp) : Stp := (A s).getD ⟨0, 0, 0⟩
def bk (A : Stp → Option Stp) (x : Bz) : Bk := ⟨bsA A, x.d, x.a, x.o⟩
def upS (A : Stp → Option Stp) (s c : Stp) : Stp → Option Stp := fun y => if y = s then some c else A y
theorem bsA_up (A : Stp → Option Stp) (s c : Stp) : bsA (upS A s c) = fun y => if y = s then c else bsA A y := by
 funext y; unfold bsA upS; split <;> rfl
structure Wide (n m : Nat) (R : Nat → RS) (W : List Fm) : Prop where
 lv : ∀ j, j < n → (R j).v = vN n
 fit : ∀ j, j < n → Fit m (R j)
 low : ∀ j, j < n → Low (R j)
 wk : ∀ f, f ∈ W → f.key < 2
 ws : FB W
structure Law (n c : Nat) (R : Nat → RS) (W : List Fm) (A0 A1 : Stp → Option Stp) (x y : Bz) : Prop where
 wd : Wide n (7 * c) R W
 g : ∃ GG, GInv n R W GG ∧ BkOk (GG 0) (bk A0 x) ∧ BkOk (GG 1) (bk A1 y)
 wl : W.length ≤ 80
 lx : x.d.length ≤ 2 * c ∧ x.a.length ≤ 2 * c ∧ x.o.length ≤ 2500 * c
 ly : y.d.length ≤ 2 * c ∧ y.a.length ≤ 2 * c ∧ y.o.length ≤ 2500 * c
structure Mid (n c : Nat) (R : Nat → RS) (W : List Fm) (A0 A1 : Stp → Option Stp) (x y : Bz) (E : List Ev) : Prop where
 wd : Wide n (7 * (c + 1)) R W
 g : ∃ G0 GG, GInv n R W GG ∧ BkOk (GG 0) (bk A0 x) ∧ BkOk (GG 1) (bk A1 y) ∧ GEv G0 GG E ∧ (∀ e ∈ E, e.key = 0 → ∀ d ∈ x.d, (G0 0).dn d.1) ∧ ∀ e ∈ E, e.key = 1 → ∀ d ∈ y.d, (G0 1).dn d.1
 ek : ∀ e ∈ E, e.key < 2
 nd : (E.map (·.key)).Nodup
 lx : x.d.length + E.length ≤ 2 * (c + 1) ∧ x.a.length + E.length ≤ 2 * (c + 1) ∧ x.o.length ≤ 2500 * c
 ly : y.d.length + E.length ≤ 2 * (c + 1) ∧ y.a.length + E.length ≤ 2 * (c + 1) ∧ y.o.length ≤ 2500 * c
section
variable {n c : Nat} {R : Nat → RS} {W : List Fm} {A0 A1 : Stp → Option Stp} {x y : Bz} {E : List Ev}
theorem Wide.lost {m : Nat} (h : Wide n m R W) {W' : List Fm} (hs : ∀ f, f ∈ W' → f ∈ W) : Wide n m R W' := ⟨h.lv, h.fit, h.low, fun f hf => h.wk f (hs f hf), fun f hf => h.ws f (hs f hf)⟩
theorem Mid.lost (h : Mid n c R W A0 A1 x y E) {W' : List Fm} (hs : ∀ f, f ∈ W' → f ∈ W) : Mid n c R W' A0 A1 x y E := by
 obtain ⟨G0, GG, h1, h2⟩ := h.g
 exact ⟨h.wd.lost hs, ⟨G0, GG, h1.lost hs, h2⟩, h.ek, h.nd, h.lx, h.ly⟩
theorem Wide.step {m m' : Nat} (h : Wide n m R W) (hm : m ≤ m') {i : Nat} {r' : RS} {F : List Fm} (h1 : r'.v = (R i).v) (hi : i < n) (h2 : Fit m' r') (h3 : Low r') (h4 : ∀ f ∈ F, f.key < 2) (h5 : FB F) : Wide n m' (put R i r') (W ++ F) := by
 refine ⟨fun j hj => ?_, fun j hj => ?_, fun j hj => ?_, fun f hf => (List.mem_append.1 hf).elim (h.wk f) (h4 f), h.ws.app h5⟩ <;> by_cases e : j = i
 ·subst e; rw [Rep.put_at, h1]; exact h.lv j hj
 ·rw [Rep.put_ne _ _ _ e]; exact h.lv j hj
 ·subst e; rw [Rep.put_at]; exact h2
 ·rw [Rep.put_ne _ _ _ e]; exact (h.fit j hj).mono hm
 ·subst e; rw [Rep.put_at]; exact h3
 ·rw [Rep.put_ne _ _ _ e]; exact h.low j hj
theorem has_of {GG : Nat → Rep.Gh} (g : GInv n R W GG) {i : Nat} (hi : i < n) : Rep.complete (R i) = true := by
 unfold Rep.complete
 rw [g.has i hi 0 (by decide), g.has i hi 1 (by decide), g.has i hi 2 (by decide), g.has i hi 3 (by decide), g.has i hi 4 (by decide), g.has i hi 5 (by decide)]
 rfl
theorem Law.mid (h : Law n c R W A0 A1 x y) {R' : Nat → RS} {W' : List Fm} {A0' A1' : Stp → Option Stp} (wd : Wide n (7 * (c + 1)) R' W') (ek : ∀ e ∈ E, e.key < 2) (nd : (E.map (·.key)).Nodup)
  (hg : ∀ GG, GInv n R W GG → BkOk (GG 0) (bk A0 x) → BkOk (GG 1) (bk A1 y) → ∃ GG', GInv n R' W' GG' ∧ BkOk (GG' 0) (bk A0' x) ∧ BkOk (GG' 1) (bk A1' y) ∧ GEv GG GG' E) : Mid n c R' W' A0' A1' x y E := by
 obtain ⟨GG, g0, g1, g2⟩ := h.g
 obtain ⟨GG', k0, k1, k2, k3⟩ := hg GG g0 g1 g2
 have hl := two_len nd (by simpa using ek)
 rw [List.length_map] at hl
 have l1 := h.lx
 have l2 := h.ly
 exact ⟨wd, ⟨GG, GG', k0, k1, k2, k3, (fun _ _ _ d hd => (g1.dn d hd).1), fun _ _ _ d hd => (g2.dn d hd).1⟩, ek, nd, ⟨by omega, by omega, by omega⟩, ⟨by omega, by omega, by omega⟩⟩
theorem Law.tick (h : Law n c R W A0 A1 x y) {i : Nat} (hi : i < n) (every replay : Nat) : Mid n c (put R i (Rep.tick (R i) every replay true).1) (W ++ (Rep.tick (R i) every replay true).2.1) A0 A1 x y (Rep.tick (R i) every replay true).2.2 := by
 obtain ⟨GG, g0, _⟩ := h.g
 obtain ⟨a1, a2, a3⟩ := Rep.Low.tick (h.wd.low i hi) (g0.m i hi) (g0.c i hi) (has_of g0 hi) every replay
 refine h.mid (h.wd.step (by omega) (tick_v _ _ _ _) hi ((h.wd.fit i hi).tick every replay true) a1 a2 (fb_tick (h.wd.fit i hi) every replay true)) a3 (Rep.tick_evk _ _ _ _) fun GG k0 k1 k2 => ?_
 obtain ⟨G', x1, x2, x3, x4⟩ := k0.tick hi every replay
 exact ⟨G', x3, k1.ext (x1 0) (x2 0), k2.ext (x1 1) (x2 1), x4⟩
theorem Law.on (h : Law n c R W A0 A1 x y) {i : Nat} (hi : i < n) (f : Fm) (hf : f ∈ W) : Mid n c (put R i (Rep.on (R i) f true).1) (W ++ (Rep.on (R i) f true).2.1) A0 A1 x y (Rep.on (R i) f true).2.2 := by
 obtain ⟨GG, g0, _⟩ := h.g
 obtain ⟨a1, a2, a3⟩ := Rep.Low.on (h.wd.low i hi) (g0.m i hi) (g0.c i hi) f (h.wd.wk f hf) true
 refine h.mid (h.wd.step (by omega) (on_v _ _ _) hi (((h.wd.fit i hi).on f true (h.wd.ws f hf)).mono (by omega)) a1 a2 (fb_on (h.wd.fit i hi) f true (h.wd.ws f hf))) a3 (Rep.on_evk _ _ _) fun GG k0 k1 k2 => ?_
 obtain ⟨G', x1, x2, x3, x4⟩ := k0.on hi f hf
 exact ⟨G', x3, k1.ext (x1 0) (x2 0), k2.ext (x1 1) (x2 1), x4⟩
theorem Law.idle (h : Law n c R W A0 A1 x y) : Mid n c R W A0 A1 x y [] := by
 refine h.mid ⟨h.wd.lv, fun j hj => (h.wd.fit j hj).mono (by omega), h.wd.low, h.wd.wk, h.wd.ws⟩ (fun _ h => by cases h) List.nodup_nil fun GG k0 k1 k2 => ⟨GG, k0, k1, k2, Rep.GEv.nil _ _⟩
theorem put_id (R : Nat → RS) (i : Nat) : put R i (R i) = R := Rep.put_self _ _
def upK (k j : Nat) (A : Stp → Option Stp) (s c : Stp) : Stp → Option Stp := if j = k then upS A s c else A
theorem Law.write (h : Law n c R W A0 A1 x y) {i : Nat} (hi : i < n) {k : Nat} (hk : k < 2) (t : ByteArray) (rmw : Bool) :
  ((Rep.write (R i) k true t rmw).2 = none ∧ Mid n c (put R i (Rep.write (R i) k true t rmw).1.1) (W ++ (Rep.write (R i) k true t rmw).1.2.1) A0 A1 x y (Rep.write (R i) k true t rmw).1.2.2) ∨
  ∃ s, (Rep.write (R i) k true t rmw).2 = some s ∧ Mid n c (put R i (Rep.write (R i) k true t rmw).1.1) (W ++ (Rep.write (R i) k true t rmw).1.2.1) (upK k 0 A0 s ((R i).P k).c.w.s) (upK k 1 A1 s ((R i).P k).c.w.s) x y (Rep.write (R i) k true t rmw).1.2.2 := by
 obtain ⟨GG, g0, _⟩ := h.g
 obtain ⟨a1, a2, a3⟩ := Rep.Low.write (h.wd.low i hi) (g0.m i hi) (g0.c i hi) hk true t rmw
 have wd := h.wd.step (m' := 7 * (c + 1)) (by omega) (write_v (R i) k true t rmw) hi (((h.wd.fit i hi).write k true t rmw).mono (by omega)) a1 a2 (fb_write (h.wd.fit i hi) k true t rmw)
 have ev := Rep.write_evk (R i) k true t rmw
 cases hw : (Rep.write (R i) k true t rmw).2 with
 | none =>
  refine .inl ⟨rfl, h.mid wd a3 ev fun GG k0 k1 k2 => ?_⟩
  rcases k0.write hi (by omega : k < 6) true t rmw with ⟨_, e⟩ | ⟨s, e, _⟩
  ·rw [e, put_id]
   rw [List.append_nil]
   exact ⟨GG, k0, k1, k2, Rep.GEv.nil _ _⟩
  ·rw [hw] at e; cases e
 | some s =>
  refine .inr ⟨s, rfl, h.mid wd a3 ev fun GG k0 k1 k2 => ?_⟩
  rcases k0.write hi (by omega : k < 6) true t rmw with ⟨e, _⟩ | ⟨s', e, G', hb, x1, x3, x4⟩
  ·rw [hw] at e; cases e
  ·rw [hw] at e
   injection e with e
   subst e
   refine ⟨G', x3, ?_, ?_, x4⟩
   ·have hb0 := hb 0
    unfold upK
    split
    ·rename_i e
     rw [if_pos e, ← e] at hb0
     have := k1.wrote (x1 0) hb0
     rw [show bk (upS A0 s ((R i).P k).c.w.s) x = { bk A0 x with bases := fun y => if y = s then ((R i).P 0).c.w.s else (bk A0 x).bases y } by rw [← e]; unfold bk; rw [bsA_up]]
     exact this
    ·rename_i e
     rw [if_neg e] at hb0
     exact k1.ext (x1 0) hb0
   ·have hb0 := hb 1
    unfold upK
    split
    ·rename_i e
     rw [if_pos e, ← e] at hb0
     have := k2.wrote (x1 1) hb0
     rw [show bk (upS A1 s ((R i).P k).c.w.s) y = { bk A1 y with bases := fun z => if z = s then ((R i).P 1).c.w.s else (bk A1 y).bases z } by rw [← e]; unfold bk; rw [bsA_up]]
     exact this
    ·rename_i e
     rw [if_neg e] at hb0
     exact k2.ext (x1 1) hb0
theorem Mid.kind {e : Ev} (h : Mid n c R W A0 A1 x y (e :: E)) : e.kind = 1 ∨ e.kind = 2 := by
 obtain ⟨G0, GG, _, _, _, g3, _⟩ := h.g
 rcases (g3 e (List.mem_cons_self ..)).2 with h | h
 ·exact .inl h.1
 ·exact .inr h.1
theorem Mid.key {e : Ev} (h : Mid n c R W A0 A1 x y (e :: E)) : e.key = 0 ∨ e.key = 1 := by
 have := h.ek e (List.mem_cons_self ..)
 omega
theorem Mid.other {e : Ev} (h : Mid n c R W A0 A1 x y (e :: E)) : ∀ e' ∈ E, e'.key ≠ e.key := fun e' he' => by
 have := h.nd
 rw [List.map_cons, List.nodup_cons] at this
 intro hk
 exact this.1 (hk ▸ List.mem_map.2 ⟨e', he', rfl⟩)
theorem soOk_of {GG : Nat → Rep.Gh} (g : GInv n R W GG) {k : Nat} (hk : k < 6) {A : Stp → Option Stp} {z : Bz} (hb : BkOk (GG k) (bk A z)) (cs : Nat → Cel) (hc : ∀ i, cs i = ((R i).P k).c) : SoOk n cs z := by
 have I := g.K k hk
 refine ⟨fun i hi d hd => ?_, fun i j hi hj e => ?_, fun i hi a ha => ?_⟩
 ·rw [hc]; exact Rep.sound_done I hb hi d hd
 ·rw [hc, hc] at e ⊢; exact I.agree hi hj e
 ·rw [hc]; exact I.never (ha.elim (hb.ov a) (hb.ab a)) hi
theorem Mid.so (h : Mid n c R W A0 A1 x y E) (c0 c1 : Nat → Cel) (h0 : ∀ i, c0 i = ((R i).P 0).c) (h1 : ∀ i, c1 i = ((R i).P 1).c) : SoOk n c0 x ∧ SoOk n c1 y := by
 obtain ⟨G0, GG, g0, g1, g2, _⟩ := h.g
 exact ⟨soOk_of g0 (by decide) g1 c0 h0, soOk_of g0 (by decide) g2 c1 h1⟩
theorem grw_bk {G : Rep.Gh} {A : Stp → Option Stp} {m : Nat} {z z' : Bz} (h : BkOk G (bk A z)) (g : Grw m z z') : BkOk G (bk A z') := by
 obtain ⟨l, e, gl, _⟩ := g.o
 have := Rep.over_ok h l gl
 unfold bk at this ⊢
 rw [g.d, g.a, e]
 exact this
theorem Mid.fin (h : Mid n c R W A0 A1 x y E) (hn : n ≤ 4) (hc : c < 250) (hw : W.length ≤ 80) {x' y' : Bz} (gx : Grw (n * x.a.length) x x') (gy : Grw (n * y.a.length) y y') : Law n (c + 1) R W A0 A1 x' y' := by
 obtain ⟨G0, GG, g0, g1, g2, _⟩ := h.g
 have l1 := h.lx
 have l2 := h.ly
 have b1 := gx.len
 have b2 := gy.len
 have m1 : n * x.a.length ≤ 4 * 500 := Nat.mul_le_mul hn (by omega)
 have m2 : n * y.a.length ≤ 4 * 500 := Nat.mul_le_mul hn (by omega)
 exact ⟨h.wd, ⟨GG, g0, grw_bk g1 gx, grw_bk g2 gy⟩, hw, ⟨by rw [gx.d]; omega, by rw [gx.a]; omega, by omega⟩, ⟨by rw [gy.d]; omega, by rw [gy.a]; omega, by omega⟩⟩
end
theorem bkOk_zero : BkOk Rep.G0 (bk (fun _ => none) ⟨[], [], [], nilS, nilS, nilS⟩) :=
 ⟨(fun _ _ h => by cases h), (fun _ h => by cases h), (fun _ h => by cases h), fun _ h => by cases h⟩
theorem Law.start {n : Nat} (h1 : 1 ≤ n) (h5 : n ≤ 5) : Law n 0 (rN n) [] (fun _ => none) (fun _ => none) ⟨[], [], [], nilS, nilS, nilS⟩ ⟨[], [], [], nilS, nilS, nilS⟩ :=
 ⟨⟨fun _ _ => rfl, fun j _ => by
   have := Fit.begun (j + 1) 1 true
   exact ⟨this.age, this.tk, this.ca, this.st, this.sd⟩, fun j _ => Rep.low_N n j, (fun _ h => by cases h), FB.nil⟩,
  ⟨fun _ => Rep.G0, GInv.start h1 h5, bkOk_zero, bkOk_zero⟩, Nat.zero_le _, ⟨Nat.zero_le _, Nat.zero_le _, Nat.zero_le _⟩, ⟨Nat.zero_le _, Nat.zero_le _, Nat.zero_le _⟩⟩
end X20
end Go.Proofs.Ytafcbipmmjegcaa.Vm
namespace Go.Proofs.Ytafcbipmmjegcaa
namespace Rep
open Vm.X5 (hasV othV aheadV behindV)
def Heads (n : Nat) (f : Fm) (j : Nat) : Prop := ∃ m, m < n ∧ f.to = ad (m + 1) ∧ (m = j ∨ (f.dir = 2 ∧ m < j) ∨ (f.dir = 1 ∧ j < m))
def Evi (n i j : Nat) (d : Drv) (f : Fm) : Prop :=
 (f.kind = 1 ∧ f.frm = ad (i + 1) ∧ f.w = d.w ∧ Heads n f j) ∨ (f.kind = 2 ∧ f.frm = ad (j + 1) ∧ f.to = ad (i + 1) ∧ f.w.s = d.w.s) ∨
 (d.w.r = true ∧ f.kind = 1 ∧ f.to = ad (i + 1) ∧ less d.w.s f.w.s = true)
def HasE (n k : Nat) (W : List Fm) (i j : Nat) (d : Drv) : Prop := ∃ f, f ∈ W ∧ f.key = k ∧ Evi n i j d f
def Above (n : Nat) (P : Nat → Plc) (s : Stp) : Prop := ∃ j, j < n ∧ less s (P j).c.w.s = true
def Under (n : Nat) (P : Nat → Plc) (s : Stp) : Prop := ∃ j, j < n ∧ Le s (P j).c.w.s
structure LD (n k : Nat) (P : Nat → Plc) (W : List Fm) (i : Nat) (d : Drv) : Prop where
 own : d.own = false ∨ d.w.r = true → (P i).c.w.s = d.w.s
 nd : ∃ j, j < n ∧ j ≠ i ∧ d.acks (j + 1) = false
 ev : ∀ j, j < n → j ≠ i → d.acks (j + 1) = false → HasE n k W i j d
 cv : d.cov = true → Above n P d.w.s
def Top (n : Nat) (P : Nat → Plc) (i : Nat) : Prop := ∀ j, j < n → Le (P j).c.w.s (P i).c.w.s
def HasV (k : Nat) (W : List Fm) (j : Nat) (s : Stp) : Prop := ∃ f, f ∈ W ∧ f.key = k ∧ f.kind = 3 ∧ f.to = ad (j + 1) ∧ f.w.s = s
def Calm (n k : Nat) (P : Nat → Plc) (W : List Fm) (s : Stp) : Prop := ∀ j, j < n → (P j).c.w.s = s ∧ ((P j).c.st = 1 ∨ HasV k W j s)
def Quiet (n k : Nat) (P : Nat → Plc) (W : List Fm) (s : Stp) : Prop := (∃ q, q < n ∧ ∃ d, (P q).dr = some d ∧ d.own = true ∧ d.w.s = s) ∨ Calm n k P W s
structure LK (n k : Nat) (P : Nat → Plc) (W : List Fm) : Prop where
 st : ∀ i, i < n → (P i).c.st = 1 ∨ (P i).c.st = 2
 dr : ∀ i, i < n → ∀ d, (P i).dr = some d → LD n k P W i d
 ca : ∀ f, f ∈ W → f.key = k → f.kind = 2 → f.flag = true → Above n P f.w.s
 fw : ∀ f, f ∈ W → f.key = k → f.kind = 1 ∨ f.kind = 5 → Under n P f.w.s
 mx : ∀ i, i < n → Top n P i → Quiet n k P W (P i).c.w.s
section
variable {n k i : Nat} {P : Nat → Plc} {W W0 W' F : List Fm} {G : Gh} {r : RS} {p : Plc} {f : Fm}
theorem put_le (hl : Le (P i).c.w.s p.c.w.s) (j : Nat) : Le (P j).c.w.s (put P i p j).c.w.s := by
 by_cases e : j = i
 ·subst e; rw [put_at]; exact hl
 ·rw [put_ne _ _ _ e]; exact Le.refl _
theorem Above.up {s : Stp} (h : Above n P s) (hl : Le (P i).c.w.s p.c.w.s) : Above n (put P i p) s := by
 obtain ⟨j, hj, e⟩ := h
 exact ⟨j, hj, less_le e (put_le hl j)⟩
theorem Under.up {s : Stp} (h : Under n P s) (hl : Le (P i).c.w.s p.c.w.s) : Under n (put P i p) s := by
 obtain ⟨j, hj, e⟩ := h
 exact ⟨j, hj, e.tr (put_le hl j)⟩
theorem HasE.mono {q j : Nat} {d : Drv} (h : HasE n k W q j d) (hs : ∀ f, f ∈ W → f.key = k → f ∈ W') : HasE n k W' q j d := by
 obtain ⟨f, h1, h2, h3⟩ := h
 exact ⟨f, hs f h1 h2, h2, h3⟩
theorem HasE.next {q j : Nat} {d : Drv} (h : HasE n k (f :: W0) q j d) (hx : f.key = k → Evi n q j d f → HasE n k F q j d) : HasE n k (W0 ++ F) q j d := by
 obtain ⟨g, h1, h2, h3⟩ := h
 rcases List.mem_cons.1 h1 with e | h1
 ·subst e
  exact (hx h2 h3).mono fun f hf _ => List.mem_append.2 (.inr hf)
 ·exact ⟨g, List.mem_append.2 (.inl h1), h2, h3⟩
theorem HasE.word {q j : Nat} {d d' : Drv} (h : HasE n k W q j d) (e : d'.w = d.w) : HasE n k W q j d' := by
 obtain ⟨f, h1, h2, h3⟩ := h
 exact ⟨f, h1, h2, by unfold Evi at *; rw [e]; exact h3⟩
theorem LK.move (h : LK n k P W) (hi : i < n) (hl : Le (P i).c.w.s p.c.w.s) (hst : p.c.st = 1 ∨ p.c.st = 2)
  (hd : ∀ d, p.dr = some d → LD n k (put P i p) W' i d)
  (hev : ∀ q, q < n → q ≠ i → ∀ d, (P q).dr = some d → ∀ j, j < n → j ≠ q → d.acks (j + 1) = false → HasE n k W' q j d)
  (hca : ∀ f, f ∈ W' → f.key = k → f.kind = 2 → f.flag = true → f ∈ W ∨ Above n (put P i p) f.w.s)
  (hfw : ∀ f, f ∈ W' → f.key = k → f.kind = 1 ∨ f.kind = 5 → f ∈ W ∨ Under n (put P i p) f.w.s)
  (hmx : ∀ o, o < n → Top n (put P i p) o → Quiet n k (put P i p) W' (put P i p o).c.w.s) : LK n k (put P i p) W' := by
 refine ⟨fun q hq => ?_, fun q hq d e => ?_, fun f hf ek e2 ef => ?_, fun f hf ek e1 => ?_, hmx⟩
 ·by_cases e : q = i
  ·subst e; rw [put_at]; exact hst
  ·rw [put_ne _ _ _ e]; exact h.st q hq
 ·by_cases eq : q = i
  ·subst eq; rw [put_at] at e; exact hd d e
  ·rw [put_ne _ _ _ eq] at e
   have h1 := h.dr q hq d e
   exact ⟨fun ho => by rw [put_ne _ _ _ eq]; exact h1.own ho, h1.nd, fun j hj hjq ha => hev q hq eq d e j hj hjq ha, fun c => (h1.cv c).up hl⟩
 ·rcases hca f hf ek e2 ef with h1 | h1
  ·exact (h.ca f h1 ek e2 ef).up hl
  ·exact h1
 ·rcases hfw f hf ek e1 with h1 | h1
  ·exact (h.fw f h1 ek e1).up hl
  ·exact h1
theorem LK.mxA (h : LK n k P W) (hs : p.c.w.s = (P i).c.w.s) (hst : (P i).c.st = 1 → p.c.st = 1)
  (hd : ∀ d, (P i).dr = some d → d.own = true → ∃ d', p.dr = some d' ∧ d'.own = true ∧ d'.w.s = d.w.s)
  (hv : ∀ j, j < n → HasV k W j (P j).c.w.s → (put P i p j).c.st = 1 ∨ HasV k W' j (P j).c.w.s) :
  ∀ o, o < n → Top n (put P i p) o → Quiet n k (put P i p) W' (put P i p o).c.w.s := by
 have sc : ∀ j, (put P i p j).c.w.s = (P j).c.w.s := fun j => by
  by_cases e : j = i
  ·subst e; rw [put_at]; exact hs
  ·rw [put_ne _ _ _ e]
 intro o ho ht
 have ht' : Top n P o := fun j hj => by have := ht j hj; rwa [sc, sc] at this
 rw [sc]
 rcases h.mx o ho ht' with ⟨q, hq, d, e1, e2, e3⟩ | hc
 ·left
  by_cases e : q = i
  ·subst e
   obtain ⟨d', g1, g2, g3⟩ := hd d e1 e2
   exact ⟨q, hq, d', by rw [put_at]; exact g1, g2, g3.trans e3⟩
  ·exact ⟨q, hq, d, by rw [put_ne _ _ _ e]; exact e1, e2, e3⟩
 ·right
  intro j hj
  obtain ⟨e1, e2⟩ := hc j hj
  refine ⟨by rw [sc]; exact e1, ?_⟩
  rcases e2 with e2 | e2
  ·left
   by_cases e : j = i
   ·subst e; rw [put_at]; exact hst e2
   ·rw [put_ne _ _ _ e]; exact e2
  ·have := hv j hj (by rw [e1]; exact e2)
   rw [e1] at this
   exact this
theorem LK.took (h : LK n k P W) (hI : InvK n P k W G) (hi : i < n) (hless : less (P i).c.w.s p.c.w.s = true) (hst : p.c.st = 1 ∨ p.c.st = 2)
  (hpd : ∀ d, p.dr = some d → (P i).dr = some d ∧ d.own = true ∧ d.w.r = false) (hu : Under n P p.c.w.s)
  (hev : ∀ q, q < n → ∀ d, (P q).dr = some d → (q = i → d.own = true ∧ d.w.r = false) → ∀ j, j < n → j ≠ q → d.acks (j + 1) = false → HasE n k W' q j d)
  (hca : ∀ f, f ∈ W' → f.key = k → f.kind = 2 → f.flag = true → f ∈ W ∨ Above n (put P i p) f.w.s)
  (hfw : ∀ f, f ∈ W' → f.key = k → f.kind = 1 ∨ f.kind = 5 → f ∈ W ∨ Under n (put P i p) f.w.s) : LK n k (put P i p) W' := by
 have hl : Le (P i).c.w.s p.c.w.s := Le.of_less hless
 refine h.move hi hl hst (fun d e => ?_) (fun q hq hqi d e => hev q hq d e (fun x => absurd x hqi)) hca hfw fun o ho ht => ?_
 ·obtain ⟨e1, e2, e3⟩ := hpd d e
  have h1 := h.dr i hi d e1
  exact ⟨fun ho => by rcases ho with ho | ho <;> simp_all, h1.nd, fun j hj hji ha => hev i hi d e1 (fun _ => ⟨e2, e3⟩) j hj hji ha, fun c => (h1.cv c).up hl⟩
 ·obtain ⟨u, hu, hul⟩ := hu
  have hui : u ≠ i := fun e => by
   subst e
   unfold Le at hul
   rw [hless] at hul
   cases hul
  have huP : (put P i p u) = P u := put_ne _ _ _ hui
  have htop : ∃ t, t < n ∧ Top n P t ∧ (P t).c.w.s = (put P i p o).c.w.s := by
   by_cases e : o = i
   ·subst e
    rw [put_at]
    have h1 : Le (P u).c.w.s p.c.w.s := by have := ht u hu; rwa [put_at, huP] at this
    have h2 : (P u).c.w.s = p.c.w.s := by
     rcases Le.cases hul with e | e
     ·exact e
     ·unfold Le at h1; rw [e] at h1; cases h1
    refine ⟨u, hu, fun j hj => ?_, h2⟩
    rw [h2]
    have := ht j hj
    rw [put_at] at this
    exact (put_le hl j).tr this
   ·refine ⟨o, ho, fun j hj => ?_, by rw [put_ne _ _ _ e]⟩
    have := ht j hj
    rw [put_ne _ _ _ e] at this
    exact (put_le hl j).tr this
  obtain ⟨t, ht1, ht2, ht3⟩ := htop
  rw [← ht3]
  have hlt : less (P i).c.w.s (P t).c.w.s = true := less_le (less_le hless hul) (ht2 u hu)
  rcases h.mx t ht1 ht2 with ⟨q, hq, d, e1, e2, e3⟩ | hc
  ·left
   have hqi : q ≠ i := fun e => by
    subst e
    have h1 := hI.Hl q hq _ (hI.dr q hq d e1).h
    rw [e3] at h1
    unfold Le at h1
    rw [hlt] at h1
    cases h1
   exact ⟨q, hq, d, by rw [put_ne _ _ _ hqi]; exact e1, e2, e3⟩
  ·have := (hc i hi).1
   rw [this, less_irr] at hlt
   cases hlt
theorem LK.same (h : LK n k P W) (hi : i < n)
  (hev : ∀ q, q < n → ∀ d, (P q).dr = some d → ∀ j, j < n → j ≠ q → d.acks (j + 1) = false → HasE n k W' q j d)
  (hca : ∀ f, f ∈ W' → f.key = k → f.kind = 2 → f.flag = true → f ∈ W ∨ Above n P f.w.s)
  (hfw : ∀ f, f ∈ W' → f.key = k → f.kind = 1 ∨ f.kind = 5 → f ∈ W ∨ Under n P f.w.s)
  (hv : ∀ j, j < n → HasV k W j (P j).c.w.s → (P j).c.st = 1 ∨ HasV k W' j (P j).c.w.s) : LK n k P W' := by
 have := h.move (p := P i) (W' := W') hi (Le.refl _) (h.st i hi) (fun d e => by
   have h1 := h.dr i hi d e
   rw [put_self]
   exact ⟨h1.own, h1.nd, fun j hj hji ha => hev i hi d e j hj hji ha, h1.cv⟩) (fun q hq _ d e => hev q hq d e) (by rw [put_self]; exact hca) (by rw [put_self]; exact hfw)
  (h.mxA rfl id (fun d e o => ⟨d, e, o, rfl⟩) (by rw [put_self]; exact hv))
 rwa [put_self] at this
theorem LK.tells (h : LK n k P W) (hi : i < n) (hs : p.c.w.s = (P i).c.w.s) (hst : p.c.st = 1 ∨ p.c.st = 2 ∧ (P i).c.st = 2)
  (hpd : ∀ d', p.dr = some d' → ∃ d, (P i).dr = some d ∧ d'.w = d.w ∧ d'.own = d.own ∧ (d'.cov = true → Above n P d.w.s) ∧ (∃ j, j < n ∧ j ≠ i ∧ d'.acks (j + 1) = false) ∧ ∀ j, j < n → j ≠ i → d'.acks (j + 1) = false → HasE n k W' i j d)
  (hkeep : ∀ d, (P i).dr = some d → d.own = true → ∃ d', p.dr = some d' ∧ d'.own = true ∧ d'.w.s = d.w.s)
  (hev : ∀ q, q < n → q ≠ i → ∀ d, (P q).dr = some d → ∀ j, j < n → j ≠ q → d.acks (j + 1) = false → HasE n k W' q j d)
  (hca : ∀ f, f ∈ W' → f.key = k → f.kind = 2 → f.flag = true → f ∈ W)
  (hfw : ∀ f, f ∈ W' → f.key = k → f.kind = 1 ∨ f.kind = 5 → f ∈ W ∨ Under n P f.w.s)
  (hv : ∀ j, j < n → HasV k W j (P j).c.w.s → (put P i p j).c.st = 1 ∨ HasV k W' j (P j).c.w.s) : LK n k (put P i p) W' := by
 have hl : Le (P i).c.w.s p.c.w.s := by rw [hs]; exact Le.refl _
 refine h.move hi hl (hst.imp id And.left) (fun d' e => ?_) hev (fun f a b c d => .inl (hca f a b c d)) (fun f a b c => (hfw f a b c).imp id fun u => u.up hl) (h.mxA hs (fun e => hst.elim id fun x => absurd (x.2.symm.trans e) (by decide)) hkeep hv)
 obtain ⟨d, e1, e2, e3, e4, e5, e6⟩ := hpd d' e
 have h1 := h.dr i hi d e1
 exact ⟨fun ho => by rw [put_at, hs, e2]; exact h1.own (by rw [e3, e2] at ho; exact ho), e5, fun j hj hji ha => (e6 j hj hji ha).word e2, fun c => by rw [e2]; exact (e4 c).up hl⟩
end
end Rep
end Go.Proofs.Ytafcbipmmjegcaa
namespace Go.Proofs.Ytafcbipmmjegcaa
namespace Rep
open Vm.X5 (hasV othV aheadV behindV)
structure FW (n : Nat) (f : Fm) : Prop where
 ep : f.epoch = 1
 key : f.key < 6
 ends : ∃ i j, i < n ∧ j < n ∧ i ≠ j ∧ f.frm = ad (i + 1) ∧ f.to = ad (j + 1) ∧ (f.kind = 1 → f.dir = 0 ∨ (f.dir = 1 ∧ j < i) ∨ (f.dir = 2 ∧ i < j))
structure Lin (n i : Nat) (r : RS) : Prop where
 e : r.v.e = 1
 a : aheadV r.v.ms r.self = i
 b : behindV r.v.ms r.self = if i + 1 < n then i + 2 else 0
theorem Lin.keep {n i k : Nat} {r r' : RS} (l : Lin n i r) (h : Keep k r r') : Lin n i r' := ⟨by rw [h.v]; exact l.e, by rw [h.v, h.self]; exact l.a, by rw [h.v, h.self]; exact l.b⟩
theorem adj {n i j : Nat} (hi : i < n) (hj : j < n) (hn : n ≤ 100) (h : ad (i + 1) = ad (j + 1)) : i = j := by
 have := ad_inj (a := i + 1) (b := j + 1) (by omega) (by omega) h
 omega
def FWs (n : Nat) (F : List Fm) : Prop := ∀ f, f ∈ F → FW n f
theorem FWs.nil (n : Nat) : FWs n [] := fun _ h => by cases h
theorem FWs.app {n : Nat} {F F' : List Fm} (h : FWs n F) (h' : FWs n F') : FWs n (F ++ F') := fun f hf => (List.mem_append.1 hf).elim (h f) (h' f)
theorem FWs.one {n : Nat} {f : Fm} (h : FW n f) : FWs n [f] := fun x hx => by rw [List.mem_singleton] at hx; subst hx; exact h
section
variable {n k i : Nat} {r : RS}
theorem Mate.inR (m : Mate n i r) (hi : i < n) : inR r = true := by
 unfold Rep.inR
 rw [m.self, m.life]
 exact m.mem i hi
theorem Mate.oth_ne (m : Mate n i r) {x : Nat} (hx : x ∈ Rep.oth r) : ∃ j, j < n ∧ j ≠ i ∧ x = j + 1 := by
 obtain ⟨j, hj, e⟩ := m.ohas x hx
 refine ⟨j, hj, fun h => ?_, e⟩
 unfold Rep.oth Vm.X5.othV at hx
 obtain ⟨y, hy, e2⟩ := List.mem_map.1 hx
 have := (List.mem_filter.1 hy).2
 rw [m.self] at this
 have h3 : y.node ≠ i + 1 := by simpa using this
 omega
theorem fw_to (m : Mate n i r) (l : Lin n i r) (hi : i < n) (hk : k < 6) {q : Nat} (hq : q < n) (hqi : q ≠ i) (kind : Nat) (w : Wrd) (fl : Bool) : FW n (frW r kind (q + 1) k w fl 0) :=
 ⟨l.e, hk, i, q, hi, hq, Ne.symm hqi, by show ad r.self = _; rw [m.self], rfl, fun _ => .inl rfl⟩
theorem fw_sent (m : Mate n i r) (l : Lin n i r) (hi : i < n) (hk : k < 6) (w : Wrd) : FWs n (sent r k w) := by
 unfold sent
 rw [l.a, l.b]
 refine FWs.app ?_ ?_
 ·split
  ·exact FWs.nil _
  ·rename_i h
   obtain ⟨q, rfl⟩ : ∃ q, i = q + 1 := ⟨i - 1, by omega⟩
   exact FWs.one ⟨l.e, hk, q + 1, q, hi, by omega, by omega, by show ad r.self = _; rw [m.self], rfl, fun _ => .inr (.inl ⟨rfl, by omega⟩)⟩
 ·by_cases hb : i + 1 < n
  ·rw [if_pos hb, if_neg (by omega)]
   exact FWs.one ⟨l.e, hk, i, i + 1, hi, hb, by omega, by show ad r.self = _; rw [m.self], rfl, fun _ => .inr (.inr ⟨rfl, by omega⟩)⟩
  ·rw [if_neg hb, if_pos rfl]; exact FWs.nil _
theorem sent_heads (m : Mate n i r) (l : Lin n i r) (hi : i < n) (w : Wrd) {j : Nat} (hj : j < n) (hji : j ≠ i) : ∃ f, f ∈ sent r k w ∧ f.key = k ∧ f.kind = 1 ∧ f.frm = ad (i + 1) ∧ f.w = w ∧ Heads n f j := by
 unfold sent
 rw [l.a, l.b]
 by_cases h : j < i
 ·obtain ⟨q, rfl⟩ : ∃ q, i = q + 1 := ⟨i - 1, by omega⟩
  refine ⟨frW r 1 (q + 1) k w false 1, List.mem_append.2 (.inl (by rw [if_neg (by omega)]; exact List.mem_singleton.2 rfl)), rfl, rfl, by show ad r.self = _; rw [m.self], rfl, q, by omega, rfl, ?_⟩
  by_cases e : q = j
  ·exact .inl e
  ·exact .inr (.inr ⟨rfl, by omega⟩)
 ·have hb : i + 1 < n := by omega
  rw [if_pos hb]
  refine ⟨frW r 1 (i + 2) k w false 2, List.mem_append.2 (.inr (by rw [if_neg (by omega)]; exact List.mem_singleton.2 rfl)), rfl, rfl, by show ad r.self = _; rw [m.self], rfl, i + 1, hb, rfl, ?_⟩
  by_cases e : i + 1 = j
  ·exact .inl e
  ·exact .inr (.inl ⟨rfl, by omega⟩)
theorem sent_kind {w : Wrd} {f : Fm} (h : f ∈ sent r k w) : f.kind = 1 ∧ f.w = w ∧ f.key = k := by
 unfold sent at h
 rcases List.mem_append.1 h with h | h
 ·split at h
  ·cases h
  ·rw [List.mem_singleton] at h; subst h; exact ⟨rfl, rfl, rfl⟩
 ·split at h
  ·cases h
  ·rw [List.mem_singleton] at h; subst h; exact ⟨rfl, rfl, rfl⟩
theorem fw_sendOn (l : Lin n i r) (hi : i < n) (hn : n ≤ 100) {f : Fm} (hf : FW n f) (hk : f.kind = 1) (ht : f.to = ad (i + 1)) : FWs n (sendOn r f) := by
 obtain ⟨q, j, hq, hj, hqj, e1, e2, e3⟩ := hf.ends
 have : j = i := adj hj hi hn (e2.symm.trans ht)
 subst this
 unfold sendOn
 rw [l.a, l.b]
 split
 ·rename_i hd
  split
  ·exact FWs.nil _
  ·rename_i h0
   obtain ⟨p, rfl⟩ : ∃ p, j = p + 1 := ⟨j - 1, by omega⟩
   have hlt : p + 1 < q := by rcases e3 hk with h | ⟨_, h⟩ | ⟨h, _⟩ <;> omega
   exact FWs.one ⟨hf.ep, hf.key, q, p, hq, by omega, by omega, e1, rfl, fun _ => .inr (.inl ⟨hd, by omega⟩)⟩
 ·split
  ·rename_i hd
   by_cases hb : j + 1 < n
   ·rw [if_pos hb, if_neg (by omega)]
    have hlt : q < j := by rcases e3 hk with h | ⟨h, _⟩ | ⟨_, h⟩ <;> omega
    exact FWs.one ⟨hf.ep, hf.key, q, j + 1, hq, hb, by omega, e1, rfl, fun _ => .inr (.inr ⟨hd, by omega⟩)⟩
   ·rw [if_neg hb, if_pos rfl]; exact FWs.nil _
  ·exact FWs.nil _
theorem relay (l : Lin n i r) (hi : i < n) (hn : n ≤ 100) {f : Fm} (ht : f.to = ad (i + 1)) {j : Nat} (hj : j < n) (hji : j ≠ i) (h : Heads n f j) : ∃ g, g ∈ sendOn r f ∧ g.key = f.key ∧ g.kind = f.kind ∧ g.frm = f.frm ∧ g.w = f.w ∧ Heads n g j := by
 obtain ⟨m', hm, e, hh⟩ := h
 have : m' = i := adj hm hi hn (e.symm.trans ht)
 subst this
 unfold sendOn
 rw [l.a, l.b]
 rcases hh with e | ⟨hd, hl⟩ | ⟨hd, hl⟩
 ·exact absurd e.symm hji
 ·refine ⟨{ f with to := ad (m' + 2) }, ?_, rfl, rfl, rfl, rfl, m' + 1, by omega, rfl, ?_⟩
  ·rw [if_neg (by omega), if_pos hd, if_pos (show m' + 1 < n by omega), if_neg (by omega)]; exact List.mem_singleton.2 rfl
  ·by_cases e : m' + 1 = j
   ·exact .inl e
   ·exact .inr (.inl ⟨hd, by omega⟩)
 ·obtain ⟨q, rfl⟩ : ∃ q, m' = q + 1 := ⟨m' - 1, by omega⟩
  refine ⟨{ f with to := ad (q + 1) }, ?_, rfl, rfl, rfl, rfl, q, by omega, rfl, ?_⟩
  ·rw [if_pos hd, if_neg (by omega)]; exact List.mem_singleton.2 rfl
  ·by_cases e : q = j
   ·exact .inl e
   ·exact .inr (.inr ⟨hd, by omega⟩)
theorem sendOn_kind {f g : Fm} (h : g ∈ sendOn r f) : g.kind = f.kind ∧ g.w = f.w ∧ g.key = f.key ∧ g.flag = f.flag := by
 unfold sendOn at h
 split at h
 ·split at h
  ·cases h
  ·rw [List.mem_singleton] at h; subst h; exact ⟨rfl, rfl, rfl, rfl⟩
 ·split at h
  ·split at h
   ·cases h
   ·rw [List.mem_singleton] at h; subst h; exact ⟨rfl, rfl, rfl, rfl⟩
  ·cases h
theorem sender_some (m : Mate n i r) (l : Lin n i r) (hi : i < n) {f : Fm} (hf : FW n f) (ht : f.to = ad (i + 1)) : ∃ q, q < n ∧ q ≠ i ∧ f.frm = ad (q + 1) ∧ sender r f = some (q + 1) := by
 obtain ⟨q, j, hq, hj, hqj, e1, e2, e3⟩ := hf.ends
 have hn := m.few
 have : j = i := adj hj hi hn (e2.symm.trans ht)
 subst this
 refine ⟨q, hq, hqj, e1, ?_⟩
 unfold sender
 rw [if_pos ⟨m.inR hi, by rw [m.self]; exact ht, by rw [l.e]; exact hf.ep, hf.key⟩]
 cases hx : (oth r).find? (fun n => ad n == f.frm) with
 | none =>
  have := List.find?_eq_none.1 hx (q + 1) (m.oth q hq hqj)
  simp [e1] at this
 | some x =>
  have h1 := List.find?_some hx
  obtain ⟨y, hy, _, e⟩ := m.oth_ne (List.mem_of_find?_eq_some hx)
  subst e
  have h2 : ad (y + 1) = ad (q + 1) := by rw [← e1]; simpa using h1
  rw [adj hy hq hn h2]
theorem look_nd (h : ∀ d, (r.P k).dr = some d → doneD d (oth r) = false) : look r k = (r, [], []) := by
 unfold look
 cases hd : (r.P k).dr with
 | none => rfl
 | some d => dsimp only; rw [if_neg (by rw [h d hd]; decide)]
theorem fw_look (m : Mate n i r) (l : Lin n i r) (hi : i < n) (hk : k < 6) : FWs n (look r k).2.1 := by
 unfold look
 split
 ·exact FWs.nil _
 ·split
  ·split
   ·intro f hf
    obtain ⟨z, hz, rfl⟩ := List.mem_map.1 hf
    obtain ⟨j, hj, hji, rfl⟩ := m.oth_ne hz
    exact fw_to m l hi hk hj hji _ _ _
   ·exact FWs.nil _
  ·exact FWs.nil _
theorem way_place (r : RS) (k : Nat) : ((way r k).1.P k).c = (r.P k).c ∧ (∀ d, ((way r k).1.P k).dr = some d → (r.P k).dr = some d ∧ d.own = true ∧ d.w.r = false) ∧ ∀ d, (r.P k).dr = some d → d.own = true → d.w.r = false → ((way r k).1.P k).dr = some d := by
 unfold way
 cases hd : (r.P k).dr with
 | none => dsimp only; rw [setP_P]; exact ⟨rfl, (fun d e => by rw [hd] at e; cases e), (fun d e => by cases e)⟩
 | some d =>
  dsimp only
  cases ho : d.own with
  | false => simp only [Bool.false_eq_true, if_false]; rw [setP_P]; exact ⟨rfl, (fun _ e => by cases e), fun d' e o _ => by injection e with e; subst e; rw [ho] at o; cases o⟩
  | true =>
   cases hr : d.w.r with
   | true => simp only [if_true]; rw [setP_P]; exact ⟨rfl, (fun _ e => by cases e), fun d' e _ o => by injection e with e; subst e; rw [hr] at o; cases o⟩
   | false => simp only [if_true, Bool.false_eq_true, if_false]; rw [setP_P]; exact ⟨rfl, fun d' e => by dsimp only at e; rw [hd] at e; injection e with e; subst e; exact ⟨rfl, ho, hr⟩, fun d' e _ _ => by injection e with e; subst e; exact hd⟩
theorem rest_place (r : RS) (k : Nat) : ((rest r k).P k).c = (r.P k).c ∧ (∀ d, ((rest r k).P k).dr = some d → (r.P k).dr = some d) ∧ ∀ d, (r.P k).dr = some d → d.own = true → ((rest r k).P k).dr = some d := by
 unfold rest
 cases hd : (r.P k).dr with
 | none => dsimp only; rw [setP_P]; exact ⟨rfl, (fun d e => by rw [hd] at e; cases e), (fun d e => by cases e)⟩
 | some d =>
  dsimp only
  cases ho : d.own with
  | false => simp only [Bool.false_eq_true, if_false]; rw [setP_P]; exact ⟨rfl, (fun _ e => by cases e), fun d' e o => by injection e with e; subst e; rw [ho] at o; cases o⟩
  | true => simp only [if_true]; rw [setP_P]; exact ⟨rfl, fun d' e => by dsimp only at e; rw [hd] at e; exact e, fun d' e _ => by injection e with e; subst e; exact hd⟩
theorem setC_P (r : RS) (k : Nat) (c : Cel) : (setC r k c).P k = { r.P k with c := c } := setP_P _ _ _
end
end Rep
end Go.Proofs.Ytafcbipmmjegcaa
