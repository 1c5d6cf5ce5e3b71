/- Texts of this claim: RgP. -/
import Derived.Test.YtafcbipmmjegcaaMg29
namespace Go.Proofs.Ytafcbipmmjegcaa.Vm
open Go Go.RowKit
namespace X20
open Rep (Stp Wrd Cel Drv Plc RS Fm Ev put setP setC vN rN Low GInv GEv GExt Mate Chain Bk BkOk)
def FB (F : List Fm) : Prop := ∀ f, f ∈ F → f.w.s.n ≤ 4294967295
theorem FB.nil : FB [] := fun _ h => by cases h
theorem FB.app {F F' : List Fm} (h : FB F) (h' : FB F') : FB (F ++ F') := fun f hf => (List.mem_append.1 hf).elim (h f) (h' f)
theorem FB.one {f : Fm} (h : f.w.s.n ≤ 4294967295) : FB [f] := fun x hx => by rw [List.mem_singleton] at hx; subst hx; exact h
section
variable {m : Nat} {r : RS}
theorem fb_sent (r : RS) (k : Nat) (w : Wrd) (h : w.s.n ≤ 4294967295) : FB (Rep.sent r k w) := by
  unfold Rep.sent
  refine FB.app ?_ ?_ <;> split <;> first | exact FB.nil | exact FB.one h
theorem fb_look (h : Fit m r) (k : Nat) : FB (Rep.look r k).2.1 := by
  unfold Rep.look
  split
  · exact FB.nil
  · rename_i d hd
    split
    · split
      · intro f hf
        obtain ⟨n, _, rfl⟩ := List.mem_map.1 hf
        exact h.sd k d hd
      · exact FB.nil
    · exact FB.nil
theorem fb_beat (h : Fit m r) (k every : Nat) : FB (Rep.beat r k every).2 := by
  unfold Rep.beat
  split
  · exact FB.nil
  · rename_i d hd
    dsimp only
    split
    · exact fb_sent _ _ _ (h.sd k d hd)
    · exact FB.nil
theorem fb_stall (h : Fit m r) (k replay : Nat) (lease : Bool) : FB (Rep.stall r k replay lease).2 := by
  unfold Rep.stall
  split
  · split
    · split
      · dsimp only
        split
        · exact FB.nil
        · exact FB.one (Nat.zero_le _)
      · exact fb_sent _ _ _ (h.st k)
    · exact FB.nil
  · exact FB.nil
theorem fb_tickK (h : Fit m r) (k every replay : Nat) (lease : Bool) : FB (Rep.tickK r k every replay lease).2.1 := by
  unfold Rep.tickK
  split
  · split
    · exact (fb_look h k).app (fb_beat (h.look k) k every)
    · exact fb_beat h k every
  · exact fb_stall h k replay lease
theorem fb_tickL (every replay : Nat) (lease : Bool) : ∀ (l : List Nat) {m : Nat} {r : RS}, Fit m r → FB (Rep.tickL r every replay lease l).2.1
  | [], _, _, _ => FB.nil
  | k :: l, _, _, h => (fb_tickK h k every replay lease).app (fb_tickL every replay lease l (h.tickK k every replay lease))
theorem fb_asked (r : RS) : FB (Rep.asked r).2 := by
  unfold Rep.asked
  split
  · exact FB.nil
  · intro f hf
    obtain ⟨n, _, rfl⟩ := List.mem_map.1 hf
    exact Nat.zero_le _
theorem fb_tick (h : Fit m r) (every replay : Nat) (lease : Bool) : FB (Rep.tick r every replay lease).2.1 := by
  have h1 := fb_tickL every replay lease [0, 1, 2, 3, 4, 5] h.asked
  have h2 := fb_asked r
  unfold Rep.tick
  split
  · exact h2.app h1
  · exact FB.nil
theorem fb_write (h : Fit m r) (k : Nat) (b : Bool) (t : ByteArray) (rmw : Bool) : FB (Rep.write r k b t rmw).1.2.1 := by
  unfold Rep.write
  split
  · split
    · exact FB.nil
    · rename_i s hs
      have hn := nextS_n hs
      have h2 : Fit m (setP r k ⟨⟨⟨s, b, t, rmw⟩, 2⟩, some (Rep.newD ⟨s, b, t, rmw⟩ true), 0⟩) := h.set k _ (Nat.zero_le _) (fun d hd => by injection hd with hd; subst hd; exact ⟨Nat.zero_le _, hn⟩) hn
      exact (fb_sent _ _ _ hn).app (fb_look h2 k)
  · exact FB.nil
theorem fb_sendOn (r : RS) (f : Fm) (hf : f.w.s.n ≤ 4294967295) : FB (Rep.sendOn r f) := by
  unfold Rep.sendOn
  split
  · split
    · exact FB.nil
    · exact FB.one hf
  · split
    · split
      · exact FB.nil
      · exact FB.one hf
    · exact FB.nil
theorem fb_on (h : Fit m r) (f : Fm) (lease : Bool) (hf : f.w.s.n ≤ 4294967295) : FB (Rep.on r f lease).2.1 := by
  unfold Rep.on
  split
  · exact FB.nil
  · rename_i frm _
    split
    · unfold Rep.onInv
      split
      · exact (fb_sendOn r f hf).app (FB.one (h.st _))
      · split
        · exact (fb_sendOn r f hf).app (FB.one hf)
        · exact (fb_sendOn r f hf).app (FB.one hf)
    · split
      · split
        · unfold Rep.onAck
          split
          · exact FB.nil
          · rename_i d hd
            split
            · refine fb_look (m := m) (h.set f.key { r.P f.key with dr := some (Rep.ackD d frm f.flag) } (h.age _) (fun d' e => ?_) (h.st _)) f.key
              injection e with e
              subst e
              exact ⟨h.tk _ d hd, h.sd _ d hd⟩
            · exact FB.nil
        · exact FB.nil
      · split
        · exact FB.nil
        · split
          · show FB (Rep.onNeed r f frm)
            unfold Rep.onNeed
            split
            · exact FB.one (h.st _)
            · exact FB.nil
          · split
            · exact FB.nil
            · exact FB.nil
end
theorem two_len : ∀ {l : List Nat}, l.Nodup → (∀ a ∈ l, a < 2) → l.length ≤ 2
  | [], _, _ => by simp
  | [_], _, _ => by simp
  | [_, _], _, _ => by simp
  | a :: b :: c :: l, hn, h2 => by
    have h1 := h2 a (by simp)
    have h3 := h2 b (by simp)
    have h4 := h2 c (by simp)
    simp only [List.nodup_cons, List.mem_cons, not_or] at hn
    omega
structure Bz where
  d : List (Stp × Stp × Bool)
  a : List Stp
  o : List Stp
  hd : Value
  ha : Value
  ho : Value
structure Grw (m : Nat) (z z' : Bz) : Prop where
  d : z'.d = z.d
  a : z'.a = z.a
  hd : z'.hd = z.hd
  ha : z'.ha = z.ha
  o : ∃ l, z'.o = z.o ++ l ∧ (∀ s ∈ l, s ∈ z.a) ∧ l.length ≤ m
theorem Grw.refl (z : Bz) : Grw 0 z z := ⟨rfl, rfl, rfl, rfl, [], (List.append_nil _).symm, (fun _ h => by cases h), Nat.le_refl _⟩
theorem Grw.tr {m m' : Nat} {x y z : Bz} (h : Grw m x y) (h' : Grw m' y z) : Grw (m + m') x z := by
  obtain ⟨l, e, g, b⟩ := h.o
  obtain ⟨l', e', g', b'⟩ := h'.o
  refine ⟨h'.d.trans h.d, h'.a.trans h.a, h'.hd.trans h.hd, h'.ha.trans h.ha, l ++ l', by rw [e', e, List.append_assoc], fun s hs => (List.mem_append.1 hs).elim (g s) fun hs => h.a ▸ g' s hs, by rw [List.length_append]; omega⟩
theorem Grw.mono {m m' : Nat} {x y : Bz} (h : Grw m x y) (hm : m ≤ m') : Grw m' x y := by
  obtain ⟨l, e, g, b⟩ := h.o
  exact ⟨h.d, h.a, h.hd, h.ha, l, e, g, by omega⟩
theorem Grw.one (x : Bz) (a : Stp) (ha : a ∈ x.a) (v : Value) : Grw 1 x { x with o := x.o ++ [a], ho := v } :=
  ⟨rfl, rfl, rfl, rfl, [a], rfl, (fun s hs => by rw [List.mem_singleton] at hs; exact hs ▸ ha), Nat.le_refl _⟩
theorem Grw.len {m : Nat} {x y : Bz} (h : Grw m x y) : y.o.length ≤ x.o.length + m := by
  obtain ⟨l, e, _, b⟩ := h.o
  rw [e, List.length_append]; omega
structure SoOk (n : Nat) (cs : Nat → Cel) (x : Bz) : Prop where
  dn : ∀ i, i < n → ∀ d ∈ x.d, Rep.less (cs i).w.s d.1 = false
  ag : ∀ i j, i < n → j < n → (cs i).w.s = (cs j).w.s → (cs i).w = (cs j).w
  ov : ∀ i, i < n → ∀ a, a ∈ x.o ∨ a ∈ x.a → ¬ ((cs i).st = 1 ∧ (cs i).w.s = a)
theorem SoOk.grw {n m : Nat} {cs : Nat → Cel} {x x' : Bz} (h : SoOk n cs x) (g : Grw m x x') : SoOk n cs x' := by
  obtain ⟨l, e, gl, _⟩ := g.o
  refine ⟨fun i hi d hd => h.dn i hi d (g.d ▸ hd), h.ag, fun i hi a ha => h.ov i hi a ?_⟩
  rw [e, g.a] at ha
  rcases ha with ha | ha
  · rcases List.mem_append.1 ha with ha | ha
    · exact .inl ha
    · exact .inr (gl a ha)
  · exact .inr ha
def bsA (A : Stp → Option Stp) (s : Stp) : Stp := (A s).getD ⟨0, 0, 0⟩
def bk (A : Stp → Option Stp) (x : Bz) : Bk := ⟨bsA A, x.d, x.a, x.o⟩
def upS (A : Stp → Option Stp) (s c : Stp) : Stp → Option Stp := fun y => if y = s then some c else A y
theorem bsA_up (A : Stp → Option Stp) (s c : Stp) : bsA (upS A s c) = fun y => if y = s then c else bsA A y := by
  funext y; unfold bsA upS; split <;> rfl
structure Wide (n m : Nat) (R : Nat → RS) (W : List Fm) : Prop where
  lv : ∀ j, j < n → (R j).v = vN n
  fit : ∀ j, j < n → Fit m (R j)
  low : ∀ j, j < n → Low (R j)
  wk : ∀ f, f ∈ W → f.key < 2
  ws : FB W
structure Law (n c : Nat) (R : Nat → RS) (W : List Fm) (A0 A1 : Stp → Option Stp) (x y : Bz) : Prop where
  wd : Wide n (7 * c) R W
  g : ∃ GG, GInv n R W GG ∧ BkOk (GG 0) (bk A0 x) ∧ BkOk (GG 1) (bk A1 y)
  wl : W.length ≤ 80
  lx : x.d.length ≤ 2 * c ∧ x.a.length ≤ 2 * c ∧ x.o.length ≤ 2500 * c
  ly : y.d.length ≤ 2 * c ∧ y.a.length ≤ 2 * c ∧ y.o.length ≤ 2500 * c
structure Mid (n c : Nat) (R : Nat → RS) (W : List Fm) (A0 A1 : Stp → Option Stp) (x y : Bz) (E : List Ev) : Prop where
  wd : Wide n (7 * (c + 1)) R W
  g : ∃ G0 GG, GInv n R W GG ∧ BkOk (GG 0) (bk A0 x) ∧ BkOk (GG 1) (bk A1 y) ∧ GEv G0 GG E ∧ (∀ e ∈ E, e.key = 0 → ∀ d ∈ x.d, (G0 0).dn d.1) ∧ ∀ e ∈ E, e.key = 1 → ∀ d ∈ y.d, (G0 1).dn d.1
  ek : ∀ e ∈ E, e.key < 2
  nd : (E.map (·.key)).Nodup
  lx : x.d.length + E.length ≤ 2 * (c + 1) ∧ x.a.length + E.length ≤ 2 * (c + 1) ∧ x.o.length ≤ 2500 * c
  ly : y.d.length + E.length ≤ 2 * (c + 1) ∧ y.a.length + E.length ≤ 2 * (c + 1) ∧ y.o.length ≤ 2500 * c
section
variable {n c : Nat} {R : Nat → RS} {W : List Fm} {A0 A1 : Stp → Option Stp} {x y : Bz} {E : List Ev}
theorem Wide.lost {m : Nat} (h : Wide n m R W) {W' : List Fm} (hs : ∀ f, f ∈ W' → f ∈ W) : Wide n m R W' := ⟨h.lv, h.fit, h.low, fun f hf => h.wk f (hs f hf), fun f hf => h.ws f (hs f hf)⟩
theorem Mid.lost (h : Mid n c R W A0 A1 x y E) {W' : List Fm} (hs : ∀ f, f ∈ W' → f ∈ W) : Mid n c R W' A0 A1 x y E := by
  obtain ⟨G0, GG, h1, h2⟩ := h.g
  exact ⟨h.wd.lost hs, ⟨G0, GG, h1.lost hs, h2⟩, h.ek, h.nd, h.lx, h.ly⟩
theorem Wide.step {m m' : Nat} (h : Wide n m R W) (hm : m ≤ m') {i : Nat} {r' : RS} {F : List Fm} (h1 : r'.v = (R i).v) (hi : i < n) (h2 : Fit m' r') (h3 : Low r') (h4 : ∀ f ∈ F, f.key < 2) (h5 : FB F) : Wide n m' (put R i r') (W ++ F) := by
  refine ⟨fun j hj => ?_, fun j hj => ?_, fun j hj => ?_, fun f hf => (List.mem_append.1 hf).elim (h.wk f) (h4 f), h.ws.app h5⟩ <;> by_cases e : j = i
  · subst e; rw [Rep.put_at, h1]; exact h.lv j hj
  · rw [Rep.put_ne _ _ _ e]; exact h.lv j hj
  · subst e; rw [Rep.put_at]; exact h2
  · rw [Rep.put_ne _ _ _ e]; exact (h.fit j hj).mono hm
  · subst e; rw [Rep.put_at]; exact h3
  · rw [Rep.put_ne _ _ _ e]; exact h.low j hj
theorem has_of {GG : Nat → Rep.Gh} (g : GInv n R W GG) {i : Nat} (hi : i < n) : Rep.complete (R i) = true := by
  unfold Rep.complete
  rw [g.has i hi 0 (by decide), g.has i hi 1 (by decide), g.has i hi 2 (by decide), g.has i hi 3 (by decide), g.has i hi 4 (by decide), g.has i hi 5 (by decide)]
  rfl
theorem Law.mid (h : Law n c R W A0 A1 x y) {R' : Nat → RS} {W' : List Fm} {A0' A1' : Stp → Option Stp} (wd : Wide n (7 * (c + 1)) R' W') (ek : ∀ e ∈ E, e.key < 2) (nd : (E.map (·.key)).Nodup)
    (hg : ∀ GG, GInv n R W GG → BkOk (GG 0) (bk A0 x) → BkOk (GG 1) (bk A1 y) → ∃ GG', GInv n R' W' GG' ∧ BkOk (GG' 0) (bk A0' x) ∧ BkOk (GG' 1) (bk A1' y) ∧ GEv GG GG' E) : Mid n c R' W' A0' A1' x y E := by
  obtain ⟨GG, g0, g1, g2⟩ := h.g
  obtain ⟨GG', k0, k1, k2, k3⟩ := hg GG g0 g1 g2
  have hl := two_len nd (by simpa using ek)
  rw [List.length_map] at hl
  have l1 := h.lx
  have l2 := h.ly
  exact ⟨wd, ⟨GG, GG', k0, k1, k2, k3, (fun _ _ _ d hd => (g1.dn d hd).1), fun _ _ _ d hd => (g2.dn d hd).1⟩, ek, nd, ⟨by omega, by omega, by omega⟩, ⟨by omega, by omega, by omega⟩⟩
theorem Law.tick (h : Law n c R W A0 A1 x y) {i : Nat} (hi : i < n) (every replay : Nat) : Mid n c (put R i (Rep.tick (R i) every replay true).1) (W ++ (Rep.tick (R i) every replay true).2.1) A0 A1 x y (Rep.tick (R i) every replay true).2.2 := by
  obtain ⟨GG, g0, _⟩ := h.g
  obtain ⟨a1, a2, a3⟩ := Rep.Low.tick (h.wd.low i hi) (g0.m i hi) (g0.c i hi) (has_of g0 hi) every replay
  refine h.mid (h.wd.step (by omega) (tick_v _ _ _ _) hi ((h.wd.fit i hi).tick every replay true) a1 a2 (fb_tick (h.wd.fit i hi) every replay true)) a3 (Rep.tick_evk _ _ _ _) fun GG k0 k1 k2 => ?_
  obtain ⟨G', x1, x2, x3, x4⟩ := k0.tick hi every replay
  exact ⟨G', x3, k1.ext (x1 0) (x2 0), k2.ext (x1 1) (x2 1), x4⟩
theorem Law.on (h : Law n c R W A0 A1 x y) {i : Nat} (hi : i < n) (f : Fm) (hf : f ∈ W) : Mid n c (put R i (Rep.on (R i) f true).1) (W ++ (Rep.on (R i) f true).2.1) A0 A1 x y (Rep.on (R i) f true).2.2 := by
  obtain ⟨GG, g0, _⟩ := h.g
  obtain ⟨a1, a2, a3⟩ := Rep.Low.on (h.wd.low i hi) (g0.m i hi) (g0.c i hi) f (h.wd.wk f hf) true
  refine h.mid (h.wd.step (by omega) (on_v _ _ _) hi (((h.wd.fit i hi).on f true (h.wd.ws f hf)).mono (by omega)) a1 a2 (fb_on (h.wd.fit i hi) f true (h.wd.ws f hf))) a3 (Rep.on_evk _ _ _) fun GG k0 k1 k2 => ?_
  obtain ⟨G', x1, x2, x3, x4⟩ := k0.on hi f hf
  exact ⟨G', x3, k1.ext (x1 0) (x2 0), k2.ext (x1 1) (x2 1), x4⟩
theorem Law.idle (h : Law n c R W A0 A1 x y) : Mid n c R W A0 A1 x y [] := by
  refine h.mid ⟨h.wd.lv, fun j hj => (h.wd.fit j hj).mono (by omega), h.wd.low, h.wd.wk, h.wd.ws⟩ (fun _ h => by cases h) List.nodup_nil fun GG k0 k1 k2 => ⟨GG, k0, k1, k2, Rep.GEv.nil _ _⟩
theorem put_id (R : Nat → RS) (i : Nat) : put R i (R i) = R := Rep.put_self _ _
def upK (k j : Nat) (A : Stp → Option Stp) (s c : Stp) : Stp → Option Stp := if j = k then upS A s c else A
theorem Law.write (h : Law n c R W A0 A1 x y) {i : Nat} (hi : i < n) {k : Nat} (hk : k < 2) (t : ByteArray) (rmw : Bool) :
    ((Rep.write (R i) k true t rmw).2 = none ∧ Mid n c (put R i (Rep.write (R i) k true t rmw).1.1) (W ++ (Rep.write (R i) k true t rmw).1.2.1) A0 A1 x y (Rep.write (R i) k true t rmw).1.2.2) ∨
    ∃ s, (Rep.write (R i) k true t rmw).2 = some s ∧ Mid n c (put R i (Rep.write (R i) k true t rmw).1.1) (W ++ (Rep.write (R i) k true t rmw).1.2.1) (upK k 0 A0 s ((R i).P k).c.w.s) (upK k 1 A1 s ((R i).P k).c.w.s) x y (Rep.write (R i) k true t rmw).1.2.2 := by
  obtain ⟨GG, g0, _⟩ := h.g
  obtain ⟨a1, a2, a3⟩ := Rep.Low.write (h.wd.low i hi) (g0.m i hi) (g0.c i hi) hk true t rmw
  have wd := h.wd.step (m' := 7 * (c + 1)) (by omega) (write_v (R i) k true t rmw) hi (((h.wd.fit i hi).write k true t rmw).mono (by omega)) a1 a2 (fb_write (h.wd.fit i hi) k true t rmw)
  have ev := Rep.write_evk (R i) k true t rmw
  cases hw : (Rep.write (R i) k true t rmw).2 with
  | none =>
    refine .inl ⟨rfl, h.mid wd a3 ev fun GG k0 k1 k2 => ?_⟩
    rcases k0.write hi (by omega : k < 6) true t rmw with ⟨_, e⟩ | ⟨s, e, _⟩
    · rw [e, put_id]
      rw [List.append_nil]
      exact ⟨GG, k0, k1, k2, Rep.GEv.nil _ _⟩
    · rw [hw] at e; cases e
  | some s =>
    refine .inr ⟨s, rfl, h.mid wd a3 ev fun GG k0 k1 k2 => ?_⟩
    rcases k0.write hi (by omega : k < 6) true t rmw with ⟨e, _⟩ | ⟨s', e, G', hb, x1, x3, x4⟩
    · rw [hw] at e; cases e
    · rw [hw] at e
      injection e with e
      subst e
      refine ⟨G', x3, ?_, ?_, x4⟩
      · have hb0 := hb 0
        unfold upK
        split
        · rename_i e
          rw [if_pos e, ← e] at hb0
          have := k1.wrote (x1 0) hb0
          rw [show bk (upS A0 s ((R i).P k).c.w.s) x = { bk A0 x with bases := fun y => if y = s then ((R i).P 0).c.w.s else (bk A0 x).bases y } by rw [← e]; unfold bk; rw [bsA_up]]
          exact this
        · rename_i e
          rw [if_neg e] at hb0
          exact k1.ext (x1 0) hb0
      · have hb0 := hb 1
        unfold upK
        split
        · rename_i e
          rw [if_pos e, ← e] at hb0
          have := k2.wrote (x1 1) hb0
          rw [show bk (upS A1 s ((R i).P k).c.w.s) y = { bk A1 y with bases := fun z => if z = s then ((R i).P 1).c.w.s else (bk A1 y).bases z } by rw [← e]; unfold bk; rw [bsA_up]]
          exact this
        · rename_i e
          rw [if_neg e] at hb0
          exact k2.ext (x1 1) hb0
theorem Mid.kind {e : Ev} (h : Mid n c R W A0 A1 x y (e :: E)) : e.kind = 1 ∨ e.kind = 2 := by
  obtain ⟨G0, GG, _, _, _, g3, _⟩ := h.g
  rcases (g3 e (List.mem_cons_self ..)).2 with h | h
  · exact .inl h.1
  · exact .inr h.1
theorem Mid.key {e : Ev} (h : Mid n c R W A0 A1 x y (e :: E)) : e.key = 0 ∨ e.key = 1 := by
  have := h.ek e (List.mem_cons_self ..)
  omega
theorem Mid.other {e : Ev} (h : Mid n c R W A0 A1 x y (e :: E)) : ∀ e' ∈ E, e'.key ≠ e.key := fun e' he' => by
  have := h.nd
  rw [List.map_cons, List.nodup_cons] at this
  intro hk
  exact this.1 (hk ▸ List.mem_map.2 ⟨e', he', rfl⟩)
theorem Mid.ab0 {e : Ev} (h : Mid n c R W A0 A1 x y (e :: E)) (hk : e.key = 0) (hd : e.kind = 2) (v : Value) : Mid n c R W A0 A1 { x with a := x.a ++ [e.s], ha := v } y E := by
  obtain ⟨G0, GG, g0, g1, g2, g3, g4, g5⟩ := h.g
  obtain ⟨l1, l2⟩ := And.intro h.lx h.ly
  simp only [List.length_cons] at l1 l2
  refine ⟨h.wd, ⟨G0, GG, g0, ?_, g2, (fun e he => g3 e (List.mem_cons_of_mem _ he)), (fun e he => g4 e (List.mem_cons_of_mem _ he)), (fun e he => g5 e (List.mem_cons_of_mem _ he))⟩, (fun e he => h.ek e (List.mem_cons_of_mem _ he)), ?_, ⟨by dsimp only; omega, by dsimp only; simp only [List.length_append, List.length_singleton]; omega, l1.2.2⟩, ⟨by omega, by omega, l2.2.2⟩⟩
  · have h3 := (g3 e (List.mem_cons_self ..)).2
    rw [hk] at h3
    rcases h3 with h3 | h3
    · rw [hd] at h3; cases h3.1
    · exact Rep.abort_ok g1 h3.2
  · have := h.nd
    rw [List.map_cons, List.nodup_cons] at this
    exact this.2
theorem Mid.ab1 {e : Ev} (h : Mid n c R W A0 A1 x y (e :: E)) (hk : e.key = 1) (hd : e.kind = 2) (v : Value) : Mid n c R W A0 A1 x { y with a := y.a ++ [e.s], ha := v } E := by
  obtain ⟨G0, GG, g0, g1, g2, g3, g4, g5⟩ := h.g
  obtain ⟨l1, l2⟩ := And.intro h.lx h.ly
  simp only [List.length_cons] at l1 l2
  refine ⟨h.wd, ⟨G0, GG, g0, g1, ?_, (fun e he => g3 e (List.mem_cons_of_mem _ he)), (fun e he => g4 e (List.mem_cons_of_mem _ he)), (fun e he => g5 e (List.mem_cons_of_mem _ he))⟩, (fun e he => h.ek e (List.mem_cons_of_mem _ he)), ?_, ⟨by omega, by omega, l1.2.2⟩, ⟨by dsimp only; omega, by dsimp only; simp only [List.length_append, List.length_singleton]; omega, l2.2.2⟩⟩
  · have h3 := (g3 e (List.mem_cons_self ..)).2
    rw [hk] at h3
    rcases h3 with h3 | h3
    · rw [hd] at h3; cases h3.1
    · exact Rep.abort_ok g2 h3.2
  · have := h.nd
    rw [List.map_cons, List.nodup_cons] at this
    exact this.2
theorem base_n {k : Nat} {P : Nat → Plc} {G : Rep.Gh} (h : Rep.InvK n P k W G) {b : Bk} (hb : BkOk G b) {s : Stp} (hs : G.dn s) : s.n = (b.bases s).n + 1 ∨ s.n = (b.bases s).n + 2 := by
  obtain ⟨⟨_, x, hx⟩, _⟩ := h.dn s hs
  obtain ⟨⟨w, hw, hn⟩, _⟩ := h.bs s x hx
  rw [hb.bs s x hx, hn]
  cases w.r
  · right; rfl
  · left; rfl
theorem Mid.dn0 {e : Ev} (h : Mid n c R W A0 A1 x y (e :: E)) (hk : e.key = 0) (hd : e.kind = 1) (v : Value) : (e.s.n = (bsA A0 e.s).n + 1 ∨ e.s.n = (bsA A0 e.s).n + 2) ∧ Rep.asksOk (bk A0 x) e.s = true ∧ Mid n c R W A0 A1 { x with d := x.d ++ [(e.s, bsA A0 e.s, Rep.rmwOf (bk A0 x) e.s)], hd := v } y E := by
  obtain ⟨G0, GG, g0, g1, g2, g3, g4, g5⟩ := h.g
  obtain ⟨l1, l2⟩ := And.intro h.lx h.ly
  simp only [List.length_cons] at l1 l2
  have h3 := (g3 e (List.mem_cons_self ..)).2
  rw [hk] at h3
  rcases h3 with h3 | h3
  · obtain ⟨_, b1, b2⟩ := h3
    obtain ⟨d1, d2⟩ := Rep.done_ok (g0.K 0 (by decide)) g1 (fun d hd => g4 e (List.mem_cons_self ..) hk d hd) b1 b2
    refine ⟨base_n (g0.K 0 (by decide)) g1 b1, d1, h.wd, ⟨G0, GG, g0, d2, g2, (fun e he => g3 e (List.mem_cons_of_mem _ he)), (fun e' he hk' => absurd (hk'.trans hk.symm) (h.other e' he)), (fun e he => g5 e (List.mem_cons_of_mem _ he))⟩, (fun e he => h.ek e (List.mem_cons_of_mem _ he)), ?_, ⟨by dsimp only; simp only [List.length_append, List.length_singleton]; omega, by dsimp only; omega, l1.2.2⟩, ⟨by omega, by omega, l2.2.2⟩⟩
    have := h.nd
    rw [List.map_cons, List.nodup_cons] at this
    exact this.2
  · rw [hd] at h3; cases h3.1
theorem Mid.dn1 {e : Ev} (h : Mid n c R W A0 A1 x y (e :: E)) (hk : e.key = 1) (hd : e.kind = 1) (v : Value) : (e.s.n = (bsA A1 e.s).n + 1 ∨ e.s.n = (bsA A1 e.s).n + 2) ∧ Rep.asksOk (bk A1 y) e.s = true ∧ Mid n c R W A0 A1 x { y with d := y.d ++ [(e.s, bsA A1 e.s, Rep.rmwOf (bk A1 y) e.s)], hd := v } E := by
  obtain ⟨G0, GG, g0, g1, g2, g3, g4, g5⟩ := h.g
  obtain ⟨l1, l2⟩ := And.intro h.lx h.ly
  simp only [List.length_cons] at l1 l2
  have h3 := (g3 e (List.mem_cons_self ..)).2
  rw [hk] at h3
  rcases h3 with h3 | h3
  · obtain ⟨_, b1, b2⟩ := h3
    obtain ⟨d1, d2⟩ := Rep.done_ok (g0.K 1 (by decide)) g2 (fun d hd => g5 e (List.mem_cons_self ..) hk d hd) b1 b2
    refine ⟨base_n (g0.K 1 (by decide)) g2 b1, d1, h.wd, ⟨G0, GG, g0, g1, d2, (fun e he => g3 e (List.mem_cons_of_mem _ he)), (fun e he => g4 e (List.mem_cons_of_mem _ he)), (fun e' he hk' => absurd (hk'.trans hk.symm) (h.other e' he))⟩, (fun e he => h.ek e (List.mem_cons_of_mem _ he)), ?_, ⟨by omega, by omega, l1.2.2⟩, ⟨by dsimp only; simp only [List.length_append, List.length_singleton]; omega, by dsimp only; omega, l2.2.2⟩⟩
    have := h.nd
    rw [List.map_cons, List.nodup_cons] at this
    exact this.2
  · rw [hd] at h3; cases h3.1
theorem soOk_of {GG : Nat → Rep.Gh} (g : GInv n R W GG) {k : Nat} (hk : k < 6) {A : Stp → Option Stp} {z : Bz} (hb : BkOk (GG k) (bk A z)) (cs : Nat → Cel) (hc : ∀ i, cs i = ((R i).P k).c) : SoOk n cs z := by
  have I := g.K k hk
  refine ⟨fun i hi d hd => ?_, fun i j hi hj e => ?_, fun i hi a ha => ?_⟩
  · rw [hc]; exact Rep.sound_done I hb hi d hd
  · rw [hc, hc] at e ⊢; exact I.agree hi hj e
  · rw [hc]; exact I.never (ha.elim (hb.ov a) (hb.ab a)) hi
theorem Mid.so (h : Mid n c R W A0 A1 x y E) (c0 c1 : Nat → Cel) (h0 : ∀ i, c0 i = ((R i).P 0).c) (h1 : ∀ i, c1 i = ((R i).P 1).c) : SoOk n c0 x ∧ SoOk n c1 y := by
  obtain ⟨G0, GG, g0, g1, g2, _⟩ := h.g
  exact ⟨soOk_of g0 (by decide) g1 c0 h0, soOk_of g0 (by decide) g2 c1 h1⟩
theorem grw_bk {G : Rep.Gh} {A : Stp → Option Stp} {m : Nat} {z z' : Bz} (h : BkOk G (bk A z)) (g : Grw m z z') : BkOk G (bk A z') := by
  obtain ⟨l, e, gl, _⟩ := g.o
  have := Rep.over_ok h l gl
  unfold bk at this ⊢
  rw [g.d, g.a, e]
  exact this
theorem Mid.fin (h : Mid n c R W A0 A1 x y E) (hn : n ≤ 4) (hc : c < 250) (hw : W.length ≤ 80) {x' y' : Bz} (gx : Grw (n * x.a.length) x x') (gy : Grw (n * y.a.length) y y') : Law n (c + 1) R W A0 A1 x' y' := by
  obtain ⟨G0, GG, g0, g1, g2, _⟩ := h.g
  have l1 := h.lx
  have l2 := h.ly
  have b1 := gx.len
  have b2 := gy.len
  have m1 : n * x.a.length ≤ 4 * 500 := Nat.mul_le_mul hn (by omega)
  have m2 : n * y.a.length ≤ 4 * 500 := Nat.mul_le_mul hn (by omega)
  exact ⟨h.wd, ⟨GG, g0, grw_bk g1 gx, grw_bk g2 gy⟩, hw, ⟨by rw [gx.d]; omega, by rw [gx.a]; omega, by omega⟩, ⟨by rw [gy.d]; omega, by rw [gy.a]; omega, by omega⟩⟩
end
theorem bkOk_zero : BkOk Rep.G0 (bk (fun _ => none) ⟨[], [], [], nilS, nilS, nilS⟩) :=
  ⟨(fun _ _ h => by cases h), (fun _ h => by cases h), (fun _ h => by cases h), fun _ h => by cases h⟩
theorem Law.start {n : Nat} (h1 : 1 ≤ n) (h5 : n ≤ 5) : Law n 0 (rN n) [] (fun _ => none) (fun _ => none) ⟨[], [], [], nilS, nilS, nilS⟩ ⟨[], [], [], nilS, nilS, nilS⟩ :=
  ⟨⟨fun _ _ => rfl, fun j _ => by
      have := Fit.begun (j + 1) 1 true
      exact ⟨this.age, this.tk, this.ca, this.st, this.sd⟩, fun j _ => Rep.low_N n j, (fun _ h => by cases h), FB.nil⟩,
    ⟨fun _ => Rep.G0, GInv.start h1 h5, bkOk_zero, bkOk_zero⟩, Nat.zero_le _, ⟨Nat.zero_le _, Nat.zero_le _, Nat.zero_le _⟩, ⟨Nat.zero_le _, Nat.zero_le _, Nat.zero_le _⟩⟩
end X20
end Go.Proofs.Ytafcbipmmjegcaa.Vm
