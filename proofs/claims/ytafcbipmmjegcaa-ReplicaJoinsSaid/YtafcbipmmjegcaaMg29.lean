/- Texts of this claim: RgK, ViewWF, RqP, RgH, RgL. -/
import Derived.Test.YtafcbipmmjegcaaMg28
import Derived.Test.YtafcbipmmjegcaaMg15
import Derived.Test.YtafcbipmmjegcaaMg26
namespace Go.Proofs.Ytafcbipmmjegcaa.Vm
open Go Go.RowKit
namespace X20
open Rep (RS Fm Ev put)
theorem newG (self life : Nat) (w : Bool) (gl : Glb) (Q : T → Obs → Glb → Prop)
  (hQ : ∀ b t, gl t = none → gl b = none → b ≠ t → Q (.gp b 0) [] (setO (setO gl t (.cells (trC (fun _ => w) 0))) b (.cells (repC (Rep.begun self life w) (Dt t))))) :
  TCalls Try.prog 9 [u8 self, u8 life, bool w] [] gl Q := by
 refine TCalls.postA (new_any self life w gl (fun r ob gl' => ∃ b t, gl t = none ∧ r = .ptr 0 b 0 ∧ ob = obsR b (Rep.begun self life w) (Dt t) ∧ gl' = setO gl t (.cells (trC (fun _ => w) 0))) fun b t h => ⟨b, t, h, rfl, rfl, rfl⟩) ?_
 rintro r ob gl' ha ⟨b, t, h, rfl, rfl, rfl⟩
 have hb := ha.sep 0 _ b rfl rfl
 have hne : b ≠ t := fun e => by rw [e, setO_at] at hb; cases hb
 rw [setO_ne _ _ hne] at hb
 exact ⟨.gp b 0, [], _, (Imp.slotR (j := 0) rfl ptr_gp).trans (Imp.intoG (ob := []) rfl), hQ b t h hb hne⟩
theorem Lot.nil (B : Nat → Nat) (R : Nat → RS) (DD : Nat → Dr) (gl : Glb) : Lot 0 B R DD gl :=
 ⟨fun _ h => absurd h (Nat.not_lt_zero _), fun _ h => absurd h (Nat.not_lt_zero _), fun _ _ h => absurd h (Nat.not_lt_zero _), fun _ _ h => absurd h (Nat.not_lt_zero _), fun _ _ h => absurd h (Nat.not_lt_zero _)⟩
theorem Lot.new {n : Nat} {B : Nat → Nat} {R : Nat → RS} {DD : Nat → Dr} {gl : Glb} (h : Lot n B R DD gl) (self life : Nat) (w : Bool) {b t : Nat} (ht : gl t = none) (hb : gl b = none) (hbt : b ≠ t) :
  Lot (n + 1) (put B n b) (put R n (Rep.begun self life w)) (put DD n (Dt t)) (setO (setO gl t (.cells (trC (fun _ => w) 0))) b (.cells (repC (Rep.begun self life w) (Dt t)))) := by
 have keep : ∀ x, gl x ≠ none → setO (setO gl t (.cells (trC (fun _ => w) 0))) b (.cells (repC (Rep.begun self life w) (Dt t))) x = gl x := fun x hx => by
  have e1 : x ≠ b := by rintro rfl; exact hx hb
  have e2 : x ≠ t := by rintro rfl; exact hx ht
  rw [setO_ne _ _ e1, setO_ne _ _ e2]
 have inN : ∀ x, In_ (Dt t) (Rep.begun self life w) x → x = t := fun x hx => by
  rcases hx with hx | ⟨_, _, hs, _⟩
  ·exact hx
  ·cases hs
 have lt : ∀ j, j < n + 1 → j ≠ n → j < n := fun j h1 h2 => by omega
 refine ⟨fun j hj => ?_, fun j hj => ?_, fun j q hj hq hx => ?_, fun j q hj hq hjq => ?_, fun j q hj hq hjq x hx hx' => ?_⟩
 ·by_cases e : j = n
  ·subst e; rw [Rep.put_at, Rep.put_at, Rep.put_at]; exact setO_at _ _ _
  ·rw [Rep.put_ne _ _ _ e, Rep.put_ne _ _ _ e, Rep.put_ne _ _ _ e]
   have := h.cell j (lt j hj e)
   rw [keep _ (by rw [this]; intro e; cases e)]
   exact this
 ·by_cases e : j = n
  ·subst e; rw [Rep.put_at, Rep.put_at]
   exact (begun_own t self life w gl).same_at fun x hx => setO_ne _ _ fun e => hbt (e ▸ inN x hx)
  ·rw [Rep.put_ne _ _ _ e, Rep.put_ne _ _ _ e]
   exact (h.own j (lt j hj e)).same_at fun x hx => keep x ((h.own j (lt j hj e)).has hx)
 ·by_cases e : q = n
  ·subst e
   rw [Rep.put_at, Rep.put_at] at hx
   have hx := inN _ hx
   by_cases ej : j = q
   ·subst ej; rw [Rep.put_at] at hx; exact hbt hx
   ·rw [Rep.put_ne _ _ _ ej] at hx
    have := h.cell j (lt j hj ej)
    rw [hx, ht] at this
    cases this
  ·rw [Rep.put_ne _ _ _ e, Rep.put_ne _ _ _ e] at hx
   by_cases ej : j = n
   ·subst ej; rw [Rep.put_at] at hx; exact (h.own q (lt q hq e)).has hx hb
   ·rw [Rep.put_ne _ _ _ ej] at hx; exact h.nb j q (lt j hj ej) (lt q hq e) hx
 ·by_cases e : j = n
  ·subst e
   rw [Rep.put_at, Rep.put_ne _ _ _ (Ne.symm hjq)]
   intro e
   have := h.cell q (lt q hq (Ne.symm hjq))
   rw [← e, hb] at this
   cases this
  ·rw [Rep.put_ne _ _ _ e]
   by_cases eq : q = n
   ·subst eq
    rw [Rep.put_at]
    intro e'
    have := h.cell j (lt j hj e)
    rw [e', hb] at this
    cases this
   ·rw [Rep.put_ne _ _ _ eq]; exact h.bb j q (lt j hj e) (lt q hq eq) hjq
 ·by_cases e : j = n
  ·subst e
   rw [Rep.put_at, Rep.put_at] at hx
   rw [Rep.put_ne _ _ _ (Ne.symm hjq), Rep.put_ne _ _ _ (Ne.symm hjq)] at hx'
   rw [inN _ hx] at hx'
   exact (h.own q (lt q hq (Ne.symm hjq))).has hx' ht
  ·rw [Rep.put_ne _ _ _ e, Rep.put_ne _ _ _ e] at hx
   by_cases eq : q = n
   ·subst eq
    rw [Rep.put_at, Rep.put_at] at hx'
    rw [inN _ hx'] at hx
    exact (h.own j (lt j hj e)).has hx ht
   ·rw [Rep.put_ne _ _ _ eq, Rep.put_ne _ _ _ eq] at hx'
    exact h.sep j q (lt j hj e) (lt q hq eq) hjq x hx hx'
theorem lot_enter {n : Nat} {B : Nat → Nat} {R : Nat → RS} {DD : Nat → Dr} {gl : Glb} (h : Lot n B R DD gl) {i : Nat} (hi : i < n) (v : View.VS) (hv : X5.lim v.ms) (Q : T → Obs → Glb → Prop)
  (hQ : ∀ D' gl', Lot n B (put R i (Rep.enter (R i) v).1) (put DD i D') gl' → Q (outT (Rep.enter (R i) v).2 []) [] gl') :
  TCalls Try.prog 10 [.gp (B i) 0, .agg (X5.viewC v)] [] gl Q :=
 famR (h.cell i hi) (enter_any (B i) (R i) (DD i) v _ (h.out hi) hv (fun r ob' gl' => ∃ D', r = outT (Rep.enter (R i) v).2 [] ∧ ob' = obsR (B i) (Rep.enter (R i) v).1 D' ∧ Own D' (Rep.enter (R i) v).1 gl' ∧ Step (dropO gl (B i)) (DD i) (R i) gl' D' (Rep.enter (R i) v).1)
   fun D' gl' h1 h2 => ⟨D', rfl, rfl, h1, h2⟩)
  (fun r ob' gl' ⟨D', _, e, _⟩ => ⟨_, e⟩)
  (fun r cs' gl' hn ⟨D', e1, e2, h1, h2⟩ => by
   have e2 : cs' = repC (Rep.enter (R i) v).1 D' := by injection e2 with e2 _; injection e2 with _ e2; injection e2
   rw [e1, e2]
   exact hQ D' _ (h.step hi hn h1 h2))
end X20
end Go.Proofs.Ytafcbipmmjegcaa.Vm
namespace Go.Proofs.Ytafcbipmmjegcaa
namespace View
structure WF (v : VS) : Prop where
 len : v.ms.length ≤ 8
 nd : (v.ms.map (·.node)).Nodup
 mem : ∀ m ∈ v.ms, 1 ≤ m.node ∧ m.node ≤ 8 ∧ m.life < 256 ∧ v.L (m.node - 1) = m.life
 rdy : 0 < ready v.ms
 e0 : 0 ≤ v.e
 e1 : v.e ≤ 4294967295
 L : ∀ k, v.L k < 256
theorem map_set_node {ms : List Mem} {i : Nat} (h : i < ms.length) (m : Mem) (hm : m.node = ms[i].node) : (ms.set i m).map (·.node) = ms.map (·.node) := by
 rw [List.map_set, hm]
 exact List.ext_getElem (by simp) (fun k h1 h2 => by
  rw [List.getElem_set]; split
  ·subst_vars; simp
  ·rfl)
theorem ready_pos {ms : List Mem} {m : Mem} (h : m ∈ ms) (hr : m.ready = true) : 0 < ready ms := by
 unfold ready
 exact List.length_pos_of_mem (List.mem_filter.2 ⟨h, hr⟩)
inductive Step (v : VS) : VS → Bool → Prop where
 | same (b : Bool) : Step v v b
 | more (node life : Nat) (h1 : 1 ≤ node) (h2 : node ≤ 8) (h3 : life ≤ 200) (hat : ∀ m ∈ v.ms, m.node ≠ node) (hl : v.ms.length < 8) (hL : v.L (node - 1) < life) (he : v.e ≠ 4294967295) :
   Step v ⟨v.e + 1, v.ms ++ [⟨node, life, false⟩], upd v.L (node - 1) life⟩ true
 | less (i : Nat) (hi : i < v.ms.length) (hr : 0 < ready (v.ms.eraseIdx i)) (he : v.e ≠ 4294967295) : Step v ⟨v.e + 1, v.ms.eraseIdx i, v.L⟩ true
 | settle (i : Nat) (hi : i < v.ms.length) : Step v ⟨v.e, v.ms.set i { v.ms[i] with ready := true }, v.L⟩ true
theorem WF.step {v v' : VS} {b : Bool} (h : WF v) (hs : Step v v' b) : WF v' := by
 cases hs with
 | same => exact h
 | more node life h1 h2 h3 hat hl hL he =>
  refine ⟨by simp; omega, ?_, ?_, ?_, by have := h.e0; simp; omega, by have := h.e1; simp; omega, ?_⟩
  ·simp only [List.map_append, List.map_cons, List.map_nil]
   rw [List.nodup_append]
   refine ⟨h.nd, by simp, ?_⟩
   intro a ha b hb
   obtain ⟨m, hm, rfl⟩ := List.mem_map.1 ha
   simp at hb
   subst hb
   exact hat m hm
  ·intro m hm
   simp only [List.mem_append, List.mem_singleton] at hm
   rcases hm with hm | rfl
   ·obtain ⟨a, b, c, d⟩ := h.mem m hm
    refine ⟨a, b, c, ?_⟩
    have := hat m hm
    simp only [upd]
    rw [if_neg (by omega)]
    exact d
   ·exact ⟨h1, h2, by simp; omega, by simp [upd]⟩
  ·have := h.rdy
   unfold ready at *
   rw [List.filter_append, List.length_append]; omega
  ·intro k
   simp only [upd]
   split
   ·omega
   ·exact h.L k
 | less i hi hr he =>
  refine ⟨by have := List.length_eraseIdx_of_lt hi; have := h.len; simp only; omega, ?_, ?_, hr, by have := h.e0; simp; omega, by have := h.e1; simp; omega, h.L⟩
  ·exact List.Sublist.nodup ((List.eraseIdx_sublist _ _).map _) h.nd
  ·intro m hm
   exact h.mem m (List.mem_of_mem_eraseIdx hm)
 | settle i hi =>
  refine ⟨by simpa using h.len, ?_, ?_, ?_, h.e0, h.e1, h.L⟩
  ·show ((v.ms.set i { v.ms[i] with ready := true }).map (·.node)).Nodup
   rw [map_set_node hi { v.ms[i] with ready := true } rfl]
   exact h.nd
  ·intro m hm
   rcases List.mem_or_eq_of_mem_set hm with hm | rfl
   ·exact h.mem m hm
   ·exact h.mem v.ms[i] (by simp)
  ·exact ready_pos (List.mem_set hi _) rfl
end View
end Go.Proofs.Ytafcbipmmjegcaa
namespace Go.Proofs.Ytafcbipmmjegcaa.Vm
open Go Go.RowKit
namespace X20
open Rep (Stp Wrd Cel Drv Plc RS Fm Ev setP setC)
open View (Mem VS)
structure Fit (m : Nat) (r : RS) : Prop where
 age : ∀ k, (r.P k).age ≤ m
 tk : ∀ k d, (r.P k).dr = some d → d.tk ≤ m
 ca : r.calls ≤ m
 st : ∀ k, (r.P k).c.w.s.n ≤ 4294967295
 sd : ∀ k d, (r.P k).dr = some d → d.w.s.n ≤ 4294967295
theorem Fit.mono {m m' : Nat} {r : RS} (h : Fit m r) (hm : m ≤ m') : Fit m' r :=
 ⟨fun k => Nat.le_trans (h.age k) hm, fun k d hd => Nat.le_trans (h.tk k d hd) hm, Nat.le_trans h.ca hm, h.st, h.sd⟩
theorem Fit.bd {m N : Nat} {r : RS} (h : Fit m r) (hm : m ≤ N) : Bd N r 0 := fun j _ _ => ⟨Nat.le_trans (h.age j) hm, fun d hd => Nat.le_trans (h.tk j d hd) hm⟩
theorem Fit.set {m : Nat} {r : RS} (h : Fit m r) (k : Nat) (p : Plc) (h1 : p.age ≤ m) (h2 : ∀ d, p.dr = some d → d.tk ≤ m ∧ d.w.s.n ≤ 4294967295) (h3 : p.c.w.s.n ≤ 4294967295) : Fit m (setP r k p) := by
 refine ⟨fun j => ?_, fun j d hd => ?_, h.ca, fun j => ?_, fun j d hd => ?_⟩ <;> by_cases e : j = k
 ·subst e; rw [P_at]; exact h1
 ·rw [P_ne _ _ _ e]; exact h.age j
 ·subst e; rw [P_at] at hd; exact (h2 d hd).1
 ·rw [P_ne _ _ _ e] at hd; exact h.tk j d hd
 ·subst e; rw [P_at]; exact h3
 ·rw [P_ne _ _ _ e]; exact h.st j
 ·subst e; rw [P_at] at hd; exact (h2 d hd).2
 ·rw [P_ne _ _ _ e] at hd; exact h.sd j d hd
theorem Fit.drv {m : Nat} {r : RS} (h : Fit m r) {k : Nat} : ∀ d, (r.P k).dr = some d → d.tk ≤ m ∧ d.w.s.n ≤ 4294967295 := fun d hd => ⟨h.tk k d hd, h.sd k d hd⟩
theorem Fit.setC {m : Nat} {r : RS} (h : Fit m r) (k : Nat) (c : Cel) (hc : c.w.s.n ≤ 4294967295) : Fit m (setC r k c) := h.set k _ (h.age k) h.drv hc
theorem val_n (c : Cel) (s : Stp) : (Rep.val c s).1.w = c.w := by unfold Rep.val; split <;> rfl
theorem nextS_n {s x : Stp} {d n l : Nat} (h : Rep.nextS s d n l = some x) : x.n ≤ 4294967295 := by
 unfold Rep.nextS at h
 split at h
 ·rename_i h2; injection h with e; subst e; exact h2
 ·cases h
theorem Fit.look {m : Nat} {r : RS} (h : Fit m r) (k : Nat) : Fit m (Rep.look r k).1 := by
 unfold Rep.look
 split
 ·exact h
 ·split
  ·split
   ·exact h.set k _ (h.age k) (fun _ h => by cases h) (by show (Rep.val _ _).1.w.s.n ≤ _; rw [val_n]; exact h.st k)
   ·exact h.set k _ (h.age k) (fun _ h => by cases h) (h.st k)
  ·exact h
theorem Fit.way {m : Nat} {r : RS} (h : Fit m r) (k : Nat) : Fit m (Rep.way r k).1 := by
 unfold Rep.way
 split
 ·exact h.set k _ (Nat.zero_le _) (by rename_i e; rw [e]; exact fun _ h => by cases h) (h.st k)
 ·split
  ·split
   ·exact h.set k _ (Nat.zero_le _) (fun _ h => by cases h) (h.st k)
   ·exact h.set k _ (Nat.zero_le _) h.drv (h.st k)
  ·exact h.set k _ (Nat.zero_le _) (fun _ h => by cases h) (h.st k)
theorem Fit.rest {m : Nat} {r : RS} (h : Fit m r) (k : Nat) : Fit m (Rep.rest r k) := by
 unfold Rep.rest
 split
 ·exact h.set k _ (Nat.zero_le _) (by rename_i e; rw [e]; exact fun _ h => by cases h) (h.st k)
 ·split
  ·exact h.set k _ (Nat.zero_le _) h.drv (h.st k)
  ·exact h.set k _ (Nat.zero_le _) (fun _ h => by cases h) (h.st k)
theorem Fit.again {m : Nat} {r : RS} (h : Fit m r) (k : Nat) : Fit m (Rep.again r k).1 := by
 unfold Rep.again
 split
 ·exact h
 ·rename_i d hd
  split
  ·exact h.set k _ (h.age k) (fun d' e => by injection e with e; subst e; exact ⟨Nat.zero_le _, h.sd k d hd⟩) (h.st k)
  ·exact h
theorem Fit.againL {m : Nat} : ∀ (l : List Nat) {r : RS}, Fit m r → Fit m (Rep.againL r l).1
 | [], _, h => h
 | k :: l, _, h => Fit.againL l (h.again k)
theorem Fit.enter {m : Nat} {r : RS} (h : Fit m r) (v : VS) : Fit m (Rep.enter r v).1 := by
 unfold Rep.enter
 exact Fit.againL _ ⟨h.age, h.tk, h.ca, h.st, h.sd⟩
theorem Fit.write {m : Nat} {r : RS} (h : Fit m r) (k : Nat) (b : Bool) (t : ByteArray) (rmw : Bool) : Fit m (Rep.write r k b t rmw).1.1 := by
 unfold Rep.write
 split
 ·split
  ·exact h
  ·rename_i s hs
   have hn := nextS_n hs
   exact Fit.look (h.set k _ (Nat.zero_le _) (fun d e => by injection e with e; subst e; exact ⟨Nat.zero_le _, hn⟩) hn) k
 ·exact h
theorem Fit.onInv {m : Nat} {r : RS} (h : Fit m r) (f : Fm) (frm : Nat) (hf : f.w.s.n ≤ 4294967295) : Fit m (Rep.onInv r f frm).1 := by
 have hc : (Rep.inv (r.P f.key).c f.w).1.w.s.n ≤ 4294967295 := by
  unfold Rep.inv
  split
  ·exact hf
  ·split
   ·exact h.st _
   ·split <;> exact h.st _
 unfold Rep.onInv
 split
 ·exact h
 ·split
  ·exact (h.setC _ _ hc).way _
  ·exact h.setC _ _ hc
theorem Fit.onAck {m : Nat} {r : RS} (h : Fit m r) (f : Fm) (frm : Nat) : Fit m (Rep.onAck r f frm).1 := by
 unfold Rep.onAck
 split
 ·exact h
 ·rename_i d hd
  split
  ·exact Fit.look (h.set f.key { r.P f.key with dr := some (Rep.ackD d frm f.flag) } (h.age _) (fun d' e => by injection e with e; subst e; exact ⟨h.tk _ d hd, h.sd _ d hd⟩) (h.st _)) _
  ·exact h
theorem Fit.onVal {m : Nat} {r : RS} (h : Fit m r) (f : Fm) : Fit m (Rep.onVal r f) := by
 unfold Rep.onVal
 split
 ·exact (h.setC _ _ (by rw [val_n]; exact h.st _)).rest _
 ·exact h
theorem Fit.got {m : Nat} {r : RS} (h : Fit m r) (k : Nat) : Fit m (Rep.got r k) := ⟨h.age, h.tk, h.ca, h.st, h.sd⟩
theorem Fit.onGive {m : Nat} {r : RS} (h : Fit m r) (f : Fm) (hf : f.w.s.n ≤ 4294967295) : Fit m (Rep.onGive r f).1 := by
 have hc : (Rep.give (r.P f.key).c f.w f.flag).1.w.s.n ≤ 4294967295 := by
  unfold Rep.give
  split
  ·exact hf
  ·split
   ·rw [val_n]; exact h.st _
   ·exact h.st _
 unfold Rep.onGive
 split
 ·split
  ·exact ((h.got f.key).setC _ _ hc).way _
  ·exact ((h.got f.key).setC _ _ hc).rest _
 ·exact h.got _
theorem Fit.on {m : Nat} {r : RS} (h : Fit m r) (f : Fm) (lease : Bool) (hf : f.w.s.n ≤ 4294967295) : Fit m (Rep.on r f lease).1 := by
 unfold Rep.on
 split
 ·exact h
 ·rename_i frm _
  split
  ·exact h.onInv f frm hf
  ·split
   ·split
    ·exact h.onAck f frm
    ·exact h
   ·split
    ·exact h.onVal f
    ·split
     ·exact h
     ·split
      ·exact h.onGive f hf
      ·exact h
theorem Fit.beat {m : Nat} {r : RS} (h : Fit m r) (k every : Nat) : Fit (m + 1) (Rep.beat r k every).1 := by
 unfold Rep.beat
 split
 ·exact h.mono (Nat.le_succ _)
 ·rename_i d hd
  have h' := h.mono (Nat.le_succ m)
  refine h'.set k _ (h'.age k) (fun d' e => ?_) (h.st k)
  injection e with e
  subst e
  unfold Rep.tickD
  split
  ·exact ⟨by have := h.tk k d hd; show d.tk + 1 ≤ m + 1; omega, h.sd k d hd⟩
  ·exact ⟨Nat.zero_le _, h.sd k d hd⟩
theorem Fit.stall {m : Nat} {r : RS} (h : Fit m r) (k replay : Nat) (lease : Bool) : Fit (m + 1) (Rep.stall r k replay lease).1 := by
 have h' := h.mono (Nat.le_succ m)
 unfold Rep.stall
 split
 ·split
  ·split
   ·exact h'.set k _ (Nat.zero_le _) h'.drv (h.st k)
   ·exact h'.set k _ (Nat.zero_le _) (fun d e => by injection e with e; subst e; exact ⟨Nat.zero_le _, h.st k⟩) (h.st k)
  ·exact h'.set k _ (by have := h.age k; show (r.P k).age + 1 ≤ m + 1; omega) h'.drv (h.st k)
 ·exact h'
theorem Fit.tickK {m : Nat} {r : RS} (h : Fit m r) (k every replay : Nat) (lease : Bool) : Fit (m + 1) (Rep.tickK r k every replay lease).1 := by
 unfold Rep.tickK
 split
 ·split
  ·exact (h.look k).beat k every
  ·exact h.beat k every
 ·exact h.stall k replay lease
theorem Fit.tickL {every replay : Nat} {lease : Bool} : ∀ (l : List Nat) {m : Nat} {r : RS}, Fit m r → Fit (m + l.length) (Rep.tickL r every replay lease l).1
 | [], _, _, h => h
 | k :: l, m, r, h => by
  have := Fit.tickL (every := every) (replay := replay) (lease := lease) l (h.tickK k every replay lease)
  rw [show m + (k :: l).length = m + 1 + l.length by simp; omega]
  exact this
theorem Fit.asked {m : Nat} {r : RS} (h : Fit m r) : Fit (m + 1) (Rep.asked r).1 := by
 unfold Rep.asked
 split
 ·exact h.mono (Nat.le_succ _)
 ·exact ⟨fun k => Nat.le_succ_of_le (h.age k), fun k d hd => Nat.le_succ_of_le (h.tk k d hd), Nat.succ_le_succ h.ca, h.st, h.sd⟩
theorem Fit.tick {m : Nat} {r : RS} (h : Fit m r) (every replay : Nat) (lease : Bool) : Fit (m + 7) (Rep.tick r every replay lease).1 := by
 unfold Rep.tick
 split
 ·have h2 := Fit.tickL (every := every) (replay := replay) (lease := lease) [0, 1, 2, 3, 4, 5] h.asked
  rw [show m + 1 + [0, 1, 2, 3, 4, 5].length = m + 7 from rfl] at h2
  exact h2
 ·exact h.mono (by omega)
theorem Fit.begun (self life : Nat) (w : Bool) : Fit 0 (Rep.begun self life w) := ⟨fun _ => Nat.le_refl _, (fun _ _ h => by cases h), Nat.le_refl _, fun _ => Nat.zero_le _, (fun _ _ h => by cases h)⟩
theorem againL_self : ∀ (l : List Nat) (r : RS), (Rep.againL r l).1.self = r.self ∧ (Rep.againL r l).1.life = r.life ∧ (Rep.againL r l).1.v = r.v
 | [], _ => ⟨rfl, rfl, rfl⟩
 | k :: l, r => by
  obtain ⟨h1, h2, h3⟩ := againL_self l (Rep.again r k).1
  obtain ⟨g1, g2, g3, -⟩ := again_self r k
  exact ⟨h1.trans g1, h2.trans g2, h3.trans g3⟩
theorem rest_v (r : RS) (k : Nat) : (Rep.rest r k).v = r.v := by
 unfold Rep.rest; split
 ·rfl
 ·split <;> rfl
theorem write_v (r : RS) (k : Nat) (b : Bool) (t : ByteArray) (rmw : Bool) : (Rep.write r k b t rmw).1.1.v = r.v := by
 unfold Rep.write
 split
 ·split
  ·rfl
  ·exact (look_self _ _).2.2.1
 ·rfl
theorem on_v (r : RS) (f : Fm) (lease : Bool) : (Rep.on r f lease).1.v = r.v := by
 unfold Rep.on
 split
 ·rfl
 ·rename_i frm _
  split
  ·unfold Rep.onInv
   split
   ·rfl
   ·split
    ·exact (way_self _ _).2.2.1
    ·rfl
  ·split
   ·split
    ·unfold Rep.onAck
     split
     ·rfl
     ·split
      ·exact (look_self _ _).2.2.1
      ·rfl
    ·rfl
   ·split
    ·show (Rep.onVal r f).v = r.v
     unfold Rep.onVal
     split
     ·exact rest_v _ _
     ·rfl
    ·split
     ·rfl
     ·split
      ·show (Rep.onGive r f).1.v = r.v
       unfold Rep.onGive
       split
       ·split
        ·exact (way_self _ _).2.2.1
        ·exact rest_v _ _
       ·rfl
      ·rfl
theorem tickL_v {every replay : Nat} {lease : Bool} : ∀ (l : List Nat) (r : RS), (Rep.tickL r every replay lease l).1.v = r.v
 | [], _ => rfl
 | k :: l, r => (tickL_v l _).trans (tickK_self r k every replay lease).2.2.1
theorem tick_v (r : RS) (every replay : Nat) (lease : Bool) : (Rep.tick r every replay lease).1.v = r.v := by
 unfold Rep.tick
 split
 ·refine (tickL_v _ _).trans ?_
  unfold Rep.asked
  split <;> rfl
 ·rfl
theorem again_len (r : RS) (k : Nat) : (Rep.again r k).2.length ≤ 2 := by
 unfold Rep.again
 split
 ·exact Nat.zero_le _
 ·split
  ·exact sent_len _ _ _
  ·exact Nat.zero_le _
theorem againL_len : ∀ (l : List Nat) (r : RS), (Rep.againL r l).2.length ≤ 2 * l.length
 | [], _ => Nat.le_refl _
 | k :: l, r => by
  have h1 := again_len r k
  have h2 := againL_len l (Rep.again r k).1
  simp only [Rep.againL, List.length_append, List.length_cons]
  omega
theorem enter_len (r : RS) (v : VS) : (Rep.enter r v).2.length ≤ 12 := againL_len [0, 1, 2, 3, 4, 5] { r with v := v }
theorem onAck_len (r : RS) (f : Fm) (frm : Nat) (ho : (Rep.oth r).length ≤ 1000) : (Rep.onAck r f frm).2.1.length ≤ 2000 ∧ (Rep.onAck r f frm).2.2.length ≤ 2000 := by
 unfold Rep.onAck
 split
 ·exact ⟨Nat.zero_le _, Nat.zero_le _⟩
 ·rename_i d _
  split
  ·have h1 := look_ev (setP r f.key { r.P f.key with dr := some (Rep.ackD d frm f.flag) }) f.key
   have e : Rep.oth (setP r f.key { r.P f.key with dr := some (Rep.ackD d frm f.flag) }) = Rep.oth r := rfl
   rw [e] at h1
   omega
  ·exact ⟨Nat.zero_le _, Nat.zero_le _⟩
theorem sendOn_len (r : RS) (f : Fm) : (Rep.sendOn r f).length ≤ 1 := by
 unfold Rep.sendOn
 split
 ·split <;> simp
 ·split
  ·split <;> simp
  ·simp
theorem onInv_len (r : RS) (f : Fm) (frm : Nat) : (Rep.onInv r f frm).2.1.length ≤ 2000 ∧ (Rep.onInv r f frm).2.2.length ≤ 2000 := by
 have h1 := sendOn_len r f
 have h2 := way_len (setC r f.key (Rep.inv (r.P f.key).c f.w).1) f.key
 unfold Rep.onInv
 split
 ·simp; omega
 ·split
  ·simp; omega
  ·simp; omega
theorem on_len (r : RS) (f : Fm) (lease : Bool) (ho : (Rep.oth r).length ≤ 1000) : (Rep.on r f lease).2.1.length ≤ 2000 ∧ (Rep.on r f lease).2.2.length ≤ 2000 := by
 unfold Rep.on
 split
 ·exact ⟨Nat.zero_le _, Nat.zero_le _⟩
 ·rename_i frm _
  split
  ·exact onInv_len r f frm
  ·split
   ·split
    ·exact onAck_len r f frm ho
    ·exact ⟨Nat.zero_le _, Nat.zero_le _⟩
   ·split
    ·exact ⟨Nat.zero_le _, Nat.zero_le _⟩
    ·split
     ·refine ⟨?_, Nat.zero_le _⟩
      show (Rep.onNeed r f frm).length ≤ 2000
      unfold Rep.onNeed
      split <;> simp
     ·split
      ·refine ⟨Nat.zero_le _, ?_⟩
       show (Rep.onGive r f).2.length ≤ 2000
       unfold Rep.onGive
       split
       ·split
        ·exact Nat.le_trans (way_len _ _) (by decide)
        ·exact Nat.zero_le _
       ·exact Nat.zero_le _
      ·exact ⟨Nat.zero_le _, Nat.zero_le _⟩
theorem tickL_len {every replay : Nat} {lease : Bool} : ∀ (l : List Nat) (r : RS), (Rep.oth r).length ≤ 1000 → (Rep.tickL r every replay lease l).2.1.length ≤ 1002 * l.length ∧ (Rep.tickL r every replay lease l).2.2.length ≤ l.length
 | [], _, _ => ⟨Nat.le_refl _, Nat.le_refl _⟩
 | k :: l, r, ho => by
  have h1 := tickK_len r k every replay lease
  obtain ⟨g1, -, g3, -⟩ := tickK_self r k every replay lease
  have e : Rep.oth (Rep.tickK r k every replay lease).1 = Rep.oth r := by unfold Rep.oth; rw [g1, g3]
  have h2 := tickL_len (every := every) (replay := replay) (lease := lease) l (Rep.tickK r k every replay lease).1 (by rw [e]; exact ho)
  simp only [Rep.tickL, List.length_append, List.length_cons]
  omega
theorem tick_len (r : RS) (every replay : Nat) (lease : Bool) (ho : (Rep.oth r).length ≤ 1000) : (Rep.tick r every replay lease).2.1.length ≤ 8000 ∧ (Rep.tick r every replay lease).2.2.length ≤ 2000 := by
 have ha : Rep.oth (Rep.asked r).1 = Rep.oth r ∧ (Rep.asked r).2.length ≤ 6 := by
  unfold Rep.asked
  split
  ·exact ⟨rfl, Nat.zero_le _⟩
  ·exact ⟨rfl, by simp only [List.length_map]; exact needs_len r⟩
 have h1 := tickL_len (every := every) (replay := replay) (lease := lease) [0, 1, 2, 3, 4, 5] (Rep.asked r).1 (by rw [ha.1]; exact ho)
 unfold Rep.tick
 split
 ·dsimp only
  rw [List.length_append]
  simp only [List.length_cons, List.length_nil] at h1
  omega
 ·exact ⟨Nat.zero_le _, Nat.zero_le _⟩
structure Two (m : Nat) (r : RS) (v : VS) (D D' : Dr) (gl : Glb) : Prop where
 own : Own D r gl
 own' : Own D' r gl
 sep : ∀ b, In_ D r b → ¬ In_ D' r b
 fit : Fit m r
 wf : View.WF v
 vl : r.v.ms.length ≤ 8
theorem Two.lim {m : Nat} {r : RS} {v : VS} {D D' : Dr} {gl : Glb} (h : Two m r v D D' gl) : X5.lim r.v.ms := Nat.le_trans h.vl (by decide)
theorem Two.oth {m : Nat} {r : RS} {v : VS} {D D' : Dr} {gl : Glb} (h : Two m r v D D' gl) : (Rep.oth r).length ≤ 1000 := Nat.le_trans (X5.othV_len _ _) (Nat.le_trans h.vl (by decide))
theorem Two.next {m m' : Nat} {r r2 : RS} {v v' : VS} {D D' E E' : Dr} {gl g1 g2 : Glb} (h : Two m r v D D' gl) (h1 : Own E' r2 g1) (s1 : Step gl D' r g1 E' r2)
  (h2 : Own E r2 g2) (s2 : Step g1 D r g2 E r2) (hf : Fit m' r2) (hw : View.WF v') (hv : r2.v.ms.length ≤ 8) : Two m' r2 v' E E' g2 := by
 have a1 := s1.other h.own fun b hb hb' => h.sep b hb' hb
 have a2 := s2.other h1 fun b hb hb' => a1.2 b hb' hb
 exact ⟨h2, a2.1, a2.2, hf, hw, hv⟩
theorem Two.mid {m : Nat} {r r2 : RS} {v : VS} {D D' E' : Dr} {gl g1 : Glb} (h : Two m r v D D' gl) (s1 : Step gl D' r g1 E' r2) : Own D r g1 :=
 (s1.other h.own fun b hb hb' => h.sep b hb' hb).1
end X20
end Go.Proofs.Ytafcbipmmjegcaa.Vm
namespace Go.Proofs.Ytafcbipmmjegcaa
namespace Rep
theorem look_evk (r : RS) (k : Nat) : ((look r k).2.2.map (·.key)).Sublist [k] := by
 unfold look
 split
 ·exact List.nil_sublist _
 ·split
  ·split <;> (dsimp only; split) <;> first | exact List.Sublist.refl _ | exact List.nil_sublist _
  ·exact List.nil_sublist _
theorem way_evk (r : RS) (k : Nat) : ((way r k).2.map (·.key)).Sublist [k] := by
 unfold way
 split
 ·exact List.nil_sublist _
 ·split
  ·split <;> first | exact List.Sublist.refl _ | exact List.nil_sublist _
  ·exact List.nil_sublist _
theorem tickK_evk (r : RS) (k every replay : Nat) (lease : Bool) : ((tickK r k every replay lease).2.2.map (·.key)).Sublist [k] := by
 unfold tickK
 split
 ·split
  ·exact look_evk r k
  ·exact List.nil_sublist _
 ·exact List.nil_sublist _
theorem tickL_evk (every replay : Nat) (lease : Bool) : ∀ (l : List Nat) (r : RS), ((tickL r every replay lease l).2.2.map (·.key)).Sublist l
 | [], _ => List.nil_sublist _
 | k :: l, r => by
  simp only [tickL, List.map_append]
  exact (tickK_evk r k every replay lease).append (tickL_evk every replay lease l _)
theorem tick_evk (r : RS) (every replay : Nat) (lease : Bool) : ((tick r every replay lease).2.2.map (·.key)).Nodup := by
 have h := tickL_evk every replay lease [0, 1, 2, 3, 4, 5] (asked r).1
 have hn : ([0, 1, 2, 3, 4, 5] : List Nat).Nodup := by decide
 unfold tick
 generalize ([0, 1, 2, 3, 4, 5] : List Nat) = l at *
 split
 ·exact h.nodup hn
 ·exact List.nodup_nil
theorem one_nodup {l : List Ev} {k : Nat} (h : (l.map (·.key)).Sublist [k]) : (l.map (·.key)).Nodup := h.nodup (List.nodup_cons.2 ⟨by simp, List.nodup_nil⟩)
theorem write_evk (r : RS) (k : Nat) (b : Bool) (t : ByteArray) (rmw : Bool) : ((write r k b t rmw).1.2.2.map (·.key)).Nodup := by
 unfold write
 split
 ·split
  ·exact List.nodup_nil
  ·exact one_nodup (look_evk _ k)
 ·exact List.nodup_nil
theorem on_evk (r : RS) (f : Fm) (lease : Bool) : ((on r f lease).2.2.map (·.key)).Nodup := by
 unfold on
 split
 ·exact List.nodup_nil
 ·split
  ·unfold onInv
   split
   ·exact List.nodup_nil
   ·split
    ·exact one_nodup (way_evk _ f.key)
    ·exact List.nodup_nil
  ·split
   ·split
    ·unfold onAck
     split
     ·exact List.nodup_nil
     ·split
      ·exact one_nodup (look_evk _ f.key)
      ·exact List.nodup_nil
    ·exact List.nodup_nil
   ·split
    ·exact List.nodup_nil
    ·split
     ·exact List.nodup_nil
     ·split
      ·show ((onGive r f).2.map (·.key)).Nodup
       unfold onGive
       split
       ·split
        ·exact one_nodup (way_evk _ f.key)
        ·exact List.nodup_nil
       ·exact List.nodup_nil
      ·exact List.nodup_nil
structure Bk where
 bases : Stp → Stp
 dones : List (Stp × Stp × Bool)
 aborted : List Stp
 over : List Stp
structure BkOk (G : Gh) (b : Bk) : Prop where
 bs : ∀ s x, G.bs s = some x → b.bases s = x
 dn : ∀ d ∈ b.dones, G.dn d.1 ∧ G.bs d.1 = some d.2.1 ∧ (d.2.2 = true → G.rm d.1)
 ab : ∀ a ∈ b.aborted, G.ab a
 ov : ∀ a ∈ b.over, G.ab a
theorem Ext.rm {G G' : Gh} (x : Ext G G') {s : Stp} (h : G.rm s) : G'.rm s := by
 obtain ⟨w, h1, h2⟩ := h
 exact ⟨w, x.g _ _ h1, h2⟩
theorem BkOk.ext {G G' : Gh} {b : Bk} (h : BkOk G b) (x : Ext G G') (hb : G'.bs = G.bs) : BkOk G' b :=
 ⟨by rw [hb]; exact h.bs, fun d hd => ⟨x.dn _ (h.dn d hd).1, x.bs _ _ (h.dn d hd).2.1, fun r => x.rm ((h.dn d hd).2.2 r)⟩, fun a ha => x.ab _ (h.ab a ha), fun a ha => x.ab _ (h.ov a ha)⟩
theorem BkOk.wrote {G G' : Gh} {b : Bk} (h : BkOk G b) (x : Ext G G') {s c : Stp} (hb : G'.bs = fun y => if y = s then some c else G.bs y) : BkOk G' { b with bases := fun y => if y = s then c else b.bases y } := by
 refine ⟨fun y z e => ?_, fun d hd => ⟨x.dn _ (h.dn d hd).1, x.bs _ _ (h.dn d hd).2.1, fun r => x.rm ((h.dn d hd).2.2 r)⟩, fun a ha => x.ab _ (h.ab a ha), fun a ha => x.ab _ (h.ov a ha)⟩
 rw [hb] at e
 dsimp only at e ⊢
 split at e
 ·rename_i hy; rw [if_pos hy]; injection e
 ·rename_i hy; rw [if_neg hy]; exact h.bs y z e
def rmwOf (b : Bk) (s : Stp) : Bool := decide (s.n = (b.bases s).n + 1)
def Bk.done (b : Bk) (s : Stp) : Bk := { b with dones := b.dones ++ [(s, b.bases s, rmwOf b s)] }
def Bk.abort (b : Bk) (s : Stp) : Bk := { b with aborted := b.aborted ++ [s] }
section
variable {n k : Nat} {P : Nat → Plc} {W : List Fm} {G : Gh}
theorem sound_done (h : InvK n P k W G) {b : Bk} (hb : BkOk G b) {i : Nat} (hi : i < n) : ∀ d ∈ b.dones, less (P i).c.w.s d.1 = false := fun d hd => h.reach (hb.dn d hd).1 hi
theorem over_ok {b : Bk} (hb : BkOk G b) (l : List Stp) (hl : ∀ a ∈ l, a ∈ b.aborted) : BkOk G { b with over := b.over ++ l } :=
 ⟨hb.bs, hb.dn, hb.ab, fun a ha => (List.mem_append.1 ha).elim (hb.ov a) fun ha => hb.ab a (hl a ha)⟩
end
end Rep
end Go.Proofs.Ytafcbipmmjegcaa
namespace Go.Proofs.Ytafcbipmmjegcaa
namespace Rep
def Low (r : RS) : Prop := ∀ k, 2 ≤ k → (r.P k).dr = none ∧ (r.P k).c.st = 1
theorem Low.keep {k : Nat} {r r' : RS} (h : Low r) (hk : k < 2) (kp : Keep k r r') : Low r' := fun j hj => by
 rw [kp.P j (by omega)]; exact h j hj
theorem Low.tickK {r : RS} (h : Low r) {k : Nat} (hk : 2 ≤ k) (every replay : Nat) (lease : Bool) : tickK r k every replay lease = (r, [], []) := by
 obtain ⟨h1, h2⟩ := h k hk
 unfold Rep.tickK
 rw [h1]
 dsimp only
 unfold stall
 rw [if_neg (by rintro ⟨_, e⟩; rw [h2] at e; cases e)]
theorem sub_key {l : List Ev} {k : Nat} (h : (l.map (·.key)).Sublist [k]) : ∀ e ∈ l, e.key = k := fun e he => by
 have := h.subset (List.mem_map.2 ⟨e, he, rfl⟩)
 simpa using this
theorem Low.tickL {n i : Nat} (every replay : Nat) : ∀ (l : List Nat) (r : RS), Low r → Mate n i r → Chain n r →
  Low (tickL r every replay true l).1 ∧ (∀ f ∈ (tickL r every replay true l).2.1, f.key < 2) ∧ ∀ e ∈ (tickL r every replay true l).2.2, e.key < 2
 | [], _, h, _, _ => ⟨h, (fun _ hf => by cases hf), fun _ he => by cases he⟩
 | k :: l, r, h, m, c => by
  by_cases hk : k < 2
  ·have kp := Keep.tickK r k every replay true
   obtain ⟨a1, a2, a3⟩ := Low.tickL every replay l _ (h.keep hk kp) (m.keep kp) (c.keep kp)
   refine ⟨a1, fun f hf => ?_, fun e he => ?_⟩
   ·rcases List.mem_append.1 hf with hf | hf
    ·rw [((goes_tickK m c every replay) f hf).1]; exact hk
    ·exact a2 f hf
   ·rcases List.mem_append.1 he with he | he
    ·rw [sub_key (tickK_evk r k every replay true) e he]; exact hk
    ·exact a3 e he
  ·have e0 := h.tickK (by omega : 2 ≤ k) every replay true
   have := Low.tickL every replay l r h m c
   unfold Rep.tickL
   rw [e0]
   exact this
theorem Low.tick {n i : Nat} {r : RS} (h : Low r) (m : Mate n i r) (c : Chain n r) (hc : complete r = true) (every replay : Nat) :
  Low (Rep.tick r every replay true).1 ∧ (∀ f ∈ (Rep.tick r every replay true).2.1, f.key < 2) ∧ ∀ e ∈ (Rep.tick r every replay true).2.2, e.key < 2 := by
 have ht := Low.tickL (n := n) (i := i) every replay [0, 1, 2, 3, 4, 5] r h m c
 generalize hl : ([0, 1, 2, 3, 4, 5] : List Nat) = l at *
 unfold Rep.tick asked
 rw [hl, if_pos hc]
 split
 ·exact ht
 ·exact ⟨h, (fun _ hf => by cases hf), fun _ he => by cases he⟩
theorem on_evkey (r : RS) (f : Fm) (lease : Bool) : ∀ e ∈ (on r f lease).2.2, e.key = f.key := by
 have nl : ∀ e ∈ ([] : List Ev), e.key = f.key := fun _ h => by cases h
 unfold on
 split
 ·exact nl
 ·split
  ·unfold onInv
   split
   ·exact nl
   ·split
    ·exact sub_key (way_evk _ f.key)
    ·exact nl
  ·split
   ·split
    ·unfold onAck
     split
     ·exact nl
     ·split
      ·exact sub_key (look_evk _ f.key)
      ·exact nl
    ·exact nl
   ·split
    ·exact nl
    ·split
     ·exact nl
     ·split
      ·show ∀ e ∈ (onGive r f).2, e.key = f.key
       unfold onGive
       split
       ·split
        ·exact sub_key (way_evk _ f.key)
        ·exact nl
       ·exact nl
      ·exact nl
theorem Low.on {n i : Nat} {r : RS} (h : Low r) (m : Mate n i r) (c : Chain n r) (f : Fm) (hf : f.key < 2) (lease : Bool) :
  Low (Rep.on r f lease).1 ∧ (∀ x ∈ (Rep.on r f lease).2.1, x.key < 2) ∧ ∀ e ∈ (Rep.on r f lease).2.2, e.key < 2 :=
 ⟨h.keep hf (Keep.on r f lease), fun x hx => by rw [((goes_on m c f lease) x hx).1]; exact hf, fun e he => by rw [on_evkey r f lease e he]; exact hf⟩
theorem Low.write {n i : Nat} {r : RS} (h : Low r) (m : Mate n i r) (c : Chain n r) {k : Nat} (hk : k < 2) (b : Bool) (t : ByteArray) (rmw : Bool) :
  Low (Rep.write r k b t rmw).1.1 ∧ (∀ x ∈ (Rep.write r k b t rmw).1.2.1, x.key < 2) ∧ ∀ e ∈ (Rep.write r k b t rmw).1.2.2, e.key < 2 := by
 refine ⟨h.keep hk (Keep.write r k b t rmw), fun x hx => by rw [((goes_write m c b t rmw) x hx).1]; exact hk, fun e he => ?_⟩
 have : e.key = k := by
  unfold Rep.write at he
  split at he
  ·split at he
   ·cases he
   ·exact sub_key (look_evk _ k) e he
  ·cases he
 rw [this]; exact hk
theorem low_N (n i : Nat) : Low (rN n i) := fun _ _ => ⟨rfl, rfl⟩
end Rep
end Go.Proofs.Ytafcbipmmjegcaa
