/- Texts of this claim: RhE, RhF. -/
import Derived.Test.YtafcbipmmjegcaaMg31
namespace Go.Proofs.Ytafcbipmmjegcaa
namespace Rep
open Vm.X5 (hasV othV aheadV behindV)
def InQ (Q : Nat → Stp → Prop) (r : RS) : Prop := ∀ k, Q k (r.P k).c.w.s ∧ ∀ d, (r.P k).dr = some d → Q k d.w.s
def FQ (Q : Nat → Stp → Prop) (F : List Fm) : Prop := ∀ f, f ∈ F → f.kind = 1 ∨ f.kind = 5 → Q f.key f.w.s
section
variable {Q : Nat → Stp → Prop} {r : RS} {F F' : List Fm}
theorem FQ.nil : FQ Q [] := fun _ h => by cases h
theorem FQ.app (h : FQ Q F) (h' : FQ Q F') : FQ Q (F ++ F') := fun f hf => (List.mem_append.1 hf).elim (h f) (h' f)
theorem FQ.one {f : Fm} (h : f.kind = 1 ∨ f.kind = 5 → Q f.key f.w.s) : FQ Q [f] := fun x hx => by rw [List.mem_singleton] at hx; subst hx; exact h
theorem FQ.of (h : ∀ f, f ∈ F → f.kind = 3) : FQ Q F := fun f hf e => by rw [h f hf] at e; exact e.elim (fun e => by cases e) (fun e => by cases e)
theorem InQ.set (h : InQ Q r) (k : Nat) (p : Plc) (h1 : Q k p.c.w.s) (h2 : ∀ d, p.dr = some d → Q k d.w.s) : InQ Q (setP r k p) := fun j => by
 by_cases e : j = k
 ·subst e; rw [setP_P]; exact ⟨h1, h2⟩
 ·show Q j (put r.P k p j).c.w.s ∧ ∀ d, (put r.P k p j).dr = some d → Q j d.w.s
  rw [put_ne _ _ _ e]; exact h j
theorem InQ.setC (h : InQ Q r) (k : Nat) (c : Cel) (h1 : Q k c.w.s) : InQ Q (setC r k c) := h.set k _ h1 (h k).2
theorem val_w (c : Cel) (s : Stp) : (Rep.val c s).1.w = c.w := by unfold Rep.val; split <;> rfl
theorem InQ.look (h : InQ Q r) (k : Nat) : InQ Q (Rep.look r k).1 := by
 unfold Rep.look
 split
 ·exact h
 ·split
  ·split
   ·exact h.set k _ (by dsimp only; rw [val_w]; exact (h k).1) (fun _ e => by cases e)
   ·exact h.set k _ (h k).1 (fun _ e => by cases e)
  ·exact h
theorem look_kind (k : Nat) : ∀ f, f ∈ (Rep.look r k).2.1 → f.kind = 3 := by
 unfold Rep.look
 intro f hf
 split at hf
 ·cases hf
 ·split at hf
  ·split at hf
   ·obtain ⟨z, _, rfl⟩ := List.mem_map.1 hf; rfl
   ·cases hf
  ·cases hf
theorem InQ.way (h : InQ Q r) (k : Nat) : InQ Q (Rep.way r k).1 := by
 unfold Rep.way
 split
 ·exact h.set k _ (h k).1 (h k).2
 ·split
  ·split
   ·exact h.set k _ (h k).1 (fun _ e => by cases e)
   ·exact h.set k _ (h k).1 (h k).2
  ·exact h.set k _ (h k).1 (fun _ e => by cases e)
theorem InQ.rest (h : InQ Q r) (k : Nat) : InQ Q (Rep.rest r k) := by
 unfold Rep.rest
 split
 ·exact h.set k _ (h k).1 (h k).2
 ·split
  ·exact h.set k _ (h k).1 (h k).2
  ·exact h.set k _ (h k).1 (fun _ e => by cases e)
theorem fq_sent (k : Nat) (w : Wrd) (h : Q k w.s) : FQ Q (sent r k w) := fun f hf _ => by
 obtain ⟨_, e2, e3⟩ := sent_kind hf
 rw [e2, e3]; exact h
theorem fq_sendOn {f : Fm} (h : f.kind = 1 → Q f.key f.w.s) (hk : f.kind = 1) : FQ Q (sendOn r f) := fun g hg _ => by
 obtain ⟨_, e2, e3, _⟩ := sendOn_kind hg
 rw [e2, e3]; exact h hk
theorem q_on (h : InQ Q r) {f : Fm} (hf : f.kind = 1 ∨ f.kind = 5 → Q f.key f.w.s) : InQ Q (on r f true).1 ∧ FQ Q (on r f true).2.1 := by
 unfold on
 split
 ·exact ⟨h, FQ.nil⟩
 rename_i frm _
 by_cases h1 : f.kind = 1
 ·rw [if_pos h1]
  have hw := hf (.inl h1)
  have so : FQ Q (sendOn r f) := fq_sendOn (fun _ => hw) h1
  have hiw : ∀ c : Cel, Q f.key c.w.s → Q f.key (Rep.inv c f.w).1.w.s := fun c hc => by
   unfold Rep.inv
   split
   ·exact hw
   ·split
    ·exact hc
    ·split <;> exact hc
  unfold onInv
  split
  ·exact ⟨h, so.app (FQ.one fun _ => (h f.key).1)⟩
  ·split
   ·exact ⟨(h.setC _ _ (hiw _ (h f.key).1)).way _, so.app (FQ.one fun e => e.elim (fun e => absurd (show (2 : Nat) = 1 from e) (by decide)) (fun e => absurd (show (2 : Nat) = 5 from e) (by decide)))⟩
   ·exact ⟨h.setC _ _ (hiw _ (h f.key).1), so.app (FQ.one fun e => e.elim (fun e => absurd (show (2 : Nat) = 1 from e) (by decide)) (fun e => absurd (show (2 : Nat) = 5 from e) (by decide)))⟩
 rw [if_neg h1]
 by_cases h2 : f.kind = 2
 ·rw [if_pos h2, if_pos rfl]
  unfold onAck
  split
  ·exact ⟨h, FQ.nil⟩
  ·rename_i d hd
   split
   ·have h3 : InQ Q (setP r f.key { r.P f.key with dr := some (ackD d frm f.flag) }) := h.set _ _ (h f.key).1 (fun d' e => by injection e with e; subst e; exact (h f.key).2 d hd)
    exact ⟨h3.look _, FQ.of (look_kind _)⟩
   ·exact ⟨h, FQ.nil⟩
 rw [if_neg h2]
 by_cases h3 : f.kind = 3
 ·rw [if_pos h3]
  refine ⟨?_, FQ.nil⟩
  show InQ Q (onVal r f)
  unfold onVal
  split
  ·exact (h.setC _ _ (by rw [val_w]; exact (h f.key).1)).rest _
  ·exact h
 rw [if_neg h3]
 by_cases h4 : f.kind = 4
 ·rw [if_pos h4]
  refine ⟨h, ?_⟩
  show FQ Q (onNeed r f frm)
  unfold onNeed
  split
  ·exact FQ.one fun _ => (h f.key).1
  ·exact FQ.nil
 rw [if_neg h4]
 by_cases h5 : f.kind = 5
 ·rw [if_pos h5]
  refine ⟨?_, FQ.nil⟩
  have hw := hf (.inr h5)
  have hg : InQ Q (got r f.key) := h
  have hgw : Q f.key (Rep.give (r.P f.key).c f.w f.flag).1.w.s := by
   unfold Rep.give
   split
   ·exact hw
   ·split
    ·rw [val_w]; exact (h f.key).1
    ·exact (h f.key).1
  show InQ Q (onGive r f).1
  unfold onGive
  split
  ·split
   ·exact (hg.setC _ _ hgw).way _
   ·exact (hg.setC _ _ hgw).rest _
  ·exact hg
 rw [if_neg h5]
 exact ⟨h, FQ.nil⟩
theorem q_tickK (h : InQ Q r) (k every replay : Nat) : InQ Q (tickK r k every replay true).1 ∧ FQ Q (tickK r k every replay true).2.1 := by
 unfold tickK
 split
 ·rw [if_pos rfl]
  have h1 := h.look k
  have h2 : InQ Q (beat (look r k).1 k every).1 ∧ FQ Q (beat (look r k).1 k every).2 := by
   unfold beat
   split
   ·exact ⟨h1, FQ.nil⟩
   ·rename_i d hd
    have e : (tickD d every).1.w = d.w := by unfold tickD; split <;> rfl
    refine ⟨h1.set _ _ (h1 k).1 (fun d' e' => by injection e' with e'; subst e'; rw [e]; exact (h1 k).2 d hd), ?_⟩
    dsimp only
    split
    ·exact fq_sent _ _ ((h1 k).2 d hd)
    ·exact FQ.nil
  exact ⟨h2.1, (FQ.of (look_kind k)).app h2.2⟩
 ·rename_i hd
  dsimp only
  unfold stall
  split
  ·split
   ·split
    ·refine ⟨h.set _ _ (h k).1 (h k).2, ?_⟩
     dsimp only
     split
     ·exact FQ.nil
     ·exact FQ.one fun e => e.elim (fun e => absurd (show (4 : Nat) = 1 from e) (by decide)) (fun e => absurd (show (4 : Nat) = 5 from e) (by decide))
    ·exact ⟨h.set _ _ (h k).1 (fun d' e => by injection e with e; subst e; exact (h k).1), fq_sent _ _ (h k).1⟩
   ·exact ⟨h.set _ _ (h k).1 (h k).2, FQ.nil⟩
  ·exact ⟨h, FQ.nil⟩
theorem InQ.mono {Q' : Nat → Stp → Prop} (h : InQ Q r) (hq : ∀ k s, Q k s → Q' k s) : InQ Q' r := fun k => ⟨hq _ _ (h k).1, fun d e => hq _ _ ((h k).2 d e)⟩
theorem FQ.mono {Q' : Nat → Stp → Prop} (h : FQ Q F) (hq : ∀ k s, Q k s → Q' k s) : FQ Q' F := fun f hf e => hq _ _ (h f hf e)
theorem q_write (h : InQ Q r) (k : Nat) (b : Bool) (t : ByteArray) (rmw : Bool) (hs : ∀ s, (write r k b t rmw).2 = some s → Q k s) : InQ Q (write r k b t rmw).1.1 ∧ FQ Q (write r k b t rmw).1.2.1 := by
 revert hs
 unfold write
 split
 ·split
  ·exact fun _ => ⟨h, FQ.nil⟩
  ·rename_i s _
   intro hs
   have hs := hs s rfl
   have h1 : InQ Q (setP r k ⟨⟨⟨s, b, t, rmw⟩, 2⟩, some (newD ⟨s, b, t, rmw⟩ true), 0⟩) := h.set _ _ hs (fun d e => by injection e with e; subst e; exact hs)
   exact ⟨h1.look k, (fq_sent _ _ hs).app (FQ.of (look_kind k))⟩
 ·exact fun _ => ⟨h, FQ.nil⟩
end
def cnt (l : List Stp) (s : Stp) : Nat := l.countP fun u => less u s
theorem cnt_le (l : List Stp) (s : Stp) : cnt l s ≤ l.length := List.countP_le_length
theorem cnt_mono {l : List Stp} {a b : Stp} (h : less a b = true) : cnt l a ≤ cnt l b := List.countP_mono_left fun _ _ e => less_tr e h
theorem cnt_less : ∀ {l : List Stp} {a b : Stp}, less a b = true → a ∈ l → cnt l a + 1 ≤ cnt l b
 | [], _, _, _, h => by cases h
 | x :: l, a, b, h, hm => by
  unfold cnt
  rw [List.countP_cons, List.countP_cons]
  rcases List.mem_cons.1 hm with e | hm
  ·subst e
   have := cnt_mono (l := l) h
   unfold cnt at this
   rw [less_irr, h]
   simp only [Bool.false_eq_true, if_false, if_true]
   omega
  ·have := cnt_less (l := l) h hm
   unfold cnt at this
   cases e : less x a with
   | false =>
    simp only [Bool.false_eq_true, if_false]
    omega
   | true =>
    rw [less_tr e h]
    simp only [if_true]
    omega
def hw (S : Nat → List Stp) (k : Nat) (s : Stp) : Nat := 6 + (61 - cnt (S k) s)
def run_ (n : Nat) (f : Fm) : Nat := if f.dir = 2 then n + 17 - f.to else if f.dir = 1 then f.to - 16 else 1
def wt (S : Nat → List Stp) (n : Nat) (f : Fm) : Nat := if f.kind = 1 then run_ n f * hw S f.key f.w.s else if f.kind = 2 then 5 else if f.kind = 4 then 2 else 1
def wts (S : Nat → List Stp) (n : Nat) (W : List Fm) : Nat := (W.map (wt S n)).sum
section
variable {S : Nat → List Stp} {n : Nat}
theorem wts_app (W F : List Fm) : wts S n (W ++ F) = wts S n W + wts S n F := by unfold wts; rw [List.map_append, List.sum_append]
theorem wts_cons (f : Fm) (W : List Fm) : wts S n (f :: W) = wt S n f + wts S n W := by unfold wts; rw [List.map_cons, List.sum_cons]
theorem wts_nil : wts S n [] = 0 := rfl
theorem wts_one (f : Fm) : wts S n [f] = wt S n f := by rw [wts_cons, wts_nil, Nat.add_zero]
theorem ad_val {j : Nat} (h : j ≤ 100) : ad j = 16 + j := by unfold ad; omega
theorem wt_pos (hn : n ≤ 5) {f : Fm} (h : FW n f) : 1 ≤ wt S n f := by
 unfold wt
 split
 ·rename_i hk
  obtain ⟨i, j, hi, hj, hij, e1, e2, e3⟩ := h.ends
  rw [ad_val (by omega)] at e2
  have h1 : 1 ≤ run_ n f := by
   unfold run_
   rw [e2]
   split
   ·omega
   ·split <;> omega
  have h2 : 1 ≤ hw S f.key f.w.s := by unfold hw; omega
  exact Nat.le_trans (by decide : 1 ≤ 1 * 1) (Nat.mul_le_mul h1 h2)
 ·split
  ·decide
  ·split <;> decide
theorem wts_len (hn : n ≤ 5) : ∀ {W : List Fm}, FWs n W → W.length ≤ wts S n W
 | [], _ => Nat.zero_le _
 | f :: W, h => by
  rw [wts_cons, List.length_cons]
  have h1 := wt_pos (S := S) hn (h f (List.mem_cons_self ..))
  have h2 := wts_len hn (W := W) fun g hg => h g (List.mem_cons_of_mem _ hg)
  omega
theorem wts_val : ∀ {F : List Fm}, (∀ f, f ∈ F → f.kind = 3) → wts S n F = F.length
 | [], _ => rfl
 | f :: F, h => by
  rw [wts_cons, List.length_cons, wts_val (F := F) fun g hg => h g (List.mem_cons_of_mem _ hg)]
  have : wt S n f = 1 := by
   have e := h f (List.mem_cons_self ..)
   unfold wt
   rw [if_neg (by rw [e]; decide), if_neg (by rw [e]; decide), if_neg (by rw [e]; decide)]
  omega
theorem look_len (r : RS) (k : Nat) : (look r k).2.1.length ≤ (oth r).length := by
 unfold look
 split
 ·exact Nat.zero_le _
 ·split
  ·split
   ·dsimp only; rw [List.length_map]; exact Nat.le_refl _
   ·exact Nat.zero_le _
  ·exact Nat.zero_le _
theorem wts_look {r : RS} (ho : (oth r).length ≤ 4) (k : Nat) : wts S n (look r k).2.1 ≤ 4 := by
 rw [wts_val (look_kind k)]
 exact Nat.le_trans (look_len r k) ho
theorem hw_le (k : Nat) (s : Stp) : hw S k s ≤ 67 := by unfold hw; omega
theorem wts_sent {i : Nat} {r : RS} (l : Lin n i r) (hi : i < n) (hn : n ≤ 5) (k : Nat) (w : Wrd) : wts S n (sent r k w) ≤ 268 := by
 unfold sent
 rw [l.a, l.b, wts_app]
 have hh := hw_le (S := S) k w.s
 have hA : wts S n (if i = 0 then [] else [frW r 1 i k w false 1]) ≤ i * 67 := by
  split
  ·exact Nat.zero_le _
  ·rw [wts_one]
   have e : wt S n (frW r 1 i k w false 1) = i * hw S k w.s := by
    unfold wt run_ frW
    dsimp only
    rw [if_pos rfl, if_neg (by decide), if_pos rfl, ad_val (by omega), Nat.add_sub_cancel_left]
   rw [e]
   exact Nat.mul_le_mul (Nat.le_refl _) hh
 have hB : wts S n (if (if i + 1 < n then i + 2 else 0) = 0 then [] else [frW r 1 (if i + 1 < n then i + 2 else 0) k w false 2]) ≤ (n - (i + 1)) * 67 := by
  by_cases hb : i + 1 < n
  ·rw [if_pos hb, if_neg (by omega), wts_one]
   have e : wt S n (frW r 1 (i + 2) k w false 2) = (n - (i + 1)) * hw S k w.s := by
    unfold wt run_ frW
    dsimp only
    rw [if_pos rfl, if_pos rfl, ad_val (by omega), show n + 17 - (16 + (i + 2)) = n - (i + 1) from by omega]
   rw [e]
   exact Nat.mul_le_mul (Nat.le_refl _) hh
  ·rw [if_neg hb, if_pos rfl]; exact Nat.zero_le _
 omega
theorem wts_on {i : Nat} {r : RS} (l : Lin n i r) (hi : i < n) (hn : n ≤ 5) (ho : (oth r).length ≤ 4) (hS : ∀ k, (S k).length ≤ 61) {f : Fm} (hf : FW n f) (ht : f.to = ad (i + 1)) (hin : f.kind = 1 → f.w.s ∈ S f.key) :
  wts S n (on r f true).2.1 + 1 ≤ wt S n f := by
 have pos := wt_pos (S := S) hn hf
 have htv : f.to = 16 + (i + 1) := by rw [ht, ad_val (by omega)]
 unfold on
 split
 ·exact pos
 rename_i frm hs
 by_cases h1 : f.kind = 1
 ·rw [if_pos h1]
  have hwt : wt S n f = run_ n f * hw S f.key f.w.s := by unfold wt; rw [if_pos h1]
  have hrel : wts S n (sendOn r f) + hw S f.key f.w.s ≤ wt S n f := by
   rw [hwt]
   unfold sendOn
   rw [l.a, l.b]
   by_cases hd1 : f.dir = 1
   ·rw [if_pos hd1]
    have e : run_ n f = i + 1 := by unfold run_; rw [if_neg (by omega), if_pos hd1, htv]; omega
    by_cases h0 : i = 0
    ·rw [if_pos h0, e, h0, wts_nil]; omega
    ·rw [if_neg h0, wts_one]
     have e2 : wt S n { f with to := ad i } = i * hw S f.key f.w.s := by
      unfold wt run_
      dsimp only
      rw [if_pos h1, if_neg (by omega), if_pos hd1, ad_val (by omega), Nat.add_sub_cancel_left]
     rw [e2, e, Nat.succ_mul]
     exact Nat.le_refl _
   ·rw [if_neg hd1]
    by_cases hd2 : f.dir = 2
    ·rw [if_pos hd2]
     have e : run_ n f = n - i := by unfold run_; rw [if_pos hd2, htv]; omega
     by_cases hb : i + 1 < n
     ·rw [if_pos hb, if_neg (by omega), wts_one]
      have e2 : wt S n { f with to := ad (i + 2) } = (n - (i + 1)) * hw S f.key f.w.s := by
       unfold wt run_
       dsimp only
       rw [if_pos h1, if_pos hd2, ad_val (by omega), show n + 17 - (16 + (i + 2)) = n - (i + 1) from by omega]
      rw [e2, e, show n - i = (n - (i + 1)) + 1 from by omega, Nat.succ_mul]
      exact Nat.le_refl _
     ·rw [if_neg hb, if_pos rfl, e, show n - i = 1 from by omega, wts_nil]; omega
    ·rw [if_neg hd2]
     have e : run_ n f = 1 := by unfold run_; rw [if_neg hd2, if_neg hd1]
     rw [e, wts_nil]; omega
  have hh : 6 ≤ hw S f.key f.w.s := by unfold hw; omega
  have hack : ∀ (w : Wrd) (fl : Bool), wt S n (frW r 2 frm f.key w fl 0) = 5 := fun w fl => by unfold wt frW; rfl
  unfold onInv
  by_cases h4 : (Rep.inv (r.P f.key).c f.w).2 = 4
  ·rw [if_pos h4]
   dsimp only
   rw [wts_app, wts_one]
   have hless : less f.w.s (r.P f.key).c.w.s = true := by
    unfold Rep.inv at h4
    split at h4
    ·cases h4
    ·rename_i hn1
     split at h4
     ·cases h4
     ·rename_i hn2
      rcases less_tot (a := (r.P f.key).c.w.s) (b := f.w.s) (by cases e : less (r.P f.key).c.w.s f.w.s with | true => exact absurd e hn1 | false => rfl) with e | e
      ·exact absurd e.symm hn2
      ·exact e
   have e : wt S n (frW r 1 frm f.key (r.P f.key).c.w false 0) = hw S f.key (r.P f.key).c.w.s := by
    unfold wt run_ frW
    dsimp only
    rw [if_pos rfl, if_neg (by decide), if_neg (by decide), Nat.one_mul]
   have hc : hw S f.key (r.P f.key).c.w.s + 1 ≤ hw S f.key f.w.s := by
    have h5 := cnt_less (l := S f.key) hless (hin h1)
    have h6 := cnt_le (S f.key) (r.P f.key).c.w.s
    have h7 := hS f.key
    unfold hw
    omega
   rw [e]
   omega
  ·rw [if_neg h4]
   split
   ·dsimp only
    rw [wts_app, wts_one, hack]
    omega
   ·dsimp only
    rw [wts_app, wts_one, hack]
    omega
 rw [if_neg h1]
 by_cases h2 : f.kind = 2
 ·rw [if_pos h2, if_pos rfl]
  have e : wt S n f = 5 := by unfold wt; rw [if_neg h1, if_pos h2]
  rw [e]
  unfold onAck
  split
  ·show wts S n [] + 1 ≤ 5; rw [wts_nil]; decide
  ·rename_i d _
   split
   ·have := wts_look (S := S) (n := n) (r := setP r f.key { r.P f.key with dr := some (ackD d frm f.flag) }) ho f.key
    exact Nat.succ_le_succ this
   ·show wts S n [] + 1 ≤ 5; rw [wts_nil]; decide
 rw [if_neg h2]
 by_cases h3 : f.kind = 3
 ·rw [if_pos h3]; exact pos
 rw [if_neg h3]
 by_cases h4 : f.kind = 4
 ·rw [if_pos h4]
  have e : wt S n f = 2 := by unfold wt; rw [if_neg h1, if_neg h2, if_pos h4]
  rw [e]
  show wts S n (onNeed r f frm) + 1 ≤ 2
  unfold onNeed
  split
  ·rw [wts_one]; exact Nat.le_refl _
  ·rw [wts_nil]; decide
 rw [if_neg h4]
 by_cases h5 : f.kind = 5
 ·rw [if_pos h5]; exact pos
 rw [if_neg h5]
 exact pos
theorem wts_tickK {i : Nat} {r : RS} (l : Lin n i r) (hi : i < n) (hn : n ≤ 5) (ho : (oth r).length ≤ 4) (k every replay : Nat) : wts S n (tickK r k every replay true).2.1 ≤ 272 := by
 unfold tickK
 split
 ·rw [if_pos rfl]
  dsimp only
  rw [wts_app]
  have h1 := wts_look (S := S) (n := n) ho k
  have h2 : wts S n (beat (look r k).1 k every).2 ≤ 268 := by
   unfold beat
   split
   ·exact Nat.zero_le _
   ·dsimp only
    split
    ·exact wts_sent (l.keep (Keep.look r k)) hi hn _ _
    ·exact Nat.zero_le _
  omega
 ·dsimp only
  unfold stall
  split
  ·split
   ·split
    ·dsimp only
     split
     ·exact Nat.zero_le _
     ·rw [wts_one]
      have : wt S n (fr r 4 (r.P k).c.w.s.b k) = 2 := rfl
      omega
    ·exact Nat.le_trans (wts_sent l hi hn _ _) (by decide)
   ·exact Nat.zero_le _
  ·exact Nat.zero_le _
theorem oth_keep {k : Nat} {r r' : RS} (h : Keep k r r') : oth r' = oth r := by unfold Rep.oth; rw [h.v, h.self]
theorem wts_write {i : Nat} {r : RS} (l : Lin n i r) (hi : i < n) (hn : n ≤ 5) (ho : (oth r).length ≤ 4) (k : Nat) (b : Bool) (t : ByteArray) (rmw : Bool) : wts S n (write r k b t rmw).1.2.1 ≤ 272 := by
 unfold write
 split
 ·split
  ·exact Nat.zero_le _
  ·rename_i s _
   dsimp only
   rw [wts_app]
   have h1 := wts_sent (S := S) l hi hn k ⟨s, b, t, rmw⟩
   have h2 := wts_look (S := S) (n := n) (r := setP r k ⟨⟨⟨s, b, t, rmw⟩, 2⟩, some (newD ⟨s, b, t, rmw⟩ true), 0⟩) ho k
   omega
 ·exact Nat.zero_le _
theorem wts_more {S' : Nat → List Stp} (h : ∀ k s, cnt (S k) s ≤ cnt (S' k) s) : ∀ W : List Fm, wts S' n W ≤ wts S n W
 | [] => Nat.le_refl _
 | f :: W => by
  rw [wts_cons, wts_cons]
  have h1 := wts_more h W
  have h2 : wt S' n f ≤ wt S n f := by
   unfold wt
   split
   ·refine Nat.mul_le_mul (Nat.le_refl _) ?_
    have := h f.key f.w.s
    unfold hw
    omega
   ·exact Nat.le_refl _
  omega
end
end Rep
end Go.Proofs.Ytafcbipmmjegcaa
namespace Go.Proofs.Ytafcbipmmjegcaa
namespace Rep
open Vm.X5 (hasV othV aheadV behindV)
structure CI (n w b : Nat) (R : Nat → RS) (W : List Fm) : Prop where
 g : ∃ GG, GInv n R W GG
 fw : FWs n W
 l : ∀ i, i < n → Lin n i (R i)
 o : ∀ i, i < n → (oth (R i)).length ≤ 4
 K : ∀ k, k < 6 → LK n k (fun i => (R i).P k) W
 s : ∃ S : Nat → List Stp, (∀ k, (S k).length ≤ w + 1) ∧ (∀ i, i < n → InQ (fun k s => s ∈ S k) (R i)) ∧ FQ (fun k s => s ∈ S k) W ∧ wts S n W ≤ b
section
variable {n w b : Nat} {R : Nat → RS} {W : List Fm}
theorem CI.mono (h : CI n w b R W) {w' b' : Nat} (hw : w ≤ w') (hb : b ≤ b') : CI n w' b' R W := by
 obtain ⟨S, s1, s2, s3, s4⟩ := h.s
 exact ⟨h.g, h.fw, h.l, h.o, h.K, S, fun k => Nat.le_trans (s1 k) (by omega), s2, s3, Nat.le_trans s4 hb⟩
theorem fw_on {i : Nat} {r : RS} (m : Mate n i r) (l : Lin n i r) (hi : i < n) {f : Fm} (hf : FW n f) (ht : f.to = ad (i + 1)) : FWs n (on r f true).2.1 := by
 obtain ⟨q, hq, hqi, hqf, hs⟩ := sender_some m l hi hf ht
 have one : ∀ kind w fl, FWs n [frW r kind (q + 1) f.key w fl 0] := fun kind w fl => FWs.one (fw_to m l hi hf.key hq hqi kind w fl)
 unfold on
 rw [hs]
 dsimp only
 by_cases h1 : f.kind = 1
 ·rw [if_pos h1]
  have so := fw_sendOn l hi m.few hf h1 ht
  unfold onInv
  split
  ·exact so.app (one _ _ _)
  ·split
   ·exact so.app (one _ _ _)
   ·exact so.app (one _ _ _)
 rw [if_neg h1]
 by_cases h2 : f.kind = 2
 ·rw [if_pos h2, if_pos rfl]
  unfold onAck
  split
  ·exact FWs.nil _
  ·split
   ·exact fw_look (m.setP _ _) ⟨l.e, l.a, l.b⟩ hi hf.key
   ·exact FWs.nil _
 rw [if_neg h2]
 by_cases h3 : f.kind = 3
 ·rw [if_pos h3]; exact FWs.nil _
 rw [if_neg h3]
 by_cases h4 : f.kind = 4
 ·rw [if_pos h4]
  show FWs n (onNeed r f (q + 1))
  unfold onNeed
  split
  ·exact one _ _ _
  ·exact FWs.nil _
 rw [if_neg h4]
 by_cases h5 : f.kind = 5
 ·rw [if_pos h5]; exact FWs.nil _
 rw [if_neg h5]
 exact FWs.nil _
theorem fw_tickK {i k : Nat} {r : RS} (m : Mate n i r) (l : Lin n i r) (hi : i < n) (hk : k < 6) (every replay : Nat) : FWs n (tickK r k every replay true).2.1 := by
 unfold tickK
 split
 ·rw [if_pos rfl]
  refine (fw_look m l hi hk).app ?_
  have kp := Keep.look r k
  unfold beat
  split
  ·exact FWs.nil _
  ·dsimp only
   split
   ·exact fw_sent (m.keep kp) (l.keep kp) hi hk _
   ·exact FWs.nil _
 ·dsimp only
  unfold stall
  split
  ·split
   ·split
    ·rename_i hh
     dsimp only
     split
     ·exact FWs.nil _
     ·rename_i hne
      obtain ⟨j, hj, e⟩ := m.vh _ _ hh.2
      rw [e]
      exact FWs.one (fw_to m l hi hk hj (fun e' => hne (by rw [e, m.self, e'])) _ _ _)
    ·exact fw_sent m l hi hk _
   ·exact FWs.nil _
  ·exact FWs.nil _
theorem fw_write {i k : Nat} {r : RS} (m : Mate n i r) (l : Lin n i r) (hi : i < n) (hk : k < 6) (b : Bool) (t : ByteArray) (rmw : Bool) : FWs n (write r k b t rmw).1.2.1 := by
 unfold write
 split
 ·split
  ·exact FWs.nil _
  ·exact (fw_sent m l hi hk _).app (fw_look (m.setP _ _) ⟨l.e, l.a, l.b⟩ hi hk)
 ·exact FWs.nil _
theorem keys_put {i k : Nat} (hk : k < 6) {r' : RS} {W' : List Fm} (kp : Keep k (R i) r') (h : ∀ q, q < 6 → LK n q (fun j => (R j).P q) W) (h0 : ∀ g, g.key ≠ k → (g ∈ W ↔ g ∈ W')) (h1 : LK n k (put (fun j => (R j).P k) i (r'.P k)) W') :
  ∀ q, q < 6 → LK n q (fun j => (put R i r' j).P q) W' := fun q hq => by
 by_cases e : q = k
 ·subst e
  have : (fun j => (put R i r' j).P q) = put (fun j => (R j).P q) i (r'.P q) := by
   funext j
   by_cases e : j = i
   ·subst e; rw [put_at, put_at]
   ·rw [put_ne _ _ _ e, put_ne _ _ _ e]
  rw [this]
  exact h1
 ·have : (fun j => (put R i r' j).P q) = fun j => (R j).P q := by
   funext j
   by_cases ej : j = i
   ·subst ej; rw [put_at]; exact kp.P q e
   ·rw [put_ne _ _ _ ej]
  rw [this]
  exact (h q hq).other fun g hg => h0 g (by rw [hg]; exact e)
theorem lin_put {i k : Nat} {r' : RS} (kp : Keep k (R i) r') (h : ∀ j, j < n → Lin n j (R j)) : ∀ j, j < n → Lin n j (put R i r' j) := fun j hj => by
 by_cases e : j = i
 ·subst e; rw [put_at]; exact (h j hj).keep kp
 ·rw [put_ne _ _ _ e]; exact h j hj
theorem oth_put {i k : Nat} {r' : RS} (kp : Keep k (R i) r') (h : ∀ j, j < n → (oth (R j)).length ≤ 4) : ∀ j, j < n → (oth (put R i r' j)).length ≤ 4 := fun j hj => by
 by_cases e : j = i
 ·subst e; rw [put_at, oth_keep kp]; exact h j hj
 ·rw [put_ne _ _ _ e]; exact h j hj
theorem inq_put {i : Nat} {r' : RS} {Q Q' : Nat → Stp → Prop} (h : ∀ j, j < n → InQ Q (R j)) (hq : ∀ k s, Q k s → Q' k s) (h' : InQ Q' r') : ∀ j, j < n → InQ Q' (put R i r' j) := fun j hj => by
 by_cases e : j = i
 ·subst e; rw [put_at]; exact h'
 ·rw [put_ne _ _ _ e]; exact (h j hj).mono hq
theorem FWs.in_ {f : Fm} (h : FWs n W) (hf : f ∈ W) (hn : n ≤ 5) : ∃ i, i < n ∧ f.to = ad (i + 1) ∧ 17 ≤ f.to ∧ f.to - 17 = i := by
 obtain ⟨_, j, _, hj, _, _, e, _⟩ := (h f hf).ends
 have e2 := ad_val (j := j + 1) (by omega)
 exact ⟨j, hj, e, by omega, by omega⟩
theorem CI.on {f : Fm} (h : CI n w b R (f :: W)) (hn : n ≤ 5) (hw : w ≤ 60) {i : Nat} (hi : i < n) (ht : f.to = ad (i + 1)) :
  1 ≤ b ∧ CI n w (b - 1) (put R i (Rep.on (R i) f true).1) (W ++ (Rep.on (R i) f true).2.1) := by
 obtain ⟨GG, g⟩ := h.g
 obtain ⟨S, s1, s2, s3, s4⟩ := h.s
 have hf := h.fw f (List.mem_cons_self ..)
 have m := g.m i hi
 have l := h.l i hi
 have hm : f ∈ f :: W := List.mem_cons_self ..
 have kp := Keep.on (R i) f true
 have go := goes_on m (g.c i hi) f true
 have hlt := wts_on l hi hn (h.o i hi) (S := S) (fun k => Nat.le_trans (s1 k) (by omega)) hf ht (fun e => s3 f hm (.inl e))
 obtain ⟨q1, q2⟩ := q_on (Q := fun k s => s ∈ S k) (s2 i hi) (f := f) (fun e => s3 f hm e)
 rw [wts_cons] at s4
 obtain ⟨G', _, _, g', _⟩ := g.on hi f hm
 refine ⟨by omega, ⟨G', g'.lost fun x hx => ?_⟩, ?_, lin_put kp h.l, oth_put kp h.o, ?_, S, s1, inq_put s2 (fun _ _ x => x) q1, (fun x hx e => ?_), ?_⟩
 ·rcases List.mem_append.1 hx with hx | hx
  ·exact List.mem_append.2 (.inl (List.mem_cons_of_mem _ hx))
  ·exact List.mem_append.2 (.inr hx)
 ·exact FWs.app (fun x hx => h.fw x (List.mem_cons_of_mem _ hx)) (fw_on m l hi hf ht)
 ·refine keys_put hf.key kp h.K (fun x hx => ?_) ((h.K f.key hf.key).on_s (g.K f.key hf.key) hi m l rfl rfl hf ht)
  constructor
  ·intro hx'
   rcases List.mem_cons.1 hx' with e | hx'
   ·subst e; exact absurd rfl hx
   ·exact List.mem_append.2 (.inl hx')
  ·intro hx'
   rcases List.mem_append.1 hx' with hx' | hx'
   ·exact List.mem_cons_of_mem _ hx'
   ·exact absurd (go x hx').1 hx
 ·rcases List.mem_append.1 hx with hx | hx
  ·exact s3 x (List.mem_cons_of_mem _ hx) e
  ·exact q2 x hx e
 ·rw [wts_app]; omega
theorem CI.tickK (h : CI n w b R W) (hn : n ≤ 5) {i : Nat} (hi : i < n) {k : Nat} (hk : k < 6) (every replay : Nat) :
  CI n w (b + 272) (put R i (Rep.tickK (R i) k every replay true).1) (W ++ (Rep.tickK (R i) k every replay true).2.1) := by
 obtain ⟨GG, g⟩ := h.g
 obtain ⟨S, s1, s2, s3, s4⟩ := h.s
 have m := g.m i hi
 have l := h.l i hi
 have kp := Keep.tickK (R i) k every replay true
 have go := goes_tickK (k := k) m (g.c i hi) every replay
 have hlt := wts_tickK (S := S) l hi hn (h.o i hi) k every replay
 obtain ⟨q1, q2⟩ := q_tickK (Q := fun k s => s ∈ S k) (s2 i hi) k every replay
 obtain ⟨G', _, _, g', _⟩ := g.step hi hk kp go (tickK_step (g.K k hk) hi m rfl every replay)
 refine ⟨⟨G', g'⟩, h.fw.app (fw_tickK m l hi hk every replay), lin_put kp h.l, oth_put kp h.o, ?_, S, s1, inq_put s2 (fun _ _ x => x) q1, s3.app q2, by rw [wts_app]; omega⟩
 refine keys_put hk kp h.K (fun x hx => ?_) ((h.K k hk).tick_s (g.K k hk) h.fw hi m l rfl every replay)
 constructor
 ·exact fun hx' => List.mem_append.2 (.inl hx')
 ·intro hx'
  rcases List.mem_append.1 hx' with hx' | hx'
  ·exact hx'
  ·exact absurd (go x hx').1 hx
theorem CI.tickL (hn : n ≤ 5) {i : Nat} (hi : i < n) (every replay : Nat) : ∀ (L : List Nat) (b : Nat) (R : Nat → RS) (W : List Fm), CI n w b R W → (∀ k ∈ L, k < 6) →
  CI n w (b + 272 * L.length) (put R i (Rep.tickL (R i) every replay true L).1) (W ++ (Rep.tickL (R i) every replay true L).2.1)
 | [], b, R, W, h, _ => by
  show CI n w b (put R i (R i)) (W ++ [])
  rw [put_same, List.append_nil]
  exact h
 | k :: L, b, R, W, h, hL => by
  have h1 := h.tickK hn hi (hL k (List.mem_cons_self ..)) every replay
  have h2 := CI.tickL hn hi every replay L _ _ _ h1 fun k hk => hL k (List.mem_cons_of_mem _ hk)
  rw [put_at, put_put, List.append_assoc] at h2
  exact h2.mono (Nat.le_refl _) (by rw [List.length_cons]; omega)
theorem CI.tick (h : CI n w b R W) (hn : n ≤ 5) {i : Nat} (hi : i < n) (every replay : Nat) :
  CI n w (b + 1632) (put R i (Rep.tick (R i) every replay true).1) (W ++ (Rep.tick (R i) every replay true).2.1) := by
 obtain ⟨GG, g⟩ := h.g
 have has : complete (R i) = true := by
  unfold complete
  rw [g.has i hi 0 (by decide), g.has i hi 1 (by decide), g.has i hi 2 (by decide), g.has i hi 3 (by decide), g.has i hi 4 (by decide), g.has i hi 5 (by decide)]
  rfl
 have e : Rep.tick (R i) every replay true = Rep.tickL (R i) every replay true [0, 1, 2, 3, 4, 5] := by
  unfold Rep.tick asked
  rw [if_pos ((g.m i hi).inR hi), if_pos has]
  rfl
 rw [e]
 exact CI.tickL hn hi every replay [0, 1, 2, 3, 4, 5] b R W h (by decide)
theorem CI.write (h : CI n w b R W) (hn : n ≤ 5) {i : Nat} (hi : i < n) {k : Nat} (hk : k < 6) (c : Bool) (t : ByteArray) (rmw : Bool) :
  CI n (w + 1) (b + 1632) (put R i (Rep.write (R i) k c t rmw).1.1) (W ++ (Rep.write (R i) k c t rmw).1.2.1) := by
 obtain ⟨GG, g⟩ := h.g
 obtain ⟨S, s1, s2, s3, s4⟩ := h.s
 have m := g.m i hi
 have l := h.l i hi
 have kp := Keep.write (R i) k c t rmw
 have go := goes_write (k := k) m (g.c i hi) c t rmw
 rcases g.write hi hk c t rmw with ⟨e1, e2⟩ | ⟨s, e1, G', _, _, g', _⟩
 ·rw [e2]
  dsimp only
  rw [put_same, List.append_nil]
  exact h.mono (by omega) (by omega)
 ·have more : ∀ q x, x ∈ S q → x ∈ put S k (S k ++ [s]) q := fun q x hx => by
   by_cases e : q = k
   ·subst e; rw [put_at]; exact List.mem_append.2 (.inl hx)
   ·rw [put_ne _ _ _ e]; exact hx
  have cm : ∀ q x, cnt (S q) x ≤ cnt (put S k (S k ++ [s]) q) x := fun q x => by
   by_cases e : q = k
   ·subst e; rw [put_at]; unfold cnt; rw [List.countP_append]; omega
   ·rw [put_ne _ _ _ e]; exact Nat.le_refl _
  have hlt := wts_write (S := put S k (S k ++ [s])) l hi hn (h.o i hi) k c t rmw
  obtain ⟨q1, q2⟩ := q_write (Q := fun q x => x ∈ put S k (S k ++ [s]) q) ((s2 i hi).mono more) k c t rmw (fun x hx => by
   rw [e1] at hx; injection hx with hx; subst hx
   show s ∈ put S k (S k ++ [s]) k
   rw [put_at]; exact List.mem_append.2 (.inr (List.mem_singleton.2 rfl)))
  have hmw := wts_more (n := n) cm W
  refine ⟨⟨G', g'⟩, h.fw.app (fw_write m l hi hk c t rmw), lin_put kp h.l, oth_put kp h.o, ?_, put S k (S k ++ [s]), fun q => ?_, inq_put s2 more q1, (s3.mono more).app q2, by rw [wts_app]; omega⟩
  ·refine keys_put hk kp h.K (fun x hx => ?_) ((h.K k hk).write_s hi m l rfl c t rmw)
   constructor
   ·exact fun hx' => List.mem_append.2 (.inl hx')
   ·intro hx'
    rcases List.mem_append.1 hx' with hx' | hx'
    ·exact hx'
    ·exact absurd (go x hx').1 hx
  ·by_cases e : q = k
   ·subst e; rw [put_at, List.length_append, List.length_singleton]; have := s1 q; omega
   ·rw [put_ne _ _ _ e]; have := s1 q; omega
theorem CI.len (h : CI n w b R W) (hn : n ≤ 5) : W.length ≤ b := by
 obtain ⟨S, _, _, _, s4⟩ := h.s
 exact Nat.le_trans (wts_len hn h.fw) s4
theorem CI.nil (h : CI n w b R []) : CI n w 0 R [] := by
 obtain ⟨S, s1, s2, s3, _⟩ := h.s
 exact ⟨h.g, h.fw, h.l, h.o, h.K, S, s1, s2, s3, Nat.le_refl _⟩
theorem CI.rest (h : CI n w b R []) (hn : 0 < n) {i : Nat} (hi : i < n) {k : Nat} (hk : k < 6) : ((R i).P k).dr = none ∧ ((R i).P k).c.st = 1 ∧ ((R i).P k).c = ((R 0).P k).c ∧ (R i).has k = true := by
 obtain ⟨GG, g⟩ := h.g
 obtain ⟨a, b, c⟩ := (h.K k hk).rest_s (g.K k hk) hn hi
 exact ⟨a, b, c, g.has i hi k hk⟩
end
theorem LK.start (n k : Nat) : LK n k (fun _ => ⟨⟨z0, 1⟩, none, 0⟩) [] :=
 ⟨fun _ _ => .inl rfl, (fun _ _ _ e => by cases e), (fun _ h => by cases h), (fun _ h => by cases h), fun _ _ _ => .inr fun _ _ => ⟨rfl, .inl rfl⟩⟩
theorem lin_N {n i : Nat} (h1 : 1 ≤ n) (h5 : n ≤ 5) (hi : i < n) : Lin n i (rN n i) := by
 have hc : n = 1 ∨ n = 2 ∨ n = 3 ∨ n = 4 ∨ n = 5 := by omega
 refine ⟨rfl, ?_, ?_⟩
 ·rcases hc with rfl|rfl|rfl|rfl|rfl <;> (have hi' : i = 0 ∨ i = 1 ∨ i = 2 ∨ i = 3 ∨ i = 4 := by omega) <;> rcases hi' with rfl|rfl|rfl|rfl|rfl <;> first | omega | decide
 ·rcases hc with rfl|rfl|rfl|rfl|rfl <;> (have hi' : i = 0 ∨ i = 1 ∨ i = 2 ∨ i = 3 ∨ i = 4 := by omega) <;> rcases hi' with rfl|rfl|rfl|rfl|rfl <;> first | omega | decide
theorem oth_N {n i : Nat} (h1 : 1 ≤ n) (h5 : n ≤ 5) (hi : i < n) : (oth (rN n i)).length ≤ 4 := by
 have hc : n = 1 ∨ n = 2 ∨ n = 3 ∨ n = 4 ∨ n = 5 := by omega
 rcases hc with rfl|rfl|rfl|rfl|rfl <;> (have hi' : i = 0 ∨ i = 1 ∨ i = 2 ∨ i = 3 ∨ i = 4 := by omega) <;> rcases hi' with rfl|rfl|rfl|rfl|rfl <;> first | omega | decide
theorem CI.start {n : Nat} (h1 : 1 ≤ n) (h5 : n ≤ 5) : CI n 0 0 (rN n) [] :=
 ⟨⟨_, GInv.start h1 h5⟩, FWs.nil _, fun _ hi => lin_N h1 h5 hi, fun _ hi => oth_N h1 h5 hi, fun k _ => LK.start n k, fun _ => [⟨0, 0, 0⟩], fun _ => Nat.le_refl _,
  fun _ _ _ => ⟨List.mem_singleton.2 rfl, fun _ e => by cases e⟩, FQ.nil, Nat.le_refl _⟩
end Rep
end Go.Proofs.Ytafcbipmmjegcaa
