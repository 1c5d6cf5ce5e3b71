/- Texts of this claim: PgY, PgB. -/
import Derived.Test.YtcmcmafeaabjmaaGreatMg32
import Derived.Test.YtcmcmafeaabjmaaGreatMg15
namespace Go.Proofs.YtcmcmafeaabjmaaGreat.Vm
namespace Pg
open X12 (PP P0 Ent Cmd hasM withM cntM Mask Mas isMas noteB updE belowB topOf Top Win mkEnts cmdAt ent0 accP pStart pPromise pPropose pAccepted IsU32)
open Acp (AS En IsE XOk blw)
section
variable {n top : Nat} {g : Gh} {A : Nat → AS} {P : Nat → PP} {dec : Int → Option Cmd}
theorem topOf_none {f : Int → Option Ent} (hf : ∀ s w, f s = some w → 0 ≤ s ∧ s < 16) {s : Int} (h : topOf 0 f 16 ≤ s) : f s = none := by
  cases e : f s with
  | none => rfl
  | some w =>
    obtain ⟨a, b⟩ := hf s w e
    have := topOf_gt 16 (f := f) (s := s) (by rw [e]; rfl) a b
    omega
theorem Inv.promise (h : Inv n top g A P dec) {i j : Nat} (hi : i < n) (hj : j < n) (hn5 : n ≤ 5) {t : Nat} (hask : Ask n g A t (P i)) (hn : (P i).x.n = t) (hb : (P i).x.b = (i : Int) + 1) (t1 : 1 ≤ t) (t2 : t ≤ top) (ho : g.own t = i) (hpn : (A j).pn = t) {L : List En} (hL : IsE (A j).E 0 L) :
    ∃ g', Inv n top g' A (upd P i (pPromise (P i) ((j : Int) + 1) t ((i : Int) + 1) (L.map toEnt)).1) dec := by
  have hp := h.p i hi
  have ha := h.a j hj
  have hms := hp.ok.ms
  have hmn := hp.ms
  have hel : ∀ e ∈ L.map toEnt, IsU32 e.s := fun e he => by
    obtain ⟨y, hy, rfl⟩ := List.mem_map.1 he
    have := (ha.ok.E _ _ ((hL.m y).1 hy).1).2.2.2.slot
    exact ⟨Int.natCast_nonneg _, by show (y.slot : Int) < _; omega⟩
  have hok := X12.pPromise_ok hp.ok ((j : Int) + 1) t ((i : Int) + 1) hel
  unfold pPromise at hok ⊢
  have hmas : Mas ((j : Int) + 1) := ⟨by omega, by omega⟩
  by_cases hc : (P i).x.ph = 1 ∧ (t : Int) = (P i).x.n ∧ (i : Int) + 1 = (P i).x.b ∧ isMas (P i).x.ms ((j : Int) + 1) = true ∧ hasM (P i).x.pm ((j : Int) + 1) = false
  · rw [if_pos hc] at hok ⊢
    have hfr := hask.fr
    rw [hfr] at hok ⊢
    have hE : ∀ y ∈ L, (A j).E y.slot = some y ∧ y.slot < 16 ∧ 1 ≤ y.n ∧ y.n < t ∧ g.G y.n y.slot = some (toEnt y).c := fun y hy => by
      have e := ((hL.m y).1 hy).1
      obtain ⟨a1, a2, a3, a4⟩ := ha.ok.E _ _ e
      obtain ⟨b1, b2, b3, b4⟩ := ha.E _ _ e
      refine ⟨e, by rw [ha.low] at a3; omega, b1, ?_, b3⟩
      have hne : y.n ≠ t := fun e2 => by rw [e2] at b3; rw [hask.new] at b3; cases b3
      omega
    have hF1 : ∀ s w, (L.map toEnt).foldl (noteB 0) (P i).f s = some w → 0 ≤ s ∧ s < 16 ∧ ∃ t1 : Nat, t1 < t ∧ w.n = t1 ∧ g.G t1 s = some w.c := fun s w hw => by
      rcases fold_at hw with hw | ⟨hw, hs, h0, h16⟩
      · exact hask.f s w hw
      · obtain ⟨y, hy, rfl⟩ := List.mem_map.1 hw
        obtain ⟨_, _, _, b4, b5⟩ := hE y hy
        exact ⟨h0, h16, y.n, b4, rfl, by rw [hs]; exact b5⟩
    have hF2 : ∀ j' : Nat, j' < n → hasM (withM (P i).x.pm ((j : Int) + 1)) ((j' : Int) + 1) = true → t ≤ (A j').pn ∧ ∀ s t0, t0 < t → g.V j' t0 s = true → ∃ w, (L.map toEnt).foldl (noteB 0) (P i).f s = some w ∧ (t0 : Int) ≤ w.n := fun j' hj' hm => by
      rw [X12.withM_has hp.ok.pm hmas ⟨by omega, by omega⟩, Bool.or_eq_true] at hm
      rcases hm with hm | hm
      · obtain ⟨a, b⟩ := hask.pm j' hj' hm
        refine ⟨a, fun s t0 ht0 hv => ?_⟩
        obtain ⟨w, hw, hwn⟩ := b s t0 ht0 hv
        obtain ⟨w', hw', hwn'⟩ := fold_keep (el := L.map toEnt) hw
        exact ⟨w', hw', by omega⟩
      · have hjj : j' = j := by have := of_decide_eq_true hm; omega
        subst hjj
        refine ⟨by omega, fun s t0 ht0 hv => ?_⟩
        obtain ⟨v1, v2, v3, v4⟩ := ha.V t0 s hv
        obtain ⟨y, hy⟩ := Option.isSome_iff_exists.1 v4
        obtain ⟨a1, a2, a3, a4⟩ := ha.ok.E _ _ hy
        obtain ⟨b1, b2, b3, b4⟩ := ha.E _ _ hy
        have es : ((s.toNat : Nat) : Int) = s := Int.toNat_of_nonneg v3
        have hyL : y ∈ L := (hL.m y).2 ⟨by rw [a1]; exact hy, Nat.zero_le _⟩
        have hys : (toEnt y).s = s := by show (y.slot : Int) = s; rw [a1]; exact es
        obtain ⟨w', hw', hwn'⟩ := fold_in (f := (P i).f) (List.mem_map.2 ⟨y, hyL, rfl⟩) (by rw [hys]; exact v3) (by rw [hys, ← es]; rw [ha.low] at a3; omega)
        refine ⟨w', by rw [← hys]; exact hw', ?_⟩
        have := b4 t0 (by rw [es]; exact hv)
        have : (toEnt y).n = (y.n : Int) := rfl
        omega
    have hbits := bits_with hp.ok.pm hask.bits hj hn5
    have hmask := X12.withM_mask hp.ok.pm hmas
    generalize (L.map toEnt).foldl (noteB 0) (P i).f = f' at *
    generalize withM (P i).x.pm ((j : Int) + 1) = pm' at *
    split
    · rename_i hmaj
      rw [if_pos hmaj] at hok
      have hQ : Maj n fun j' => hasM pm' ((j' : Int) + 1) := cntM_maj hmask hn5 hbits (by rw [hmn] at hmaj; exact hmaj)
      obtain ⟨te1, te2⟩ := X12.topOf_bounds 0 f' 16
      have hnone : ∀ s, topOf 0 f' 16 ≤ s → f' s = none := fun s hs => topOf_none (fun s w hw => ⟨(hF1 s w hw).1, (hF1 s w hw).2.1⟩) hs
      have hblk : ∀ s t0, t0 < t → (∀ w, f' s = some w → w.n < (t0 : Int)) → Blk n A g t0 s := fun s t0 ht0 hw => by
        refine ⟨_, hQ, fun j' hj' hm => ?_⟩
        obtain ⟨a, b⟩ := hF2 j' hj' hm
        refine ⟨by omega, ?_⟩
        cases hv : g.V j' t0 s with
        | false => rfl
        | true =>
          obtain ⟨w, w1, w2⟩ := b s t0 ht0 hv
          have := hw w w1
          omega
      have hD : ∀ s c, (if 0 ≤ s ∧ s < topOf 0 f' 16 then some (cmdAt f' s) else none) = some c → 0 ≤ s ∧ CmdOk c ∧ ∀ t0, t0 < t → Blk n A g t0 s ∨ g.G t0 s = some c := fun s c hs => by
        split at hs
        · rename_i hr
          injection hs with hs
          subst hs
          refine ⟨hr.1, cmdAt_ok fun w hw => ?_, fun t0 ht0 => ?_⟩
          · obtain ⟨_, _, t1, _, _, hg⟩ := hF1 s w hw
            exact (h.s _ _ _ hg).2.2.2.1
          · cases hfs : f' s with
            | none => exact .inl (hblk s t0 ht0 fun w hw => by rw [hfs] at hw; cases hw)
            | some w =>
              have hcw : cmdAt f' s = w.c := by unfold cmdAt; rw [hfs]; rfl
              obtain ⟨_, _, t1', t2', hwn, hg⟩ := hF1 s w hfs
              rcases Nat.lt_trichotomy t0 t1' with hlt | rfl | hlt
              · rw [hcw]; exact (h.s _ _ _ hg).2.2.2.2 t0 hlt
              · rw [hcw]; exact .inr hg
              · exact .inl (hblk s t0 ht0 fun w' hw' => by rw [hfs] at hw'; injection hw' with hw'; subst hw'; omega)
        · cases hs
      have hG' : ∀ s, (addG g t fun s => if 0 ≤ s ∧ s < topOf 0 f' 16 then some (cmdAt f' s) else none).G t s = if 0 ≤ s ∧ s < topOf 0 f' 16 then some (cmdAt f' s) else none := fun s => by
        rw [addG_at, hask.new]; rfl
      have e := addG_ext (n := n) g A t fun s => if 0 ≤ s ∧ s < topOf 0 f' 16 then some (cmdAt f' s) else none
      refine ⟨_, h.put t1 t2 ho _ hD ⟨hok, hmn, .inr ⟨t, t1, t2, hn, hb, ho, .inr ⟨rfl, fun q hq => ?_, fun s c hs => ?_, fun s t0 hs ht0 => ?_⟩⟩⟩⟩
      · obtain ⟨q1, hq1, rfl⟩ := List.mem_map.1 hq
        obtain ⟨m1, m2, m3⟩ := mkEnts_mem hq1
        have m2 : q1.s < topOf 0 f' 16 := by omega
        refine ⟨by rw [m3]; exact hn, by rw [m3]; exact hb, m1, ?_, bits_zero n, fun j' hj' hm => ?_⟩
        · rw [hG']
          show (if 0 ≤ q1.s ∧ q1.s < topOf 0 f' 16 then some (cmdAt f' q1.s) else none) = some q1.c
          rw [if_pos ⟨m1, m2⟩]
          exact congrArg some (congrArg Ent.c m3).symm
        · rw [has_zero ⟨by omega, by omega⟩] at hm; cases hm
      · rw [hG'] at hs
        split at hs
        · rename_i hr
          show s < (if topOf 0 f' 16 < 4294967295 then topOf 0 f' 16 else 4294967295)
          rw [if_pos (by omega)]; exact hr.2
        · cases hs
      · have hs : (if topOf 0 f' 16 < 4294967295 then topOf 0 f' 16 else 4294967295) ≤ s := hs
        rw [if_pos (by omega)] at hs
        exact (hblk s t0 ht0 fun w hw => by rw [hnone s hs] at hw; cases hw).ext e
    · rename_i hmaj
      rw [if_neg hmaj] at hok
      exact ⟨g, h.same ⟨hok, hmn, .inr ⟨t, t1, t2, hn, hb, ho, .inl ⟨hask.ph, hask.l, hfr, hbits, hask.new, hF2, hF1⟩⟩⟩⟩
  · rw [if_neg hc]
    exact ⟨g, h.same hp⟩
theorem Inv.ent (h : Inv n top g A P dec) {i : Nat} (hi : i < n) (htop : top < 4294967296) {q : Ent × Int} (hq : q ∈ (P i).l) (hn256 : n < 255) : (ofEnt q.1).Ok ∧ toEnt (ofEnt q.1) = q.1 := by
  rcases (h.p i hi).at_ with ⟨_, h0⟩ | ⟨t, t1, t2, hn, hpb, ho, h0 | hl⟩
  · rw [h0] at hq; cases hq
  · rw [h0.l] at hq; cases hq
  · obtain ⟨a1, a2, a3, a4, a5, a6⟩ := hl.l q hq
    obtain ⟨_, _, _, hc, _⟩ := h.s _ _ _ a4
    have hnx := (h.p i hi).ok.nx
    have hlt := hl.lt _ _ a4
    refine ⟨?_, toEnt_of a3 (by omega) (by omega) hc⟩
    have := hc.k; have := hc.d; have := hc.l; have := hc.e; have := hc.q
    exact ⟨by show q.1.s.toNat < _; have := hnx.2; omega, by show q.1.n.toNat < _; omega, by show q.1.b.toNat < _; omega, by show q.1.c.k.toNat < _; omega, by show q.1.c.d.toNat < _; omega, by show q.1.c.l.toNat < _; omega, by show q.1.c.e.toNat < _; omega, by show q.1.c.q.toNat < _; omega⟩
theorem Inv.accept (h : Inv n top g A P dec) {i j : Nat} (hi : i < n) (hj : j < n) (htop : top < 4294967296) {q : Ent × Int} (hq : q ∈ (P i).l) (hs16 : q.1.s < 16) (hb : blw (ofEnt q.1).n (ofEnt q.1).b (A j).pn (A j).pb = false) (hn256 : n < 255) :
    ∃ g', Inv n top g' (upd A j (Acp.accept (A j) (ofEnt q.1))) P dec ∧ (ofEnt q.1).Ok ∧ toEnt (ofEnt q.1) = q.1 ∧ ∃ t : Nat, (P i).x.ph = 2 ∧ (P i).x.n = t ∧ q.1.n = t ∧ (P i).x.b = q.1.b ∧ g'.V j t q.1.s = true ∧ g'.G t q.1.s = some q.1.c := by
  have hp := h.p i hi
  rcases hp.at_ with ⟨_, h0⟩ | ⟨t, t1, t2, hn, hpb, ho, h0 | hl⟩
  · rw [h0] at hq; cases hq
  · rw [h0.l] at hq; cases hq
  · obtain ⟨a1, a2, a3, a4, a5, a6⟩ := hl.l q hq
    obtain ⟨_, _, _, hc, _⟩ := h.s _ _ _ a4
    have hte : toEnt (ofEnt q.1) = q.1 := toEnt_of a3 (by omega) (by omega) hc
    have hyn : (ofEnt q.1).n = t := by show q.1.n.toNat = t; omega
    have hys : ((ofEnt q.1).slot : Int) = q.1.s := by show ((q.1.s.toNat : Nat) : Int) = q.1.s; omega
    have hyo : (ofEnt q.1).Ok := by
      have := hc.k; have := hc.d; have := hc.l; have := hc.e; have := hc.q
      exact ⟨by show q.1.s.toNat < _; omega, by rw [hyn]; omega, by show q.1.b.toNat < _; omega, by show q.1.c.k.toNat < _; omega, by show q.1.c.d.toNat < _; omega, by show q.1.c.l.toNat < _; omega, by show q.1.c.e.toNat < _; omega, by show q.1.c.q.toNat < _; omega⟩
    have ha := h.a j hj
    have hpt : (A j).pn ≤ t := by
      unfold blw at hb
      rw [decide_eq_false_iff_not, hyn] at hb
      omega
    generalize hy : ofEnt q.1 = y at *
    obtain ⟨e1, e2, e3⟩ := Acp.promise_E (A j) y.n y.b
    have hpp : (Acp.promise (A j) y.n y.b).pn = t := by
      unfold Acp.promise
      split
      · exact hyn
      · rename_i h2
        unfold blw at h2 hb
        simp only [decide_eq_true_eq, decide_eq_false_iff_not] at h2 hb
        omega
    let g' : Gh := { g with V := fun j' t' s => if j' = j ∧ t' = t ∧ s = q.1.s then true else g.V j' t' s }
    have hVn : ∀ j' t' s, g'.V j' t' s = true → g.V j' t' s = true ∨ (j' = j ∧ t' = t ∧ s = q.1.s) := fun j' t' s hv => by
      have hv : (if j' = j ∧ t' = t ∧ s = q.1.s then true else g.V j' t' s) = true := hv
      split at hv
      · exact .inr (by assumption)
      · exact .inl hv
    have hVk : ∀ j' t' s, g.V j' t' s = true → g'.V j' t' s = true := fun j' t' s hv => by
      show (if j' = j ∧ t' = t ∧ s = q.1.s then true else g.V j' t' s) = true
      split
      · rfl
      · exact hv
    have hVat : g'.V j t q.1.s = true := if_pos ⟨rfl, rfl, rfl⟩
    have hAn : ∀ k, k ≠ j → upd A j (Acp.accept (A j) y) k = A k := fun k hk => upd_ne _ _ hk
    have hpn' : (upd A j (Acp.accept (A j) y) j).pn = t := by rw [upd_at]; exact hpp
    have e : Ext n g g' A (upd A j (Acp.accept (A j) y)) := ⟨fun _ _ _ h => h, fun k _ => by
      by_cases hk : k = j
      · subst hk; rw [hpn']; exact hpt
      · rw [hAn k hk]; exact Nat.le_refl _, hVk, fun k _ t' s hv => by
      rcases hVn k t' s hv with h | ⟨rfl, rfl, rfl⟩
      · exact .inl h
      · exact .inr hpt⟩
    refine ⟨g', ⟨fun k hk => ?_, fun k hk => (h.p k hk).ext e (Nat.le_refl _) (fun _ _ => rfl) (fun _ _ _ _ => rfl), fun t' s c hc => ?_, fun s c hc => ?_⟩, hyo, hte, t, hl.ph, hn, a1, by omega, hVat, a4⟩
    · by_cases hkj : k = j
      · subst hkj
        rw [upd_at]
        have hlow : (Acp.accept (A k) y).low = 0 := e2.trans ha.low
        have hsl : y.slot < 16 := by omega
        refine ⟨ha.ok.accept hyo (by rw [ha.low]; exact Nat.zero_le _) (by rw [ha.low]; omega), hlow, by show (Acp.promise (A k) y.n y.b).pn ≤ top; omega, fun s z hz => ?_, fun t' s hv => ?_⟩
        · have hz : Acp.upE (A k).E y.slot y s = some z := hz
          show 1 ≤ z.n ∧ z.n ≤ (Acp.promise (A k) y.n y.b).pn ∧ g.G z.n s = some (toEnt z).c ∧ ∀ t', g'.V k t' s = true → t' ≤ z.n
          rw [hpp]
          unfold Acp.upE at hz
          split at hz
          · rename_i es
            injection hz with hz
            subst hz
            refine ⟨by omega, by omega, ?_, fun t' hv => ?_⟩
            · rw [hyn, es, hys, hte]; exact a4
            · rcases hVn _ _ _ hv with hv | ⟨_, h2, _⟩
              · have := (ha.V _ _ hv).2.1; omega
              · omega
          · rename_i es
            obtain ⟨b1, b2, b3, b4⟩ := ha.E s z hz
            refine ⟨b1, by omega, b3, fun t' hv => ?_⟩
            rcases hVn _ _ _ hv with hv | ⟨_, _, h3⟩
            · exact b4 t' hv
            · omega
        · show 1 ≤ t' ∧ t' ≤ (Acp.promise (A k) y.n y.b).pn ∧ 0 ≤ s ∧ (Acp.upE (A k).E y.slot y s.toNat).isSome = true
          rw [hpp]
          rcases hVn _ _ _ hv with hv | ⟨_, h2, h3⟩
          · obtain ⟨c1, c2, c3, c4⟩ := ha.V t' s hv
            refine ⟨c1, by omega, c3, ?_⟩
            unfold Acp.upE
            split
            · rfl
            · exact c4
          · refine ⟨by omega, by omega, by omega, ?_⟩
            unfold Acp.upE
            rw [if_pos (by omega)]; rfl
      · rw [hAn k hkj]
        refine (h.a k hk).ext e.G (Nat.le_refl _) fun t' s => ?_
        show (if k = j ∧ t' = t ∧ s = q.1.s then true else g.V k t' s) = g.V k t' s
        rw [if_neg fun hh => hkj hh.1]
    · obtain ⟨b1, b2, b3, b4, b5⟩ := h.s t' s c hc
      exact ⟨b1, b2, b3, b4, fun t0 h0 => (b5 t0 h0).imp (·.ext e) id⟩
    · obtain ⟨t', b1, b2⟩ := h.d s c hc
      exact ⟨t', b1.mono fun k _ hv => hVk _ _ _ hv, b2⟩
theorem accP_mem {ms s i : Int} : ∀ {l : List (Ent × Int)} {q : Ent × Int}, q ∈ (accP ms s i l).1 → ∃ q0 ∈ l, q.1 = q0.1 ∧ (q.2 = q0.2 ∨ (q0.1.s = s ∧ q.2 = withM q0.2 i))
  | [], q, h => by cases h
  | x :: r, q, h => by
    unfold accP at h
    split at h
    · rename_i hs
      split at h
      · rcases List.mem_cons.1 h with rfl | h
        · exact ⟨x, List.mem_cons_self .., rfl, .inr ⟨hs, rfl⟩⟩
        · exact ⟨q, List.mem_cons_of_mem _ h, rfl, .inl rfl⟩
      · rcases List.mem_cons.1 h with rfl | h
        · exact ⟨x, List.mem_cons_self .., rfl, .inr ⟨hs, rfl⟩⟩
        · obtain ⟨q0, h1, h2⟩ := accP_mem h
          exact ⟨q0, List.mem_cons_of_mem _ h1, h2⟩
    · rcases List.mem_cons.1 h with rfl | h
      · exact ⟨q, List.mem_cons_self .., rfl, .inl rfl⟩
      · obtain ⟨q0, h1, h2⟩ := accP_mem h
        exact ⟨q0, List.mem_cons_of_mem _ h1, h2⟩
theorem accP_done {ms s i : Int} {c : Cmd} : ∀ {l : List (Ent × Int)}, (accP ms s i l).2 = some c → ∃ q0 ∈ l, q0.1.s = s ∧ q0.1.c = c ∧ 2 * cntM (withM q0.2 i) > ms
  | [], h => by cases h
  | x :: r, h => by
    unfold accP at h
    split at h
    · rename_i hs
      split at h
      · rename_i hm
        injection h with h
        exact ⟨x, List.mem_cons_self .., hs, h, hm⟩
      · obtain ⟨q0, h1, h2⟩ := accP_done h
        exact ⟨q0, List.mem_cons_of_mem _ h1, h2⟩
    · obtain ⟨q0, h1, h2⟩ := accP_done h
      exact ⟨q0, List.mem_cons_of_mem _ h1, h2⟩
theorem Inv.accepted (h : Inv n top g A P dec) {i j : Nat} (hi : i < n) (hj : j < n) (hn5 : n ≤ 5) {t : Nat} {s : Int} (hph : (P i).x.ph = 2) (hn : (P i).x.n = t) (hv : g.V j t s = true) (y : Int) :
    Inv n top g A (upd P i (pAccepted (P i) ((j : Int) + 1) t y s).1) dec ∧ ((pAccepted (P i) ((j : Int) + 1) t y s).2.2 = true → Maj n (fun j => g.V j t s) ∧ g.G t s = some (pAccepted (P i) ((j : Int) + 1) t y s).2.1) := by
  have hp := h.p i hi
  have hms := hp.ok.ms
  have hmn := hp.ms
  have hok := X12.pAccepted_ok hp.ok ((j : Int) + 1) t y s
  have hmas : Mas ((j : Int) + 1) := ⟨by omega, by omega⟩
  rcases hp.at_ with ⟨h0, _⟩ | ⟨t', t1, t2, hn', hpb, ho, h0 | hl⟩
  · omega
  · have := h0.ph; omega
  have ht : t' = t := by omega
  subst ht
  have hq : ∀ q ∈ (accP (P i).x.ms s ((j : Int) + 1) (P i).l).1, q.1.n = t' ∧ q.1.b = (i : Int) + 1 ∧ 0 ≤ q.1.s ∧ g.G t' q.1.s = some q.1.c ∧ Bits n q.2 ∧ ∀ j : Nat, j < n → hasM q.2 ((j : Int) + 1) = true → g.V j t' q.1.s = true := fun q hq => by
    obtain ⟨q0, h1, h2, h3⟩ := accP_mem hq
    obtain ⟨a1, a2, a3, a4, a5, a6⟩ := hl.l q0 h1
    rw [h2]
    refine ⟨a1, a2, a3, a4, ?_⟩
    rcases h3 with h3 | ⟨h3, h4⟩
    · rw [h3]; exact ⟨a5, a6⟩
    · rw [h4]
      have hmk := hp.ok.mask q0 h1
      refine ⟨bits_with hmk a5 hj hn5, fun k hk hm => ?_⟩
      rw [X12.withM_has hmk hmas ⟨by omega, by omega⟩, Bool.or_eq_true] at hm
      rcases hm with hm | hm
      · exact a6 k hk hm
      · have : k = j := by have := of_decide_eq_true hm; omega
        rw [this, h3]; exact hv
  have hdone : ∀ c, (accP (P i).x.ms s ((j : Int) + 1) (P i).l).2 = some c → Maj n (fun j => g.V j t' s) ∧ g.G t' s = some c := fun c hc => by
    obtain ⟨q0, h1, h2, h3, h4⟩ := accP_done hc
    obtain ⟨a1, a2, a3, a4, a5, a6⟩ := hl.l q0 h1
    have hmk := hp.ok.mask q0 h1
    refine ⟨(cntM_maj (X12.withM_mask hmk hmas) hn5 (bits_with hmk a5 hj hn5) (by rw [hmn] at h4; exact h4)).mono fun k hk hm => ?_, by rw [← h2, ← h3]; exact a4⟩
    rw [X12.withM_has hmk hmas ⟨by omega, by omega⟩, Bool.or_eq_true] at hm
    rcases hm with hm | hm
    · rw [← h2]; exact a6 k hk hm
    · have : k = j := by have := of_decide_eq_true hm; omega
      rw [this]; exact hv
  unfold pAccepted at hok ⊢
  by_cases hc : (P i).x.ph = 2 ∧ (t' : Int) = (P i).x.n ∧ y = (P i).x.b ∧ isMas (P i).x.ms ((j : Int) + 1) = true
  · rw [if_pos hc] at hok ⊢
    generalize accP (P i).x.ms s ((j : Int) + 1) (P i).l = r at *
    obtain ⟨l, o⟩ := r
    cases o with
    | some c =>
      refine ⟨h.same ⟨hok, hmn, .inr ⟨t', t1, t2, hn, hpb, ho, .inr ⟨hl.ph, fun q hqf => hq q (List.mem_filter.1 hqf).1, hl.lt, hl.blk⟩⟩⟩, fun _ => hdone c rfl⟩
    | none =>
      refine ⟨h.same ⟨hok, hmn, .inr ⟨t', t1, t2, hn, hpb, ho, .inr ⟨hl.ph, hq, hl.lt, hl.blk⟩⟩⟩, fun hf => by cases hf⟩
  · rw [if_neg hc]
    exact ⟨h.same hp, fun hf => by cases hf⟩
theorem Inv.note (h : Inv n top g A P dec) {t : Nat} {s : Int} {c : Cmd} (h1 : Maj n fun j => g.V j t s) (h2 : g.G t s = some c) : (∀ c0, dec s = some c0 → c0 = c) ∧ Inv n top g A P (fun s' => if s' = s then some c else dec s') := by
  refine ⟨fun c0 hc0 => ?_, ⟨h.a, h.p, h.s, fun s' c' hs => ?_⟩⟩
  · obtain ⟨t0, a, b⟩ := h.d s c0 hc0
    exact h.agree a b h1 h2
  · have hs : (if s' = s then some c else dec s') = some c' := hs
    split at hs
    · rename_i e
      injection hs with hs
      subst hs e
      exact ⟨t, h1, h2⟩
    · exact h.d s' c' hs
end
end Pg
end Go.Proofs.YtcmcmafeaabjmaaGreat.Vm
namespace Go.Proofs.YtcmcmafeaabjmaaGreat.Vm
open Go Go.RowKit
set_option maxRecDepth 100000
noncomputable abbrev kPgB0 (l : List Nat) : It := .code (sub (bd Tryz.f3) l)
noncomputable abbrev wPgB1 (Γ : Ctx) (Q : T → Obs → Glb → Prop) : List It → S → Prop := TWk Tryz.prog Γ (fin Tryz.prog Tryz.f3 [] Q)
namespace X11
open Acp (En AS Rc blw VOk IsE XOk)
open Jrn (Dk)
open X9 (dkC obsK dkH dk_post)
open X10 (strs jC obsJ)
open X12 (PM PP cmdC entC ents)
theorem and_low (a k : Nat) (ha : a < 65536) (hk : k < 16) : (BitVec.ofInt 64 (a : Int) &&& BitVec.ofInt 64 ((2 ^ k - 1 : Nat) : Int)).toNat = a % 2 ^ k := by
  have h2 : 2 ^ k ≤ 2 ^ 16 := Nat.pow_le_pow_right (by decide) (by omega)
  rw [BitVec.toNat_and, BitVec.ofInt_natCast, BitVec.ofInt_natCast, BitVec.toNat_ofNat, BitVec.toNat_ofNat, Nat.mod_eq_of_lt (by omega), Nat.mod_eq_of_lt (by omega), Nat.and_two_pow_sub_one_eq_mod]
section
variable (pb db jb ab mb dm b25 : Nat) (l : List (List UInt8)) (hd : Value) (x : AS) (es : Array MapEntry) (ck : Nat) (s : PM) (g R : Glb) (p : PP) (D : Int → Option T) (esd : Array MapEntry) (ckd : Nat) (Γ : Ctx) (Q : T → Obs → Glb → Prop) (E AL PL : List T) (n i top : Nat)
theorem g_end (gl : Glb) (h : E.length ≤ i ∨ 300 ≤ i) (hQ : ∀ gl, Q (bool true) [] gl) : wPgB1 Γ Q [kPgB0 [1,1,1,1,1,1,1,1,1,0,1,0], .blk 2, kPgB0 [1,1,1,1,1,1,1,1,1,1]] ⟨frame 233 [(1, .sl 1 E), (5, int n), (8, .sl 1 AL), (9, .sl 1 PL), (16, .mp 0 dm), (17, u32 top), (18, int i)], [(dm, .map .u32 D esd ckd)], gl⟩ := by
  let HH : Nat → Nat → Hint := fun _ _ => .no
  exact run_sound ⟨HH, [((0, 23), ([1,5,8,9,16,17,18], 1))], fun _ => none⟩ 400 (by kernel_rfl) (Ys (decide ((↑i : Int) < (↑(List.length E) : Int))) (fun Z0 => (Ys (decide ((↑i : Int) < (300 : Int))) (fun Z1 => (show wPgB1 Γ Q [kPgB0 [1,1,1,1,1,1,1,1,1,0,1,0,0,1,0,0], It.blk 3, kPgB0 [1,1,1,1,1,1,1,1,1,0,1,0,0,1,1], kPgB0 [1,1,1,1,1,1,1,1,1,0,1,0], It.blk 2, kPgB0 [1,1,1,1,1,1,1,1,1,1]] (S.mk (frame 233 [(1, T.sl 1 E), (5, int n), (8, T.sl 1 AL), (9, T.sl 1 PL), (16, T.mp 0 dm), (17, u32 top), (18, int i)]) [(dm, Ob.map IntKind.u32 D esd ckd)] gl) by exfalso; simp only [decide_eq_true_eq] at *; omega)) (fun Z2 => (hQ gl)))) (fun Z3 => (hQ gl)))
theorem g_front (gl : Glb) (w o : Nat) (hn : 1 ≤ n) (hn5 : n ≤ 5) (hi : i < E.length) (h300 : i < 300) (x0 : Nat) (hx0 : x0 < 65536) (hat : E[((i : Nat) : Int).toNat]? = some (.v (.int .u16 x0))) (hw : x0 / 16 % n = w) (ho : x0 / 256 % n = o) (hA : AL[((o : Nat) : Int).toNat]? = some (.gp ab 0)) (hP : PL[((w : Nat) : Int).toNat]? = some (.gp pb 0))
    (nx : wPgB1 Γ Q [kPgB0 [1,1,1,1,1,1,1,1,1,0,1,0,0,1,0,0,1,1,1], .blk 3, kPgB0 [1,1,1,1,1,1,1,1,1,0,1,0,0,1,1], kPgB0 [1,1,1,1,1,1,1,1,1,0,1,0], .blk 2, kPgB0 [1,1,1,1,1,1,1,1,1,1]] ⟨frame 233 [(1, .sl 1 E), (5, int n), (8, .sl 1 AL), (9, .sl 1 PL), (16, .mp 0 dm), (17, u32 top), (18, int i), (19, int x0), (20, int w), (21, int o), (22, .gp pb 0), (23, .gp ab 0)], [(dm, .map .u32 D esd ckd)], gl⟩) : wPgB1 Γ Q [kPgB0 [1,1,1,1,1,1,1,1,1,0,1,0], .blk 2, kPgB0 [1,1,1,1,1,1,1,1,1,1]] ⟨frame 233 [(1, .sl 1 E), (5, int n), (8, .sl 1 AL), (9, .sl 1 PL), (16, .mp 0 dm), (17, u32 top), (18, int i)], [(dm, .map .u32 D esd ckd)], gl⟩ := by
  have c1 : T.v (.int .i64 (IntKind.wrap .i64 (x0 : Int))) = int x0 := congrArg int (by rw [wrap_i64 (by omega) (by omega)])
  have c2 : T.v (.int .i64 ((x0 : Int).fdiv (2 ^ min (4 : Int).toNat (IntKind.bits .i64)))) = int (x0 / 16 : Nat) := congrArg int (by show (x0 : Int).fdiv 16 = _; rw [Int.fdiv_eq_ediv_of_nonneg _ (by omega)]; omega)
  have c3 : T.v (.int .i64 ((x0 : Int).fdiv (2 ^ min (8 : Int).toNat (IntKind.bits .i64)))) = int (x0 / 256 : Nat) := congrArg int (by show (x0 : Int).fdiv 256 = _; rw [Int.fdiv_eq_ediv_of_nonneg _ (by omega)]; omega)
  have c4 : T.v (.int .i64 (((x0 / 16 : Nat) : Int).tmod (n : Int))) = int w := congrArg int (by rw [Int.tmod_eq_emod_of_nonneg (by omega)]; rw [← Int.natCast_emod, hw])
  have c5 : T.v (.int .i64 (((x0 / 256 : Nat) : Int).tmod (n : Int))) = int o := congrArg int (by rw [Int.tmod_eq_emod_of_nonneg (by omega)]; rw [← Int.natCast_emod, ho])
  let HH : Nat → Nat → Hint := fun | 23, 2 => .res (.v (.int .u16 x0)) | 23, 4 => .res (int x0) | 24, 1 => .res (int (x0 / 16 : Nat)) | 24, 3 => .res (int w) | 24, 5 => .res (int (x0 / 256 : Nat)) | 24, 7 => .res (int o) | 25, 2 => .res (.gp pb 0) | 25, 6 => .res (.gp ab 0) | _, _ => .no
  let z0 := S.mk (frame 233 []) [(dm, Ob.map IntKind.u32 D esd ckd)] gl
  let z1 := [kPgB0 [1,1,1,1,1,1,1,1,1,1]]
  exact run_sound ⟨HH, [((0, 26), ([1,5,8,9,16,17,18,19,20,21,22,23], 1)), ((0, 53), ([], 1))], fun  | _ => none⟩ 400 (by kernel_rfl) (Ys (decide ((↑i : Int) < (↑(List.length E) : Int))) (fun Z0 => (Ys (decide ((↑i : Int) < (300 : Int))) (fun Z1 => (Ya (show (0 : Int) ≤ (↑i : Int) by omega) (Ya hat (Ya c1 (Ya c2 (Ya (show ¬(↑n : Int) = (0 : Int) by omega) (Ya c4 (Ya c3 (Ya (show ¬(↑n : Int) = (0 : Int) by omega) (Ya c5 (Ya (show (0 : Int) ≤ (↑w : Int) by omega) (Ya hP (Ya (show (0 : Int) ≤ (↑o : Int) by omega) (Ya hA nx)))))))))))))) (fun Z2 => (show wPgB1 Γ Q z1 z0 by exfalso; simp only [decide_eq_false_iff_not] at *; omega)))) (fun Z3 => (show wPgB1 Γ Q z1 z0 by exfalso; simp only [decide_eq_false_iff_not] at *; omega)))
theorem g_phase (x0 w o kd : Nat) (hk : x0 % 16 = kd) (hx0 : x0 < 65536) (ph : TCalls Tryz.prog 10 [.ptr 0 pb 0] (s.obs pb) (joinG g R) (callPost (pmF pb (.tup [int p.x.ph, .agg [u32 p.x.n, u8 p.x.b], u32 p.x.nx]) p R)))
    (nx : ∀ s g b25, X12.Left p s g → Dj g R → wPgB1 Γ Q [kPgB0 [1,1,1,1,1,1,1,1,1,0,1,0,0,1,0,0,1,1,1,1,1,0], .blk 4, .blk 3, kPgB0 [1,1,1,1,1,1,1,1,1,0,1,0,0,1,1], kPgB0 [1,1,1,1,1,1,1,1,1,0,1,0], .blk 2, kPgB0 [1,1,1,1,1,1,1,1,1,1]] ⟨frame 233 [(1, .sl 1 E), (5, int n), (8, .sl 1 AL), (9, .sl 1 PL), (16, .mp 8 dm), (17, u32 top), (18, int i), (19, int x0), (20, int w), (21, int o), (22, .ptr 0 pb 0), (23, .ptr 6 ab 0), (24, int p.x.ph), (25, .ptr 9 b25 0), (122, int kd)], s.obs pb ++ ((obsA db jb ab mb (Jrn.jd l) l hd false x es ck).map (ixOb fun k => [3,4,5,6,7].getD k 0) ++ [(dm, .map .u32 D esd ckd), (b25, .cells [u32 p.x.n, u8 p.x.b])]), joinG g R⟩) : wPgB1 Γ Q [kPgB0 [1,1,1,1,1,1,1,1,1,0,1,0,0,1,0,0,1,1,1], .blk 3, kPgB0 [1,1,1,1,1,1,1,1,1,0,1,0,0,1,1], kPgB0 [1,1,1,1,1,1,1,1,1,0,1,0], .blk 2, kPgB0 [1,1,1,1,1,1,1,1,1,1]] ⟨frame 233 [(1, .sl 1 E), (5, int n), (8, .sl 1 AL), (9, .sl 1 PL), (16, .mp 8 dm), (17, u32 top), (18, int i), (19, int x0), (20, int w), (21, int o), (22, .ptr 0 pb 0), (23, .ptr 6 ab 0)], s.obs pb ++ ((obsA db jb ab mb (Jrn.jd l) l hd false x es ck).map (ixOb fun k => [3,4,5,6,7].getD k 0) ++ [(dm, .map .u32 D esd ckd)]), joinG g R⟩ := by
  have c1 : T.v (.int .i64 (IntKind.wrap .i64 ((BitVec.ofInt 64 (x0 : Int) &&& BitVec.ofInt 64 15).toNat : Int))) = int kd := congrArg int (by have e := and_low x0 4 (by omega) (by omega); rw [show ((2 ^ 4 - 1 : Nat) : Int) = 15 from rfl] at e; rw [e, wrap_i64 (by omega) (by omega)]; omega)
  generalize Jrn.jd l = d0 at *
  let HH : Nat → Nat → Hint := fun | 26, 1 => pmF pb (.tup [int p.x.ph, .agg [u32 p.x.n, u8 p.x.b], u32 p.x.nx]) p R | 27, 1 => .res (int kd) | _, _ => .no
  exact run_sound ⟨HH, [((0, 38), ([1,5,8,9,16,17,18,19,20,21,22,23,24,25,122], 10))], fun  | _ => none⟩ 400 (by kernel_rfl) (Ya ph (fun (Z0 : PM × Glb) => (fun (Z1 : X12.Left p Z0.fst Z0.snd ∧ ∀ (c : Nat), Option.isSome (Z0.snd c) = true → R c = none) => (fun (Z2 : Nat) => (Yk 2 Z2 (Ya c1 (nx Z0.fst Z0.snd Z2 Z1.1 Z1.2)))))))
end
end X11
end Go.Proofs.YtcmcmafeaabjmaaGreat.Vm
