/- A drawn region in phases: reads in any order, then one operation that all of them come before and all later ones behind, then reads again, and so on. No program is named here. -/
import Derived.StillTail
import Derived.StillTactics
import Derived.Deep.QuietTactic
import Derived.BigQuiet
namespace Go.Proofs.Ytidhblpcaccchaa
open Go
section
variable {P : Program} {ops : Array Oper} {md : Region.Mode} {w : World}

/-- from the place k on, with the first k marked -/
def mark (listed : Array Bool) (k : Nat) : Nat → Array Bool
  | 0 => listed
  | f + 1 => mark (listed.setIfInBounds k true) (k + 1) f
def lexB (md : Region.Mode) (ops : Array Oper) (listed : Array Bool) (k : Nat) : Nat → Bool
  | 0 => true
  | f + 1 => (Region.ready md ops listed).contains k && Region.free md ops listed k && lexB md ops (listed.setIfInBounds k true) (k + 1) f
def sinkB (md : Region.Mode) (ops : Array Oper) (k n : Nat) : Bool :=
  (List.range n).all fun i => decide (i < k) || (List.range (n + 1)).any fun j => decide (i < j) && Region.waitsFor md ops j i
def rootB (md : Region.Mode) (ops : Array Oper) (n : Nat) : Bool :=
  (List.range ops.size).all fun t => decide (t ≤ n) || (List.range t).any fun j => decide (n ≤ j) && Region.waitsFor md ops t j
def frontB (listed : Array Bool) (k : Nat) : Bool := (List.range k).all fun i => listed.getD i false
def tailB (ops : Array Oper) (listed : Array Bool) (n : Nat) : Bool := (List.range ops.size).all fun t => decide (t < n) || !listed.getD t true
def closedB (md : Region.Mode) (ops : Array Oper) (listed : Array Bool) : Bool :=
  (List.range ops.size).all fun j => !listed.getD j false || ((ops[j]?).map fun o => o.after.all fun e => !Region.binds md e || listed.getD e.on false).getD true

theorem headInv {n : Nat} {listed : Array Bool} (hs : listed.size = ops.size) (hc : closedB md ops listed = true) (ht : tailB ops listed n = true) : HeadInv md ops n listed := by
  refine ⟨hs, fun j oj hj hl e he hb => ?_, fun t hn hts => ?_⟩
  · have hjs : j < ops.size := (Array.getElem?_eq_some_iff.1 hj).1
    have h := List.all_eq_true.1 hc j (List.mem_range.2 hjs)
    rw [hl, hj] at h
    simp only [Bool.not_true, Bool.false_or, Option.map_some, Option.getD_some] at h
    have h2 := Array.all_eq_true'.1 h e he
    rw [hb] at h2
    simpa using h2
  · have h := List.all_eq_true.1 ht t (List.mem_range.2 hts)
    simp only [Bool.or_eq_true, decide_eq_true_eq, Bool.not_eq_true'] at h
    rcases h with h | h
    · omega
    · exact h

def Guarded (md : Region.Mode) (ops : Array Oper) (k n : Nat) : Prop :=
  ∀ listed, HeadInv md ops n listed → (∀ i, i < k → listed.getD i false = true) → ∀ i, i < n → listed.getD i true = false → ∀ t, n ≤ t → t ∉ Region.ready md ops listed

theorem guarded_end {k : Nat} : Guarded md ops k ops.size := fun listed _ _ i _ _ t ht hr => by
  obtain ⟨_, ot, hot, _⟩ := mem_ready.1 hr
  have := (Array.getElem?_eq_some_iff.1 hot).1
  omega

theorem guarded_mid {k n : Nat} (hs : sinkB md ops k n = true) (hc : rootB md ops n = true) (hn : n < ops.size) : Guarded md ops k n := by
  intro listed inv fr i hi hun
  have key : ∀ (d i : Nat), n - i = d → i < n → listed.getD i true = false → ∀ t, n ≤ t → t ∉ Region.ready md ops listed := by
    intro d
    induction d using Nat.strongRecOn with
    | _ d ih =>
      intro i hd hi hun t ht hr
      obtain ⟨_, ot, hot, hall⟩ := mem_ready.1 hr
      have htlt : t < ops.size := (Array.getElem?_eq_some_iff.1 hot).1
      by_cases htn : t = n
      · subst htn
        have h1 := List.all_eq_true.1 hs i (List.mem_range.2 hi)
        simp only [Bool.or_eq_true, decide_eq_true_eq] at h1
        rcases h1 with h1 | h1
        · have := fr i h1
          rw [getD_both hun] at this
          cases this
        · obtain ⟨j, hj, hj2⟩ := List.any_eq_true.1 h1
          simp only [Bool.and_eq_true, decide_eq_true_eq] at hj2
          obtain ⟨oj, hoj, e, he, hb, hon⟩ := Region.waitsFor_spec hj2.2
          have hjle : j ≤ t := by have := List.mem_range.1 hj; omega
          by_cases hjt : j = t
          · subst hjt
            have : oj = ot := Option.some.inj (hoj.symm.trans hot)
            subst this
            have h2 := hall e he hb
            rw [hon, getD_both hun] at h2
            cases h2
          · cases hl : listed.getD j false with
            | true =>
              have h2 := inv.closed j oj hoj hl e he hb
              rw [hon, getD_both hun] at h2
              cases h2
            | false =>
              have hjs : j < listed.size := by rw [inv.size]; omega
              exact ih (t - j) (by omega) j rfl (by omega) (getD_in hjs hl) t (Nat.le_refl _) hr
      · have h1 := List.all_eq_true.1 hc t (List.mem_range.2 htlt)
        simp only [Bool.or_eq_true, decide_eq_true_eq] at h1
        rcases h1 with h1 | h1
        · omega
        · obtain ⟨j, hj, hj2⟩ := List.any_eq_true.1 h1
          simp only [Bool.and_eq_true, decide_eq_true_eq] at hj2
          obtain ⟨o', ho', e, he, hb, hon⟩ := Region.waitsFor_spec hj2.2
          have : o' = ot := Option.some.inj (ho'.symm.trans hot)
          subst this
          have h2 := hall e he hb
          have hjt := List.mem_range.1 hj
          rw [hon, getD_both (inv.tail j hj2.1 (by omega))] at h2
          cases h2
  exact key (n - i) i rfl hi hun

theorem anyL_first {n i k : Nat} {oi : Oper} {v : Value} {L : Array Bool → Act → Prop} (hi : ops[i]? = some oi) (hsel : ∀ (j : Nat) (o : Oper) cs b, ops[j]? = some o → o.op ≠ .select cs b)
    (hg : Guarded md ops k n) (hin : i < n) (hdone : ∀ listed a, L listed a → ∀ j ∈ Region.ready md ops listed, n ≤ j) :
    ∀ (f : Nat) (listed : Array Bool) (a : Act), HeadInv md ops n listed → (∀ i, i < k → listed.getD i false = true) →
      (∀ j oj, ops[j]? = some oj → j ≠ i → listed.getD j true = false → (∀ e ∈ oj.after, Region.binds md e = true → e.on ≠ i) → oi.apart ops oj = true) →
      i ∈ Region.ready md ops listed → YieldsAt P ops w oi v a →
      wpAnyL P md ops w n L f (listed.setIfInBounds i true) (a.put oi.dst v) → wpAnyL P md ops w n L (f + 1) listed a := by
  intro f
  induction f with
  | zero =>
    intro listed a inv fr _ hr hy H
    have hun := (mem_ready.1 hr).1
    refine ⟨fun h => (by rw [h] at hr; cases hr), fun j hj => ?_⟩
    have hjn : j < n := by
      rcases Nat.lt_or_ge j n with h | h
      · exact h
      · exact absurd hj (hg listed inv fr i hin hun j h)
    refine ⟨hjn, ?_⟩
    by_cases hji : j = i
    · subst hji; exact hy.stOp hi H
    · have := hdone _ _ H j (ready_mono hj hji)
      omega
  | succ f ih =>
    intro listed a inv fr hfree hr hy H
    have hun := (mem_ready.1 hr).1
    refine ⟨fun h => (by rw [h] at hr; cases hr), fun j hj => ?_⟩
    have hjn : j < n := by
      rcases Nat.lt_or_ge j n with h | h
      · exact h
      · exact absurd hj (hg listed inv fr i hin hun j h)
    refine ⟨hjn, ?_⟩
    by_cases hji : j = i
    · subst hji; exact hy.stOp hi H
    · have h1 := (H.2 j (ready_mono hj hji)).2
      obtain ⟨hjun, oj, hoj, hall⟩ := mem_ready.1 hj
      have hnot : ∀ e ∈ oj.after, Region.binds md e = true → e.on ≠ i := fun e he hb heq => by
        have h1 := hall e he hb
        rw [heq, getD_both hun] at h1
        cases h1
      have h2 := stOp_put hoj (hfree j oj hoj hji hjun hnot) (fun cs b => hsel i oi cs b hi) (fun cs b => hsel j oj cs b hoj) hy h1
      have hfree' : ∀ k ok, ops[k]? = some ok → k ≠ i → (listed.setIfInBounds j true).getD k true = false →
          (∀ e ∈ ok.after, Region.binds md e = true → e.on ≠ i) → oi.apart ops ok = true := fun k ok hk hki hun hno => by
        refine hfree k ok hk hki ?_ hno
        by_cases hjk : j = k
        · subst hjk; exact hjun
        · rw [getD_set_ne true hjk] at hun; exact hun
      refine stOp_mono (fun a' h3 => ih (listed.setIfInBounds j true) a' (inv.set hj hjn) (fun i hi => getD_set_true (fr i hi)) hfree' (ready_mono hr (Ne.symm hji)) h3.1 ?_) h2
      rw [Array.setIfInBounds_comm _ _ hji]
      exact h3.2

theorem anyL_lex {n k0 : Nat} {Lq : Act → Prop} {fin : Array Bool} (hsel : Region.noSelect ops = true) (hg : Guarded md ops k0 n) (hfin : ∀ j ∈ Region.ready md ops fin, n ≤ j) :
    ∀ (l : List Oper) (k : Nat) (listed : Array Bool) (a : Act), (∀ j, j < l.length → l[j]? = ops[k + j]?) → k + l.length = n → k0 ≤ k → HeadInv md ops n listed → (∀ i, i < k0 → listed.getD i false = true) →
    lexB md ops listed k l.length = true → mark listed k l.length = fin → wpStill P ops w Lq l a →
    wpAnyL P md ops w n (fun listed' a' => listed' = fin ∧ Lq a') l.length listed a
  | [], _, _, _, _, _, _, _, _, _, hm, h => ⟨hm, h⟩
  | o :: l, k, listed, a, hl, hk, hk0, inv, fr, hB, hm, h => by
    have h0 : ops[k]? = some o := by simpa using (hl 0 (by simp)).symm
    simp only [List.length_cons, lexB, Bool.and_eq_true] at hB
    obtain ⟨⟨hr, hf⟩, hB'⟩ := hB
    have hkn : k < n := by simp only [List.length_cons] at hk; omega
    have hr' : k ∈ Region.ready md ops listed := by simpa using hr
    have hst : stOp P ops w k (wpStill P ops w Lq l) a := by unfold stOp; simp only [h0]; exact h
    obtain ⟨v, hy, hK⟩ := yieldsAt_of_stOp h0 hst
    exact anyL_first h0 (Region.noSelect_spec hsel) hg hkn (fun listed' a' hL => by rw [hL.1]; exact hfin) l.length listed a inv fr (Region.free_spec h0 hf) hr' hy
      (anyL_lex hsel hg hfin l (k + 1) _ _ (fun j hj => by have := hl (j + 1) (by simp; omega); simpa [Nat.add_assoc, Nat.add_comm 1 j] using this) (by simp only [List.length_cons] at hk; omega) (by omega) (inv.set hr' hkn) (fun i hi => getD_set_true (fr i hi)) hB' hm hK)

def planB (md : Region.Mode) (ops : Array Oper) : List Nat → Nat → Array Bool → Bool
  | [], k, listed => decide (k ≤ ops.size) && (listed.size == ops.size) && closedB md ops listed && frontB listed k && lexB md ops listed k (ops.size - k) && (Region.ready md ops (mark listed k (ops.size - k))).isEmpty
  | n :: ns, k, listed => decide (k ≤ n) && decide (n < ops.size) && (listed.size == ops.size) && closedB md ops listed && tailB ops listed n && frontB listed k && sinkB md ops k n && rootB md ops n && lexB md ops listed k (n - k) &&
      decide (Region.ready md ops (mark listed k (n - k)) = [n]) && planB md ops ns (n + 1) ((mark listed k (n - k)).setIfInBounds n true)

theorem still_of_quiet {Q : Act → Prop} (l : List Oper) : ∀ (a : Act), wpQuiet P ops (fun w' => w' = w) Q l a → wpStill P ops w Q l a := by
  induction l with
  | nil => exact fun _ h => h
  | cons o l ih =>
    intro a h
    unfold wpQuiet at h
    unfold wpStill
    split
    · rename_i hw
      rw [if_pos hw] at h
      obtain ⟨v, h1, h2⟩ := h
      have h1 := h1 w rfl
      have h3 := ih _ h2
      unfold Oper.quietAt at h1
      unfold Oper.still
      generalize (execOp a.eval o).run P w = r at h1 ⊢
      cases r with
      | ok n w' =>
        cases n with
        | value u => obtain ⟨rfl, rfl⟩ := h1; exact ⟨rfl, h3⟩
        | skip => obtain ⟨rfl, rfl⟩ := h1; exact ⟨rfl, h3⟩
        | enter f args => exact ⟨h1.1, v, h1.2, h3⟩
        | _ => exact h1.elim
      | halt x w' => exact h1.elim
    · rename_i hw
      rw [if_neg hw] at h
      exact ih _ h

/-- the walk's goal, phase by phase -/
def wpPhases (P : Program) (l : List Oper) (Q : Exit → Act → World → Prop) : List Nat → Nat → Act → World → Prop
  | [], k, a, w => wpQuiet P l.toArray (fun w' => w' = w) (fun a' => Q .normal a' w) (l.drop k) a
  | n :: ns, k, a, w => wpQuiet P l.toArray (fun w' => w' = w) (fun a' => wpList P l.toArray (Exit.then (fun a'' w'' => wpPhases P l Q ns (n + 1) a'' w'') Q) ((l.drop n).take 1) a' w) ((l.drop k).take (n - k)) a

theorem wp_then {o : Oper} {a : Act} {K K' next : Act → World → Prop} {Q : Exit → Act → World → Prop} (hn : ∀ a w, next a w → K' a w) (h : o.wp P a w next (Exit.then K Q)) : o.wp P a w K' Q := by
  unfold Oper.wp at *
  generalize (execOp a.eval o).run P w = r at *
  cases r with
  | ok n w' =>
    cases n <;> simp only [Oper.upon] at h ⊢ <;>
      first
        | exact hn _ _ h
        | exact Calls.mono h (fun e w'' he => by cases e <;> first | exact hn _ _ he | exact he)
        | exact Rows.mono h (fun _ _ he => hn _ _ he)
  | halt x w' => cases x <;> simp only [Oper.upon] at h ⊢ <;> exact h

theorem any_phases (hsel : Region.noSelect ops = true) {Q : Exit → Act → World → Prop} : ∀ (ns : List Nat) (k : Nat) (listed : Array Bool) (a : Act) (w : World), planB md ops ns k listed = true → wpPhases P ops.toList Q ns k a w →
    wpAny P md ops Q (ops.size - k) listed a w
  | [], k, listed, a, w, hB, h => by
    simp only [planB, Bool.and_eq_true, decide_eq_true_eq, beq_iff_eq, List.isEmpty_iff] at hB
    obtain ⟨⟨⟨⟨⟨hk, hs⟩, hc⟩, hf⟩, hl⟩, hr⟩ := hB
    have hlen : (ops.toList.drop k).length = ops.size - k := by simp
    have inv : HeadInv md ops ops.size listed := headInv hs hc (List.all_eq_true.2 fun t ht => by simp [List.mem_range.1 ht])
    have H := anyL_lex (P := P) (md := md) (n := ops.size) (k0 := k) (w := w) (Lq := fun a' => Q .normal a' w) (fin := mark listed k (ops.size - k)) hsel guarded_end (by rw [hr]; intro j hj; cases hj)
      (ops.toList.drop k) k listed a (fun j _ => by simp [List.getElem?_drop]) (by rw [hlen]; omega) (Nat.le_refl _) inv (fun i hi => by simpa using List.all_eq_true.1 hf i (List.mem_range.2 hi)) (by rw [hlen]; exact hl) (by rw [hlen])
      (still_of_quiet _ _ (by simpa [wpPhases] using h))
    have := wpAny_of_head (P := P) (md := md) (ops := ops) (w := w) (Q' := Q) (g := 0) (fun listed' a' hL => by
      obtain ⟨rfl, hq⟩ := hL
      exact ⟨hr, hq⟩) _ _ _ H
    rw [hlen, Nat.add_zero] at this
    exact this
  | n :: ns, k, listed, a, w, hB, h => by
    simp only [planB, Bool.and_eq_true, decide_eq_true_eq, beq_iff_eq] at hB
    obtain ⟨⟨⟨⟨⟨⟨⟨⟨⟨⟨hk, hn⟩, hs⟩, hc⟩, ht⟩, hf⟩, hsk⟩, hrt⟩, hl⟩, hr⟩, hrest⟩ := hB
    have hlen : ((ops.toList.drop k).take (n - k)).length = n - k := by simp; omega
    have inv : HeadInv md ops n listed := headInv hs hc ht
    have H := anyL_lex (P := P) (md := md) (n := n) (k0 := k) (w := w) (Lq := fun a' => wpList P ops (Exit.then (fun a'' w'' => wpPhases P ops.toList Q ns (n + 1) a'' w'') Q) ((ops.toList.drop n).take 1) a' w) (fin := mark listed k (n - k)) hsel (guarded_mid hsk hrt hn) (by rw [hr]; intro j hj; simp at hj; omega)
      ((ops.toList.drop k).take (n - k)) k listed a (fun j hj => by rw [hlen] at hj; rw [List.getElem?_take, if_pos hj, List.getElem?_drop, Array.getElem?_toList]) (by rw [hlen]; omega) (Nat.le_refl _) inv (fun i hi => by simpa using List.all_eq_true.1 hf i (List.mem_range.2 hi)) (by rw [hlen]; exact hl) (by rw [hlen])
      (still_of_quiet _ _ (by simpa [wpPhases] using h))
    have hg : ops.size - n = (ops.size - (n + 1)) + 1 := by omega
    have := wpAny_of_head (P := P) (md := md) (ops := ops) (w := w) (Q' := Q) (g := (ops.size - (n + 1)) + 1) (fun listed' a' hL => by
      obtain ⟨rfl, hq⟩ := hL
      refine ⟨fun h1 => (by rw [hr] at h1; cases h1), fun i hi => ?_⟩
      rw [hr] at hi
      have hin : i = n := by simpa using hi
      subst hin
      have ho : ops[i]? = some ops[i] := by simp [hn]
      have hd : (ops.toList.drop i).take 1 = [ops[i]] := by
        rw [List.drop_eq_getElem_cons (by simpa using hn)]; simp
      rw [hd] at hq
      unfold wpOp
      simp only [ho]
      unfold wpList at hq
      split at hq
      · rename_i hw
        rw [if_pos hw]
        rcases hq with hq | ⟨h1, h2⟩
        · exact .inl (wp_then (fun a'' w'' hx => any_phases hsel ns (i + 1) _ a'' w'' hrest hx) hq)
        · exact .inr ⟨h1, h2⟩
      · rename_i hw
        rw [if_neg hw]
        exact any_phases hsel ns (i + 1) _ _ _ hrest hq) _ _ _ H
    rw [hlen, show n - k + (ops.size - (n + 1) + 1) = ops.size - k by omega] at this
    exact this

/-- THE WAY IN: 'refine wp_region_phases [6] rfl (by kernel_rfl) (by kernel_rfl) ?_' -/
theorem wp_region_phases {id : Nat} {Q : Exit → Act → World → Prop} {a : Act} {w : World} {l : List Oper} (ns : List Nat) (hm : P.follows .mixedOrders = true) (hsel : Region.noSelect l.toArray = true) (hB : planB .any l.toArray ns 0 (Array.replicate l.toArray.size false) = true)
    (h : wpPhases P l Q ns 0 a w.drew) : (Code.region id l.toArray true).wp P Q a w := by
  refine wp_region_any hm ?_
  have := any_phases (P := P) (md := .any) (ops := l.toArray) (Q := Q) hsel ns 0 _ a w.drew hB (by simpa using h)
  exact this
end
end Go.Proofs.Ytidhblpcaccchaa
