/- Proposer: the document's one and the program's one do alike. No program's text here. -/
import Derived.Test.YtidhblpcaccchaaPQ
import Derived.Test.YtidhblpcaccchaaPO0
namespace Go.Proofs.Ytidhblpcaccchaa.Vm
open Go Go.RowKit
namespace X12
def toEnt (e : REnt) : Ent := ⟨e.s, e.n, e.b, cmdOf e.c⟩
structure BRel (z : Int) (o : Option Ent) (t : Bst) : Prop where
  val : o = if t.ok then some ⟨z, t.n, t.b, cmdOf t.c⟩ else none
  n : IsU32 t.n
  b : IsU8 t.b
  c : t.ok = false → t.c = 0
theorem below_val {n b n' b' : Int} (h1 : IsU8 b) (h2 : IsU8 b') : belowB n b n' b' = decide (valR n b < valR n' b') := by
  unfold belowB valR
  have := h1.1; have := h1.2; have := h2.1; have := h2.2
  rw [Bool.eq_iff_iff]
  simp only [Bool.or_eq_true, Bool.and_eq_true, decide_eq_true_eq, beq_iff_eq]
  omega
theorem brel_step {fr z : Int} {f : Int → Option Ent} {t : Bst} {e : REnt} (hz : fr ≤ z ∧ z < fr + 16) (h : BRel z (f z) t) (he : EntOk e) : BRel z (noteB fr f (toEnt e) z) (bstep z t e) := by
  obtain ⟨h1, h2, h3, h4⟩ := h
  have he' : (toEnt e).s = e.s ∧ (toEnt e).n = e.n ∧ (toEnt e).b = e.b := ⟨rfl, rfl, rfl⟩
  by_cases hs : e.s = z
  · subst hs
    unfold noteB bstep
    rw [he'.1, if_neg (by omega)]
    rw [h1]
    cases hok : t.ok with
    | false =>
      simp only [Bool.false_eq_true, if_false, true_and, true_or, if_true]
      exact ⟨by simp [updE, toEnt], he.1, he.2, fun g => by cases g⟩
    | true =>
      simp only [if_true, true_and, Bool.true_eq_false, false_or]
      rw [he'.2.1, he'.2.2, below_val h3 he.2]
      by_cases hv : valR t.n t.b < valR e.n e.b
      · rw [if_pos hv, if_pos (by simpa using hv)]
        exact ⟨by simp [updE, toEnt], he.1, he.2, fun g => by cases g⟩
      · rw [if_neg hv, if_neg (by simpa using hv)]
        exact ⟨by rw [h1, hok], h2, h3, h4⟩
  · have e1 : noteB fr f (toEnt e) z = f z := by
      have hu : updE f (toEnt e).s (toEnt e) z = f z := by simp only [updE]; rw [if_neg (fun g => hs (by rw [g]; rfl))]
      unfold noteB
      by_cases hw : (toEnt e).s < fr ∨ 16 ≤ (toEnt e).s - fr
      · rw [if_pos hw]
      · rw [if_neg hw]
        cases f (toEnt e).s with
        | none => exact hu
        | some w =>
          dsimp only
          split
          · exact hu
          · rfl
    have e2 : bstep z t e = t := by unfold bstep; rw [if_neg (fun g => hs g.1)]
    rw [e1, e2]
    exact ⟨h1, h2, h3, h4⟩
theorem brel_fold {fr z : Int} (hz : fr ≤ z ∧ z < fr + 16) : ∀ (es : List REnt) {f : Int → Option Ent} {t : Bst}, BRel z (f z) t → (∀ e ∈ es, EntOk e) → BRel z ((es.map toEnt).foldl (noteB fr) f z) (es.foldl (bstep z) t)
  | [], _, _, h, _ => h
  | e :: es, _, _, h, he => brel_fold hz es (brel_step hz h (he e (by simp))) (fun e' h' => he e' (by simp [h']))
structure PRel (p : P0) (q : Ent × Int) (r : RProp) : Prop where
  s : q.1.s = r.s
  n : q.1.n = p.n
  b : q.1.b = p.b
  c : q.1.c = cmdOf r.c
  has : ∀ i, Mas i → hasM q.2 i = hasL r.l i
  cnt : cntM q.2 = r.l.length
def PRels (p : P0) : List (Ent × Int) → List RProp → Prop
  | [], [] => True
  | q :: l, r :: m => PRel p q r ∧ PRels p l m
  | _, _ => False
structure Sim (p : PP) (m : RP) : Prop where
  ok : p.Ok
  ms : m.ms = p.x.ms
  ph : m.ph = p.x.ph
  n : m.n = p.x.n
  b : m.b = p.x.b
  fr : m.fr = p.x.fr
  nx : m.nx = p.x.nx
  c1 : ∀ c ∈ m.came, c.es.length ≤ 1000
  c2 : ∀ c ∈ m.came, ∀ e ∈ c.es, EntOk e
  cl : m.came.length ≤ 6
  rel : PRels p.x p.l m.props
  nd : (p.l.map (·.1.s)).Nodup
  lt : p.x.nx ≠ 4294967295 → ∀ q ∈ p.l, q.1.s < p.x.nx
  asks : p.x.ph = 1 → p.l = [] ∧ (∀ i, Mas i → hasM p.x.pm i = cameHas m.came i) ∧ cntM p.x.pm = m.came.length ∧ ∀ z, p.x.fr ≤ z → z < p.x.fr + 16 → BRel z (p.f z) (bestR m.came z)
  emp : p.x.ph ≠ 2 → p.l = []
theorem prels_nil {p : P0} {m : List RProp} (h : PRels p [] m) : m = [] := by cases m <;> simp_all [PRels]
theorem prels_len {p : P0} : ∀ {l : List (Ent × Int)} {m : List RProp}, PRels p l m → l.length = m.length
  | [], [], _ => rfl
  | _ :: _, _ :: _, h => by simp [prels_len h.2]
  | [], _ :: _, h => h.elim
  | _ :: _, [], h => h.elim
theorem prels_snoc {p : P0} {q : Ent × Int} {r : RProp} (hq : PRel p q r) : ∀ {l : List (Ent × Int)} {m : List RProp}, PRels p l m → PRels p (l ++ [q]) (m ++ [r])
  | [], [], _ => ⟨hq, trivial⟩
  | _ :: _, _ :: _, h => ⟨h.1, prels_snoc hq h.2⟩
  | [], _ :: _, h => h.elim
  | _ :: _, [], h => h.elim
theorem prels_filter {p : P0} {f : Ent × Int → Bool} {g : RProp → Bool} (hfg : ∀ q r, PRel p q r → f q = g r) : ∀ {l : List (Ent × Int)} {m : List RProp}, PRels p l m → PRels p (l.filter f) (m.filter g)
  | [], [], _ => trivial
  | q :: l, r :: m, h => by
    simp only [List.filter_cons, hfg q r h.1]
    split
    · exact ⟨h.1, prels_filter hfg h.2⟩
    · exact prels_filter hfg h.2
  | [], _ :: _, h => h.elim
  | _ :: _, [], h => h.elim
theorem prels_x {p p' : P0} (hn : p'.n = p.n) (hb : p'.b = p.b) : ∀ {l : List (Ent × Int)} {m : List RProp}, PRels p l m → PRels p' l m
  | [], [], _ => trivial
  | _ :: _, _ :: _, h => ⟨⟨h.1.s, hn ▸ h.1.n, hb ▸ h.1.b, h.1.c, h.1.has, h.1.cnt⟩, prels_x hn hb h.2⟩
  | [], _ :: _, h => h.elim
  | _ :: _, [], h => h.elim
theorem has0 {i : Int} (hi : Mas i) : hasM 0 i = false := by
  obtain ⟨k, rfl⟩ := hi.fin
  have : ∀ k : Fin 5, hasM 0 ((k.val : Int) + 1) = false := by decide +kernel
  exact this k
theorem cnt0 : cntM 0 = 0 := by decide +kernel
theorem sim_start {p : PP} (h : p.Ok) (n y fr : Int) (hf : IsU32 fr) : Sim (pStart p n y fr) ⟨p.x.ms, 1, n, y, fr, fr, [], []⟩ := by
  refine ⟨pStart_ok h n y hf, rfl, rfl, rfl, rfl, rfl, rfl, by simp, by simp, by simp, trivial, by simp [pStart], fun _ q hq => by simp [pStart] at hq, fun _ => ⟨rfl, fun i hi => has0 hi, cnt0, fun z _ _ => ⟨rfl, by simp [bestR, IsU32], by simp [bestR, IsU8], fun _ => rfl⟩⟩, fun _ => rfl⟩
theorem sim_stop {p : PP} (h : p.Ok) : Sim (pStop p) ⟨p.x.ms, 0, 0, 0, 0, 0, [], []⟩ :=
  ⟨pStop_ok h, rfl, rfl, rfl, rfl, rfl, rfl, by simp, by simp, by simp, trivial, by simp [pStop], fun _ q hq => by simp [pStop] at hq, fun g => by simp [pStop] at g, fun _ => rfl⟩
theorem sim_learn {p : PP} {m : RP} (h : Sim p m) {n : Int} (hn : IsU32 n) : Sim (pLearn p n) (rlearn m n) := by
  unfold pLearn rlearn
  by_cases g : p.x.ph = 2
  · rw [if_pos g, if_pos (h.ph.trans g)]
    have hok := pLearn_ok h.ok hn
    rw [pLearn, if_pos g] at hok
    refine ⟨hok, h.ms, h.ph, h.n, h.b, h.fr, by dsimp only; rw [h.nx], h.c1, h.c2, h.cl, ?_, h.nd.sublist (List.Sublist.map _ List.filter_sublist), fun hne q hq => ?_, fun g1 => (by rw [show p.x.ph = 1 from g1] at g; cases g), fun g1 => absurd g g1⟩
    · refine prels_x (p := p.x) (by rfl) (by rfl) (prels_filter (fun q r hqr => ?_) h.rel)
      rw [hqr.s]
      by_cases hlt : r.s < n
      · simp [hlt] <;> omega
      · simp [hlt] <;> omega
    · have := h.lt
      have hq' := (List.mem_filter.1 hq).1
      dsimp only at hne ⊢
      have h0 := h.ok.nx
      have h1 := hn.2
      split at hne
      · rename_i hgt
        rw [if_pos hgt]
        have := this (by have := h0.2; omega) q hq'
        omega
      · rename_i hgt
        rw [if_neg hgt]
        exact this hne q hq'
  · rw [if_neg g, if_neg (fun x => g (h.ph.symm.trans x))]; exact h
/-- a proposal more, in the document's list -/
def rpropose (m : RP) (c : Int) : RP := { m with nx := m.nx + 1, props := m.props ++ [⟨m.nx, c, []⟩] }
theorem sim_propose {p : PP} {m : RP} (h : Sim p m) (c : Int) :
    ((pPropose p (cmdOf c)).2.2 = true ↔ m.ph = 2 ∧ (m.props.length : Int) < 16 ∧ m.nx < 4294967295) ∧
    ((pPropose p (cmdOf c)).2.2 = true → (pPropose p (cmdOf c)).2.1 = m.nx ∧ Sim (pPropose p (cmdOf c)).1 (rpropose m c)) ∧
    ((pPropose p (cmdOf c)).2.2 = false → (pPropose p (cmdOf c)).2.1 = 0 ∧ (pPropose p (cmdOf c)).1 = p) := by
  have hnx := h.ok.nx
  have hlen := prels_len h.rel
  rw [h.ph, h.nx, ← hlen]
  have hok := pPropose_ok h.ok (cmdOf c)
  by_cases g : p.x.ph = 2 ∧ p.l.length < 16 ∧ p.x.nx ≠ 4294967295
  · rw [pPropose, if_pos g] at hok ⊢
    refine ⟨⟨fun _ => ⟨g.1, by omega, by have := hnx.2; omega⟩, fun _ => rfl⟩, fun _ => ⟨rfl, ?_⟩, fun g => by cases g⟩
    have hlt := h.lt g.2.2
    refine ⟨hok, h.ms, h.ph, h.n, h.b, h.fr, by simp [rpropose, h.nx], h.c1, h.c2, h.cl, ?_, ?_, fun _ q hq => ?_, fun g1 => (by have := g.1; rw [show p.x.ph = 1 from g1] at this; cases this), fun g1 => absurd g.1 g1⟩
    · refine prels_x (p := p.x) (by rfl) (by rfl) (prels_snoc (q := (⟨p.x.nx, p.x.n, p.x.b, cmdOf c⟩, 0)) (r := ⟨m.nx, c, []⟩) ⟨h.nx.symm, rfl, rfl, rfl, fun i hi => has0 hi, cnt0⟩ h.rel)
    · simp only [List.map_append, List.map_cons, List.map_nil, List.nodup_append]
      refine ⟨h.nd, by simp, fun a ha d hd e => ?_⟩
      obtain ⟨q, hq, rfl⟩ := List.mem_map.1 ha
      simp at hd
      have := hlt q hq
      omega
    · rcases List.mem_append.1 hq with hq | hq
      · have := hlt q hq; dsimp only; omega
      · simp at hq; subst hq; dsimp only; omega
  · rw [pPropose, if_neg g]
    refine ⟨⟨fun g => (by cases g), fun g1 => absurd ⟨g1.1, by omega, by omega⟩ g⟩, fun g => (by cases g), fun _ => ⟨rfl, rfl⟩⟩
theorem hasL_snoc (l : List Int) (i j : Int) : hasL (l ++ [i]) j = (hasL l j || j == i) := by
  simp only [hasL, List.any_append, List.any_cons, List.any_nil, Bool.or_false]
  congr 1
  exact Bool.beq_comm
theorem prel_up {p : P0} {q : Ent × Int} {r : RProp} (h : PRel p q r) {s i : Int} (hs : q.1.s = s) (hq : Mask q.2) (hi : Mas i) : PRel p (q.1, withM q.2 i) (rup s i r) := by
  have hh := h.has i hi
  have hrs : r.s = s := h.s ▸ hs
  by_cases g : hasM q.2 i = true
  · rw [rup, if_neg (fun x => by rw [← hh, g] at x; cases x.2)]
    have e : withM q.2 i = q.2 := by unfold withM; rw [if_pos g]
    rw [e]; exact h
  · have g' : hasM q.2 i = false := by simpa using g
    rw [rup, if_pos ⟨hrs, by rw [← hh]; exact g'⟩]
    refine ⟨h.s, h.n, h.b, h.c, fun j hj => ?_, ?_⟩
    · rw [withM_has hq hi hj, hasL_snoc, h.has j hj]
    · rw [withM_cnt hq hi, if_neg g, h.cnt]; simp
theorem acc_none {p : P0} {ms s i : Int} : ∀ {l : List (Ent × Int)} {m : List RProp} (t : Int × Bool), PRels p l m → (∀ q ∈ l, q.1.s ≠ s) → accP ms s i l = (l, none) ∧ rkept ms s i m = m ∧ rlast ms s i t m = t
  | [], [], t, _, _ => ⟨rfl, rfl, rfl⟩
  | q :: l, r :: m, t, h, hn => by
    obtain ⟨h1, h2, h3⟩ := acc_none (ms := ms) (i := i) t h.2 (fun q' hq => hn q' (by simp [hq]))
    have hs : ¬ q.1.s = s := hn q (by simp)
    have hr : ¬ r.s = s := by rw [← h.1.s]; exact hs
    have e1 : rup s i r = r := by unfold rup; rw [if_neg (fun g => hr g.1)]
    have e2 : rdone ms s r = false := by simp [rdone, hr]
    refine ⟨by rw [accP, if_neg hs, h1], ?_, ?_⟩
    · rw [rkept] at h2 ⊢
      rw [List.map_cons, e1, List.filter_cons, e2, h2]; rfl
    · rw [rlast] at h3 ⊢
      rw [List.foldl_cons, e1, e2]; exact h3
  | [], _ :: _, _, h, _ => h.elim
  | _ :: _, [], _, h, _ => h.elim
/-- what an acceptance leaves on both sides -/
def AccRel (p : P0) (s : Int) (a : List (Ent × Int) × Option Cmd) (m : List RProp) (t t' : Int × Bool) : Prop := match a with
  | (l, none) => PRels p l m ∧ t' = t
  | (l, some c) => PRels p (l.filter fun q => !(q.1.s == s)) m ∧ t'.2 = true ∧ c = cmdOf t'.1
theorem acc_rel {p : P0} {ms s i : Int} (hi : Mas i) : ∀ {l : List (Ent × Int)} {m : List RProp} (t : Int × Bool), PRels p l m → (l.map (·.1.s)).Nodup → (∀ q ∈ l, Mask q.2) → AccRel p s (accP ms s i l) (rkept ms s i m) t (rlast ms s i t m)
  | [], [], t, _, _, _ => ⟨trivial, rfl⟩
  | q :: l, r :: m, t, h, hnd, hm => by
    rw [List.map_cons, List.nodup_cons] at hnd
    have hq := hm q (by simp)
    by_cases hs : q.1.s = s
    · have hno : ∀ q' ∈ l, q'.1.s ≠ s := fun q' hq' e => hnd.1 (by rw [hs, ← e]; exact List.mem_map_of_mem (f := fun q : Ent × Int => q.1.s) hq')
      have hup := prel_up h.1 hs hq hi
      have hsr : (rup s i r).s = s := by rw [← hup.s]; exact hs
      obtain ⟨h1, h2, -⟩ := acc_none (ms := ms) (i := i) t h.2 hno
      have hd : rdone ms s (rup s i r) = decide (2 * cntM (withM q.2 i) > ms) := by
        unfold rdone
        rw [← hup.cnt, hsr]; simp
      have hc : (rup s i r).c = r.c := by unfold rup; split <;> rfl
      by_cases g : 2 * cntM (withM q.2 i) > ms
      · have e1 : accP ms s i (q :: l) = ((q.1, withM q.2 i) :: l, some q.1.c) := by rw [accP, if_pos hs, if_pos g]
        have e2 : rkept ms s i (r :: m) = m := by
          rw [rkept] at h2 ⊢
          rw [List.map_cons, List.filter_cons, hd, decide_eq_true g, h2]; rfl
        have e3 : rlast ms s i t (r :: m) = (r.c, true) := by
          obtain ⟨-, -, h3⟩ := acc_none (ms := ms) (i := i) (r.c, true) h.2 hno
          rw [rlast] at h3 ⊢
          rw [List.foldl_cons, hd, decide_eq_true g]; exact h3
        rw [e1, e2, e3]
        refine ⟨?_, rfl, h.1.c⟩
        have e4 : ((q.1, withM q.2 i) :: l).filter (fun q => !(q.1.s == s)) = l := by
          rw [List.filter_cons]
          simp only [hs, beq_self_eq_true, Bool.not_true, Bool.false_eq_true, if_false]
          exact List.filter_eq_self.2 fun q' hq' => by simp [hno q' hq']
        rw [e4]; exact h.2
      · have e1 : accP ms s i (q :: l) = ((q.1, withM q.2 i) :: l, none) := by rw [accP, if_pos hs, if_neg g, h1]
        have e2 : rkept ms s i (r :: m) = rup s i r :: m := by
          rw [rkept] at h2 ⊢
          rw [List.map_cons, List.filter_cons, hd, decide_eq_false g, h2]; rfl
        have e3 : rlast ms s i t (r :: m) = t := by
          obtain ⟨-, -, h3⟩ := acc_none (ms := ms) (i := i) t h.2 hno
          rw [rlast] at h3 ⊢
          rw [List.foldl_cons, hd, decide_eq_false g]; exact h3
        rw [e1, e2, e3]
        exact ⟨⟨hup, h.2⟩, rfl⟩
    · have hr : ¬ r.s = s := by rw [← h.1.s]; exact hs
      have e0 : rup s i r = r := by unfold rup; rw [if_neg (fun g => hr g.1)]
      have e0' : rdone ms s r = false := by simp [rdone, hr]
      have ih := acc_rel (ms := ms) (s := s) hi t h.2 hnd.2 (fun q' hq' => hm q' (by simp [hq']))
      have e1 : accP ms s i (q :: l) = (q :: (accP ms s i l).1, (accP ms s i l).2) := by rw [accP, if_neg hs]
      have e2 : rkept ms s i (r :: m) = r :: rkept ms s i m := by rw [rkept, List.map_cons, e0, List.filter_cons, e0']; rfl
      have e3 : rlast ms s i t (r :: m) = rlast ms s i t m := by rw [rlast, List.foldl_cons, e0, e0']; rfl
      rw [e1, e2, e3]
      generalize accP ms s i l = z at ih ⊢
      obtain ⟨z1, z2⟩ := z
      cases z2 with
      | none => exact ⟨⟨h.1, ih.1⟩, ih.2⟩
      | some c =>
        refine ⟨?_, ih.2⟩
        rw [List.filter_cons]
        simp only [beq_eq_false_iff_ne.2 hs, Bool.not_false, if_true]
        exact ⟨h.1, ih.1⟩
  | [], _ :: _, _, h, _, _ => h.elim
  | _ :: _, [], _, h, _, _ => h.elim
theorem sim_acc {p : PP} {m : RP} (h : Sim p m) (i n y s : Int) : (pAccepted p i n y s).2.2 = (racc m i n y s).2.2 ∧ ((racc m i n y s).2.2 = true → (pAccepted p i n y s).2.1 = cmdOf (racc m i n y s).2.1) ∧ ((racc m i n y s).2.2 = false → (pAccepted p i n y s).2.1 = c0) ∧ Sim (pAccepted p i n y s).1 (racc m i n y s).1 := by
  have hok := pAccepted_ok h.ok i n y s
  have hgm : (m.ph = 2 ∧ n = m.n ∧ y = m.b ∧ isMas m.ms i = true) ↔ (p.x.ph = 2 ∧ n = p.x.n ∧ y = p.x.b ∧ isMas p.x.ms i = true) := by rw [h.ph, h.n, h.b, h.ms]
  have k1 : rkept m.ms s i m.props = rkept p.x.ms s i m.props := by rw [h.ms]
  have k2 : rlast m.ms s i (0, false) m.props = rlast p.x.ms s i (0, false) m.props := by rw [h.ms]
  unfold racc
  rw [k1, k2]
  by_cases g : p.x.ph = 2 ∧ n = p.x.n ∧ y = p.x.b ∧ isMas p.x.ms i = true
  · rw [if_pos (hgm.2 g)]
    have hi := isMas_mas g.2.2.2 h.ok.ms.2
    have hr := acc_rel (ms := p.x.ms) (s := s) hi (0, false) h.rel h.nd h.ok.mask
    have a1 := accP_fst p.x.ms s i p.l
    have a2 : (accP p.x.ms s i p.l).1.map (·.1.s) = p.l.map (·.1.s) := by
      have := congrArg (List.map Ent.s) a1
      simpa [List.map_map, Function.comp_def] using this
    have a3 : p.x.nx ≠ 4294967295 → ∀ q ∈ (accP p.x.ms s i p.l).1, q.1.s < p.x.nx := fun hne q hq => by
      obtain ⟨q0, hq0, e, _⟩ := accP_mem p.x.ms s i p.l q hq
      rw [e]; exact h.lt hne q0 hq0
    have a4 : ((accP p.x.ms s i p.l).1.map (·.1.s)).Nodup := by rw [a2]; exact h.nd
    rw [pAccepted, if_pos g] at hok ⊢
    generalize accP p.x.ms s i p.l = z at hr hok a3 a4 ⊢
    obtain ⟨z1, z2⟩ := z
    cases z2 with
    | none =>
      have e : rlast p.x.ms s i (0, false) m.props = (0, false) := hr.2
      rw [e]
      exact ⟨rfl, fun g => (by cases g), fun _ => rfl, ⟨hok, h.ms, h.ph, h.n, h.b, h.fr, h.nx, h.c1, h.c2, h.cl, hr.1, a4, a3, fun g1 => (by have := g.1; rw [show p.x.ph = 1 from g1] at this; cases this), fun g1 => absurd g.1 g1⟩⟩
    | some c =>
      have e : (rlast p.x.ms s i (0, false) m.props).2 = true := hr.2.1
      refine ⟨e.symm, fun _ => hr.2.2, fun g => (by rw [e] at g; cases g), ⟨hok, h.ms, h.ph, h.n, h.b, h.fr, h.nx, h.c1, h.c2, h.cl, hr.1, a4.sublist (List.Sublist.map _ List.filter_sublist), fun hne q hq => a3 hne q (List.mem_filter.1 hq).1, fun g1 => (by have := g.1; rw [show p.x.ph = 1 from g1] at this; cases this), fun g1 => absurd g.1 g1⟩⟩
  · rw [if_neg (fun x => g (hgm.1 x)), pAccepted, if_neg g]
    exact ⟨rfl, fun g => (by cases g), fun _ => rfl, h⟩
theorem best_snoc (l : List RCame) (c : RCame) (z : Int) : bestR (l ++ [c]) z = c.es.foldl (bstep z) (bestR l z) := by simp [bestR, List.foldl_append]
theorem top_last {fr : Int} {f : Int → Option Ent} {came : List RCame} (hf : IsU32 fr) (hw : Win fr f) (hb : ∀ z, fr ≤ z → z < fr + 16 → BRel z (f z) (bestR came z)) : ∀ k : Nat, k ≤ 16 → topOf fr f k = fr + lastR fr came k + 1
  | 0, _ => by simp only [topOf, lastR]; omega
  | k + 1, hk => by
    have ih := top_last hf hw hb k (by omega)
    have hz := hb (fr + k) (by omega) (by omega)
    have hv := hz.val
    unfold topOf lastR
    cases hok : (bestR came (fr + k)).ok with
    | false =>
      rw [hok] at hv
      rw [hv, if_neg (by simp), if_neg (by simp)]
      exact ih
    | true =>
      rw [hok] at hv
      have hs : (f (fr + k)).isSome = true := by rw [hv]; rfl
      have := (hw _ hs).1.2
      rw [if_pos hs, if_pos ⟨by omega, rfl⟩]
theorem fill_rel {p : P0} {fr : Int} {f : Int → Option Ent} {came : List RCame} (hb : ∀ z, fr ≤ z → z < fr + 16 → BRel z (f z) (bestR came z)) : ∀ (k d : Nat), d + k ≤ 16 →
    PRels p ((mkEnts p.n p.b f (fr + d) k).map fun e => (e, 0)) ((List.range' d k).map fun k : Nat => ⟨fr + k, (bestR came (fr + k)).c, []⟩)
  | 0, d, _ => trivial
  | k + 1, d, h => by
    have hz := hb (fr + d) (by omega) (by omega)
    rw [List.range'_succ]
    refine ⟨⟨rfl, rfl, rfl, ?_, fun i hi => has0 hi, cnt0⟩, ?_⟩
    · show cmdAt f (fr + d) = cmdOf (bestR came (fr + d)).c
      unfold cmdAt
      rw [hz.val]
      cases hok : (bestR came (fr + d)).ok with
      | true => rfl
      | false => rw [hz.c hok]; rfl
    · have := fill_rel (p := p) hb k (d + 1) (by omega)
      rw [show fr + ((d + 1 : Nat) : Int) = fr + d + 1 by push_cast; omega] at this
      exact this
theorem mkEnts_s (n b : Int) (f : Int → Option Ent) : ∀ (k : Nat) (s : Int), ∀ e ∈ mkEnts n b f s k, s ≤ e.s ∧ e.s < s + k
  | 0, s, e, h => by simp [mkEnts] at h
  | k + 1, s, e, h => by
    rcases List.mem_cons.1 h with rfl | h
    · exact ⟨Int.le_refl _, by simp; omega⟩
    · have := mkEnts_s n b f k (s + 1) e h
      push_cast
      omega
theorem mkEnts_nd (n b : Int) (f : Int → Option Ent) : ∀ (k : Nat) (s : Int), ((mkEnts n b f s k).map (·.s)).Nodup
  | 0, s => by simp [mkEnts]
  | k + 1, s => by
    simp only [mkEnts, List.map_cons, List.nodup_cons]
    refine ⟨fun h => ?_, mkEnts_nd n b f k (s + 1)⟩
    obtain ⟨e, he, h1⟩ := List.mem_map.1 h
    have := mkEnts_s n b f k (s + 1) e he
    omega
theorem sim_prom {p : PP} {m : RP} (h : Sim p m) (i n y : Int) (es : List REnt) (hes : es.length ≤ 1000 ∧ ∀ e ∈ es, EntOk e) (hs : ∀ e ∈ es, IsU32 e.s) :
    (pPromise p i n y (es.map toEnt)).2 = (rpromise m i n y es).2 ∧ Sim (pPromise p i n y (es.map toEnt)).1 (rpromise m i n y es).1 := by
  have hel : ∀ e ∈ es.map toEnt, IsU32 e.s := fun e he => by
    obtain ⟨e', h1, rfl⟩ := List.mem_map.1 he
    exact hs e' h1
  have hok := pPromise_ok h.ok i n y hel
  by_cases g : p.x.ph = 1 ∧ n = p.x.n ∧ y = p.x.b ∧ isMas p.x.ms i = true ∧ hasM p.x.pm i = false
  · obtain ⟨g1, g2, g3, g4, g5⟩ := g
    have hi := isMas_mas g4 h.ok.ms.2
    obtain ⟨a1, a2, a3, a4⟩ := h.asks g1
    have hg : m.ph = 1 ∧ n = m.n ∧ y = m.b ∧ isMas m.ms i = true ∧ cameHas m.came i = false := ⟨h.ph.trans g1, g2.trans h.n.symm, g3.trans h.b.symm, by rw [h.ms]; exact g4, by rw [← a2 i hi]; exact g5⟩
    have hcnt : cntM (withM p.x.pm i) = m.came.length + 1 := by rw [withM_cnt h.ok.pm hi, g5, a3]; rfl
    have hcl := cntM_le h.ok.pm
    have hcl2 := cntM_le (withM_mask h.ok.pm hi)
    have hb : ∀ z, p.x.fr ≤ z → z < p.x.fr + 16 → BRel z ((es.map toEnt).foldl (noteB p.x.fr) p.f z) (bestR (m.came ++ [⟨i, es⟩]) z) := fun z h1 h2 => by
      rw [best_snoc]
      exact brel_fold ⟨h1, h2⟩ es (a4 z h1 h2) hes.2
    have hwin := foldl_win (h.ok.win g1) _ hel
    have c1 : ∀ c ∈ m.came ++ [⟨i, es⟩], c.es.length ≤ 1000 := fun c hc => by
      rcases List.mem_append.1 hc with hc | hc
      · exact h.c1 c hc
      · simp at hc; subst hc; exact hes.1
    have c2 : ∀ c ∈ m.came ++ [⟨i, es⟩], ∀ e ∈ c.es, EntOk e := fun c hc => by
      rcases List.mem_append.1 hc with hc | hc
      · exact h.c2 c hc
      · simp at hc; subst hc; exact hes.2
    rw [pPromise, if_pos ⟨g1, g2, g3, g4, g5⟩] at hok ⊢
    by_cases k : 2 * cntM (withM p.x.pm i) > p.x.ms
    · rw [if_pos k] at hok ⊢
      rw [rpromise, if_pos hg, if_neg (show ¬ 2 * ((m.came.length : Int) + 1) ≤ m.ms by rw [h.ms]; omega)]
      have hfr := h.fr
      have ht := top_last h.ok.fr hwin hb 16 (Nat.le_refl _)
      have hlb := lastR_bounds p.x.fr (m.came ++ [⟨i, es⟩]) 16
      have hf2 := h.ok.fr
      refine ⟨rfl, ⟨hok, h.ms, rfl, h.n, h.b, h.fr, ?_, c1, c2, by simp; omega, ?_, ?_, fun hne q hq => ?_, fun g => (by cases g), fun g => absurd rfl g⟩⟩
      · dsimp only; rw [ht, hfr]
      · dsimp only
        rw [ht, hfr, show p.x.fr + lastR p.x.fr (m.came ++ [⟨i, es⟩]) 16 + 1 - p.x.fr = lastR p.x.fr (m.came ++ [⟨i, es⟩]) 16 + 1 by omega, propsR, List.range_eq_range']
        have := fill_rel (p := p.x) hb (lastR p.x.fr (m.came ++ [⟨i, es⟩]) 16 + 1).toNat 0 (by omega)
        rw [show p.x.fr + ((0 : Nat) : Int) = p.x.fr by simp] at this
        exact prels_x (p := p.x) (by rfl) (by rfl) this
      · simp only [List.map_map]
        exact mkEnts_nd _ _ _ _ _
      · obtain ⟨e, he, rfl⟩ := List.mem_map.1 hq
        have := mkEnts_s _ _ _ _ _ e he
        have hb2 := topOf_bounds p.x.fr ((es.map toEnt).foldl (noteB p.x.fr) p.f) 16
        dsimp only at hne ⊢
        split at hne
        · rename_i hlt; rw [if_pos hlt]; omega
        · exact absurd rfl hne
    · rw [if_neg k] at hok ⊢
      rw [rpromise, if_pos hg, if_pos (show 2 * ((m.came.length : Int) + 1) ≤ m.ms by rw [h.ms]; omega)]
      refine ⟨rfl, ⟨hok, h.ms, h.ph, h.n, h.b, h.fr, h.nx, c1, c2, by simp; omega, prels_x (p := p.x) (by rfl) (by rfl) h.rel, h.nd, h.lt, fun _ => ⟨a1, fun j hj => ?_, by simp [hcnt], hb⟩, fun _ => a1⟩⟩
      rw [withM_has h.ok.pm hi hj, a2 j hj]
      simp only [cameHas, List.any_append, List.any_cons, List.any_nil, Bool.or_false]
      congr 1
      exact Bool.beq_comm
  · have hg : ¬ (m.ph = 1 ∧ n = m.n ∧ y = m.b ∧ isMas m.ms i = true ∧ cameHas m.came i = false) := by
      rintro ⟨g1, g2, g3, g4, g5⟩
      rw [h.ph] at g1
      rw [h.ms] at g4
      exact g ⟨g1, g2.trans h.n, g3.trans h.b, g4, by rw [(h.asks g1).2.1 i (isMas_mas g4 h.ok.ms.2)]; exact g5⟩
    rw [pPromise, if_neg g, rpromise, if_neg hg]
    exact ⟨rfl, h⟩
end X12
end Go.Proofs.Ytidhblpcaccchaa.Vm
