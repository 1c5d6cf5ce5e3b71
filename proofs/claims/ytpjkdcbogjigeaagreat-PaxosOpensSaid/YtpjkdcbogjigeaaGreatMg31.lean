/- Texts of this claim: Lrn0, Lrn1, Lrn2. -/
import Derived.Test.YtpjkdcbogjigeaaGreatMg30
namespace Go.Proofs.YtpjkdcbogjigeaaGreat.Lrn
open View (VS WF)
structure Cmd where
  k : Nat
  n : Nat
  l : Nat
  e : Int
  q : Int
  deriving DecidableEq
structure App where
  s : Int
  c : Cmd
  b : Bool
  v : VS
structure LS where
  v : VS
  nx : Int
  W : Int → Option Cmd
  kp : List Cmd
def ap (v : VS) (c : Cmd) : VS × Bool := View.applyV v c.k c.n c.l c.e
def upd (W : Int → Option Cmd) (z : Int) (c : Cmd) : Int → Option Cmd := fun y => if y = z then some c else W y
def del (W : Int → Option Cmd) (z : Int) : Int → Option Cmd := fun y => if y = z then none else W y
def steps : Nat → LS → List App × LS
  | 0, s => ([], s)
  | f + 1, s => match s.W s.nx with
    | none => ([], s)
    | some c => (⟨s.nx, c, (ap s.v c).2, (ap s.v c).1⟩ :: (steps f ⟨(ap s.v c).1, s.nx + 1, del s.W s.nx, s.kp ++ [c]⟩).1, (steps f ⟨(ap s.v c).1, s.nx + 1, del s.W s.nx, s.kp ++ [c]⟩).2)
def trim (s : LS) : LS := { s with kp := s.kp.drop (s.kp.length - 8) }
def applyL (s : LS) : List App × LS := ((steps 17 s).1, trim (steps 17 s).2)
def low (s : LS) : Int := s.nx - s.kp.length
def getL (s : LS) (z : Int) : Option Cmd := if low s ≤ z ∧ z < s.nx then s.kp[(z - low s).toNat]? else none
def knownL (s : LS) (z : Int) : Option Cmd := match s.W z with
  | some c => some c
  | none => getL s z
def far (s : LS) (z : Int) : Bool := decide (z = 4294967295 ∨ s.nx + 16 ≤ z)
def put (s : LS) (z : Int) (c : Cmd) : LS := if s.nx ≤ z then { s with W := upd s.W z c } else s
def clash (s : LS) (z : Int) (c : Cmd) : Bool := match knownL s z with
  | some c' => decide (c' ≠ c)
  | none => false
def decideL (s : LS) (z : Int) (c : Cmd) : LS × List App × Int :=
  if far s z then (s, [], 9) else if clash s z c then (s, [], 4) else ((applyL (put s z c)).2, (applyL (put s z c)).1, 0)
def cut (W : Int → Option Cmd) (z : Int) : Int → Option Cmd := fun y => if y < z then none else W y
def newL (v : VS) : LS := ⟨v, 0, fun _ => none, []⟩
structure Ok (s : LS) : Prop where
  wf : WF s.v
  n0 : 0 ≤ s.nx
  n1 : s.nx ≤ 4294967295
  w : ∀ z c, s.W z = some c → s.nx ≤ z ∧ z < s.nx + 16 ∧ z < 4294967295
  k8 : s.kp.length ≤ 8
  kn : s.kp.length ≤ s.nx
structure OkN (f : Nat) (s : LS) : Prop where
  wf : WF s.v
  n0 : 0 ≤ s.nx
  n1 : s.nx ≤ 4294967295
  w : ∀ z c, s.W z = some c → s.nx ≤ z ∧ z < s.nx + f ∧ z < 4294967295
  kn : s.kp.length ≤ s.nx
theorem Ok.n {s : LS} (h : Ok s) : OkN 16 s := ⟨h.wf, h.n0, h.n1, h.w, h.kn⟩
theorem ap_wf {v : VS} (h : WF v) (c : Cmd) : WF (ap v c).1 := h.step (View.step_apply v c.k c.n c.l c.e)
theorem OkN.step {f : Nat} {s : LS} (h : OkN (f + 1) s) {c : Cmd} (hc : s.W s.nx = some c) : OkN f ⟨(ap s.v c).1, s.nx + 1, del s.W s.nx, s.kp ++ [c]⟩ := by
  have h1 := h.w _ _ hc
  refine ⟨ap_wf h.wf c, by have := h.n0; show 0 ≤ s.nx + 1; omega, by show s.nx + 1 ≤ 4294967295; omega, fun z d hd => ?_, by have := h.kn; simp; omega⟩
  dsimp only at hd ⊢
  unfold del at hd
  split at hd
  · cases hd
  · have := h.w z d hd
    omega
theorem steps_ok : ∀ (f g : Nat) (s : LS), OkN f s → f ≤ g → f ≤ 16 → OkN 16 (steps g s).2 ∧ (steps g s).2.W (steps g s).2.nx = none ∧ s.nx ≤ (steps g s).2.nx
  | f, 0, s, h, hg, h16 => by
    have : f = 0 := by omega
    subst this
    refine ⟨⟨h.wf, h.n0, h.n1, fun z c hc => by have := h.w z c hc; omega, h.kn⟩, ?_, Int.le_refl _⟩
    cases hc : s.W s.nx with
    | none => simpa [steps] using hc
    | some c => have := h.w _ _ hc; omega
  | f, g + 1, s, h, hg, h16 => by
    cases hc : s.W s.nx with
    | none =>
      simp only [steps, hc]
      exact ⟨⟨h.wf, h.n0, h.n1, fun z c hc => by have := h.w z c hc; omega, h.kn⟩, trivial, Int.le_refl _⟩
    | some c =>
      have h0 := h.w _ _ hc
      obtain ⟨f, rfl⟩ : ∃ f', f = f' + 1 := ⟨f - 1, by omega⟩
      have h1 := steps_ok f g _ (h.step hc) (by omega) (by omega)
      simp only [steps, hc]
      refine ⟨h1.1, h1.2.1, ?_⟩
      have := h1.2.2
      dsimp only at this
      omega
theorem trim_ok {s : LS} (h : OkN 16 s) : Ok (trim s) := ⟨h.wf, h.n0, h.n1, h.w, by simp [trim]; omega, by have := h.kn; simp [trim]; omega⟩
theorem applyL_ok {s : LS} (h : OkN 16 s) : Ok (applyL s).2 := trim_ok (steps_ok 16 17 s h (by omega) (by omega)).1
theorem applyL_done {s : LS} (h : OkN 16 s) : (applyL s).2.W (applyL s).2.nx = none := (steps_ok 16 17 s h (by omega) (by omega)).2.1
theorem put_ok {s : LS} (h : Ok s) {z : Int} (hu : z ≤ 4294967295) (hz : far s z = false) (c : Cmd) : OkN 16 (put s z c) := by
  unfold put
  split
  · rename_i h1
    refine ⟨h.wf, h.n0, h.n1, fun y d hd => ?_, h.kn⟩
    simp only [far, decide_eq_false_iff_not, not_or] at hz
    dsimp only at hd ⊢
    unfold upd at hd
    split at hd
    · rename_i e
      subst e
      exact ⟨h1, by omega, by omega⟩
    · exact h.w y d hd
  · exact h.n
theorem decideL_ok {s : LS} (h : Ok s) {z : Int} (hu : z ≤ 4294967295) (c : Cmd) : Ok (decideL s z c).1 := by
  unfold decideL
  split
  · exact h
  · rename_i hf
    split
    · exact h
    · exact applyL_ok (put_ok h hu (by simpa using hf) c)
theorem newL_ok {v : VS} (hv : WF v) : Ok (newL v) := ⟨hv, by simp [newL], by simp [newL], fun z c hc => by simp [newL] at hc, by simp [newL], by simp [newL]⟩
def foldV (v : VS) (l : List Cmd) : VS := l.foldl (fun v c => (ap v c).1) v
end Go.Proofs.YtpjkdcbogjigeaaGreat.Lrn
namespace Go.Proofs.YtpjkdcbogjigeaaGreat.Lrn
open View (VS WF)
def findR (l : List (Int × Cmd)) (z : Int) : Option Cmd := (l.find? (fun x => x.1 == z)).map (·.2)
theorem findR_snoc (l : List (Int × Cmd)) (z y : Int) (c : Cmd) : findR (l ++ [(z, c)]) y = match findR l y with | some d => some d | none => if z = y then some c else none := by
  induction l with
  | nil =>
    simp only [findR, List.nil_append, List.find?_cons, List.find?_nil]
    cases hb : (z == y)
    · have e : z ≠ y := by simpa using hb
      simp [e]
    · have e : z = y := by simpa using hb
      simp [e]
  | cons x l ih =>
    simp only [findR, List.cons_append, List.find?_cons] at ih ⊢
    by_cases h : x.1 == y <;> simp only [h] <;> first | rfl | exact ih
theorem findR_filter (l : List (Int × Cmd)) (w z : Int) (h : w ≤ z) : findR (l.filter fun x => decide (w ≤ x.1)) z = findR l z := by
  induction l with
  | nil => rfl
  | cons x l ih =>
    simp only [findR] at ih ⊢
    by_cases h1 : x.1 == z
    · have e : x.1 = z := by simpa using h1
      rw [List.filter_cons_of_pos (by simp; omega), List.find?_cons, List.find?_cons, h1]
    · by_cases h2 : w ≤ x.1
      · rw [List.filter_cons_of_pos (by simpa using h2), List.find?_cons, List.find?_cons]
        simp only [h1]; exact ih
      · rw [List.filter_cons_of_neg (by simpa using h2), List.find?_cons]
        simp only [h1]; exact ih
theorem known_step {f : Nat} {s : LS} (h : OkN (f + 1) s) {c : Cmd} (hc : s.W s.nx = some c) (z : Int) (hz : low s ≤ z) : knownL ⟨(ap s.v c).1, s.nx + 1, del s.W s.nx, s.kp ++ [c]⟩ z = knownL s z := by
  have hlow : low ⟨(ap s.v c).1, s.nx + 1, del s.W s.nx, s.kp ++ [c]⟩ = low s := by simp [low]; omega
  have hl : low s = s.nx - s.kp.length := rfl
  unfold knownL
  dsimp only
  by_cases e : z = s.nx
  · subst e
    rw [hc, del, if_pos rfl]
    dsimp only
    rw [getL, hlow, if_pos ⟨hz, by dsimp only; omega⟩]
    have : (s.nx - low s).toNat = s.kp.length := by omega
    rw [this]
    simp
  · rw [show del s.W s.nx z = s.W z from if_neg e]
    cases hw : s.W z with
    | some d => rfl
    | none =>
      dsimp only
      rw [getL, getL, hlow]
      by_cases h1 : low s ≤ z ∧ z < s.nx
      · rw [if_pos h1, if_pos ⟨h1.1, by dsimp only; omega⟩]
        dsimp only
        rw [List.getElem?_append_left (by omega)]
      · rw [if_neg h1, if_neg (by dsimp only; omega)]
theorem known_steps : ∀ (f g : Nat) (s : LS), OkN f s → f ≤ g → ∀ z, low s ≤ z → knownL (steps g s).2 z = knownL s z ∧ low (steps g s).2 = low s
  | f, 0, s, h, hg, z, hz => ⟨rfl, rfl⟩
  | f, g + 1, s, h, hg, z, hz => by
    cases hc : s.W s.nx with
    | none => simp only [steps, hc]; exact ⟨trivial, trivial⟩
    | some c =>
      have h0 := h.w _ _ hc
      obtain ⟨f, rfl⟩ : ∃ f', f = f' + 1 := ⟨f - 1, by omega⟩
      have hlow : low ⟨(ap s.v c).1, s.nx + 1, del s.W s.nx, s.kp ++ [c]⟩ = low s := by simp [low]; omega
      have := known_steps f g _ (h.step hc) (by omega) z (by rw [hlow]; exact hz)
      simp only [steps, hc]
      exact ⟨this.1.trans (known_step h hc z hz), this.2.trans hlow⟩
theorem low_trim (s : LS) : low (trim s) = if s.nx - low s > 8 then s.nx - 8 else low s := by
  have h1 : low s = s.nx - s.kp.length := rfl
  have h2 : low (trim s) = s.nx - ((s.kp.length - (s.kp.length - 8) : Nat) : Int) := by simp [low, trim]
  rw [h2]
  split <;> omega
theorem known_trim (s : LS) (z : Int) (hz : low (trim s) ≤ z) : knownL (trim s) z = knownL s z := by
  have h0 := low_trim s
  unfold knownL
  show (match s.W z with | some c => some c | none => getL (trim s) z) = _
  cases s.W z with
  | some d => rfl
  | none =>
    dsimp only
    have hn : (trim s).nx = s.nx := rfl
    have hl : low s = s.nx - s.kp.length := rfl
    have hle : low s ≤ low (trim s) := by rw [h0]; split <;> omega
    rw [getL, getL, hn]
    by_cases h1 : low (trim s) ≤ z ∧ z < s.nx
    · rw [if_pos h1, if_pos ⟨by omega, h1.2⟩]
      show (s.kp.drop (s.kp.length - 8))[_]? = _
      rw [List.getElem?_drop]
      congr 1
      rw [h0] at hz ⊢
      split <;> omega
    · rw [if_neg h1, if_neg (by omega)]
structure Knows (s : LS) (all : List (Int × Cmd)) : Prop where
  fnd : ∀ z, low s ≤ z → findR all z = knownL s z
theorem Knows.apply {s : LS} {all : List (Int × Cmd)} (h : Knows s all) (ho : OkN 16 s) : Knows (applyL s).2 (all.filter fun x => decide (low (applyL s).2 ≤ x.1)) := by
  refine ⟨fun z hz => ?_⟩
  have hl : low (steps 17 s).2 = low s := (known_steps 16 17 s ho (by omega) (low s) (Int.le_refl _)).2
  have hz' : low s ≤ z := by
    have := low_trim (steps 17 s).2
    have hk : low (steps 17 s).2 = (steps 17 s).2.nx - (steps 17 s).2.kp.length := rfl
    show low s ≤ z
    have hz2 : low (trim (steps 17 s).2) ≤ z := hz
    rw [this] at hz2
    split at hz2 <;> omega
  rw [findR_filter _ _ _ hz, h.fnd z hz']
  exact ((known_trim _ z hz).trans (known_steps 16 17 s ho (by omega) z hz').1).symm
theorem getL_none {s : LS} {z : Int} (h : s.nx ≤ z) : getL s z = none := if_neg (by omega)
theorem known_ge {s : LS} {z : Int} (h : s.nx ≤ z) : knownL s z = s.W z := by
  unfold knownL
  cases s.W z with
  | some c => rfl
  | none => exact getL_none h
theorem Knows.put {s : LS} {all : List (Int × Cmd)} (h : Knows s all) (z : Int) (c : Cmd) (hc : clash s z c = false) : Knows (put s z c) (if findR all z = none ∧ s.nx ≤ z then all ++ [(z, c)] else all) := by
  refine ⟨fun y hy => ?_⟩
  unfold Lrn.put at hy ⊢
  by_cases h1 : s.nx ≤ z
  · rw [if_pos h1] at hy ⊢
    have hy' : low s ≤ y := hy
    have hz' : low s ≤ z := by have : low s = s.nx - s.kp.length := rfl; omega
    have hz := h.fnd z hz'
    rw [known_ge h1] at hz
    have hk : knownL { s with W := upd s.W z c } y = if y = z then some c else knownL s y := by
      unfold knownL
      show (match upd s.W z c y with | some c => some c | none => getL s y) = _
      unfold upd
      by_cases e : y = z
      · rw [if_pos e, if_pos e]
      · rw [if_neg e, if_neg e] <;> rfl
    rw [hk]
    by_cases e : y = z
    · subst e
      rw [if_pos rfl]
      split
      · rename_i h2
        rw [findR_snoc, h2.1]; simp
      · rename_i h2
        have : findR all y ≠ none := fun e => h2 ⟨e, h1⟩
        rw [hz] at this ⊢
        unfold clash at hc
        rw [known_ge h1] at hc
        cases hw : s.W y with
        | none => exact absurd hw this
        | some d =>
          rw [hw] at hc
          simp at hc
          rw [hc]
    · rw [if_neg e]
      split
      · rw [findR_snoc, h.fnd y hy', if_neg (fun e' => e e'.symm)]
        cases knownL s y <;> rfl
      · exact h.fnd y hy'
  · rw [if_neg h1] at hy ⊢
    rw [if_neg (by omega)]
    exact h.fnd y hy
end Go.Proofs.YtpjkdcbogjigeaaGreat.Lrn
namespace Go.Proofs.YtpjkdcbogjigeaaGreat.Lrn
open View (VS WF)
structure Told (v0 : VS) (l : List Cmd) (s : LS) : Prop where
  ex : ∃ N j : Nat, N ≤ l.length ∧ j ≤ N ∧ s.nx = N ∧ s.v = foldV v0 (l.take N) ∧ s.kp = (l.take N).drop j
  w : ∀ z c, s.W z = some c → ∃ k : Nat, z = k ∧ l[k]? = some c
def Dec (s : LS) (z : Int) : Prop := z < s.nx ∨ s.W z ≠ none
theorem foldV_snoc (v : VS) (l : List Cmd) (c : Cmd) : foldV v (l ++ [c]) = (ap (foldV v l) c).1 := by simp [foldV]
theorem Told.step {v0 : VS} {l : List Cmd} {s : LS} (h : Told v0 l s) {c : Cmd} (hc : s.W s.nx = some c) : Told v0 l ⟨(ap s.v c).1, s.nx + 1, del s.W s.nx, s.kp ++ [c]⟩ := by
  obtain ⟨N, j, h1, h2, h3, h4, h5⟩ := h.ex
  obtain ⟨k, hk, hl⟩ := h.w _ _ hc
  obtain rfl : k = N := by omega
  have hlt : k < l.length := (List.getElem?_eq_some_iff.1 hl).1
  have ht : l.take (k + 1) = l.take k ++ [c] := by rw [List.take_add_one, hl]; rfl
  refine ⟨⟨k + 1, j, hlt, by omega, by simp [h3], ?_, ?_⟩, fun z d hd => ?_⟩
  · dsimp only
    rw [ht, foldV_snoc, h4]
  · dsimp only
    rw [ht, h5, List.drop_append_of_le_length (by simp; omega)]
  · dsimp only at hd
    unfold del at hd
    split at hd
    · cases hd
    · exact h.w z d hd
theorem Told.steps {v0 : VS} {l : List Cmd} : ∀ (g : Nat) {s : LS}, Told v0 l s → Told v0 l (steps g s).2
  | 0, _, h => h
  | g + 1, s, h => by
    cases hc : s.W s.nx with
    | none => simp only [Lrn.steps, hc]; exact h
    | some c => simp only [Lrn.steps, hc]; exact Told.steps g (h.step hc)
theorem Dec.steps {z : Int} : ∀ (g : Nat) {s : LS}, Dec s z → Dec (steps g s).2 z
  | 0, _, h => h
  | g + 1, s, h => by
    cases hc : s.W s.nx with
    | none => simp only [Lrn.steps, hc]; exact h
    | some c =>
      simp only [Lrn.steps, hc]
      refine Dec.steps g ?_
      by_cases e : z = s.nx
      · exact .inl (by dsimp only; omega)
      · rcases h with h | h
        · exact .inl (by dsimp only; omega)
        · exact .inr (by dsimp only; rw [show del s.W s.nx z = s.W z from if_neg e]; exact h)
theorem Told.trim {v0 : VS} {l : List Cmd} {s : LS} (h : Told v0 l s) : Told v0 l (trim s) := by
  obtain ⟨N, j, h1, h2, h3, h4, h5⟩ := h.ex
  refine ⟨⟨N, j + (s.kp.length - 8), h1, ?_, h3, h4, ?_⟩, h.w⟩
  · rw [h5]; simp; omega
  · simp only [Lrn.trim]
    rw [h5, List.drop_drop]
theorem Told.apply {v0 : VS} {l : List Cmd} {s : LS} (h : Told v0 l s) : Told v0 l (applyL s).2 := (h.steps 17).trim
theorem Dec.apply {z : Int} {s : LS} (h : Dec s z) : Dec (applyL s).2 z := h.steps 17
theorem Told.known {v0 : VS} {l : List Cmd} {s : LS} (h : Told v0 l s) {z : Int} {c : Cmd} (hk : knownL s z = some c) : ∃ k : Nat, z = k ∧ l[k]? = some c := by
  unfold knownL at hk
  cases hw : s.W z with
  | some d => rw [hw] at hk; injection hk with hk; subst hk; exact h.w z d hw
  | none =>
    rw [hw] at hk
    dsimp only at hk
    obtain ⟨N, j, h1, h2, h3, h4, h5⟩ := h.ex
    unfold getL at hk
    split at hk
    · rename_i hz
      have hlen : s.kp.length = N - j := by rw [h5]; simp; omega
      have hlow : low s = j := by simp only [low, hlen, h3]; omega
      rw [hlow] at hz hk
      rw [h5, List.getElem?_drop, List.getElem?_take] at hk
      refine ⟨z.toNat, by omega, ?_⟩
      rw [show j + (z - (j : Int)).toNat = z.toNat by omega, if_pos (by omega)] at hk
      exact hk
    · cases hk
theorem Told.more {v0 : VS} {l : List Cmd} {s : LS} (h : Told v0 l s) (c : Cmd) : Told v0 (l ++ [c]) s := by
  obtain ⟨N, j, h1, h2, h3, h4, h5⟩ := h.ex
  refine ⟨⟨N, j, by simp; omega, h2, h3, ?_, ?_⟩, fun z d hd => ?_⟩
  · rw [List.take_append_of_le_length h1]; exact h4
  · rw [List.take_append_of_le_length h1]; exact h5
  · obtain ⟨k, rfl, hk⟩ := h.w z d hd
    exact ⟨k, rfl, by rw [List.getElem?_append_left (List.getElem?_eq_some_iff.1 hk).1]; exact hk⟩
theorem Told.decide {v0 : VS} {l : List Cmd} {s : LS} (h : Told v0 l s) (ho : Ok s) (hl : l.length ≤ 16) {i : Nat} {c : Cmd} (hi : l[i]? = some c) :
    ∃ s' out, decideL s i c = (s', out, 0) ∧ Told v0 l s' ∧ Ok s' ∧ s'.W s'.nx = none ∧ Dec s' i ∧ ∀ z, Dec s z → Dec s' z := by
  have hlt : i < l.length := (List.getElem?_eq_some_iff.1 hi).1
  have hf : far s i = false := by
    have := ho.n0
    simp only [far, decide_eq_false_iff_not]; omega
  have hcl : clash s i c = false := by
    unfold clash
    cases hk : knownL s i with
    | none => rfl
    | some d =>
      obtain ⟨k, h1, h2⟩ := h.known hk
      obtain rfl : i = k := by omega
      rw [hi] at h2
      injection h2 with h2
      simp [h2]
  have hput : Told v0 l (put s i c) := by
    unfold put
    split
    · refine ⟨h.ex, fun z d hd => ?_⟩
      dsimp only at hd
      unfold upd at hd
      split at hd
      · rename_i e
        injection hd with hd
        subst hd
        exact ⟨i, e, hi⟩
      · exact h.w z d hd
    · exact h
  have hd : Dec (put s i c) i := by
    unfold put
    split
    · exact .inr (by dsimp only; rw [upd, if_pos rfl]; simp)
    · exact .inl (by omega)
  have hm : ∀ z, Dec s z → Dec (put s i c) z := fun z hz => by
    unfold put
    split
    · rcases hz with h1 | h1
      · exact .inl h1
      · refine .inr ?_
        dsimp only
        unfold upd
        split
        · simp
        · exact h1
    · exact hz
  have hon := put_ok ho (z := i) (by omega) hf c
  have heq : decideL s i c = ((applyL (Lrn.put s i c)).2, (applyL (Lrn.put s i c)).1, 0) := by unfold decideL; rw [hf, hcl]; rfl
  refine ⟨_, _, heq, hput.apply, applyL_ok hon, applyL_done hon, hd.apply, fun z hz => (hm z hz).apply⟩
theorem Told.all {v0 : VS} {l : List Cmd} {s : LS} (h : Told v0 l s) (hh : s.W s.nx = none) (hd : ∀ i : Nat, i < l.length → Dec s i) : s.nx = l.length ∧ s.v = foldV v0 l := by
  obtain ⟨N, j, h1, h2, h3, h4, h5⟩ := h.ex
  have : N = l.length := by
    by_cases e : N < l.length
    · exfalso
      rcases hd N e with h6 | h6
      · omega
      · rw [← h3] at h6; exact h6 hh
    · omega
  subst this
  exact ⟨h3, by rw [h4, List.take_length]⟩
end Go.Proofs.YtpjkdcbogjigeaaGreat.Lrn
