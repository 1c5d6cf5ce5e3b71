/- Learners: the plain model. No program is named here. -/
import Derived.Test.YtidhblpcaccchaaViewWF
namespace Go.Proofs.Ytidhblpcaccchaa.Lrn
open View (VS WF)
structure Cmd where
  k : Nat
  n : Nat
  l : Nat
  e : Int
  q : Int
  deriving DecidableEq
structure App where
  s : Int
  c : Cmd
  b : Bool
  v : VS
structure LS where
  v : VS
  nx : Int
  W : Int → Option Cmd
  kp : List Cmd
def ap (v : VS) (c : Cmd) : VS × Bool := View.applyV v c.k c.n c.l c.e
def upd (W : Int → Option Cmd) (z : Int) (c : Cmd) : Int → Option Cmd := fun y => if y = z then some c else W y
def del (W : Int → Option Cmd) (z : Int) : Int → Option Cmd := fun y => if y = z then none else W y
/-- what waits at the next slot is applied, so often -/
def steps : Nat → LS → List App × LS
  | 0, s => ([], s)
  | f + 1, s => match s.W s.nx with
    | none => ([], s)
    | some c => (⟨s.nx, c, (ap s.v c).2, (ap s.v c).1⟩ :: (steps f ⟨(ap s.v c).1, s.nx + 1, del s.W s.nx, s.kp ++ [c]⟩).1, (steps f ⟨(ap s.v c).1, s.nx + 1, del s.W s.nx, s.kp ++ [c]⟩).2)
def trim (s : LS) : LS := { s with kp := s.kp.drop (s.kp.length - 8) }
def applyL (s : LS) : List App × LS := ((steps 17 s).1, trim (steps 17 s).2)
def low (s : LS) : Int := s.nx - s.kp.length
def getL (s : LS) (z : Int) : Option Cmd := if low s ≤ z ∧ z < s.nx then s.kp[(z - low s).toNat]? else none
def knownL (s : LS) (z : Int) : Option Cmd := match s.W z with
  | some c => some c
  | none => getL s z
def far (s : LS) (z : Int) : Bool := decide (z = 4294967295 ∨ s.nx + 16 ≤ z)
def put (s : LS) (z : Int) (c : Cmd) : LS := if s.nx ≤ z then { s with W := upd s.W z c } else s
def clash (s : LS) (z : Int) (c : Cmd) : Bool := match knownL s z with
  | some c' => decide (c' ≠ c)
  | none => false
def decideL (s : LS) (z : Int) (c : Cmd) : LS × List App × Int :=
  if far s z then (s, [], 9) else if clash s z c then (s, [], 4) else ((applyL (put s z c)).2, (applyL (put s z c)).1, 0)
def cut (W : Int → Option Cmd) (z : Int) : Int → Option Cmd := fun y => if y < z then none else W y
def snapL (s : LS) (z : Int) (v : VS) : LS × List App × Bool :=
  if z ≤ s.nx ∨ z = 4294967295 then (s, [], false) else ((applyL ⟨v, z, cut s.W z, []⟩).2, (applyL ⟨v, z, cut s.W z, []⟩).1, true)
def newL (v : VS) : LS := ⟨v, 0, fun _ => none, []⟩
structure Ok (s : LS) : Prop where
  wf : WF s.v
  n0 : 0 ≤ s.nx
  n1 : s.nx ≤ 4294967295
  w : ∀ z c, s.W z = some c → s.nx ≤ z ∧ z < s.nx + 16 ∧ z < 4294967295
  k8 : s.kp.length ≤ 8
  kn : s.kp.length ≤ s.nx
/-- behind so many steps at most -/
structure OkN (f : Nat) (s : LS) : Prop where
  wf : WF s.v
  n0 : 0 ≤ s.nx
  n1 : s.nx ≤ 4294967295
  w : ∀ z c, s.W z = some c → s.nx ≤ z ∧ z < s.nx + f ∧ z < 4294967295
  kn : s.kp.length ≤ s.nx
theorem Ok.n {s : LS} (h : Ok s) : OkN 16 s := ⟨h.wf, h.n0, h.n1, h.w, h.kn⟩
theorem ap_wf {v : VS} (h : WF v) (c : Cmd) : WF (ap v c).1 := h.step (View.step_apply v c.k c.n c.l c.e)
theorem OkN.step {f : Nat} {s : LS} (h : OkN (f + 1) s) {c : Cmd} (hc : s.W s.nx = some c) : OkN f ⟨(ap s.v c).1, s.nx + 1, del s.W s.nx, s.kp ++ [c]⟩ := by
  have h1 := h.w _ _ hc
  refine ⟨ap_wf h.wf c, by have := h.n0; show 0 ≤ s.nx + 1; omega, by show s.nx + 1 ≤ 4294967295; omega, fun z d hd => ?_, by have := h.kn; simp; omega⟩
  dsimp only at hd ⊢
  unfold del at hd
  split at hd
  · cases hd
  · have := h.w z d hd
    omega
theorem steps_ok : ∀ (f g : Nat) (s : LS), OkN f s → f ≤ g → f ≤ 16 → OkN 16 (steps g s).2 ∧ (steps g s).2.W (steps g s).2.nx = none ∧ s.nx ≤ (steps g s).2.nx
  | f, 0, s, h, hg, h16 => by
    have : f = 0 := by omega
    subst this
    refine ⟨⟨h.wf, h.n0, h.n1, fun z c hc => by have := h.w z c hc; omega, h.kn⟩, ?_, Int.le_refl _⟩
    cases hc : s.W s.nx with
    | none => simpa [steps] using hc
    | some c => have := h.w _ _ hc; omega
  | f, g + 1, s, h, hg, h16 => by
    cases hc : s.W s.nx with
    | none =>
      simp only [steps, hc]
      exact ⟨⟨h.wf, h.n0, h.n1, fun z c hc => by have := h.w z c hc; omega, h.kn⟩, trivial, Int.le_refl _⟩
    | some c =>
      have h0 := h.w _ _ hc
      obtain ⟨f, rfl⟩ : ∃ f', f = f' + 1 := ⟨f - 1, by omega⟩
      have h1 := steps_ok f g _ (h.step hc) (by omega) (by omega)
      simp only [steps, hc]
      refine ⟨h1.1, h1.2.1, ?_⟩
      have := h1.2.2
      dsimp only at this
      omega
theorem trim_ok {s : LS} (h : OkN 16 s) : Ok (trim s) := ⟨h.wf, h.n0, h.n1, h.w, by simp [trim]; omega, by have := h.kn; simp [trim]; omega⟩
theorem applyL_ok {s : LS} (h : OkN 16 s) : Ok (applyL s).2 := trim_ok (steps_ok 16 17 s h (by omega) (by omega)).1
theorem applyL_done {s : LS} (h : OkN 16 s) : (applyL s).2.W (applyL s).2.nx = none := (steps_ok 16 17 s h (by omega) (by omega)).2.1
theorem put_ok {s : LS} (h : Ok s) {z : Int} (hu : z ≤ 4294967295) (hz : far s z = false) (c : Cmd) : OkN 16 (put s z c) := by
  unfold put
  split
  · rename_i h1
    refine ⟨h.wf, h.n0, h.n1, fun y d hd => ?_, h.kn⟩
    simp only [far, decide_eq_false_iff_not, not_or] at hz
    dsimp only at hd ⊢
    unfold upd at hd
    split at hd
    · rename_i e
      subst e
      exact ⟨h1, by omega, by omega⟩
    · exact h.w y d hd
  · exact h.n
theorem decideL_ok {s : LS} (h : Ok s) {z : Int} (hu : z ≤ 4294967295) (c : Cmd) : Ok (decideL s z c).1 := by
  unfold decideL
  split
  · exact h
  · rename_i hf
    split
    · exact h
    · exact applyL_ok (put_ok h hu (by simpa using hf) c)
theorem snap_okN {s : LS} (h : Ok s) {z : Int} (hu : z ≤ 4294967295) (hz : ¬ (z ≤ s.nx ∨ z = 4294967295)) {v : VS} (hv : WF v) : OkN 16 ⟨v, z, cut s.W z, []⟩ := by
  refine ⟨hv, by have := h.n0; show 0 ≤ z; omega, hu, fun y d hd => ?_, by have := h.n0; simp; omega⟩
  dsimp only at hd ⊢
  unfold cut at hd
  split at hd
  · cases hd
  · have := h.w y d hd
    omega
theorem snapL_ok {s : LS} (h : Ok s) {z : Int} (hu : z ≤ 4294967295) {v : VS} (hv : WF v) : Ok (snapL s z v).1 := by
  unfold snapL
  split
  · exact h
  · rename_i hz
    exact applyL_ok (snap_okN h hu hz hv)
theorem newL_ok {v : VS} (hv : WF v) : Ok (newL v) := ⟨hv, by simp [newL], by simp [newL], fun z c hc => by simp [newL] at hc, by simp [newL], by simp [newL]⟩
/-- the learner whose commands fill the list's beginning -/
def foldV (v : VS) (l : List Cmd) : VS := l.foldl (fun v c => (ap v c).1) v
end Go.Proofs.Ytidhblpcaccchaa.Lrn
