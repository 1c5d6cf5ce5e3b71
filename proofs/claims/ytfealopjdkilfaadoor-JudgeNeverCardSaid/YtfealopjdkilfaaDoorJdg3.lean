/- Judge: plain. Runs, one entry more. No program is named here. -/
import Derived.Test.YtfealopjdkilfaaDoorJdg2
namespace Go.Proofs.YtfealopjdkilfaaDoor.Jdg
open Go
open Reg (Val Res applyR zeroV In64)
def valR : Val → List Ar → Val
  | v, [] => v
  | v, x :: r => valR (applyR v (opE x)).v r
theorem valR_snoc : ∀ (d : List Ar) (v : Val) (x : Ar), valR v (d ++ [x]) = (applyR (valR v d) (opE x)).v
  | [], _, _ => rfl
  | y :: d, v, x => valR_snoc d (applyR v (opE y)).v x
theorem valR_len : ∀ (d : List Ar) (v : Val), v.t.length ≤ 100 → (valR v d).t.length ≤ 100
  | [], _, h => h
  | y :: d, v, h => valR_len d _ (Reg.applyR_len h _)
theorem runs_snoc (W : List Nat) : ∀ (d : List Ar) (i : Nat) (v : Val) (x : Ar), runs W i v (d ++ [x]) = runs W i v d ++ [run1 W (i + d.length) (valR v d) x]
  | [], i, v, x => rfl
  | y :: d, i, v, x => by
    show run1 W i v y :: runs W (i + 1) (applyR v (opE y)).v (d ++ [x]) = _
    rw [runs_snoc W d (i + 1) _ x]
    rw [show i + 1 + d.length = i + (y :: d).length by rw [List.length_cons]; omega]
    rfl
theorem op_in (x : Ar) : In64 (opE x).n := by
  show In64 ((x.n % 3 : Nat) : Int)
  have : x.n % 3 < 3 := Nat.mod_lt _ (by decide)
  exact ⟨by omega, by omega⟩
theorem runs_in (W : List Nat) : ∀ (d : List Ar) (i : Nat) (v : Val), ∀ x ∈ runs W i v d, In64 x.op.n
  | [], _, _, _, h => by cases h
  | y :: d, i, v, x, h => by
    rcases List.mem_cons.1 h with rfl | h
    · exact op_in y
    · exact runs_in W d _ _ x h
theorem runs_some (W : List Nat) (d : List Ar) : ∃ q, Right (runs W 0 zeroV d) zeroV [] q := by
  obtain ⟨q, h⟩ := runs_right W d [] zeroV (fun j y h => by cases h)
  exact ⟨q, h⟩
theorem runs_none (W : List Nat) (d : List Ar) : ¬ ∃ q, Right (runs W 0 zeroV d ++ [lastE]) zeroV [] q := fun ⟨q, h⟩ =>
  no_last (runs W 0 zeroV d) (runs_ops W d 0 zeroV) q zeroV [] (by decide) (by simp) h
theorem Mix.len {a b : List En} {n : Nat} (h : b.length ≤ n) (x : En) : (b ++ [x]).length ≤ n + 1 := by rw [List.length_append, List.length_singleton]; omega
theorem off_in (x : Ar) : In64 (offE x).op.n := op_in x
end Go.Proofs.YtfealopjdkilfaaDoor.Jdg
