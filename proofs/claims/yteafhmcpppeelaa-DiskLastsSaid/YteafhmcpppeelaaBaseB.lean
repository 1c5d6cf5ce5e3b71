/- More small lemmas for the walks. No program is named here. -/
import Derived.Test.YteafhmcpppeelaaBase
namespace Go.Proofs.Yteafhmcpppeelaa
open Go.RowKit
theorem below_fr {B g : Nat} {w w1 w2 : World} (h : Below B w w1) (hf : Fr (· = g) w1 w2) (hg : B ≤ g) (hB : B ≤ w1.heap.size) : Below B w w2 :=
  h.trans ⟨hf.os, hf.tape, hf.output, hf.size, fun k hk => hf.block k (by omega) (by omega)⟩
/-- the first cells of a row -/
theorem RowsAt.one {w : World} {B : Nat} {A : Option Addr} {α : Type} {f : α → Value} {xs : List α} (h : RowsAt w B 1 A (xs.map fun x => [f x])) {k : Nat} (hk : k < xs.length) :
    ∃ b off, A = some ⟨b, off, none⟩ ∧ b < B ∧ w.cell? ⟨b, off + k, none⟩ = some (f xs[k]) := by
  obtain ⟨b, off, e, hb, hc⟩ := h (by intro h; rw [List.map_eq_nil_iff] at h; subst h; simp at hk)
  refine ⟨b, off, e, hb, ?_⟩
  have := hc k [f xs[k]] (by simp [hk]) 0 _ rfl
  rwa [Nat.mul_one, Nat.add_zero] at this
end Go.Proofs.Yteafhmcpppeelaa
