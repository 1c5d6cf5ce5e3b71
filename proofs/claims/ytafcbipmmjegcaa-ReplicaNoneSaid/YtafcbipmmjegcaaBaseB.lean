/- More small lemmas for the walks. No program is named here. -/
import Derived.Test.YtafcbipmmjegcaaBase
namespace Go.Proofs.Ytafcbipmmjegcaa
open Go.RowKit
theorem below_fr {B g : Nat} {w w1 w2 : World} (h : Below B w w1) (hf : Fr (· = g) w1 w2) (hg : B ≤ g) (hB : B ≤ w1.heap.size) : Below B w w2 :=
  h.trans ⟨hf.os, hf.tape, hf.output, hf.size, fun k hk => hf.block k (by omega) (by omega)⟩
section
variable {w w1 w2 : World} {S : Nat → Prop}
theorem bl_fr (h : Below w.heap.size w w1) (hf : Fr S w1 w2) (hS : ∀ k, S k → w.heap.size ≤ k) : Below w.heap.size w w2 :=
  h.trans ⟨hf.os, hf.tape, hf.output, hf.size, fun k hk => hf.block k (by have := h.size; omega) (fun x => by have := hS k x; omega)⟩
theorem bl_next (h : Below w.heap.size w w1) (k : Below w1.heap.size w1 w2) : Below w.heap.size w w2 := h.trans (k.mono h.size)
theorem bl_alloc (h : Below w.heap.size w w1) (o : Obj) : Below w.heap.size w (w1.alloc o) := h.alloc h.size o
end
theorem Blk.new_ {w : World} {g : Nat} {t : TypeId} {cs : Array Value} (hg : g = w.heap.size) : Blk (w.alloc (.cells cs t)) g t cs := by subst hg; exact Blk.new w t cs
theorem RowsAt.take {w : World} {B size : Nat} {A : Option Addr} {rows : List (List Value)} (h : RowsAt w B size A rows) (n : Nat) : RowsAt w B size A (rows.take n) := fun hne => by
  obtain ⟨b, off, e, hb, hc⟩ := h (by intro h0; subst h0; simp at hne)
  refine ⟨b, off, e, hb, fun k row hk j u hu => hc k row ?_ j u hu⟩
  rw [List.getElem?_take] at hk
  split at hk
  · exact hk
  · cases hk
/-- the first cells of a row -/
theorem RowsAt.one {w : World} {B : Nat} {A : Option Addr} {α : Type} {f : α → Value} {xs : List α} (h : RowsAt w B 1 A (xs.map fun x => [f x])) {k : Nat} (hk : k < xs.length) :
    ∃ b off, A = some ⟨b, off, none⟩ ∧ b < B ∧ w.cell? ⟨b, off + k, none⟩ = some (f xs[k]) := by
  obtain ⟨b, off, e, hb, hc⟩ := h (by intro h; rw [List.map_eq_nil_iff] at h; subst h; simp at hk)
  refine ⟨b, off, e, hb, ?_⟩
  have := hc k [f xs[k]] (by simp [hk]) 0 _ rfl
  rwa [Nat.mul_one, Nat.add_zero] at this
end Go.Proofs.Ytafcbipmmjegcaa
