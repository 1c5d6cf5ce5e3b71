/- More small lemmas for the walks: rows of the call's own. No program is named here. -/
import Derived.Test.YteafhmcpppeelaaBaseB
import Derived.Deep.AppendLies
namespace Go.Proofs.Yteafhmcpppeelaa
open Go.RowKit
section
variable {w w' : World} {base base' : Nat} {e e' : TypeId} {size size' : Nat} {v v' : Value} {n n' : Nat} {xs xs' : List Value}
/-- rows of unlike elements never share a block -/
theorem own_apart (h : w.ownsRow base e size v n xs) (h' : w.ownsRow base' e' size' v' n' xs') (hne : e ≠ e') : v.ownBlock = none ∨ v.ownBlock ≠ v'.ownBlock := by
  rcases h.2 with ⟨rfl, _⟩ | ⟨g, cap, cur, rfl, _, hh, _⟩
  · exact .inl rfl
  · rcases h'.2 with ⟨rfl, _⟩ | ⟨g', cap', cur', rfl, _, hh', _⟩
    · exact .inr (by simp [Value.ownBlock])
    · refine .inr (fun he => ?_)
      simp only [Value.ownBlock, Option.some.injEq] at he
      subst he
      rw [hh] at hh'
      injection hh' with hh'
      injection hh' with _ ht
      exact hne ht
theorem own_far {g : Nat} {t : TypeId} {cs : Array Value} (h : w.ownsRow base e size v n xs) (hg : Blk w g t cs) (hne : e ≠ t) : some g ≠ v.ownBlock := by
  rcases h.2 with ⟨rfl, _⟩ | ⟨g', cap, cur, rfl, _, hh, _⟩
  · simp [Value.ownBlock]
  · intro he
    simp only [Value.ownBlock, Option.some.injEq] at he
    subst he
    unfold Blk at hg
    rw [hg] at hh
    injection hh with hh
    injection hh with _ ht
    exact hne ht.symm
theorem Blk.grown {g : Nat} {t : TypeId} {cs : Array Value} {row : Option Nat} (h : Blk w g t cs) (hb : w.grownBy w' row) (hg : some g ≠ row) : Blk w' g t cs := (hb.block g h.lt hg).trans h
theorem below_grown {B : Nat} {w0 : World} (h : Below B w0 w) (hB : w0.heap.size ≤ w.heap.size) (hg : w.grownBy w' v.ownBlock) (ho : ∀ k, v.ownBlock = some k → B ≤ k) (hBw : B ≤ w.heap.size) : Below B w0 w' :=
  ⟨hg.os.trans h.os, hg.tape.trans h.tape, hg.output.trans h.output, Nat.le_trans hB hg.size, fun k hk => (hg.block k (by omega) (fun e => by have := ho k e.symm; omega)).trans (h.block k hk)⟩
theorem flat_get {α : Type} {f : α → List Value} {size : Nat} (hf : ∀ a, (f a).length = size) : ∀ (l : List α) (k : Nat) (a : α), l[k]? = some a → ∀ (j : Nat) (u : Value), (f a)[j]? = some u → (l.flatMap f)[k * size + j]? = some u
  | [], k, a, h, _, _, _ => by simp at h
  | b :: l, 0, a, h, j, u, hu => by
    simp only [List.getElem?_cons_zero, Option.some.injEq] at h
    subst h
    rw [List.flatMap_cons, Nat.zero_mul, Nat.zero_add, List.getElem?_append_left (List.getElem?_eq_some_iff.1 hu).1]
    exact hu
  | b :: l, k + 1, a, h, j, u, hu => by
    rw [List.flatMap_cons, List.getElem?_append_right (by rw [hf]; rw [Nat.add_mul]; omega), hf]
    have := flat_get hf l k a (by simpa using h) j u hu
    rw [show (k + 1) * size + j - size = k * size + j by rw [Nat.add_mul]; omega]
    exact this
/-- a row of the call's own is a slice of rows of cells -/
theorem rows_of_own {α : Type} {f : α → List Value} (hf : ∀ a, (f a).length = size) (hs : 0 < size) {l : List α} (h : w.ownsRow base e size v n (l.flatMap f)) :
    ∃ A c, v = .slice A l.length c ∧ l.length ≤ c ∧ RowsAt w w.heap.size size A (l.map f) := by
  have hlen : (l.flatMap f).length = l.length * size := by
    clear h
    induction l with
    | nil => simp
    | cons a l ih => rw [List.flatMap_cons, List.length_append, hf, ih, List.length_cons, Nat.succ_mul]; omega
  have hn : l.length = n := by
    have h1 := h.1
    rw [hlen] at h1
    exact Nat.eq_of_mul_eq_mul_right hs h1
  subst hn
  rcases h.2 with ⟨rfl, h0⟩ | ⟨g, cap, cur, rfl, hg, hh, hc, hm, hcs, ht⟩
  · have : l = [] := List.eq_nil_of_length_eq_zero h0
    subst this
    exact ⟨none, 0, rfl, by simp, RowsAt.none_⟩
  · refine ⟨some ⟨g, 0, none⟩, cap, rfl, hc, fun _ => ⟨g, 0, rfl, Blk.lt (t := e) (cs := cur) hh, fun k row hk j u hu => ?_⟩⟩
    rw [List.getElem?_map] at hk
    obtain ⟨a, ha, rfl⟩ := Option.map_eq_some_iff.1 hk
    have hx := flat_get hf l k a ha j u hu
    have hj : k * size + j < l.length * size := by rw [← hlen]; exact (List.getElem?_eq_some_iff.1 hx).1
    rw [Nat.zero_add, h.cellAt (g := g) (cap := cap) _ hj]
    exact hx
end
end Go.Proofs.Yteafhmcpppeelaa
