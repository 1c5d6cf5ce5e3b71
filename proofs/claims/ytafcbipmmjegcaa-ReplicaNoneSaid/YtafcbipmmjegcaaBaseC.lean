/- More small lemmas for the walks: rows of the call's own. No program is named here. -/
import Derived.Test.YtafcbipmmjegcaaBaseB
import Derived.Deep.AppendLies
namespace Go.Proofs.Ytafcbipmmjegcaa
open Go.RowKit
section
variable {w w' : World} {base base' : Nat} {e e' : TypeId} {size size' : Nat} {v v' : Value} {n n' : Nat} {xs xs' : List Value}
/-- rows of unlike elements never share a block -/
theorem own_apart (h : w.ownsRow base e size v n xs) (h' : w.ownsRow base' e' size' v' n' xs') (hne : e ≠ e') : v.ownBlock = none ∨ v.ownBlock ≠ v'.ownBlock := by
  rcases h.2 with ⟨rfl, _⟩ | ⟨g, cap, cur, rfl, _, hh, _⟩
  · exact .inl rfl
  · rcases h'.2 with ⟨rfl, _⟩ | ⟨g', cap', cur', rfl, _, hh', _⟩
    · exact .inr (by simp [Value.ownBlock])
    · refine .inr (fun he => ?_)
      simp only [Value.ownBlock, Option.some.injEq] at he
      subst he
      rw [hh] at hh'
      injection hh' with hh'
      injection hh' with _ ht
      exact hne ht
theorem own_far {g : Nat} {t : TypeId} {cs : Array Value} (h : w.ownsRow base e size v n xs) (hg : Blk w g t cs) (hne : e ≠ t) : some g ≠ v.ownBlock := by
  rcases h.2 with ⟨rfl, _⟩ | ⟨g', cap, cur, rfl, _, hh, _⟩
  · simp [Value.ownBlock]
  · intro he
    simp only [Value.ownBlock, Option.some.injEq] at he
    subst he
    unfold Blk at hg
    rw [hg] at hh
    injection hh with hh
    injection hh with _ ht
    exact hne ht.symm
theorem Blk.grown {g : Nat} {t : TypeId} {cs : Array Value} {row : Option Nat} (h : Blk w g t cs) (hb : w.grownBy w' row) (hg : some g ≠ row) : Blk w' g t cs := (hb.block g h.lt hg).trans h
theorem below_grown {B : Nat} {w0 : World} (h : Below B w0 w) (hB : w0.heap.size ≤ w.heap.size) (hg : w.grownBy w' v.ownBlock) (ho : ∀ k, v.ownBlock = some k → B ≤ k) (hBw : B ≤ w.heap.size) : Below B w0 w' :=
  ⟨hg.os.trans h.os, hg.tape.trans h.tape, hg.output.trans h.output, Nat.le_trans hB hg.size, fun k hk => (hg.block k (by omega) (fun e => by have := ho k e.symm; omega)).trans (h.block k hk)⟩
theorem flat_get {α : Type} {f : α → List Value} {size : Nat} (hf : ∀ a, (f a).length = size) : ∀ (l : List α) (k : Nat) (a : α), l[k]? = some a → ∀ (j : Nat) (u : Value), (f a)[j]? = some u → (l.flatMap f)[k * size + j]? = some u
  | [], k, a, h, _, _, _ => by simp at h
  | b :: l, 0, a, h, j, u, hu => by
    simp only [List.getElem?_cons_zero, Option.some.injEq] at h
    subst h
    rw [List.flatMap_cons, Nat.zero_mul, Nat.zero_add, List.getElem?_append_left (List.getElem?_eq_some_iff.1 hu).1]
    exact hu
  | b :: l, k + 1, a, h, j, u, hu => by
    rw [List.flatMap_cons, List.getElem?_append_right (by rw [hf]; rw [Nat.add_mul]; omega), hf]
    have := flat_get hf l k a (by simpa using h) j u hu
    rw [show (k + 1) * size + j - size = k * size + j by rw [Nat.add_mul]; omega]
    exact this
/-- a row of the call's own is a slice of rows of cells -/
theorem rows_of_own {α : Type} {f : α → List Value} (hf : ∀ a, (f a).length = size) (hs : 0 < size) {l : List α} (h : w.ownsRow base e size v n (l.flatMap f)) :
    ∃ A c, v = .slice A l.length c ∧ l.length ≤ c ∧ RowsAt w w.heap.size size A (l.map f) := by
  have hlen : (l.flatMap f).length = l.length * size := by
    clear h
    induction l with
    | nil => simp
    | cons a l ih => rw [List.flatMap_cons, List.length_append, hf, ih, List.length_cons, Nat.succ_mul]; omega
  have hn : l.length = n := by
    have h1 := h.1
    rw [hlen] at h1
    exact Nat.eq_of_mul_eq_mul_right hs h1
  subst hn
  rcases h.2 with ⟨rfl, h0⟩ | ⟨g, cap, cur, rfl, hg, hh, hc, hm, hcs, ht⟩
  · have : l = [] := List.eq_nil_of_length_eq_zero h0
    subst this
    exact ⟨none, 0, rfl, by simp, RowsAt.none_⟩
  · refine ⟨some ⟨g, 0, none⟩, cap, rfl, hc, fun _ => ⟨g, 0, rfl, Blk.lt (t := e) (cs := cur) hh, fun k row hk j u hu => ?_⟩⟩
    rw [List.getElem?_map] at hk
    obtain ⟨a, ha, rfl⟩ := Option.map_eq_some_iff.1 hk
    have hx := flat_get hf l k a ha j u hu
    have hj : k * size + j < l.length * size := by rw [← hlen]; exact (List.getElem?_eq_some_iff.1 hx).1
    rw [Nat.zero_add, h.cellAt (g := g) (cap := cap) _ hj]
    exact hx
end
theorem RowsAt.up {w : World} {size : Nat} {A : Option Addr} {rows : List (List Value)} (h : RowsAt w w.heap.size size A rows) (o : Obj) : RowsAt (w.alloc o) (w.alloc o).heap.size size A rows :=
  (h.below ((Below.refl _ _).alloc (Nat.le_refl _) o)).more (by simp)
theorem below_set {B : Nat} {w w' : World} (h : Below B w w') {g : Nat} (i : Nat) (hg : B ≤ g) (a : Value) : Below B w (w'.setCell ⟨g, i, none⟩ a) := Below.setCell h (p := ⟨g, i, none⟩) hg a
theorem below_set3 {B : Nat} {w w' : World} (h : Below B w w') {g : Nat} (hg : B ≤ g) (a b c : Value) : Below B w (((w'.setCell ⟨g, 0, none⟩ a).setCell ⟨g, 1, none⟩ b).setCell ⟨g, 2, none⟩ c) :=
  below_set (below_set (below_set h 0 hg a) 1 hg b) 2 hg c
theorem below_set10 {B : Nat} {w w' : World} (h : Below B w w') {g : Nat} (hg : B ≤ g) (a0 a1 a2 a3 a4 a5 a6 a7 a8 a9 : Value) : Below B w ((((((((((w'.setCell ⟨g, 0, none⟩ a0).setCell ⟨g, 1, none⟩ a1).setCell ⟨g, 2, none⟩ a2).setCell ⟨g, 3, none⟩ a3).setCell ⟨g, 4, none⟩ a4).setCell ⟨g, 5, none⟩ a5).setCell ⟨g, 6, none⟩ a6).setCell ⟨g, 7, none⟩ a7).setCell ⟨g, 8, none⟩ a8).setCell ⟨g, 9, none⟩ a9) :=
  below_set (below_set (below_set (below_set (below_set (below_set (below_set (below_set (below_set (below_set h 0 hg a0) 1 hg a1) 2 hg a2) 3 hg a3) 4 hg a4) 5 hg a5) 6 hg a6) 7 hg a7) 8 hg a8) 9 hg a9
theorem bcell {W w1 : World} (hb : Below W.heap.size W w1) : (∀ b o, b < W.heap.size → w1.cell? ⟨b, o, none⟩ = W.cell? ⟨b, o, none⟩) ∧ (∀ b o, b < W.heap.size → w1.frozen? ⟨b, o, none⟩ = W.frozen? ⟨b, o, none⟩) :=
  ⟨fun b o h => hb.cell (p := ⟨b, o, none⟩) h, fun b o h => hb.frozen (p := ⟨b, o, none⟩) h⟩
theorem RowsAt.lift {w w' : World} {size : Nat} {A : Option Addr} {rows : List (List Value)} (h : RowsAt w w.heap.size size A rows) (hb : Below w.heap.size w w') : RowsAt w' w'.heap.size size A rows := (h.below hb).more hb.size
theorem rows_keep {w w' : World} {B B' size g o : Nat} {rows : List (List Value)} (h : RowsAt w B size (some ⟨g, o, none⟩) rows) (hk : ∀ q, w'.cell? ⟨g, q, none⟩ = w.cell? ⟨g, q, none⟩) (hB : g < B') : RowsAt w' B' size (some ⟨g, o, none⟩) rows := fun hn => by
  obtain ⟨b, off, e, hb, hc⟩ := h hn
  injection e with e
  injection e with e1 e2
  subst e1 e2
  exact ⟨g, o, rfl, hB, fun k row hr j u hu => (hk _).trans (hc k row hr j u hu)⟩
theorem cell_set {w : World} {g r : Nat} (h : g ≠ r) (i : Nat) (u : Value) (q : Nat) : (w.setCell ⟨r, i, none⟩ u).cell? ⟨g, q, none⟩ = w.cell? ⟨g, q, none⟩ := World.cell?_setCell_other _ _ _ _ (fun e => h (by injection e with e1; exact e1.symm))
theorem cell_set10 {w : World} {g r : Nat} (h : g ≠ r) (a0 a1 a2 a3 a4 a5 a6 a7 a8 a9 : Value) (q : Nat) : ((((((((((w.setCell ⟨r, 0, none⟩ a0).setCell ⟨r, 1, none⟩ a1).setCell ⟨r, 2, none⟩ a2).setCell ⟨r, 3, none⟩ a3).setCell ⟨r, 4, none⟩ a4).setCell ⟨r, 5, none⟩ a5).setCell ⟨r, 6, none⟩ a6).setCell ⟨r, 7, none⟩ a7).setCell ⟨r, 8, none⟩ a8).setCell ⟨r, 9, none⟩ a9).cell? ⟨g, q, none⟩ = w.cell? ⟨g, q, none⟩ := by
  rw [cell_set h, cell_set h, cell_set h, cell_set h, cell_set h, cell_set h, cell_set h, cell_set h, cell_set h, cell_set h]
theorem size_set (w : World) (p : Addr) (u : Value) : (w.setCell p u).heap.size = w.heap.size := by simp [World.setCell]
theorem size_set10' (w : World) (r : Nat) (a0 a1 a2 a3 a4 a5 a6 a7 a8 a9 : Value) : ((((((((((w.setCell ⟨r, 0, none⟩ a0).setCell ⟨r, 1, none⟩ a1).setCell ⟨r, 2, none⟩ a2).setCell ⟨r, 3, none⟩ a3).setCell ⟨r, 4, none⟩ a4).setCell ⟨r, 5, none⟩ a5).setCell ⟨r, 6, none⟩ a6).setCell ⟨r, 7, none⟩ a7).setCell ⟨r, 8, none⟩ a8).setCell ⟨r, 9, none⟩ a9).heap.size = w.heap.size := by
  rw [size_set, size_set, size_set, size_set, size_set, size_set, size_set, size_set, size_set, size_set]
theorem rows_set10 {w : World} {B size g o r : Nat} {rows : List (List Value)} (h : RowsAt w B size (some ⟨g, o, none⟩) rows) (hB : g < w.heap.size) (hne : g ≠ r) (a0 a1 a2 a3 a4 a5 a6 a7 a8 a9 : Value) : RowsAt ((((((((((w.setCell ⟨r, 0, none⟩ a0).setCell ⟨r, 1, none⟩ a1).setCell ⟨r, 2, none⟩ a2).setCell ⟨r, 3, none⟩ a3).setCell ⟨r, 4, none⟩ a4).setCell ⟨r, 5, none⟩ a5).setCell ⟨r, 6, none⟩ a6).setCell ⟨r, 7, none⟩ a7).setCell ⟨r, 8, none⟩ a8).setCell ⟨r, 9, none⟩ a9) ((((((((((w.setCell ⟨r, 0, none⟩ a0).setCell ⟨r, 1, none⟩ a1).setCell ⟨r, 2, none⟩ a2).setCell ⟨r, 3, none⟩ a3).setCell ⟨r, 4, none⟩ a4).setCell ⟨r, 5, none⟩ a5).setCell ⟨r, 6, none⟩ a6).setCell ⟨r, 7, none⟩ a7).setCell ⟨r, 8, none⟩ a8).setCell ⟨r, 9, none⟩ a9).heap.size size (some ⟨g, o, none⟩) rows :=
  rows_keep h (cell_set10 hne a0 a1 a2 a3 a4 a5 a6 a7 a8 a9) (by rw [size_set10']; exact hB)
theorem RowsAt.drew {w : World} {B size : Nat} {A : Option Addr} {rows : List (List Value)} (h : RowsAt w B size A rows) : RowsAt w.drew B size A rows := h.keep fun p _ => World.cell?_drew w p
theorem RowsAt.drewN {w : World} {B size : Nat} {A : Option Addr} {rows : List (List Value)} (h : RowsAt w B size A rows) (n : Nat) : RowsAt (w.drewN n) B size A rows := h.keep fun _ _ => rfl
theorem Blk.two {w : World} {g : Nat} {t : TypeId} {a0 a1 : Value} (h : Blk w g t #[a0, a1]) : w.cell? ⟨g, 0, none⟩ = some a0 ∧ w.cell? ⟨g, 1, none⟩ = some a1 := ⟨h.cell 0, h.cell 1⟩
theorem Blk.three {w : World} {g : Nat} {t : TypeId} {a0 a1 a2 : Value} (h : Blk w g t #[a0, a1, a2]) : w.cell? ⟨g, 0, none⟩ = some a0 ∧ w.cell? ⟨g, 1, none⟩ = some a1 ∧ w.cell? ⟨g, 2, none⟩ = some a2 := ⟨h.cell 0, h.cell 1, h.cell 2⟩
theorem Blk.four {w : World} {g : Nat} {t : TypeId} {a0 a1 a2 a3 : Value} (h : Blk w g t #[a0, a1, a2, a3]) : w.cell? ⟨g, 0, none⟩ = some a0 ∧ w.cell? ⟨g, 1, none⟩ = some a1 ∧ w.cell? ⟨g, 2, none⟩ = some a2 ∧ w.cell? ⟨g, 3, none⟩ = some a3 := ⟨h.cell 0, h.cell 1, h.cell 2, h.cell 3⟩
theorem Blk.five {w : World} {g : Nat} {t : TypeId} {a0 a1 a2 a3 a4 : Value} (h : Blk w g t #[a0, a1, a2, a3, a4]) : w.cell? ⟨g, 0, none⟩ = some a0 ∧ w.cell? ⟨g, 1, none⟩ = some a1 ∧ w.cell? ⟨g, 2, none⟩ = some a2 ∧ w.cell? ⟨g, 3, none⟩ = some a3 ∧ w.cell? ⟨g, 4, none⟩ = some a4 := ⟨h.cell 0, h.cell 1, h.cell 2, h.cell 3, h.cell 4⟩
theorem Blk.ten {w : World} {g : Nat} {t : TypeId} {a0 a1 a2 a3 a4 a5 a6 a7 a8 a9 : Value} (h : Blk w g t #[a0, a1, a2, a3, a4, a5, a6, a7, a8, a9]) : w.cell? ⟨g, 0, none⟩ = some a0 ∧ w.cell? ⟨g, 1, none⟩ = some a1 ∧ w.cell? ⟨g, 2, none⟩ = some a2 ∧ w.cell? ⟨g, 3, none⟩ = some a3 ∧ w.cell? ⟨g, 4, none⟩ = some a4 ∧ w.cell? ⟨g, 5, none⟩ = some a5 ∧ w.cell? ⟨g, 6, none⟩ = some a6 ∧ w.cell? ⟨g, 7, none⟩ = some a7 ∧ w.cell? ⟨g, 8, none⟩ = some a8 ∧ w.cell? ⟨g, 9, none⟩ = some a9 := ⟨h.cell 0, h.cell 1, h.cell 2, h.cell 3, h.cell 4, h.cell 5, h.cell 6, h.cell 7, h.cell 8, h.cell 9⟩
theorem Blk.after {w w' : World} {g : Nat} {t : TypeId} {cs : Array Value} (h : Blk w g t cs) (hb : Below w.drew.heap.size w.drew w') : Blk w' g t cs := h.drew.below hb h.drew.lt
theorem Blk.behind {w w' : World} {g : Nat} {t : TypeId} {cs : Array Value} (h : Blk w g t cs) (hb : Below w.heap.size w w') : Blk w' g t cs := h.below hb h.lt
theorem own_mono {w : World} {base base' : Nat} {e : TypeId} {size : Nat} {v : Value} {n : Nat} {xs : List Value} (h : w.ownsRow base e size v n xs) (hb : base' ≤ base) : w.ownsRow base' e size v n xs :=
  ⟨h.1, h.2.imp id fun ⟨g, cap, cur, a, b, r⟩ => ⟨g, cap, cur, a, Nat.le_trans hb b, r⟩⟩
theorem Blk.grownFar {w w' : World} {g : Nat} {t : TypeId} {cs : Array Value} {base : Nat} {e : TypeId} {size : Nat} {v : Value} {n : Nat} {xs : List Value} (hg : w.grownBy w' v.ownBlock) (h : Blk w g t cs) (ho : w.ownsRow base e size v n xs) (hne : e ≠ t) : Blk w' g t cs := h.grown hg (own_far ho h hne)
theorem Blk.new1 (w : World) (o : Obj) (t : TypeId) (cs : Array Value) : Blk ((w.alloc o).alloc (.cells cs t)) (w.heap.size + 1) t cs := Blk.new_ (by simp)
theorem own_setCell {w : World} {base : Nat} {e : TypeId} {size : Nat} {v : Value} {n : Nat} {xs : List Value} (h : w.ownsRow base e size v n xs) {g : Nat} (hne : some g ≠ v.ownBlock) (i : Nat) (u : Value) : (w.setCell ⟨g, i, none⟩ u).ownsRow base e size v n xs := by
  refine ⟨h.1, h.2.imp id ?_⟩
  rintro ⟨g', cap, cur, rfl, b, hh, r⟩
  have hgg : g' ≠ g := fun e => hne (by rw [e]; rfl)
  exact ⟨g', cap, cur, rfl, b, (Below.heap_setCell w ⟨g, i, none⟩ u g' hgg).trans hh, r⟩
end Go.Proofs.Ytafcbipmmjegcaa
