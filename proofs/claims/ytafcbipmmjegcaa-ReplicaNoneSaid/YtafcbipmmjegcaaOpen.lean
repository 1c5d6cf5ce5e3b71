/- Arguments that are slices, opened: rows of cells, each row readable. -/
import Derived.Test.YtafcbipmmjegcaaFrame
import Derived.Deep.Slices
import Derived.Deep.Fields
namespace Go.Proofs.Ytafcbipmmjegcaa
open Go.RowKit Go.ChangeShapes Go.WideShapes Go.ChangeAt Go.Deep

theorem choose_rows {α : Type} (n : Nat) (Q : Nat → α → Prop) (h : ∀ i, i < n → ∃ x, Q i x) : ∃ l : List α, l.length = n ∧ ∀ i x, l[i]? = some x → Q i x := by
  induction n with
  | zero => exact ⟨[], rfl, fun i x hx => by simp at hx⟩
  | succ n ih =>
    obtain ⟨l, hl, hq⟩ := ih (fun i hi => h i (by omega))
    obtain ⟨x, hx⟩ := h n (by omega)
    refine ⟨l ++ [x], by simp [hl], fun i y hy => ?_⟩
    rw [List.getElem?_append] at hy
    split at hy
    · exact hq i y hy
    · rename_i hge
      have : i = n := by
        rcases Nat.lt_or_ge (i - l.length) 1 with h1 | h1
        · omega
        · rw [List.getElem?_eq_none (by simpa using h1)] at hy; cases hy
      subst this
      simp [hl] at hy
      subst hy
      exact hx

theorem open_rows_cell {H : Type} {enc : TypeId × Value → H} {P : Program} {W : World} {t e : TypeId} {v : Value} {fuel : Nat} {y0 : DataW H × List MemPlace} (ht : P.underlying t = some (.slice e)) (h0 : 0 < P.cellsOf e)
    (hf : DataW.trod enc P W 0 (fun _ => true) true fuel t [v] = some y0) :
    ∃ A len cap rows, v = .slice A len cap ∧ rows.length = len ∧ len ≤ cap ∧ cap ≤ maxLen ∧ RowsAt W W.heap.size (P.cellsOf e) A rows ∧
      ∀ row ∈ rows, row.length = P.cellsOf e ∧ ∃ n y, DataW.trod enc P W 0 (fun _ => true) true n e row = some y := by
  rcases open_slice ht hf with ⟨hcs, hx⟩ | ⟨a, len', cap', m, n, D, Pl, hcs, hb, hl, hm, hmm, hx, hi⟩
  · simp at hcs
    subst hcs
    exact ⟨none, 0, 0, [], rfl, rfl, Nat.le_refl _, Nat.zero_le _, RowsAt.none_, fun row hr => by simp at hr⟩
  · simp at hcs
    subst hcs
    obtain ⟨len, rfl⟩ : ∃ l, l = len' := ⟨_, rfl⟩
    simp at hmm
    subst hmm
    obtain ⟨rows, hrl, hrq⟩ := choose_rows len (fun i cs' => W.cells? 0 (a.add (i * P.cellsOf e)) (P.cellsOf e) = some cs' ∧ DataW.trod enc P W 0 (fun _ => true) true n e cs' = some (D i, Pl i)) (fun i hil => hi i (by omega))
    refine ⟨some a, len, m, rows, rfl, hrl, hl, hm, ?_, ?_⟩
    · intro hne
      have hpos : 0 < len := by
        rcases Nat.eq_zero_or_pos len with hz | hz
        · exact absurd (List.eq_nil_of_length_eq_zero (hrl.trans hz)) hne
        · exact hz
      have cellAt : ∀ (i j : Nat) (row : List Value), rows[i]? = some row → ∀ u, row[j]? = some u → W.cell? ((a.add (i * P.cellsOf e)).add j) = some u := fun i j row hr u hu => by
        obtain ⟨hc, _⟩ := hrq i row hr
        obtain ⟨_, hcl, hat⟩ := World.cells?_some hc
        have hj : j < row.length := (List.getElem?_eq_some_iff.1 hu).1
        rw [hat j (by omega), hu]
      obtain ⟨row0, hrow0⟩ : ∃ row0, rows[0]? = some row0 := ⟨rows[0], by simp⟩
      have hl0 : row0.length = P.cellsOf e := (World.cells?_some (hrq 0 row0 hrow0).1).2.1
      have c00 := cellAt 0 0 row0 hrow0 (row0[0]'(by omega)) (by simp)
      obtain ⟨b, off, spot⟩ := a
      have hspot : spot = none := by simpa [Addr.add] using World.cell?_spot c00
      subst hspot
      have ea : ∀ x y : Nat, ((⟨b, off, none⟩ : Addr).add x).add y = ⟨b, off + x + y, none⟩ := fun x y => by
        unfold Addr.add
        by_cases hx : x = 0 <;> by_cases hy : y = 0 <;> simp [hx, hy]
      refine ⟨b, off, rfl, ?_, fun k row hr j u hu => by rw [← ea]; exact cellAt k j row hr u hu⟩
      have := cellAt 0 0 row0 hrow0 (row0[0]'(by omega)) (by simp)
      rw [ea] at this
      exact World.block_lt_of_cell? W _ this
    · intro row hrow
      obtain ⟨i, hi', hri⟩ := List.mem_iff_getElem.1 hrow
      obtain ⟨hc, htr⟩ := hrq i row (by rw [← hri]; simp)
      exact ⟨(World.cells?_some hc).2.1, n, _, htr⟩

theorem open_rows {H : Type} {enc : TypeId × Value → H} {P : Program} {W : World} {base : Nat} {r : Reach} {t e : TypeId} {v : Value} {d : DataW H} {p : List MemPlace} (ht : P.underlying t = some (.slice e)) (h0 : 0 < P.cellsOf e)
    (hv : Value.okWide P W r base t v) (h : DataW.Trod enc P W 0 (fun _ => true) true t v d p) :
    ∃ A len cap rows, v = .slice A len cap ∧ rows.length = len ∧ len ≤ cap ∧ cap ≤ maxLen ∧ RowsAt W W.heap.size (P.cellsOf e) A rows ∧
      ∀ row ∈ rows, row.length = P.cellsOf e ∧ ∃ n y, DataW.trod enc P W 0 (fun _ => true) true n e row = some y := by
  obtain ⟨a0, len, cap, rfl⟩ := okWide_slice ht hv
  obtain ⟨fuel, hf⟩ := h
  exact open_rows_cell ht h0 (by simpa [Value.cells] using hf)

/-- rows of one form -/
theorem rows_map {α : Type} {rows : List (List Value)} (f : α → List Value) (Q : α → Prop) (h : ∀ row ∈ rows, ∃ a, row = f a ∧ Q a) : ∃ as : List α, rows = as.map f ∧ ∀ a ∈ as, Q a := by
  induction rows with
  | nil => exact ⟨[], rfl, fun a ha => by simp at ha⟩
  | cons row rows ih =>
    obtain ⟨as, e, hq⟩ := ih (fun r hr => h r (by simp [hr]))
    obtain ⟨a, ha, hqa⟩ := h row (by simp)
    exact ⟨a :: as, by rw [List.map_cons, e, ha], fun x hx => by
      rcases List.mem_cons.1 hx with rfl | hx
      · exact hqa
      · exact hq x hx⟩

/-- a struct of one-cell fields, field by field -/
theorem open_fields {H : Type} {enc : TypeId × Value → H} {P : Program} {W : World} {e : TypeId} {fs : Array Field} {n : Nat} {row : List Value} {y : DataW H × List MemPlace} (he : P.underlying e = some (.struct fs)) (hone : oneCellFields P fs = true)
    (h : DataW.trod enc P W 0 (fun _ => true) true n e row = some y) : ∃ m, ∀ (j : Nat) (f : Field) (c : Value), fs[j]? = some f → row[j]? = some c → ∃ y', DataW.trod enc P W 0 (fun _ => true) true m f.type [c] = some y' := by
  obtain ⟨ys, m, _, _, _, hyl, hf⟩ := DataW.trod_struct he h
  refine ⟨m, fun j f c hj hc => ?_⟩
  obtain ⟨ho, hk⟩ := hone_of hone j f hj
  have h1 := hf j f hj
  rw [ho, hk] at h1
  have hjr : j < row.length := (List.getElem?_eq_some_iff.1 hc).1
  have hc' : row[j] = c := (List.getElem?_eq_some_iff.1 hc).2
  have hone' : (row.drop j).take 1 = [c] := by
    rw [List.drop_eq_getElem_cons hjr, hc']; rfl
  rw [hone'] at h1
  have hjf : j < fs.size := (Array.getElem?_eq_some_iff.1 hj).1
  exact ⟨ys[j]'(by omega), by rw [h1]; simp⟩

/-- one cell that holds an integer -/
theorem open_int_cell {H : Type} {enc : TypeId × Value → H} {P : Program} {W : World} {t : TypeId} {k : IntKind} {n : Nat} {c : Value} {y : DataW H × List MemPlace} (ht : P.underlying t = some (.int k))
    (h : DataW.trod enc P W 0 (fun _ => true) true n t [c] = some y) : ∃ z, c = .int k z ∧ (Lit.int k z).wf = true := by
  obtain ⟨a, e0, _, wa⟩ := DataW.trod_int ht h
  simp at e0
  exact ⟨a, e0, wa⟩
theorem open_bool_cell {H : Type} {enc : TypeId × Value → H} {P : Program} {W : World} {t : TypeId} {n : Nat} {c : Value} {y : DataW H × List MemPlace} (ht : P.underlying t = some .bool)
    (h : DataW.trod enc P W 0 (fun _ => true) true n t [c] = some y) : ∃ z, c = .bool z := by
  obtain ⟨a, e0, _⟩ := DataW.trod_bool ht h
  simp at e0
  exact ⟨a, e0⟩
theorem open_string_cell {H : Type} {enc : TypeId × Value → H} {P : Program} {W : World} {t : TypeId} {n : Nat} {c : Value} {y : DataW H × List MemPlace} (ht : P.underlying t = some .string)
    (h : DataW.trod enc P W 0 (fun _ => true) true n t [c] = some y) : ∃ l : List UInt8, c = .string ⟨l.toArray⟩ ∧ l.length ≤ maxLen := by
  obtain ⟨s, e0, _, hs⟩ := DataW.trod_string ht h
  simp at e0
  exact ⟨s.data.toList, by rw [e0, bs_self], by rw [bs_size]; exact hs⟩
end Go.Proofs.Ytafcbipmmjegcaa
