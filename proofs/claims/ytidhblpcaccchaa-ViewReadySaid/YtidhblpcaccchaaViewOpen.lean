/- Layer 5's laws: their arguments, opened. -/
import Derived.Test.YtidhblpcaccchaaFrame
import Derived.Test.YtidhblpcaccchaaOpen
import Derived.Test.YtidhblpcaccchaaViewVar
namespace Go.Proofs.Ytidhblpcaccchaa
open Go.RowKit Go.ChangeShapes Go.WideShapes Go.ChangeAt
namespace View
theorem bounds_u8 {z : Int} (h : (Lit.int .u8 z).wf = true) : ∃ n : Nat, z = n ∧ n < 256 := by
  have h1 : 0 ≤ z ∧ z ≤ 255 := by
    simp only [Lit.wf, IntKind.min, IntKind.max, IntKind.bits, IntKind.signed] at h
    simp at h
    omega
  exact ⟨z.toNat, by omega, by omega⟩
theorem cellsCmd : Try.prog.cellsOf 36 = 5 := by kernel_rfl
theorem cellsCmdp : 0 < Try.prog.cellsOf 36 := by rw [cellsCmd]; omega
set_option maxRecDepth 100000 in
theorem cmds {H : Type} {enc : TypeId × Value → H} {W : World} {rows : List (List Value)} (h : ∀ row ∈ rows, row.length = Try.prog.cellsOf 36 ∧ ∃ n y, DataW.trod enc Try.prog W 0 (fun _ => true) true n 36 row = some y) :
    ∃ xs : List Cm, rows = xs.map Cm.cells ∧ ∀ x ∈ xs, x.ok :=
  rows_map (rows := rows) Cm.cells (fun x : Cm => x.ok) (fun row hr => by
    obtain ⟨hl, n, y, ht⟩ := h row hr
    have hl1 : row.length = 5 := hl.trans cellsCmd
    obtain ⟨m, hf⟩ := open_fields Try.underlying36 (by kernel_rfl) ht
    match row, hl1 with
    | [c0, c1, c2, c3, c4], _ =>
      obtain ⟨y0, t0⟩ := hf 0 _ c0 rfl rfl
      obtain ⟨y1, t1⟩ := hf 1 _ c1 rfl rfl
      obtain ⟨y2, t2⟩ := hf 2 _ c2 rfl rfl
      obtain ⟨y3, t3⟩ := hf 3 _ c3 rfl rfl
      obtain ⟨y4, t4⟩ := hf 4 _ c4 rfl rfl
      obtain ⟨z0, rfl, w0⟩ := open_int_cell Try.underlying5 t0
      obtain ⟨z1, rfl, w1⟩ := open_int_cell Try.underlying5 t1
      obtain ⟨z2, rfl, w2⟩ := open_int_cell Try.underlying5 t2
      obtain ⟨z3, rfl, w3⟩ := open_int_cell Try.underlying24 t3
      obtain ⟨z4, rfl, w4⟩ := open_int_cell Try.underlying24 t4
      obtain ⟨n0, rfl, b0⟩ := bounds_u8 w0
      obtain ⟨n1, rfl, b1⟩ := bounds_u8 w1
      obtain ⟨n2, rfl, b2⟩ := bounds_u8 w2
      exact ⟨⟨n0, n1, n2, z3, z4⟩, rfl, b0, b1, b2⟩)
end View
end Go.Proofs.Ytidhblpcaccchaa
