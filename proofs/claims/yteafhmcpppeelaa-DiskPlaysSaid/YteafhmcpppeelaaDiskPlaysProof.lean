/-
  talarialaw09.DiskPlays: for every input the law returns true and leaves its argument as it was.
  No condition: every input that can be read.
-/
import Derived.Test.YteafhmcpppeelaaRows
import Derived.Test.YteafhmcpppeelaaFrame
import Derived.Test.YteafhmcpppeelaaDiskPlays
import Derived.Test.YteafhmcpppeelaaOpen
namespace Go.Proofs.Yteafhmcpppeelaa.diskPlays
open Go.RowKit Go.ChangeShapes Go.WideShapes Go.ChangeAt
open Go.ChangeMaps (open_string shut_string)

theorem own : ownKnob Try.prog.godebug = none := by kernel_rfl
theorem laid : laidOutB Try.prog = true := by kernel_rfl
theorem kinds : (Try.f4.params.toList.all fun t => Try.prog.readableRec t && decide (t < Try.prog.types.size)) = true := by kernel_rfl

theorem cellsAct : Try.prog.cellsOf 52 = 3 := by kernel_rfl
theorem cellsActp : 0 < Try.prog.cellsOf 52 := by rw [cellsAct]; omega
set_option maxRecDepth 100000 in
theorem acts {H : Type} {enc : TypeId × Value → H} {W : World} {rows : List (List Value)} (h : ∀ row ∈ rows, row.length = Try.prog.cellsOf 52 ∧ ∃ n y, DataW.trod enc Try.prog W 0 (fun _ => true) true n 52 row = some y) :
    ∃ xs : List DiskPlays.Act, rows = xs.map DiskPlays.Act.cells ∧ ∀ x ∈ xs, (-9223372036854775808 ≤ x.what ∧ x.what ≤ 9223372036854775807) ∧ x.text.length ≤ 9223372036854775807 :=
  rows_map (rows := rows) DiskPlays.Act.cells (fun x : DiskPlays.Act => (-9223372036854775808 ≤ x.what ∧ x.what ≤ 9223372036854775807) ∧ x.text.length ≤ 9223372036854775807) (fun row hr => by
    obtain ⟨hl, n, y, ht⟩ := h row hr
    have hl1 : row.length = 3 := hl.trans cellsAct
    obtain ⟨m, hf⟩ := open_fields Try.underlying52 (by kernel_rfl) ht
    match row, hl1 with
    | [c0, c1, c2], _ =>
      obtain ⟨y0, t0⟩ := hf 0 _ c0 rfl rfl
      obtain ⟨y1, t1⟩ := hf 1 _ c1 rfl rfl
      obtain ⟨y2, t2⟩ := hf 2 _ c2 rfl rfl
      obtain ⟨z0, rfl, w0⟩ := open_int_cell Try.underlying3 t0
      obtain ⟨z1, rfl, w1⟩ := open_int_cell Try.underlying3 t1
      obtain ⟨l, rfl, hm⟩ := open_string_cell Try.underlying9 t2
      have b0 := bounds_i64 w0
      exact ⟨⟨z0, z1, l⟩, rfl, b0, by unfold maxLen at hm; exact hm⟩)
set_option maxRecDepth 100000 in
theorem contract (H : Type) (enc : TypeId × Value → H) (W : World) (base : Nat) (args : Array Value) (ds gs : List (DataW H)) (before : List MemPlace)
    (hval0 : ∀ (j : Nat) t v, Try.f4.params[j]? = some t → args[j]? = some v → Value.okWide Try.prog W .any base t v)
    (hW : DataW.Whole enc Try.prog Try.f4.params.toList Rows.diskPlaysSpec.vars false W args.toList ds gs before) :
    Calls Try.prog 4 args W fun e W' => ∃ v, e = .returned v ∧ Rows.diskPlaysSpec.post enc Try.prog Try.f4 false true false false W args v W' := by
  have hval : ∀ (j : Nat) t v, Try.f4.params[j]? = some t → args[j]? = some v → Value.okWide Try.prog W .any base t v := hval0
  have hW' := hW
  have hlt : ∀ p ∈ before, p.block < W.heap.size := fun p hp => hW.lt p hp
  obtain ⟨p, q, hA0, hV, rfl, hfz, hnd⟩ := hW
  have hA : DataW.TrodAll enc Try.prog W 0 (fun _ => true) true Try.f4.params.toList args.toList ds p := hA0
  clear hnd hfz
  rw [Try.params4] at hA hval
  obtain ⟨v0, vs0, d0, ds0, p0, q0, hargs, rfl, rfl, h0, r0⟩ := trodAll_cons hA
  obtain ⟨rfl, rfl, rfl⟩ := trodAll_nil r0
  obtain rfl : args = #[v0] := by cases args; simp_all
  obtain ⟨rfl, rfl⟩ := trodVars_none hV
  clear hA0 hval0
  simp only [List.append_nil] at hW'
  have fin : ∀ (e : Ending) W', e = .returned (.bool true) ∧ Below W.heap.size W W' → ∃ v, e = .returned v ∧ Rows.diskPlaysSpec.post enc Try.prog Try.f4 false true false false W #[v0] v W' := fun e W' ⟨he, hb⟩ =>
    ⟨_, he, post_law 4 laid kinds rfl (by kernel_rfl) Try.underlying4 hW' hb rfl⟩
  obtain ⟨A, len, cap, rows, rfl, hlen, hcap, hmax, hrows, hread⟩ := open_rows (e := 52) Try.underlying46 cellsActp (hval 0 46 v0 rfl rfl) h0
  obtain ⟨l, rfl, hl⟩ := acts hread
  rw [List.length_map] at hlen
  subst hlen
  rw [cellsAct] at hrows
  exact (DiskPlays.DiskPlays_walk A cap l W hrows hl (by unfold maxLen at hmax; omega)).mono fin

set_option maxRecDepth 100000 in
theorem lifted (os : Os) (started : os.Started) (H : Type) (enc : TypeId × Value → H) :
    ReturnsInHanded {} Try.checked os 4 .any (Rows.diskPlaysSpec.pre6 enc Try.prog Try.f4 Rows.diskPlaysRow.domain false) (Rows.diskPlaysSpec.post enc Try.prog Try.f4 false true false false) := by
  refine returnsInHanded_of_change (C := Try.checked) own started (by kernel_rfl) Try.func4
    (ChangeSpec.witness6 (enc := enc) (C := Try.checked) false ⟨#[], #[.slice none 0 0], []⟩ 8 (by kernel_rfl) (by kernel_rfl) (by kernel_rfl) (by kernel_rfl)) ?_
  intro W base args ds gs before hval0 hW _ _
  exact contract H enc W base args ds gs before hval0 hW

/-- ████ THE STATEMENT ████ -/
theorem proved : Rows.DiskPlaysSaid :=
  OpenClaim.holds_of_wide 4 Try.f4 rfl rfl rfl rfl rfl rfl rfl ⟨rfl, rfl, rfl, rfl, rfl⟩ rfl rfl rfl rfl rfl (by kernel_rfl) Try.func4 (by kernel_rfl)
    (of_decide_eq_true (by kernel_rfl)) (by unfold Func.isWrapper; first | (rw [if_pos (by decide +kernel)]; kernel_rfl) | (rw [if_neg (by decide +kernel)]; exact ⟨rfl, rfl⟩))
    (fun os started H enc _ => lifted os started H enc)
#print axioms proved
end Go.Proofs.Yteafhmcpppeelaa.diskPlays
