/-
  talarialaw01.OctetJoins: for every input the law returns true and leaves its arguments as they were.
  No condition: every input that can be read.
-/
import Derived.Test.YteafhmcpppeelaaRows
import Derived.Test.YteafhmcpppeelaaFrame
import Derived.Test.YteafhmcpppeelaaOctJoins
import Derived.Test.YteafhmcpppeelaaOpen
namespace Go.Proofs.Yteafhmcpppeelaa.octetJoins
open Go.RowKit Go.ChangeShapes Go.WideShapes Go.ChangeAt
open Go.ChangeMaps (open_string shut_string)

theorem own : ownKnob Try.prog.godebug = none := by kernel_rfl
theorem laid : laidOutB Try.prog = true := by kernel_rfl
theorem kinds : (Try.f8.params.toList.all fun t => Try.prog.readableRec t && decide (t < Try.prog.types.size)) = true := by kernel_rfl

theorem cells4 : Try.prog.cellsOf 87 = 4 := by kernel_rfl
theorem cells4p : 0 < Try.prog.cellsOf 87 := by rw [cells4]; omega
set_option maxRecDepth 100000 in
theorem parts {H : Type} {enc : TypeId × Value → H} {W : World} {rows : List (List Value)} (h : ∀ row ∈ rows, row.length = Try.prog.cellsOf 87 ∧ ∃ n y, DataW.trod enc Try.prog W 0 (fun _ => true) true n 87 row = some y) :
    ∃ xs : List Oct.Part, rows = xs.map Oct.Part.cells ∧ ∀ x ∈ xs, x.n < 18446744073709551616 ∧ x.s.size ≤ 9223372036854775807 :=
  rows_map (rows := rows) Oct.Part.cells (fun x : Oct.Part => x.n < 18446744073709551616 ∧ x.s.size ≤ 9223372036854775807) (fun row hr => by
    obtain ⟨hl, n, y, ht⟩ := h row hr
    have hl1 : row.length = 4 := hl.trans cells4
    obtain ⟨m, hf⟩ := open_fields Try.underlying87 (by kernel_rfl) ht
    match row, hl1 with
    | [c0, c1, c2, c3], _ =>
      obtain ⟨y0, t0⟩ := hf 0 _ c0 rfl rfl
      obtain ⟨y1, t1⟩ := hf 1 _ c1 rfl rfl
      obtain ⟨y2, t2⟩ := hf 2 _ c2 rfl rfl
      obtain ⟨y3, t3⟩ := hf 3 _ c3 rfl rfl
      obtain ⟨z0, rfl, w0⟩ := open_int_cell Try.underlying3 t0
      obtain ⟨z1, rfl, w1⟩ := open_int_cell Try.underlying3 t1
      obtain ⟨z2, rfl, w2⟩ := open_int_cell Try.underlying68 t2
      obtain ⟨s, rfl, hs⟩ := open_string_cell Try.underlying9 t3
      have b2 := bounds_u64 w2
      exact ⟨⟨z0, z1, z2.toNat, ⟨s.toArray⟩⟩, by simp [Oct.Part.cells, Int.toNat_of_nonneg b2.1], by show z2.toNat < _; omega, by rw [bs_len]; unfold maxLen at hs; exact hs⟩)
set_option maxRecDepth 100000 in
theorem contract (H : Type) (enc : TypeId × Value → H) (W : World) (base : Nat) (args : Array Value) (ds gs : List (DataW H)) (before : List MemPlace)
    (hval0 : ∀ (j : Nat) t v, Try.f8.params[j]? = some t → args[j]? = some v → Value.okWide Try.prog W .any base t v)
    (hW : DataW.Whole enc Try.prog Try.f8.params.toList Rows.octetJoinsSpec.vars false W args.toList ds gs before) :
    Calls Try.prog 8 args W fun e W' => ∃ v, e = .returned v ∧ Rows.octetJoinsSpec.post enc Try.prog Try.f8 false true false false W args v W' := by
  have hval : ∀ (j : Nat) t v, Try.f8.params[j]? = some t → args[j]? = some v → Value.okWide Try.prog W .any base t v := hval0
  have hW' := hW
  have hlt : ∀ p ∈ before, p.block < W.heap.size := fun p hp => hW.lt p hp
  obtain ⟨p, q, hA0, hV, rfl, hfz, hnd⟩ := hW
  have hA : DataW.TrodAll enc Try.prog W 0 (fun _ => true) true Try.f8.params.toList args.toList ds p := hA0
  clear hnd hfz
  rw [Try.params8] at hA hval
  obtain ⟨v0, vs0, d0, ds0, p0, q0, hargs, rfl, rfl, h0, r0⟩ := trodAll_cons hA
  obtain ⟨rfl, rfl, rfl⟩ := trodAll_nil r0
  obtain rfl : args = #[v0] := by cases args; simp_all
  obtain ⟨rfl, rfl⟩ := trodVars_none hV
  clear hA0 hval0
  simp only [List.append_nil] at hW'
  have fin : ∀ (e : Ending) W', e = .returned (.bool true) ∧ Below W.heap.size W W' → ∃ v, e = .returned v ∧ Rows.octetJoinsSpec.post enc Try.prog Try.f8 false true false false W #[v0] v W' := fun e W' ⟨he, hb⟩ =>
    ⟨_, he, post_law 4 laid kinds rfl (by kernel_rfl) Try.underlying4 hW' hb rfl⟩
  obtain ⟨A, len, cap, rows, rfl, hlen, hcap, hmax, hrows, hread⟩ := open_rows (e := 87) Try.underlying83 cells4p (hval 0 83 v0 rfl rfl) h0
  obtain ⟨l, rfl, hl⟩ := parts hread
  rw [List.length_map] at hlen
  subst hlen
  rw [cells4] at hrows
  exact (Joins.OctetJoins_walk A cap l W hrows hl (by unfold maxLen at hmax; omega)).mono fin

set_option maxRecDepth 100000 in
theorem lifted (os : Os) (started : os.Started) (H : Type) (enc : TypeId × Value → H) :
    ReturnsInHanded {} Try.checked os 8 .any (Rows.octetJoinsSpec.pre6 enc Try.prog Try.f8 Rows.octetJoinsRow.domain false) (Rows.octetJoinsSpec.post enc Try.prog Try.f8 false true false false) := by
  refine returnsInHanded_of_change (C := Try.checked) own started (by kernel_rfl) Try.func8
    (ChangeSpec.witness6 (enc := enc) (C := Try.checked) false ⟨#[], #[.slice none 0 0], []⟩ 8 (by kernel_rfl) (by kernel_rfl) (by kernel_rfl) (by kernel_rfl)) ?_
  intro W base args ds gs before hval0 hW _ _
  exact contract H enc W base args ds gs before hval0 hW

/-- ████ THE STATEMENT ████ -/
theorem proved : Rows.OctetJoinsSaid :=
  OpenClaim.holds_of_wide 8 Try.f8 rfl rfl rfl rfl rfl rfl rfl ⟨rfl, rfl, rfl, rfl, rfl⟩ rfl rfl rfl rfl rfl (by kernel_rfl) Try.func8 (by kernel_rfl)
    (of_decide_eq_true (by kernel_rfl)) (by unfold Func.isWrapper; first | (rw [if_pos (by decide +kernel)]; kernel_rfl) | (rw [if_neg (by decide +kernel)]; exact ⟨rfl, rfl⟩))
    (fun os started H enc _ => lifted os started H enc)
#print axioms proved
end Go.Proofs.Yteafhmcpppeelaa.octetJoins
