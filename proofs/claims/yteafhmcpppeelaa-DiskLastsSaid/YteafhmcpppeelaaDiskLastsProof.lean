/-
  talarialaw09.DiskLasts: for every input the law returns true and leaves its arguments as they were.
  No condition: every input that can be read.
-/
import Derived.Test.YteafhmcpppeelaaRows
import Derived.Test.YteafhmcpppeelaaFrame
import Derived.Test.YteafhmcpppeelaaDiskLasts
import Derived.Test.YteafhmcpppeelaaOpen
namespace Go.Proofs.Yteafhmcpppeelaa.diskLasts
open Go.RowKit Go.ChangeShapes Go.WideShapes Go.ChangeAt
open Go.ChangeMaps (open_string shut_string)

theorem own : ownKnob Try.prog.godebug = none := by kernel_rfl
theorem laid : laidOutB Try.prog = true := by kernel_rfl
theorem kinds : (Try.f5.params.toList.all fun t => Try.prog.readableRec t && decide (t < Try.prog.types.size)) = true := by kernel_rfl

theorem cells9 : Try.prog.cellsOf 9 = 1 := by kernel_rfl
theorem cells1 : 0 < Try.prog.cellsOf 9 := by rw [cells9]; omega
theorem strs {H : Type} {enc : TypeId × Value → H} {W : World} {rows : List (List Value)} (h : ∀ row ∈ rows, row.length = Try.prog.cellsOf 9 ∧ ∃ n y, DataW.trod enc Try.prog W 0 (fun _ => true) true n 9 row = some y) :
    ∃ ss : List (List UInt8), rows = ss.map (fun s => [Value.string ⟨s.toArray⟩]) ∧ ∀ s ∈ ss, s.length ≤ 9223372036854775807 :=
  rows_map (rows := rows) (fun s : List UInt8 => [Value.string ⟨s.toArray⟩]) (fun s : List UInt8 => s.length ≤ 9223372036854775807) (fun row hr => by
    obtain ⟨hl, n, y, ht⟩ := h row hr
    have hl1 : row.length = 1 := hl.trans cells9
    match row, hl1 with
    | [c], _ =>
      obtain ⟨l, rfl, hm⟩ := open_string_cell Try.underlying9 ht
      exact ⟨l, rfl, by unfold maxLen at hm; exact hm⟩)
set_option maxRecDepth 100000 in
theorem contract (H : Type) (enc : TypeId × Value → H) (W : World) (base : Nat) (args : Array Value) (ds gs : List (DataW H)) (before : List MemPlace)
    (hval0 : ∀ (j : Nat) t v, Try.f5.params[j]? = some t → args[j]? = some v → Value.okWide Try.prog W .any base t v)
    (hW : DataW.Whole enc Try.prog Try.f5.params.toList Rows.diskLastsSpec.vars false W args.toList ds gs before) :
    Calls Try.prog 5 args W fun e W' => ∃ v, e = .returned v ∧ Rows.diskLastsSpec.post enc Try.prog Try.f5 false true false false W args v W' := by
  have hval : ∀ (j : Nat) t v, Try.f5.params[j]? = some t → args[j]? = some v → Value.okWide Try.prog W .any base t v := hval0
  have hW' := hW
  have hlt : ∀ p ∈ before, p.block < W.heap.size := fun p hp => hW.lt p hp
  obtain ⟨p, q, hA0, hV, rfl, hfz, hnd⟩ := hW
  have hA : DataW.TrodAll enc Try.prog W 0 (fun _ => true) true Try.f5.params.toList args.toList ds p := hA0
  clear hnd hfz
  rw [Try.params5] at hA hval
  obtain ⟨v0, vs0, d0, ds0, p0, q0, hargs, rfl, rfl, h0, r0⟩ := trodAll_cons hA
  obtain ⟨v1, vs1, d1, ds1, p1, q1, rfl, rfl, rfl, h1, r1⟩ := trodAll_cons r0
  obtain ⟨v2, vs2, d2, ds2, p2, q2, rfl, rfl, rfl, h2, r2⟩ := trodAll_cons r1
  obtain ⟨rfl, rfl, rfl⟩ := trodAll_nil r2
  obtain rfl : args = #[v0, v1, v2] := by cases args; simp_all
  obtain ⟨rfl, rfl⟩ := trodVars_none hV
  clear hA0 hval0
  simp only [List.append_nil] at hW'
  have fin : ∀ (e : Ending) W', e = .returned (.bool true) ∧ Below W.heap.size W W' → ∃ v, e = .returned v ∧ Rows.diskLastsSpec.post enc Try.prog Try.f5 false true false false W #[v0, v1, v2] v W' := fun e W' ⟨he, hb⟩ =>
    ⟨_, he, post_law 4 laid kinds rfl (by kernel_rfl) Try.underlying4 hW' hb rfl⟩
  obtain ⟨A1, len1, cap1, rows1, rfl, hlen1, hcap1, hmax1, hrows1, hread1⟩ := open_rows (e := 9) Try.underlying66 cells1 (hval 0 66 v0 rfl rfl) h0
  obtain ⟨A2, len2, cap2, rows2, rfl, hlen2, hcap2, hmax2, hrows2, hread2⟩ := open_rows (e := 9) Try.underlying66 cells1 (hval 1 66 v1 rfl rfl) h1
  obtain ⟨k, rfl, rfl, rfl, wk⟩ := open_int Try.underlying3 (hval 2 3 v2 rfl rfl) h2
  obtain ⟨s1, rfl, hs1⟩ := strs hread1
  obtain ⟨s2, rfl, hs2⟩ := strs hread2
  rw [List.length_map] at hlen1 hlen2
  subst hlen1 hlen2
  rw [cells9] at hrows1 hrows2
  exact (Disk.DiskLasts_walk A1 A2 cap1 cap2 s1 s2 k W hrows1 hrows2 (by unfold maxLen at hmax1; omega) (by unfold maxLen at hmax2; omega) hs1 hs2).mono fin

set_option maxRecDepth 100000 in
theorem lifted (os : Os) (started : os.Started) (H : Type) (enc : TypeId × Value → H) :
    ReturnsInHanded {} Try.checked os 5 .any (Rows.diskLastsSpec.pre6 enc Try.prog Try.f5 Rows.diskLastsRow.domain false) (Rows.diskLastsSpec.post enc Try.prog Try.f5 false true false false) := by
  refine returnsInHanded_of_change (C := Try.checked) own started (by kernel_rfl) Try.func5
    (ChangeSpec.witness6 (enc := enc) (C := Try.checked) false ⟨#[], #[.slice none 0 0, .slice none 0 0, .int .i64 0], []⟩ 8 (by kernel_rfl) (by kernel_rfl) (by kernel_rfl) (by kernel_rfl)) ?_
  intro W base args ds gs before hval0 hW _ _
  exact contract H enc W base args ds gs before hval0 hW

/-- ████ THE STATEMENT ████ -/
theorem proved : Rows.DiskLastsSaid :=
  OpenClaim.holds_of_wide 5 Try.f5 rfl rfl rfl rfl rfl rfl rfl ⟨rfl, rfl, rfl, rfl, rfl⟩ rfl rfl rfl rfl rfl (by kernel_rfl) Try.func5 (by kernel_rfl)
    (of_decide_eq_true (by kernel_rfl)) (by unfold Func.isWrapper; first | (rw [if_pos (by decide +kernel)]; kernel_rfl) | (rw [if_neg (by decide +kernel)]; exact ⟨rfl, rfl⟩))
    (fun os started H enc _ => lifted os started H enc)
#print axioms proved
end Go.Proofs.Yteafhmcpppeelaa.diskLasts
