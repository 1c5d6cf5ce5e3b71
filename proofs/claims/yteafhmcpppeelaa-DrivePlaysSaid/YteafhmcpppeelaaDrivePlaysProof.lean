/-
  talarialaw18.DrivePlays: for every input the law returns true and leaves its arguments as they were.
  No condition: every input that can be read.
-/
import Derived.Test.YteafhmcpppeelaaRows
import Derived.Test.YteafhmcpppeelaaFrame
import Derived.Test.YteafhmcpppeelaaDrivePlays
import Derived.Test.YteafhmcpppeelaaOpen
namespace Go.Proofs.Yteafhmcpppeelaa.drivePlays
open Go.RowKit Go.ChangeShapes Go.WideShapes Go.ChangeAt
open Go.ChangeMaps (open_string shut_string)

theorem own : ownKnob Try.prog.godebug = none := by kernel_rfl
theorem laid : laidOutB Try.prog = true := by kernel_rfl
theorem kinds : (Try.f3.params.toList.all fun t => Try.prog.readableRec t && decide (t < Try.prog.types.size)) = true := by kernel_rfl

theorem cellsU8 : Try.prog.cellsOf 5 = 1 := by kernel_rfl
theorem cellsU8p : 0 < Try.prog.cellsOf 5 := by rw [cellsU8]; omega
theorem cellsAct : Try.prog.cellsOf 39 = 5 := by kernel_rfl
theorem cellsActp : 0 < Try.prog.cellsOf 39 := by rw [cellsAct]; omega
theorem nums {H : Type} {enc : TypeId × Value → H} {W : World} {rows : List (List Value)} (h : ∀ row ∈ rows, row.length = Try.prog.cellsOf 5 ∧ ∃ n y, DataW.trod enc Try.prog W 0 (fun _ => true) true n 5 row = some y) :
    ∃ xs : List Nat, rows = xs.map (fun x : Nat => [Value.int .u8 (x : Int)]) ∧ ∀ x ∈ xs, x < 256 :=
  rows_map (rows := rows) (fun x : Nat => [Value.int .u8 (x : Int)]) (fun x : Nat => x < 256) (fun row hr => by
    obtain ⟨hl, n, y, ht⟩ := h row hr
    have hl1 : row.length = 1 := hl.trans cellsU8
    match row, hl1 with
    | [c], _ =>
      obtain ⟨z, rfl, wz⟩ := open_int_cell Try.underlying5 ht
      have hz := bounds_u8 wz
      exact ⟨z.toNat, by rw [Int.toNat_of_nonneg hz.1], by omega⟩)
set_option maxRecDepth 100000 in
theorem acts {H : Type} {enc : TypeId × Value → H} {W : World} {rows : List (List Value)} (h : ∀ row ∈ rows, row.length = Try.prog.cellsOf 39 ∧ ∃ n y, DataW.trod enc Try.prog W 0 (fun _ => true) true n 39 row = some y) :
    ∃ xs : List Drive.Act, rows = xs.map Drive.Act.cells ∧ ∀ x ∈ xs, RowsAt W W.heap.size 1 x.A (x.others.map fun y : Nat => [.int .u8 (y : Int)]) ∧ x.what < 256 ∧ x.node < 256 ∧ (∀ y ∈ x.others, y < 256) ∧ x.others.length ≤ 9223372036854775807 ∧ x.others.length ≤ x.c :=
  rows_map (rows := rows) Drive.Act.cells (fun x : Drive.Act => RowsAt W W.heap.size 1 x.A (x.others.map fun y : Nat => [.int .u8 (y : Int)]) ∧ x.what < 256 ∧ x.node < 256 ∧ (∀ y ∈ x.others, y < 256) ∧ x.others.length ≤ 9223372036854775807 ∧ x.others.length ≤ x.c) (fun row hr => by
    obtain ⟨hl, n, y, ht⟩ := h row hr
    have hl1 : row.length = 5 := hl.trans cellsAct
    obtain ⟨m, hf⟩ := open_fields Try.underlying39 (by kernel_rfl) ht
    match row, hl1 with
    | [c0, c1, c2, c3, c4], _ =>
      obtain ⟨y0, t0⟩ := hf 0 _ c0 rfl rfl
      obtain ⟨y1, t1⟩ := hf 1 _ c1 rfl rfl
      obtain ⟨y2, t2⟩ := hf 2 _ c2 rfl rfl
      obtain ⟨y3, t3⟩ := hf 3 _ c3 rfl rfl
      obtain ⟨y4, t4⟩ := hf 4 _ c4 rfl rfl
      obtain ⟨z0, rfl, w0⟩ := open_int_cell Try.underlying5 t0
      obtain ⟨z1, rfl, w1⟩ := open_int_cell Try.underlying5 t1
      obtain ⟨z2, rfl⟩ := open_bool_cell Try.underlying4 t2
      obtain ⟨z3, rfl, w3⟩ := open_int_cell Try.underlying3 t3
      obtain ⟨A, len, cap, rows, rfl, hlen, hcap, hmax, hrows, hread⟩ := open_rows_cell (e := 5) Try.underlying37 cellsU8p t4
      obtain ⟨xs, rfl, hxs⟩ := nums hread
      rw [List.length_map] at hlen
      subst hlen
      rw [cellsU8] at hrows
      have b0 := bounds_u8 w0
      have b1 := bounds_u8 w1
      exact ⟨⟨z0.toNat, z1.toNat, z2, z3, A, cap, xs⟩, by simp [Drive.Act.cells, Int.toNat_of_nonneg b0.1, Int.toNat_of_nonneg b1.1], hrows, by show z0.toNat < 256; omega, by show z1.toNat < 256; omega, hxs, by unfold maxLen at hmax; show xs.length ≤ _; omega, hcap⟩)
set_option maxRecDepth 100000 in
theorem contract (H : Type) (enc : TypeId × Value → H) (W : World) (base : Nat) (args : Array Value) (ds gs : List (DataW H)) (before : List MemPlace)
    (hval0 : ∀ (j : Nat) t v, Try.f3.params[j]? = some t → args[j]? = some v → Value.okWide Try.prog W .any base t v)
    (hW : DataW.Whole enc Try.prog Try.f3.params.toList Rows.drivePlaysSpec.vars false W args.toList ds gs before) :
    Calls Try.prog 3 args W fun e W' => ∃ v, e = .returned v ∧ Rows.drivePlaysSpec.post enc Try.prog Try.f3 false true false false W args v W' := by
  have hval : ∀ (j : Nat) t v, Try.f3.params[j]? = some t → args[j]? = some v → Value.okWide Try.prog W .any base t v := hval0
  have hW' := hW
  have hlt : ∀ p ∈ before, p.block < W.heap.size := fun p hp => hW.lt p hp
  obtain ⟨p, q, hA0, hV, rfl, hfz, hnd⟩ := hW
  have hA : DataW.TrodAll enc Try.prog W 0 (fun _ => true) true Try.f3.params.toList args.toList ds p := hA0
  clear hnd hfz
  rw [Try.params3] at hA hval
  obtain ⟨v0, vs0, d0, ds0, p0, q0, hargs, rfl, rfl, h0, r0⟩ := trodAll_cons hA
  obtain ⟨v1, vs1, d1, ds1, p1, q1, rfl, rfl, rfl, h1, r1⟩ := trodAll_cons r0
  obtain ⟨v2, vs2, d2, ds2, p2, q2, rfl, rfl, rfl, h2, r2⟩ := trodAll_cons r1
  obtain ⟨rfl, rfl, rfl⟩ := trodAll_nil r2
  obtain rfl : args = #[v0, v1, v2] := by cases args; simp_all
  obtain ⟨rfl, rfl⟩ := trodVars_none hV
  clear hA0 hval0
  simp only [List.append_nil] at hW'
  have fin : ∀ (e : Ending) W', e = .returned (.bool true) ∧ Below W.heap.size W W' → ∃ v, e = .returned v ∧ Rows.drivePlaysSpec.post enc Try.prog Try.f3 false true false false W #[v0, v1, v2] v W' := fun e W' ⟨he, hb⟩ =>
    ⟨_, he, post_law 4 laid kinds rfl (by kernel_rfl) Try.underlying4 hW' hb rfl⟩
  obtain ⟨n, rfl, rfl, rfl, wn⟩ := open_int Try.underlying22 (hval 0 22 v0 rfl rfl) h0
  obtain ⟨o, rfl, rfl, rfl⟩ := open_bool Try.underlying4 (hval 1 4 v1 rfl rfl) h1
  obtain ⟨A, len, cap, rows, rfl, hlen, hcap, hmax, hrows, hread⟩ := open_rows (e := 39) Try.underlying23 cellsActp (hval 2 23 v2 rfl rfl) h2
  obtain ⟨l, rfl, hl⟩ := acts hread
  rw [List.length_map] at hlen
  subst hlen
  rw [cellsAct] at hrows
  have hn := bounds_u32 wn
  obtain ⟨n, rfl⟩ := Int.eq_ofNat_of_zero_le hn.1
  exact (Drive.DrivePlays_walk n o A cap l W hrows (fun x hx => (hl x hx).1) (fun x hx => (hl x hx).2) (by unfold maxLen at hmax; omega)).mono fin

set_option maxRecDepth 100000 in
theorem lifted (os : Os) (started : os.Started) (H : Type) (enc : TypeId × Value → H) :
    ReturnsInHanded {} Try.checked os 3 .any (Rows.drivePlaysSpec.pre6 enc Try.prog Try.f3 Rows.drivePlaysRow.domain false) (Rows.drivePlaysSpec.post enc Try.prog Try.f3 false true false false) := by
  refine returnsInHanded_of_change (C := Try.checked) own started (by kernel_rfl) Try.func3
    (ChangeSpec.witness6 (enc := enc) (C := Try.checked) false ⟨#[], #[.int .u32 0, .bool false, .slice none 0 0], []⟩ 8 (by kernel_rfl) (by kernel_rfl) (by kernel_rfl) (by kernel_rfl)) ?_
  intro W base args ds gs before hval0 hW _ _
  exact contract H enc W base args ds gs before hval0 hW

/-- ████ THE STATEMENT ████ -/
theorem proved : Rows.DrivePlaysSaid :=
  OpenClaim.holds_of_wide 3 Try.f3 rfl rfl rfl rfl rfl rfl rfl ⟨rfl, rfl, rfl, rfl, rfl⟩ rfl rfl rfl rfl rfl (by kernel_rfl) Try.func3 (by kernel_rfl)
    (of_decide_eq_true (by kernel_rfl)) (by unfold Func.isWrapper; first | (rw [if_pos (by decide +kernel)]; kernel_rfl) | (rw [if_neg (by decide +kernel)]; exact ⟨rfl, rfl⟩))
    (fun os started H enc _ => lifted os started H enc)
#print axioms proved
end Go.Proofs.Yteafhmcpppeelaa.drivePlays
