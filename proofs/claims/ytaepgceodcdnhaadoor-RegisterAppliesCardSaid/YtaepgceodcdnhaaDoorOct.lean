/- The contracts of layer 1 (octet): what each function returns, and that nothing that was there has turned. -/
import Derived.Test.YtaepgceodcdnhaaDoorOctPure
import Derived.Test.YtaepgceodcdnhaaDoorProg
namespace Go.Proofs.YtaepgceodcdnhaaDoor
open Go.RowKit
namespace Oct

theorem info_u8 : (Tryd.prog.info? 5).map (fun i => (i.zero, i.size, i.bytes)) = some (some (.int .u8 0), 1, 1) := by kernel_rfl

set_option maxHeartbeats 400000 in
theorem Num_any (n size : Int) (w : World) :
    Calls Tryd.prog 56 #[.int .u64 n, .int .i64 size] w fun e w' => e = .returned (.agg #[.int .i64 1, .int .i64 size, .int .u64 n, .string ⟨#[]⟩]) ∧ Below w.heap.size w w' := by
  go_enter Tryd.func56, Tryd.ntmps56
  go_wp2
  exact bodyPost_ret (v := .agg #[.int .i64 1, .int .i64 size, .int .u64 n, .string ⟨#[]⟩]) (by simp [results, Tryd.results56, go_sem]) rfl ⟨rfl, (Below.refl _ _).alloc (Nat.le_refl _) _⟩

set_option maxHeartbeats 400000 in
theorem number_size (n size : Int) (w : World) (h : size < 1 ∨ size > 8) :
    Calls Tryd.prog 83 #[.int .u64 n, .int .i64 size] w fun e w' => e = .returned (.tuple #[.string ⟨#[]⟩, .int .i64 9]) ∧ Below w.heap.size w w' := by
  rcases h with h | h
  · go_enter Tryd.func83, Tryd.ntmps83
    go_wp2
    go_ret2
    exact ⟨rfl, Below.refl _ _⟩
  · have h1 : ¬ size < 1 := by omega
    go_enter Tryd.func83, Tryd.ntmps83
    go_wp2
    go_ret2
    exact ⟨rfl, Below.refl _ _⟩

set_option maxRecDepth 100000 in
set_option maxHeartbeats 400000 in
theorem number_great (n : Int) (k : Nat) (w : World) (h1 : 1 ≤ k) (h7 : k ≤ 7) (hn : (n / 2 ^ (8 * k) != 0) = true) :
    Calls Tryd.prog 83 #[.int .u64 n, .int .i64 k] w fun e w' => e = .returned (.tuple #[.string ⟨#[]⟩, .int .i64 9]) ∧ Below w.heap.size w w' := by
  go_enter Tryd.func83, Tryd.ntmps83
  go_wp2
  go_ret2
  exact ⟨rfl, Below.refl _ _⟩

set_option maxRecDepth 100000 in
set_option maxHeartbeats 400000 in
theorem number_fits (n k : Nat) (w : World) (h1 : 1 ≤ k) (h8 : k ≤ 8) (hn : k ≤ 7 → (((n : Int) / 2 ^ (8 * k) != 0) = false)) :
    Calls Tryd.prog 83 #[.int .u64 n, .int .i64 k] w fun e w' => e = .returned (.tuple #[.string ⟨(be k n).toArray⟩, .int .i64 0]) ∧ Below w.heap.size w w' := by
  obtain ⟨i0, hi, hz0, hz1, hz2⟩ := info_parts info_u8
  have hmk : ∀ u : World, (Instr.makeSlice 67 (.int .i64 (k : Int)) (.int .i64 (k : Int))).run Tryd.prog u =
      .ok (.slice (some ⟨u.heap.size, 0, none⟩) k k) (u.alloc (.cells (u8s (fill k n 0)) 5)) := fun u => by
    have h := run_make (P := Tryd.prog) u 67 5 i0 (.int .u8 0) Tryd.underlying67 hi hz0 .i64 .i64 (k : Int) (k : Int) (by omega) (Int.le_refl _) (by rw [hz2]; omega) (by omega)
    rw [fill_zero, ← madeCells_u8]
    simpa [hz1, Value.cells] using h
  have e8 : ¬ k < 8 ∨ k ≤ 7 ∧ ((n : Int) / 2 ^ (8 * k) != 0) = false := by
    by_cases h : k < 8
    · exact .inr ⟨by omega, hn (by omega)⟩
    · exact .inl h
  clear hn hi hz0 hz1 hz2
  rcases e8 with h7 | ⟨h7, hn'⟩
  all_goals
    go_enter Tryd.func83, Tryd.ntmps83
    go_wp2
    go_loopw [29] (fun i wr => ∃ j : Nat, j ≤ k ∧ i = .int .i64 j ∧ Blk wr w.heap.size 5 (u8s (fill k n j)) ∧ Below w.heap.size w wr) (fun i _ => k - (intOf i).toNat)
    case atStart => exact ⟨0, by omega, rfl, Blk.new _ _ _, (Below.refl _ _).alloc (Nat.le_refl _) _⟩
    case round =>
      obtain ⟨j, hj, rfl, hb, hbelow⟩ := hrel
      by_cases hlt : j < k
      · have hcell : wr.cell? ⟨w.heap.size, k - 1 - j, none⟩ = some (.int .u8 ((fill k n j)[k - 1 - j]'(by rw [length_fill]; omega; omega)).toNat) := by
          rw [hb.cell, getElem?_u8s, List.getElem?_eq_getElem]
          rfl
        have hf := hb.frozen (k - 1 - j)
        go_wp2
        go_roundw
        case rel => exact ⟨j + 1, by omega, by go_num, by rw [byteVal, ← fill_set k n j hlt, ← u8s_set]; exact hb.set_ _ _, hbelow.setCell (Nat.le_refl _) _⟩
        case measure => simp [intOf]; omega
      · have hj' : j = k := by omega
        subst hj'
        have hcv := run_string_u8s (P := Tryd.prog) 67 5 9 Tryd.underlying67 Tryd.underlying5 Tryd.underlying9 w.heap.size j j _ (by rw [length_fill _ _ _ (Nat.le_refl _)]; exact Nat.le_refl _) _ hb
        rw [List.take_of_length_le (by rw [length_fill _ _ _ (Nat.le_refl _)]; exact Nat.le_refl _), fill_full] at hcv
        go_wp2
        go_ret2
        exact ⟨rfl, hbelow⟩
end Oct
end Go.Proofs.YtaepgceodcdnhaaDoor
