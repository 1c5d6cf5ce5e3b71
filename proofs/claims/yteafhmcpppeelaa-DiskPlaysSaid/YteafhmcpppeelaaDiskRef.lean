/- The document's answer for layer 9 (disk): contracts. -/
import Derived.Test.YteafhmcpppeelaaDisk
import Derived.Test.YteafhmcpppeelaaBaseB
import Derived.BigRegion
namespace Go.Proofs.Yteafhmcpppeelaa
open Go.RowKit
namespace DiskRef
/-- a disk of the document, by value -/
def val (L R : List UInt8) (off : Bool) : Value := .agg #[.string ⟨L.toArray⟩, .string ⟨R.toArray⟩, .bool off]

section
variable (L R : List UInt8) (w : World)
set_option maxHeartbeats 400000 in
theorem Append_off (s : ByteArray) : Calls Try.prog 29 #[.agg #[.string ⟨L.toArray⟩, .string ⟨R.toArray⟩, .bool true], .string s] w fun e w' => e = .returned (.tuple #[.agg #[.string ⟨L.toArray⟩, .string ⟨R.toArray⟩, .bool true], .int .i64 10]) ∧ Below w.heap.size w w' := by
  go_enter Try.func29, Try.ntmps29
  go_wp2
  exact bodyPost_ret (v := .tuple #[.agg #[.string ⟨L.toArray⟩, .string ⟨R.toArray⟩, .bool true], .int .i64 10]) (by simp [results, Try.results29, go_sem]) rfl ⟨rfl, ((Below.refl _ _).alloc (Nat.le_refl _) _).alloc (by simp) _⟩
set_option maxHeartbeats 400000 in
theorem Append_full (s : List UInt8) (h1 : L.length + R.length ≤ 1048576) (h2 : s.length ≤ 1048576) (h : 1048576 < L.length + R.length + s.length) :
    Calls Try.prog 29 #[.agg #[.string ⟨L.toArray⟩, .string ⟨R.toArray⟩, .bool false], .string ⟨s.toArray⟩] w fun e w' => e = .returned (.tuple #[.agg #[.string ⟨L.toArray⟩, .string ⟨R.toArray⟩, .bool false], .int .i64 6]) ∧ Below w.heap.size w w' := by
  have hh : (1048576 : Int) < (L.length : Int) + (R.length : Int) + (s.length : Int) := by omega
  go_enter Try.func29, Try.ntmps29
  go_wp2
  exact bodyPost_ret (v := .tuple #[.agg #[.string ⟨L.toArray⟩, .string ⟨R.toArray⟩, .bool false], .int .i64 6]) (by simp [results, Try.results29, go_sem]) rfl ⟨rfl, ((Below.refl _ _).alloc (Nat.le_refl _) _).alloc (by simp) _⟩
set_option maxHeartbeats 400000 in
theorem Append_ok (s : List UInt8) (h1 : L.length + R.length ≤ 1048576) (h2 : s.length ≤ 1048576) (h : L.length + R.length + s.length ≤ 1048576) :
    Calls Try.prog 29 #[.agg #[.string ⟨L.toArray⟩, .string ⟨R.toArray⟩, .bool false], .string ⟨s.toArray⟩] w fun e w' => e = .returned (.tuple #[.agg #[.string ⟨L.toArray⟩, .string ⟨(R ++ s).toArray⟩, .bool false], .int .i64 0]) ∧ Below w.heap.size w w' := by
  have hh : ¬ (1048576 : Int) < (L.length : Int) + (R.length : Int) + (s.length : Int) := by omega
  have xc := bs_cat R s
  go_enter Try.func29, Try.ntmps29
  go_wp2
  exact bodyPost_ret (v := .tuple #[.agg #[.string ⟨L.toArray⟩, .string ⟨(R ++ s).toArray⟩, .bool false], .int .i64 0]) (by simp [results, Try.results29, go_sem]) rfl ⟨rfl, by repeat (first | exact Below.refl _ _ | refine Below.drew ?_ | refine Below.alloc ?_ (by simp) _ | refine Below.alloc ?_ (Nat.le_refl _) _)⟩
set_option maxRecDepth 100000 in
set_option maxHeartbeats 400000 in
theorem Sync_off  :
    Calls Try.prog 21 #[.agg #[.string ⟨L.toArray⟩, .string ⟨R.toArray⟩, .bool true]] w fun e w' => e = .returned (.tuple #[.agg #[.string ⟨L.toArray⟩, .string ⟨R.toArray⟩, .bool true], .int .i64 10]) ∧ Below w.heap.size w w' := by
  go_enter Try.func21, Try.ntmps21
  go_wp2
  exact bodyPost_ret (v := .tuple #[.agg #[.string ⟨L.toArray⟩, .string ⟨R.toArray⟩, .bool true], .int .i64 10]) (by simp [results, Try.results21, go_sem]) rfl ⟨rfl, by repeat (first | exact Below.refl _ _ | refine Below.drew ?_ | refine Below.alloc ?_ (by simp) _ | refine Below.alloc ?_ (Nat.le_refl _) _)⟩
set_option maxRecDepth 100000 in
set_option maxHeartbeats 400000 in
theorem Sync_ok (h1 : L.length + R.length ≤ 1048576)  :
    Calls Try.prog 21 #[.agg #[.string ⟨L.toArray⟩, .string ⟨R.toArray⟩, .bool false]] w fun e w' => e = .returned (.tuple #[.agg #[.string ⟨(L ++ R).toArray⟩, .string ⟨#[]⟩, .bool false], .int .i64 0]) ∧ Below w.heap.size w w' := by
  have xc := bs_cat L R
  go_enter Try.func21, Try.ntmps21
  go_wp2
  exact bodyPost_ret (v := .tuple #[.agg #[.string ⟨(L ++ R).toArray⟩, .string ⟨#[]⟩, .bool false], .int .i64 0]) (by simp [results, Try.results21, go_sem]) rfl ⟨rfl, by repeat (first | exact Below.refl _ _ | refine Below.drew ?_ | refine Below.alloc ?_ (by simp) _ | refine Below.alloc ?_ (Nat.le_refl _) _)⟩
set_option maxRecDepth 100000 in
set_option maxHeartbeats 400000 in
theorem Cut_off (h1 : L.length + R.length ≤ 1048576) (k : Int) :
    Calls Try.prog 23 #[.agg #[.string ⟨L.toArray⟩, .string ⟨R.toArray⟩, .bool true], .int .i64 k] w fun e w' => e = .returned (.tuple #[.agg #[.string ⟨L.toArray⟩, .string ⟨R.toArray⟩, .bool true], .int .i64 10]) ∧ Below w.heap.size w w' := by
  have xc := bs_cat L R
  go_enter Try.func23, Try.ntmps23
  go_wp2
  exact bodyPost_ret (v := .tuple #[.agg #[.string ⟨L.toArray⟩, .string ⟨R.toArray⟩, .bool true], .int .i64 10]) (by simp [results, Try.results23, go_sem]) rfl ⟨rfl, by repeat (first | exact Below.refl _ _ | refine Below.drew ?_ | refine Below.alloc ?_ (by simp) _ | refine Below.alloc ?_ (Nat.le_refl _) _)⟩
set_option maxRecDepth 100000 in
set_option maxHeartbeats 400000 in
theorem Cut_low (h1 : L.length + R.length ≤ 1048576) (k : Int) (h : k < 0) :
    Calls Try.prog 23 #[.agg #[.string ⟨L.toArray⟩, .string ⟨R.toArray⟩, .bool false], .int .i64 k] w fun e w' => e = .returned (.tuple #[.agg #[.string ⟨L.toArray⟩, .string ⟨R.toArray⟩, .bool false], .int .i64 9]) ∧ Below w.heap.size w w' := by
  have xc := bs_cat L R
  go_enter Try.func23, Try.ntmps23
  go_wp2
  exact bodyPost_ret (v := .tuple #[.agg #[.string ⟨L.toArray⟩, .string ⟨R.toArray⟩, .bool false], .int .i64 9]) (by simp [results, Try.results23, go_sem]) rfl ⟨rfl, by repeat (first | exact Below.refl _ _ | refine Below.drew ?_ | refine Below.alloc ?_ (by simp) _ | refine Below.alloc ?_ (Nat.le_refl _) _)⟩
set_option maxRecDepth 100000 in
set_option maxHeartbeats 400000 in
theorem Cut_high (h1 : L.length + R.length ≤ 1048576) (k : Int) (h0 : ¬ k < 0) (h : ((L ++ R).length : Int) < k) :
    Calls Try.prog 23 #[.agg #[.string ⟨L.toArray⟩, .string ⟨R.toArray⟩, .bool false], .int .i64 k] w fun e w' => e = .returned (.tuple #[.agg #[.string ⟨L.toArray⟩, .string ⟨R.toArray⟩, .bool false], .int .i64 9]) ∧ Below w.heap.size w w' := by
  have xc := bs_cat L R
  generalize L ++ R = b at *
  go_enter Try.func23, Try.ntmps23
  go_wp2
  exact bodyPost_ret (v := .tuple #[.agg #[.string ⟨L.toArray⟩, .string ⟨R.toArray⟩, .bool false], .int .i64 9]) (by simp [results, Try.results23, go_sem]) rfl ⟨rfl, by repeat (first | exact Below.refl _ _ | refine Below.drew ?_ | refine Below.alloc ?_ (by simp) _ | refine Below.alloc ?_ (Nat.le_refl _) _)⟩
set_option maxRecDepth 100000 in
set_option maxHeartbeats 400000 in
theorem Cut_ok (h1 : L.length + R.length ≤ 1048576) (k : Nat) (h : k ≤ (L ++ R).length) :
    Calls Try.prog 23 #[.agg #[.string ⟨L.toArray⟩, .string ⟨R.toArray⟩, .bool false], .int .i64 (k : Int)] w fun e w' => e = .returned (.tuple #[.agg #[.string ⟨((L ++ R).take k).toArray⟩, .string ⟨#[]⟩, .bool false], .int .i64 0]) ∧ Below w.heap.size w w' := by
  have xc := bs_cat L R
  have x1 := bs_cut (L ++ R) 0 k
  rw [List.drop_zero] at x1
  rw [List.length_append] at h
  have hA : ¬ (k : Int) < 0 := by omega
  have hB : ¬ (L.length : Int) + (R.length : Int) < (k : Int) := by omega
  go_enter Try.func23, Try.ntmps23
  go_wp2
  exact bodyPost_ret (v := .tuple #[.agg #[.string ⟨((L ++ R).take k).toArray⟩, .string ⟨#[]⟩, .bool false], .int .i64 0]) (by simp [results, Try.results23, go_sem]) rfl ⟨rfl, by repeat (first | exact Below.refl _ _ | refine Below.drew ?_ | refine Below.alloc ?_ (by simp) _ | refine Below.alloc ?_ (Nat.le_refl _) _)⟩
set_option maxRecDepth 100000 in
set_option maxHeartbeats 400000 in
theorem Crash_off (k : Int) :
    Calls Try.prog 25 #[.agg #[.string ⟨L.toArray⟩, .string ⟨R.toArray⟩, .bool true], .int .i64 k] w fun e w' => e = .returned (.agg #[.string ⟨L.toArray⟩, .string ⟨R.toArray⟩, .bool true]) ∧ Below w.heap.size w w' := by
  go_enter Try.func25, Try.ntmps25
  go_wp2
  exact bodyPost_ret (v := .agg #[.string ⟨L.toArray⟩, .string ⟨R.toArray⟩, .bool true]) (by simp [results, Try.results25, go_sem]) rfl ⟨rfl, by repeat (first | exact Below.refl _ _ | refine Below.drew ?_ | refine Below.alloc ?_ (by simp) _ | refine Below.alloc ?_ (Nat.le_refl _) _)⟩
set_option maxRecDepth 100000 in
set_option maxHeartbeats 1000000 in
theorem Crash_on (h1 : L.length + R.length ≤ 1048576) (k : Int) :
    Calls Try.prog 25 #[.agg #[.string ⟨L.toArray⟩, .string ⟨R.toArray⟩, .bool false], .int .i64 k] w fun e w' => e = .returned (.agg #[.string ⟨(L ++ R.take (min k.toNat R.length)).toArray⟩, .string ⟨#[]⟩, .bool true]) ∧ Below w.heap.size w w' := by
  have hk : (k < 0 ∧ min k.toNat R.length = 0) ∨ (¬ k < 0 ∧ (R.length : Int) < k ∧ min k.toNat R.length = R.length) ∨ (¬ k < 0 ∧ ¬ (R.length : Int) < k ∧ min k.toNat R.length = k.toNat) := by omega
  obtain ⟨m, hm⟩ : ∃ m, m = min k.toNat R.length := ⟨_, rfl⟩
  rw [← hm] at hk ⊢
  have hmR : m ≤ R.length := by omega
  have x1 := bs_cut R 0 m
  rw [List.drop_zero] at x1
  have xc := bs_cat L (R.take m)
  have xl := Lib.hid (show (R.take m).length ≤ R.length by rw [List.length_take]; omega)
  clear hm
  rcases hk with ⟨h3, rfl⟩ | ⟨h3, h4, rfl⟩ | ⟨h3, h4, hm⟩
  · go_enter Try.func25, Try.ntmps25
    go_wp2
    go_region
    go_wp2
    exact bodyPost_ret (v := .agg #[.string ⟨(L).toArray⟩, .string ⟨#[]⟩, .bool true]) (by simp [results, Try.results25, go_sem]) rfl ⟨by rw [List.take_zero, List.append_nil], by repeat (first | exact Below.refl _ _ | refine Below.drew ?_ | refine Below.alloc ?_ (by simp) _ | refine Below.alloc ?_ (Nat.le_refl _) _)⟩
  · rw [List.take_length] at x1 xc
    go_enter Try.func25, Try.ntmps25
    go_wp2
    go_region
    go_wp2
    exact bodyPost_ret (v := .agg #[.string ⟨(L ++ R).toArray⟩, .string ⟨#[]⟩, .bool true]) (by simp [results, Try.results25, go_sem]) rfl ⟨by rw [List.take_length], by repeat (first | exact Below.refl _ _ | refine Below.drew ?_ | refine Below.alloc ?_ (by simp) _ | refine Below.alloc ?_ (Nat.le_refl _) _)⟩
  · obtain rfl : k = (m : Int) := by omega
    clear hm
    go_enter Try.func25, Try.ntmps25
    go_wp2
    go_region
    go_wp2
    exact bodyPost_ret (v := .agg #[.string ⟨(L ++ R.take m).toArray⟩, .string ⟨#[]⟩, .bool true]) (by simp [results, Try.results25, go_sem]) rfl ⟨rfl, by repeat (first | exact Below.refl _ _ | refine Below.drew ?_ | refine Below.alloc ?_ (by simp) _ | refine Below.alloc ?_ (Nat.le_refl _) _)⟩
end
end DiskRef
end Go.Proofs.Yteafhmcpppeelaa
