/- The document's number in bytes (talariaref01.Num). -/
import Derived.Test.YtaepgceodcdnhaaDoorOctB
import Derived.Test.YtaepgceodcdnhaaDoorBaseB
import Derived.Deep.RegionWith
namespace Go.Proofs.YtaepgceodcdnhaaDoor
open Go.RowKit
namespace Joins
open Oct

/-- a string of one byte that the call has just laid -/
theorem string_one {P : Program} (src e dst : TypeId) (hs : P.underlying src = some (.slice e)) (he : P.underlying e = some (.int .u8)) (hd : P.underlying dst = some .string) (w : World) (m : Nat) :
    (convert src dst (.slice (some ⟨w.heap.size, 0, none⟩) 1 1)).run P (w.alloc (.cells #[.int .u8 ((m : Int) % 256)] e)) = .ok (.string ⟨#[UInt8.ofNat m]⟩) (w.alloc (.cells #[.int .u8 ((m : Int) % 256)] e)) := by
  have h := run_string_u8s (P := P) src e dst hs he hd w.heap.size 1 1 [UInt8.ofNat m] (by simp) e (Blk.new w e (u8s [UInt8.ofNat m]))
  have e1 : u8s [UInt8.ofNat m] = #[Value.int .u8 ((m : Int) % 256)] := by
    have : (UInt8.ofNat m).toNat = m % 256 := by rw [UInt8.toNat_ofNat']
    simp [u8s, this]
  rw [e1] at h
  simpa using h

theorem div_step (n j : Nat) : n / 256 ^ j / 256 = n / 256 ^ (j + 1) := by rw [Nat.div_div_eq_div_mul, Nat.pow_succ]

set_option maxRecDepth 100000 in
set_option maxHeartbeats 1000000 in
theorem RNum (n k : Nat) (w : World) (hk : k ≤ 8) (hn : n < 18446744073709551616) :
    Calls Tryd.prog 66 #[.int .u64 n, .int .i64 k] w fun e w' => e = .returned (.string ⟨(be k n).toArray⟩) ∧ Below w.heap.size w w' := by
  go_enter Tryd.func66, Tryd.ntmps66
  go_wp2
  go_loopg [0, 5, 6] k (fun gk s0 s5 s6 wr => ∃ j m : Nat, j ≤ k ∧ gk = k - j ∧ Hid (m = n / 256 ^ j) ∧ m < 18446744073709551616 ∧ s0 = .int .u64 m ∧ s5 = .string ⟨(be j n).toArray⟩ ∧ s6 = .int .i64 j ∧ Below w.heap.size w wr)
  case atStart => exact ⟨0, n, by omega, by omega, Lib.hid (by simp), hn, rfl, rfl, rfl, Below.refl _ _⟩
  case round =>
    obtain ⟨j, m, hj, rfl, hm, hm8, rfl, rfl, rfl, hB⟩ := hrel
    by_cases hlt : j < k
    · have hcv := string_one (P := Tryd.prog) 67 5 9 Tryd.underlying67 Tryd.underlying5 Tryd.underlying9 wr m
      have HB := Lib.hid (bl_alloc hB (.cells #[.int .u8 ((m : Int) % 256)] 5))
      have hq := Lib.hid (show (m : Int) / 256 = ((m / 256 : Nat) : Int) by omega)
      have hbe := Lib.hid (show (⟨#[UInt8.ofNat m]⟩ : ByteArray) ++ ⟨(be j n).toArray⟩ = ⟨(be (j + 1) n).toArray⟩ by
        rw [be_succ, show (⟨#[UInt8.ofNat m]⟩ : ByteArray) = ⟨[UInt8.ofNat m].toArray⟩ from rfl, bs_cat, hm.out]; rfl)
      have z1 : (⟨#[UInt8.ofNat m]⟩ : ByteArray).size = 1 := rfl
      have z2 : (⟨(be j n).toArray⟩ : ByteArray).size = j := by rw [bs_len, length_be]
      clear hB
      go_wp2_with fail
      go_roundg (k - (j + 1))
      case measure => omega
      case rel => exact ⟨j + 1, m / 256, by omega, rfl, Lib.hid (by rw [hm.out, div_step]), by omega, by rw [hq.out], by rw [hbe.out], by go_num, HB.out⟩
    · obtain rfl : j = k := by omega
      have HB := Lib.hid hB
      clear hB
      go_wp2_with fail
      go_ret
      exact ⟨rfl, HB.out⟩

theorem RNum1 (n : Nat) (w : World) (hn : n < 18446744073709551616) :
    Calls Tryd.prog 66 #[.int .u64 (IntKind.u64.wrap (n : Int)), .int .i64 1] w fun e w' => e = .returned (.string ⟨(be 1 n).toArray⟩) ∧ Below w.heap.size w w' := by
  rw [IntKind.wrap_u64, show (n : Int) % 18446744073709551616 = n from by omega]
  exact RNum n 1 w (by decide) hn

end Joins
end Go.Proofs.YtaepgceodcdnhaaDoor
