/- The contracts of layer 9 (disk). -/
import Derived.Test.YteafhmcpppeelaaBase
import Derived.Test.YteafhmcpppeelaaProg
import Derived.Deep.QuietTactic
import Derived.BigQuiet
import Derived.StillTailTactics
namespace Go.Proofs.Yteafhmcpppeelaa
open Go.RowKit
namespace Disk

/-- A disk: its bytes, how many last, is it off? -/
def Dk (w : World) (g : Nat) (b : List UInt8) (lasts : Int) (off : Bool) : Prop := Blk w g 98 #[.string ⟨b.toArray⟩, .int .i64 lasts, .bool off]

set_option maxHeartbeats 400000 in
theorem New_any (w : World) :
    Calls Try.prog 19 #[] w fun e w' => e = .returned (.pointer (some ⟨w.heap.size, 0, none⟩)) ∧ Dk w' w.heap.size [] 0 false ∧ Below w.heap.size w w' ∧ w'.heap.size = w.heap.size + 1 := by
  go_enter Try.func19, Try.ntmps19
  go_wp2
  go_ret
  exact ⟨rfl, Blk.new _ _ _, (Below.refl _ _).alloc (Nat.le_refl _) _, by simp⟩

section nil_
variable (w : World)
set_option maxHeartbeats 400000 in
theorem ready_nil : Calls Try.prog 44 #[.pointer none] w fun e w' => e = .returned (.int .i64 1) ∧ w = w' := by
  go_enter Try.func44, Try.ntmps44
  go_wp2
  go_ret
  exact ⟨rfl, rfl⟩
end nil_

set_option maxHeartbeats 400000 in
theorem ready_off (g : Nat) (b : List UInt8) (n : Int) (w : World) (h : Dk w g b n true) :
    Calls Try.prog 44 #[.pointer (some ⟨g, 0, none⟩)] w fun e w' => e = .returned (.int .i64 10) ∧ w = w' := by
  have c2 := h.cell 2
  simp at c2
  clear h
  go_enter Try.func44, Try.ntmps44
  go_wp2
  go_ret
  exact ⟨rfl, rfl⟩
set_option maxHeartbeats 400000 in
theorem ready_on (g : Nat) (b : List UInt8) (n : Int) (w : World) (h : Dk w g b n false) :
    Calls Try.prog 44 #[.pointer (some ⟨g, 0, none⟩)] w fun e w' => e = .returned (.int .i64 0) ∧ w = w' := by
  have c2 := h.cell 2
  simp at c2
  clear h
  go_enter Try.func44, Try.ntmps44
  go_wp2
  go_ret
  exact ⟨rfl, rfl⟩

/-! ### No disk, or no power -/
set_option maxHeartbeats 400000 in
theorem Append_nil (s : ByteArray) (w : World) : Calls Try.prog 28 #[.pointer none, .string s] w fun e w' => e = .returned (.int .i64 1) ∧ w = w' := by
  go_enter Try.func28, Try.ntmps28
  go_wp2_with (go_at_call 44; refine (ready_nil _).mono ?_; rintro e w1 ⟨rfl, rfl⟩)
  go_ret
  exact ⟨rfl, rfl⟩
set_option maxHeartbeats 400000 in
theorem Append_off (g : Nat) (b : List UInt8) (n : Int) (s : ByteArray) (w : World) (h : Dk w g b n true) :
    Calls Try.prog 28 #[.pointer (some ⟨g, 0, none⟩), .string s] w fun e w' => e = .returned (.int .i64 10) ∧ w = w' := by
  go_enter Try.func28, Try.ntmps28
  go_wp2_with (go_at_call 44; refine (ready_off _ _ _ _ h).mono ?_; rintro e w1 ⟨rfl, rfl⟩)
  go_ret
  exact ⟨rfl, rfl⟩
set_option maxHeartbeats 400000 in
theorem Append_full (g : Nat) (b : List UInt8) (n : Int) (s : ByteArray) (w : World) (h : Dk w g b n false) (hb : b.length ≤ 1048576) (hs : (1048576 : Int) - b.length < s.size) :
    Calls Try.prog 28 #[.pointer (some ⟨g, 0, none⟩), .string s] w fun e w' => e = .returned (.int .i64 6) ∧ w = w' := by
  have c0 := h.cell 0
  simp at c0
  go_enter Try.func28, Try.ntmps28
  go_wp2_with (go_at_call 44; refine (ready_on _ _ _ _ h).mono ?_; rintro e w1 ⟨rfl, rfl⟩)
  go_ret
  exact ⟨rfl, rfl⟩
set_option maxHeartbeats 400000 in
theorem Append_ok (g : Nat) (b s : List UInt8) (n : Int) (w : World) (h : Dk w g b n false) (hb : b.length ≤ 1048576) (hs : ¬ (1048576 : Int) - b.length < s.length) :
    Calls Try.prog 28 #[.pointer (some ⟨g, 0, none⟩), .string ⟨s.toArray⟩] w fun e w' => e = .returned (.int .i64 0) ∧ Dk w' g (b ++ s) n false ∧ Fr (· = g) w w' := by
  have c0 := h.cell 0
  have f0 := h.frozen 0
  simp at c0
  have H := Lib.hid h
  clear h
  go_enter Try.func28, Try.ntmps28
  go_wp2_with (go_at_call 44; refine (ready_on _ _ _ _ H.out).mono ?_; rintro e w1 ⟨rfl, rfl⟩)
  go_ret
  refine ⟨rfl, ?_, (Fr.refl _ _).own _ _⟩
  rw [bs_cat]
  exact H.out.set_ 0 _

set_option maxHeartbeats 400000 in
theorem Sync_nil (w : World) : Calls Try.prog 20 #[.pointer none] w fun e w' => e = .returned (.int .i64 1) ∧ w = w' := by
  go_enter Try.func20, Try.ntmps20
  go_wp2_with (go_at_call 44; refine (ready_nil _).mono ?_; rintro e w1 ⟨rfl, rfl⟩)
  go_ret
  exact ⟨rfl, rfl⟩
set_option maxHeartbeats 400000 in
theorem Sync_off (g : Nat) (b : List UInt8) (n : Int) (w : World) (h : Dk w g b n true) :
    Calls Try.prog 20 #[.pointer (some ⟨g, 0, none⟩)] w fun e w' => e = .returned (.int .i64 10) ∧ w = w' := by
  go_enter Try.func20, Try.ntmps20
  go_wp2_with (go_at_call 44; refine (ready_off _ _ _ _ h).mono ?_; rintro e w1 ⟨rfl, rfl⟩)
  go_ret
  exact ⟨rfl, rfl⟩
set_option maxHeartbeats 400000 in
theorem Sync_ok (g : Nat) (b : List UInt8) (n : Int) (w : World) (h : Dk w g b n false) :
    Calls Try.prog 20 #[.pointer (some ⟨g, 0, none⟩)] w fun e w' => e = .returned (.int .i64 0) ∧ Dk w' g b b.length false ∧ Fr (· = g) w w' := by
  have c0 := h.cell 0
  have c1 := h.cell 1
  have f1 := h.frozen 1
  simp at c0 c1
  have H := Lib.hid h
  clear h
  go_enter Try.func20, Try.ntmps20
  go_wp2_with (go_at_call 44; refine (ready_on _ _ _ _ H.out).mono ?_; rintro e w1 ⟨rfl, rfl⟩)
  go_ret
  exact ⟨rfl, H.out.set_ 1 _, (Fr.refl _ _).own _ _⟩

set_option maxHeartbeats 400000 in
theorem keep_any (g : Nat) (b : List UInt8) (n : Int) (off : Bool) (k : Nat) (w : World) (h : Dk w g b n off) (hk : k ≤ b.length) :
    Calls Try.prog 45 #[.pointer (some ⟨g, 0, none⟩), .int .i64 k] w fun e w' => e = .returned (.tuple #[]) ∧ Dk w' g (b.take k) k off ∧ Fr (· = g) w w' := by
  have c0 := h.cell 0
  have c1 := h.cell 1
  have f0 := h.frozen 0
  have f1 := h.frozen 1
  simp at c0 c1
  have H := Lib.hid h
  have x1 := bs_cut b 0 k
  rw [List.drop_zero] at x1
  clear h
  go_enter Try.func45, Try.ntmps45
  go_wp2
  go_end0
  exact ⟨rfl, (H.out.set_ 0 _).set_ 1 _, ((Fr.refl _ _).own _ _).own _ _⟩

set_option maxHeartbeats 400000 in
theorem Cut_nil (n : Int) (w : World) : Calls Try.prog 22 #[.pointer none, .int .i64 n] w fun e w' => e = .returned (.int .i64 1) ∧ w = w' := by
  go_enter Try.func22, Try.ntmps22
  go_wp2_with (go_at_call 44; refine (ready_nil _).mono ?_; rintro e w1 ⟨rfl, rfl⟩)
  go_ret
  exact ⟨rfl, rfl⟩
set_option maxHeartbeats 400000 in
theorem Cut_off (g : Nat) (b : List UInt8) (n k : Int) (w : World) (h : Dk w g b n true) :
    Calls Try.prog 22 #[.pointer (some ⟨g, 0, none⟩), .int .i64 k] w fun e w' => e = .returned (.int .i64 10) ∧ w = w' := by
  go_enter Try.func22, Try.ntmps22
  go_wp2_with (go_at_call 44; refine (ready_off _ _ _ _ h).mono ?_; rintro e w1 ⟨rfl, rfl⟩)
  go_ret
  exact ⟨rfl, rfl⟩
set_option maxHeartbeats 400000 in
theorem Cut_range (g : Nat) (b : List UInt8) (n k : Int) (w : World) (h : Dk w g b n false) (hk : k < 0 ∨ (b.length : Int) < k) :
    Calls Try.prog 22 #[.pointer (some ⟨g, 0, none⟩), .int .i64 k] w fun e w' => e = .returned (.int .i64 9) ∧ w = w' := by
  have c0 := h.cell 0
  simp at c0
  rcases hk with hk | hk
  · go_enter Try.func22, Try.ntmps22
    go_wp2_with (go_at_call 44; refine (ready_on _ _ _ _ h).mono ?_; rintro e w1 ⟨rfl, rfl⟩)
    go_ret
    exact ⟨rfl, rfl⟩
  · have hk0 : ¬ k < 0 := by omega
    go_enter Try.func22, Try.ntmps22
    go_wp2_with (go_at_call 44; refine (ready_on _ _ _ _ h).mono ?_; rintro e w1 ⟨rfl, rfl⟩)
    go_ret
    exact ⟨rfl, rfl⟩
set_option maxHeartbeats 400000 in
theorem Cut_ok (g : Nat) (b : List UInt8) (n : Int) (k : Nat) (w : World) (h : Dk w g b n false) (hk : k ≤ b.length) :
    Calls Try.prog 22 #[.pointer (some ⟨g, 0, none⟩), .int .i64 k] w fun e w' => e = .returned (.int .i64 0) ∧ Dk w' g (b.take k) k false ∧ Fr (· = g) w w' := by
  have c0 := h.cell 0
  simp at c0
  have H := Lib.hid h
  have hk0 : ¬ (k : Int) < 0 := by omega
  clear h
  go_enter Try.func22, Try.ntmps22
  go_wp2_with (first
    | (go_at_call 44; refine (ready_on _ _ _ _ H.out).mono ?_; rintro e w1 ⟨rfl, rfl⟩)
    | (go_at_call 45; refine (keep_any _ _ _ _ _ _ H.out hk).mono ?_; rintro e w1 ⟨rfl, hd, hf⟩))
  go_ret
  exact ⟨rfl, hd, hf⟩

set_option maxHeartbeats 400000 in
theorem Read_nil (w : World) : Calls Try.prog 30 #[.pointer none] w fun e w' => e = .returned (.tuple #[.string ⟨#[]⟩, .int .i64 1]) ∧ w = w' := by
  go_enter Try.func30, Try.ntmps30
  go_wp2_with (go_at_call 44; refine (ready_nil _).mono ?_; rintro e w1 ⟨rfl, rfl⟩)
  go_ret2
  exact ⟨rfl, rfl⟩
set_option maxHeartbeats 400000 in
theorem Read_off (g : Nat) (b : List UInt8) (n : Int) (w : World) (h : Dk w g b n true) :
    Calls Try.prog 30 #[.pointer (some ⟨g, 0, none⟩)] w fun e w' => e = .returned (.tuple #[.string ⟨#[]⟩, .int .i64 10]) ∧ w = w' := by
  go_enter Try.func30, Try.ntmps30
  go_wp2_with (go_at_call 44; refine (ready_off _ _ _ _ h).mono ?_; rintro e w1 ⟨rfl, rfl⟩)
  go_ret2
  exact ⟨rfl, rfl⟩
set_option maxHeartbeats 400000 in
theorem Read_ok (g : Nat) (b : List UInt8) (n : Int) (w : World) (h : Dk w g b n false) :
    Calls Try.prog 30 #[.pointer (some ⟨g, 0, none⟩)] w fun e w' => e = .returned (.tuple #[.string ⟨b.toArray⟩, .int .i64 0]) ∧ w = w' := by
  have c0 := h.cell 0
  simp at c0
  go_enter Try.func30, Try.ntmps30
  go_wp2_with (go_at_call 44; refine (ready_on _ _ _ _ h).mono ?_; rintro e w1 ⟨rfl, rfl⟩)
  go_ret2
  exact ⟨rfl, rfl⟩

set_option maxHeartbeats 400000 in
theorem On_nil (w : World) : Calls Try.prog 31 #[.pointer none] w fun e w' => e = .returned (.bool false) ∧ w = w' := by
  go_enter Try.func31, Try.ntmps31
  go_wp2_with (go_at_call 44; refine (ready_nil _).mono ?_; rintro e w1 ⟨rfl, rfl⟩)
  go_ret
  exact ⟨rfl, rfl⟩
set_option maxHeartbeats 400000 in
theorem On_any (g : Nat) (b : List UInt8) (n : Int) (off : Bool) (w : World) (h : Dk w g b n off) :
    Calls Try.prog 31 #[.pointer (some ⟨g, 0, none⟩)] w fun e w' => e = .returned (.bool !off) ∧ w = w' := by
  cases off
  · go_enter Try.func31, Try.ntmps31
    go_wp2_with (go_at_call 44; refine (ready_on _ _ _ _ h).mono ?_; rintro e w1 ⟨rfl, rfl⟩)
    go_ret
    exact ⟨rfl, rfl⟩
  · go_enter Try.func31, Try.ntmps31
    go_wp2_with (go_at_call 44; refine (ready_off _ _ _ _ h).mono ?_; rintro e w1 ⟨rfl, rfl⟩)
    go_ret
    exact ⟨rfl, rfl⟩

set_option maxHeartbeats 400000 in
theorem Start_nil (w : World) : Calls Try.prog 26 #[.pointer none] w fun e w' => e = .returned (.tuple #[]) ∧ w = w' := by
  go_enter Try.func26, Try.ntmps26
  go_wp2
  go_end0
  exact ⟨rfl, rfl⟩
set_option maxHeartbeats 400000 in
theorem Start_any (g : Nat) (b : List UInt8) (n : Int) (off : Bool) (w : World) (h : Dk w g b n off) :
    Calls Try.prog 26 #[.pointer (some ⟨g, 0, none⟩)] w fun e w' => e = .returned (.tuple #[]) ∧ Dk w' g b n false ∧ Fr (· = g) w w' := by
  have c2 := h.cell 2
  have f2 := h.frozen 2
  simp at c2
  have H := Lib.hid h
  clear h
  go_enter Try.func26, Try.ntmps26
  go_wp2
  go_end0
  exact ⟨rfl, H.out.set_ 2 _, (Fr.refl _ _).own _ _⟩
set_option maxHeartbeats 400000 in
theorem Wipe_nil (w : World) : Calls Try.prog 27 #[.pointer none] w fun e w' => e = .returned (.tuple #[]) ∧ w = w' := by
  go_enter Try.func27, Try.ntmps27
  go_wp2
  go_end0
  exact ⟨rfl, rfl⟩
set_option maxHeartbeats 400000 in
theorem Wipe_any (g : Nat) (b : List UInt8) (n : Int) (off : Bool) (w : World) (h : Dk w g b n off) :
    Calls Try.prog 27 #[.pointer (some ⟨g, 0, none⟩)] w fun e w' => e = .returned (.tuple #[]) ∧ Dk w' g [] 0 off ∧ Fr (· = g) w w' := by
  have H := Lib.hid (keep_any g b n off 0 w h (by omega))
  clear h
  go_enter Try.func27, Try.ntmps27
  go_wp2_with (go_at_call 45; refine H.out.mono ?_; rintro e w1 ⟨rfl, hd, hf⟩)
  go_end0
  exact ⟨rfl, hd, hf⟩

set_option maxHeartbeats 400000 in
theorem Crash_nil (k : Int) (w : World) : Calls Try.prog 24 #[.pointer none, .int .i64 k] w fun e w' => e = .returned (.tuple #[]) ∧ w = w' := by
  go_enter Try.func24, Try.ntmps24
  go_wp2_with (go_at_call 44; refine (ready_nil _).mono ?_; rintro e w1 ⟨rfl, rfl⟩)
  refine bodyPost_ret (results_none rfl _ _ _) rfl ?_
  exact ⟨rfl, rfl⟩
set_option maxHeartbeats 400000 in
theorem Crash_off (g : Nat) (b : List UInt8) (n k : Int) (w : World) (h : Dk w g b n true) :
    Calls Try.prog 24 #[.pointer (some ⟨g, 0, none⟩), .int .i64 k] w fun e w' => e = .returned (.tuple #[]) ∧ w = w' := by
  go_enter Try.func24, Try.ntmps24
  go_wp2_with (go_at_call 44; refine (ready_off _ _ _ _ h).mono ?_; rintro e w1 ⟨rfl, rfl⟩)
  refine bodyPost_ret (results_none rfl _ _ _) rfl ?_
  exact ⟨rfl, rfl⟩
/-- how many bytes are there behind a crash -/
def left (len lasts : Nat) (k : Int) : Nat := lasts + min k.toNat (len - lasts)
set_option maxRecDepth 100000 in
set_option maxHeartbeats 1000000 in
theorem Crash_on (g : Nat) (b : List UInt8) (n : Nat) (k : Int) (w : World) (h : Dk w g b n false) (hb : b.length ≤ 1048576) (hn : n ≤ b.length) :
    Calls Try.prog 24 #[.pointer (some ⟨g, 0, none⟩), .int .i64 k] w fun e w' => e = .returned (.tuple #[]) ∧ Dk w' g (b.take (left b.length n k)) (left b.length n k) true ∧ Fr (· = g) w w' := by
  have c0 := h.cell 0
  have c1 := h.cell 1
  simp at c0 c1
  have H := Lib.hid h
  clear h
  go_enter Try.func24, Try.ntmps24
  go_wp2_with (go_at_call 44; refine (ready_on _ _ _ _ H.out).mono ?_; rintro e w1 ⟨rfl, rfl⟩)
  go_still_tail 19, (by kernel_rfl)
  have e1 : IntKind.i64.wrap ((b.length : Int) - (n : Int)) = ((b.length - n : Nat) : Int) := by rw [IntKind.wrap_i64]; omega
  have e2 : IntKind.i64.wrap ((n : Int) + if ((b.length - n : Nat) : Int) < if k < 0 then 0 else k then ((b.length - n : Nat) : Int) else if k < 0 then 0 else k) = ((left b.length n k : Nat) : Int) := by
    unfold left
    rw [IntKind.wrap_i64]
    split <;> split <;> omega
  rw [e1, e2]
  clear e1 e2
  generalize (if ((b.length - n : Nat) : Int) < if k < 0 then 0 else k then ((b.length - n : Nat) : Int) else if k < 0 then 0 else k) = m1
  generalize (if k < 0 then (0 : Int) else k) = m2
  change wpList _ _ _ _ _ w.drew
  have HD := Lib.hid (keep_any g b n false (left b.length n k) w.drew H.out (by unfold left; omega))
  go_wp2_with fail
  refine HD.out.mono ?_; rintro e w1 ⟨rfl, hd, hf⟩
  have c2 := hd.cell 2
  have f2 := hd.frozen 2
  simp at c2
  have HE := Lib.hid hd
  clear hd
  go_wp2_with fail
  go_end0
  exact ⟨rfl, HE.out.set_ 2 _, ((Fr.refl _ _).drew.trans hf).own _ _⟩
end Disk
end Go.Proofs.Yteafhmcpppeelaa
