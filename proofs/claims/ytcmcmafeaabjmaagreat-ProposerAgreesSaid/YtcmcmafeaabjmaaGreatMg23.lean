/- Texts of this claim: CD, Oct2. -/
import Derived.Test.YtcmcmafeaabjmaaGreatMg22
import Derived.Test.YtcmcmafeaabjmaaGreatMg21
namespace Go.Proofs.YtcmcmafeaabjmaaGreat.Vm
open Go Go.RowKit
set_option maxRecDepth 100000
def bL (l : List UInt8) : List T := l.map fun c => T.v (.int .u8 c.toNat)
theorem bL_app (a b : List UInt8) : bL (a ++ b) = bL a ++ bL b := by simp [bL]
theorem str_at (l : List UInt8) (i : Nat) (h : i < l.length) : ((⟨l.toArray⟩ : ByteArray)[((i : Int)).toNat]?).map (fun c : UInt8 => T.v (.int .u8 c.toNat)) = some (u8 (l[i]).toNat) := by
  rw [Int.toNat_natCast]
  have hs : i < (⟨l.toArray⟩ : ByteArray).size := by rw [bs_len]; exact h
  rw [getElem?_pos (⟨l.toArray⟩ : ByteArray) i hs]
  rfl
theorem cat_ok (a b : List UInt8) (h : a.length + b.length ≤ 9223372036854775807) : (⟨a.toArray⟩ : ByteArray).size + (⟨b.toArray⟩ : ByteArray).size ≤ 9223372036854775807 := by rw [bs_len, bs_len]; exact h
namespace X2
open Crc
theorem xorT {x y : Nat} (hx : x < 4294967296) (hy : y < 4294967296) : T.v (.int .u32 (IntKind.wrap .u32 ((BitVec.ofInt 32 (x : Int) ^^^ BitVec.ofInt 32 (y : Int)).toNat : Int))) = u32 ((x ^^^ y : Nat) : Int) := by rw [xor32 hx hy]; rfl
theorem andT {x : Nat} (hx : x < 4294967296) : T.v (.int .u32 (IntKind.wrap .u32 ((BitVec.ofInt 32 (x : Int) &&& BitVec.ofInt 32 1).toNat : Int))) = u32 ((x % 2 : Nat) : Int) := by rw [and32 hx]; rfl
theorem notT {x : Nat} (hx : x < 4294967296) : T.v (.int .u32 (IntKind.wrap .u32 ((BitVec.ofInt 32 4294967295 ^^^ BitVec.ofInt 32 (x : Int)).toNat : Int))) = u32 ((4294967295 - x : Nat) : Int) := by rw [not32 hx]; rfl
theorem shrT (x : Nat) : T.v (.int .u32 ((x : Int).fdiv (2 ^ min (Int.toNat 1) 32))) = u32 ((x / 2 : Nat) : Int) := by rw [shr1]; rfl
theorem step_loop (Γ : Ctx) (r0 : Nat) (h0 : r0 < 4294967296) (Q : T → Obs → Glb → Prop) (hQ : ∀ x, x = u32 (stN 8 r0) → Q x [] none_) : ∀ (f j : Nat), j + f = 8 →
    TWk Tryz.prog Γ (fin Tryz.prog Tryz.f95 [] Q) [.code (sub (bd Tryz.f95) [1, 1, 0, 1, 0]), .blk 0, .code (sub (bd Tryz.f95) [1, 1, 1])] ⟨frame 21 [(0, u32 (stN j r0)), (9, int j)], [], none_⟩ := by
  intro f
  induction f with
  | zero =>
    intro j hj
    obtain rfl : j = 8 := by omega
    refine run_sound (⟨fun _ _ => .no, [((2, 3), ([0, 9], 0))], fun _ => none⟩) 400 (B := Q (T.v (Value.int IntKind.u32 (↑(stN (8 : Nat) r0) : Int))) [] fun x => none) (by kernel_rfl) ?_
    repeat' (first | exact rfl | exact Nat.le_of_ble_eq_true rfl | refine And.intro ?_ ?_ | intro _ | refine bsplit_mk (fun _ => ?_) (fun _ => ?_))
    all_goals first
      | exact hQ _ rfl
      | (exfalso; rename_i h; simp at h; done)
      | trace_state
  | succ f ih =>
    intro j hj
    have nx := ih (j + 1) (by omega)
    have hl := stN_lt h0 j
    have hw : IntKind.wrap .i64 ((j : Int) + 1) = ((j + 1 : Nat) : Int) := by rw [wrap_i64 (by omega) (by omega)]; omega
    refine run_sound (⟨fun | 4, 1 => .res (u32 (stN j r0 % 2 : Nat)) | 5, 1 => .res (u32 (stN j r0 / 2 : Nat)) | 5, 2 => .res (u32 (stN j r0 / 2 ^^^ poly : Nat)) | 6, 1 => .res (u32 (stN j r0 / 2 : Nat)) | _, _ => .no, [((2, 3), ([0, 9], 0))], fun  | _ => none⟩) 400 (B := bsplit (decide ((↑j : Int) < (8 : Int))) (T.v (Value.int IntKind.u32 (IntKind.wrap IntKind.u32 (↑(BitVec.toNat (BitVec.ofInt (32 : Nat) (↑(stN j r0) : Int) &&& BitVec.ofInt (32 : Nat) (1 : Int))) : Int))) = T.v (Value.int IntKind.u32 (↑(stN j r0 % (2 : Nat)) : Int)) ∧ bsplit ((↑(stN j r0 % (2 : Nat)) : Int) == (1 : Int)) (T.v (Value.int IntKind.u32 (Int.fdiv (↑(stN j r0) : Int) ((2 : Int) ^ min (Int.toNat (1 : Int)) (32 : Nat)))) = T.v (Value.int IntKind.u32 (↑(stN j r0 / (2 : Nat)) : Int)) ∧ T.v (Value.int IntKind.u32 (IntKind.wrap IntKind.u32 (↑(BitVec.toNat (BitVec.ofInt (32 : Nat) (↑(stN j r0 / (2 : Nat)) : Int) ^^^ BitVec.ofInt (32 : Nat) (3988292384 : Int))) : Int))) = T.v (Value.int IntKind.u32 (↑(stN j r0 / (2 : Nat) ^^^ poly) : Int)) ∧ TWk Tryz.prog Γ (fin Tryz.prog Tryz.f95 [] Q) [It.code (sub (bd Tryz.f95) [(1 : Nat), (1 : Nat), (0 : Nat), (1 : Nat), (0 : Nat)]), It.blk (0 : Nat), It.code (sub (bd Tryz.f95) [(1 : Nat), (1 : Nat), (1 : Nat)])] { fr := [T.v (Value.int IntKind.u32 (↑(stN j r0 / (2 : Nat) ^^^ poly) : Int)), T.und, T.und, T.und, T.und, T.und, T.und, T.und, T.und, T.v (Value.int IntKind.i64 (IntKind.wrap IntKind.i64 ((↑j : Int) + (1 : Int)))), T.und, T.und, T.und, T.und, T.und, T.und, T.und, T.und, T.und, T.und, T.und], ob := [], gl := fun x => none }) (T.v (Value.int IntKind.u32 (Int.fdiv (↑(stN j r0) : Int) ((2 : Int) ^ min (Int.toNat (1 : Int)) (32 : Nat)))) = T.v (Value.int IntKind.u32 (↑(stN j r0 / (2 : Nat)) : Int)) ∧ TWk Tryz.prog Γ (fin Tryz.prog Tryz.f95 [] Q) [It.code (sub (bd Tryz.f95) [(1 : Nat), (1 : Nat), (0 : Nat), (1 : Nat), (0 : Nat)]), It.blk (0 : Nat), It.code (sub (bd Tryz.f95) [(1 : Nat), (1 : Nat), (1 : Nat)])] { fr := [T.v (Value.int IntKind.u32 (↑(stN j r0 / (2 : Nat)) : Int)), T.und, T.und, T.und, T.und, T.und, T.und, T.und, T.und, T.v (Value.int IntKind.i64 (IntKind.wrap IntKind.i64 ((↑j : Int) + (1 : Int)))), T.und, T.und, T.und, T.und, T.und, T.und, T.und, T.und, T.und, T.und, T.und], ob := [], gl := fun x => none })) (Q (T.v (Value.int IntKind.u32 (↑(stN j r0) : Int))) [] fun x => none)) (by kernel_rfl) ?_
    rw [hw]
    repeat' (first | exact rfl | exact Nat.le_of_ble_eq_true rfl | refine And.intro ?_ ?_ | intro _ | refine bsplit_mk (fun _ => ?_) (fun _ => ?_))
    all_goals first
      | exact andT hl
      | exact shrT _
      | exact xorT (y := poly) (by omega : stN j r0 / 2 < 4294967296) (by decide)
      | (rename_i h; have e : stN (j + 1) r0 = stN j r0 / 2 ^^^ poly := st_one (by simp at h; omega); rw [e] at nx; exact nx)
      | (rename_i h; have e : stN (j + 1) r0 = stN j r0 / 2 := st_zero (by simp at h; omega); rw [e] at nx; exact nx)
      | (exfalso; simp only [decide_eq_false_iff_not] at *; omega)
      | (clear nx ih hQ; trace_state)
theorem step_any (r c : Nat) (hr : r < 4294967296) (hc : c < 256) (Q : T → Obs → Glb → Prop) (hQ : ∀ x, x = u32 (Crc.step r c) → Q x [] none_) : TCalls Tryz.prog 95 [u32 r, u8 c] [] none_ Q := by
  have h0 : r ^^^ c < 4294967296 := Nat.xor_lt_two_pow (n := 32) (by omega) (by omega)
  have lp := fun Γ => step_loop Γ (r ^^^ c) h0 Q hQ 8 0 rfl
  refine TCalls.of Tryz.func95 rfl (CanCall.of Tryz.func95 rfl (by decide)) [] fun Γ => ?_
  refine run_sound (⟨fun | 1, 2 => .res (u32 c) | 1, 3 => .res (u32 (r ^^^ c : Nat)) | _, _ => .no, [((2, 3), ([0, 9], 0))], fun  | _ => none⟩) 400 (B := T.v (Value.int IntKind.u32 (IntKind.wrap IntKind.u32 (↑c : Int))) = T.v (Value.int IntKind.u32 (↑c : Int)) ∧ T.v (Value.int IntKind.u32 (IntKind.wrap IntKind.u32 (↑(BitVec.toNat (BitVec.ofInt (32 : Nat) (↑r : Int) ^^^ BitVec.ofInt (32 : Nat) (↑c : Int))) : Int))) = T.v (Value.int IntKind.u32 (↑(r ^^^ c) : Int)) ∧ TWk Tryz.prog Γ (fin Tryz.prog Tryz.f95 [] Q) [It.code (sub (bd Tryz.f95) [(1 : Nat), (1 : Nat), (0 : Nat), (1 : Nat), (0 : Nat)]), It.blk (0 : Nat), It.code (sub (bd Tryz.f95) [(1 : Nat), (1 : Nat), (1 : Nat)])] { fr := [T.v (Value.int IntKind.u32 (↑(r ^^^ c) : Int)), T.und, T.und, T.und, T.und, T.und, T.und, T.und, T.und, T.v (Value.int IntKind.i64 (0 : Int)), T.und, T.und, T.und, T.und, T.und, T.und, T.und, T.und, T.und, T.und, T.und], ob := [], gl := fun x => none }) (by kernel_rfl) ?_
  repeat' (first | exact rfl | exact Nat.le_of_ble_eq_true rfl | refine And.intro ?_ ?_ | intro _ | refine bsplit_mk (fun _ => ?_) (fun _ => ?_))
  all_goals first
    | exact xorT hr (by omega)
    | exact lp Γ
    | exact congrArg (fun z => T.v (.int .u32 z)) (wrap32 (by omega : c < 4294967296))
    | trace_state
theorem sum_in (Γ : Ctx) (l : List UInt8) (hl : l.length ≤ 1000000000) (Q : T → Obs → Glb → Prop) (hQ : ∀ x, x = u32 (crc l) → Q x [] none_) : ∀ (f i : Nat), i + f = l.length →
    TWk Tryz.prog Γ (fin Tryz.prog Tryz.f83 [] Q) [.code (sub (bd Tryz.f83) [1, 1, 0, 1, 0, 0, 1, 1, 0, 0, 1, 1, 0]), .blk 2, .blk 1, .code (sub (bd Tryz.f83) [1, 1, 0, 1, 0, 0, 1, 1, 1]), .code (sub (bd Tryz.f83) [1, 1, 0, 1, 0]), .blk 0, .code (sub (bd Tryz.f83) [1, 1, 1])] ⟨frame 27 [(3, u32 (sumN (l.take i) 4294967295)), (5, str l), (7, .sl 1 [str l]), (8, int 1), (9, int 0), (14, int l.length), (15, int i)], [], none_⟩ := by
  intro f
  induction f with
  | zero =>
    intro i hi
    obtain rfl : i = l.length := by omega
    have hw := notT (sumN_lt l (show 4294967295 < 4294967296 by decide))
    rw [List.take_length]
    refine run_sound (⟨fun | 8, 3 => .res (u8 0) | 8, 4 => told (u32 0) [] [] | 11, 1 => .res (u32 (crc l)) | _, _ => .no, [((2, 6), ([3, 5, 7, 8, 9, 14, 15], 0))], fun  | _ => none⟩) 400 (B := bsplit (decide ((↑(List.length l) : Int) < (↑(List.length l) : Int))) ((0 : Int) ≤ (↑(List.length l) : Int) ∧ Option.map (fun c => T.v (Value.int IntKind.u8 (↑(UInt8.toNat c) : Int))) (ByteArray.mk (List.toArray l))[Int.toNat (↑(List.length l) : Int)]? = some (T.v (Value.int IntKind.u8 (0 : Int))) ∧ TCalls Tryz.prog (95 : Nat) [T.v (Value.int IntKind.u32 (↑(sumN l (4294967295 : Nat)) : Int)), T.v (Value.int IntKind.u8 (0 : Int))] [] (fun x => none) (callPost (Hint.call false Unit (fun x => True) [] false (fun x => u32 (0 : Int)) (fun x => []) fun x => none_)) ∧ ∀ (a : Unit), True → TWk Tryz.prog Γ (fin Tryz.prog Tryz.f83 [] Q) [It.code (sub (bd Tryz.f83) [(1 : Nat), (1 : Nat), (0 : Nat), (1 : Nat), (0 : Nat), (0 : Nat), (1 : Nat), (1 : Nat), (0 : Nat), (0 : Nat), (1 : Nat), (1 : Nat), (0 : Nat)]), It.blk (2 : Nat), It.blk (1 : Nat), It.code (sub (bd Tryz.f83) [(1 : Nat), (1 : Nat), (0 : Nat), (1 : Nat), (0 : Nat), (0 : Nat), (1 : Nat), (1 : Nat), (1 : Nat)]), It.code (sub (bd Tryz.f83) [(1 : Nat), (1 : Nat), (0 : Nat), (1 : Nat), (0 : Nat)]), It.blk (0 : Nat), It.code (sub (bd Tryz.f83) [(1 : Nat), (1 : Nat), (1 : Nat)])] { fr := [T.und, T.und, T.und, T.v (Value.int IntKind.u32 (0 : Int)), T.und, T.v (Value.string (ByteArray.mk (List.toArray l))), T.und, T.sl (1 : Nat) [T.v (Value.string (ByteArray.mk (List.toArray l)))], T.v (Value.int IntKind.i64 (1 : Int)), T.v (Value.int IntKind.i64 (0 : Int)), T.und, T.und, T.und, T.und, T.v (Value.int IntKind.i64 (↑(List.length l) : Int)), T.v (Value.int IntKind.i64 (IntKind.wrap IntKind.i64 ((↑(List.length l) : Int) + (1 : Int)))), T.und, T.und, T.und, T.und, T.und, T.und, T.und, T.und, T.und, T.und, T.und], ob := [], gl := fun x => none }) (T.v (Value.int IntKind.u32 (IntKind.wrap IntKind.u32 (↑(BitVec.toNat (BitVec.ofInt (32 : Nat) (if IntKind.signed IntKind.u32 = true then (-1 : Int) else if IntKind.signed IntKind.u32 = true then (2 : Int) ^ ((32 : Nat) - (1 : Nat)) - (1 : Int) else (2 : Int) ^ (32 : Nat) - (1 : Int)) ^^^ BitVec.ofInt (32 : Nat) (↑(sumN l (4294967295 : Nat)) : Int))) : Int))) = T.v (Value.int IntKind.u32 (↑(crc l) : Int)) ∧ Q (T.v (Value.int IntKind.u32 (↑(crc l) : Int))) [] fun x => none)) (by kernel_rfl) ?_
    repeat' (first | exact rfl | exact Nat.le_of_ble_eq_true rfl | refine And.intro ?_ ?_ | intro _ | refine bsplit_mk (fun _ => ?_) (fun _ => ?_))
    all_goals first
      | exact hw
      | exact hQ _ rfl
      | (exfalso; simp only [decide_eq_true_eq] at *; omega)
      | trace_state
  | succ f ih =>
    intro i hi
    have hlt : i < l.length := by omega
    have nx := ih (i + 1) (by omega)
    rw [List.take_succ_eq_append_getElem hlt, sumN_snoc] at nx
    have hb := sumN_lt (l.take i) (show 4294967295 < 4294967296 by decide)
    have hc := (l[i]).toNat_lt
    have hw : IntKind.wrap .i64 ((i : Int) + 1) = ((i + 1 : Nat) : Int) := by rw [wrap_i64 (by omega) (by omega)]; omega
    refine run_sound (⟨fun | 8, 3 => .res (u8 (l[i]).toNat) | 8, 4 => told (u32 (Crc.step (sumN (l.take i) 4294967295) (l[i]).toNat)) [] [] | _, _ => .no, [((2, 6), ([3, 5, 7, 8, 9, 14, 15], 0))], fun  | _ => none⟩) 400 (B := bsplit (decide ((↑i : Int) < (↑(List.length l) : Int))) ((0 : Int) ≤ (↑i : Int) ∧ Option.map (fun c => T.v (Value.int IntKind.u8 (↑(UInt8.toNat c) : Int))) (ByteArray.mk (List.toArray l))[Int.toNat (↑i : Int)]? = some (T.v (Value.int IntKind.u8 (↑(UInt8.toNat l[i]) : Int))) ∧ TCalls Tryz.prog (95 : Nat) [T.v (Value.int IntKind.u32 (↑(sumN (List.take i l) (4294967295 : Nat)) : Int)), T.v (Value.int IntKind.u8 (↑(UInt8.toNat l[i]) : Int))] [] (fun x => none) (callPost (Hint.call false Unit (fun x => True) [] false (fun x => u32 (↑(Crc.step (sumN (List.take i l) (4294967295 : Nat)) (UInt8.toNat l[i])) : Int)) (fun x => []) fun x => none_)) ∧ ∀ (a : Unit), True → TWk Tryz.prog Γ (fin Tryz.prog Tryz.f83 [] Q) [It.code (sub (bd Tryz.f83) [(1 : Nat), (1 : Nat), (0 : Nat), (1 : Nat), (0 : Nat), (0 : Nat), (1 : Nat), (1 : Nat), (0 : Nat), (0 : Nat), (1 : Nat), (1 : Nat), (0 : Nat)]), It.blk (2 : Nat), It.blk (1 : Nat), It.code (sub (bd Tryz.f83) [(1 : Nat), (1 : Nat), (0 : Nat), (1 : Nat), (0 : Nat), (0 : Nat), (1 : Nat), (1 : Nat), (1 : Nat)]), It.code (sub (bd Tryz.f83) [(1 : Nat), (1 : Nat), (0 : Nat), (1 : Nat), (0 : Nat)]), It.blk (0 : Nat), It.code (sub (bd Tryz.f83) [(1 : Nat), (1 : Nat), (1 : Nat)])] { fr := [T.und, T.und, T.und, T.v (Value.int IntKind.u32 (↑(Crc.step (sumN (List.take i l) (4294967295 : Nat)) (UInt8.toNat l[i])) : Int)), T.und, T.v (Value.string (ByteArray.mk (List.toArray l))), T.und, T.sl (1 : Nat) [T.v (Value.string (ByteArray.mk (List.toArray l)))], T.v (Value.int IntKind.i64 (1 : Int)), T.v (Value.int IntKind.i64 (0 : Int)), T.und, T.und, T.und, T.und, T.v (Value.int IntKind.i64 (↑(List.length l) : Int)), T.v (Value.int IntKind.i64 (IntKind.wrap IntKind.i64 ((↑i : Int) + (1 : Int)))), T.und, T.und, T.und, T.und, T.und, T.und, T.und, T.und, T.und, T.und, T.und], ob := [], gl := fun x => none }) (Q (T.v (Value.int IntKind.u32 (IntKind.wrap IntKind.u32 (↑(BitVec.toNat (BitVec.ofInt (32 : Nat) (if IntKind.signed IntKind.u32 = true then (-1 : Int) else if IntKind.signed IntKind.u32 = true then (2 : Int) ^ ((32 : Nat) - (1 : Nat)) - (1 : Int) else (2 : Int) ^ (32 : Nat) - (1 : Int)) ^^^ BitVec.ofInt (32 : Nat) (↑(sumN (List.take i l) (4294967295 : Nat)) : Int))) : Int)))) [] fun x => none)) (by kernel_rfl) ?_
    rw [hw]
    repeat' (first | exact rfl | exact Nat.le_of_ble_eq_true rfl | refine And.intro ?_ ?_ | intro _ | refine bsplit_mk (fun _ => ?_) (fun _ => ?_))
    all_goals first
      | exact nx
      | exact step_any _ _ hb (by omega) _ (fun x h => told_post h)
      | omega
      | exact str_at l i hlt
      | (exfalso; simp only [decide_eq_false_iff_not] at *; omega)
      | (clear nx ih hQ; trace_state)
theorem sum_any (l : List UInt8) (hl : l.length ≤ 1000000000) (Q : T → Obs → Glb → Prop) (hQ : ∀ x, x = u32 (crc l) → Q x [] none_) : TCalls Tryz.prog 83 [.sl 1 [str l]] [] none_ Q := by
  have lp := fun Γ => sum_in Γ l hl Q hQ l.length 0 (by omega)
  refine TCalls.of Tryz.func83 rfl (CanCall.of Tryz.func83 rfl (by decide)) [] fun Γ => ?_
  refine run_sound (⟨fun _ _ => .no, [((2, 6), ([3, 5, 7, 8, 9, 14, 15], 0))], fun _ => none⟩) 400 (B := (0 : Int) ≤ (0 : Int) ∧ TWk Tryz.prog Γ (fin Tryz.prog Tryz.f83 [] Q) [It.code (sub (bd Tryz.f83) [(1 : Nat), (1 : Nat), (0 : Nat), (1 : Nat), (0 : Nat), (0 : Nat), (1 : Nat), (1 : Nat), (0 : Nat), (0 : Nat), (1 : Nat), (1 : Nat), (0 : Nat)]), It.blk (2 : Nat), It.blk (1 : Nat), It.code (sub (bd Tryz.f83) [(1 : Nat), (1 : Nat), (0 : Nat), (1 : Nat), (0 : Nat), (0 : Nat), (1 : Nat), (1 : Nat), (1 : Nat)]), It.code (sub (bd Tryz.f83) [(1 : Nat), (1 : Nat), (0 : Nat), (1 : Nat), (0 : Nat)]), It.blk (0 : Nat), It.code (sub (bd Tryz.f83) [(1 : Nat), (1 : Nat), (1 : Nat)])] { fr := [T.und, T.und, T.und, T.v (Value.int IntKind.u32 (4294967295 : Int)), T.und, T.v (Value.string (ByteArray.mk (List.toArray l))), T.und, T.sl (1 : Nat) [T.v (Value.string (ByteArray.mk (List.toArray l)))], T.v (Value.int IntKind.i64 (↑(1 : Nat) : Int)), T.v (Value.int IntKind.i64 (0 : Int)), T.und, T.und, T.und, T.und, T.v (Value.int IntKind.i64 (↑(ByteArray.size (ByteArray.mk (List.toArray l))) : Int)), T.v (Value.int IntKind.i64 (0 : Int)), T.und, T.und, T.und, T.und, T.und, T.und, T.und, T.und, T.und, T.und, T.und], ob := [], gl := fun x => none }) (by kernel_rfl) ?_
  repeat' (first | exact rfl | exact Nat.le_of_ble_eq_true rfl | refine And.intro ?_ ?_ | intro _ | refine bsplit_mk (fun _ => ?_) (fun _ => ?_))
  all_goals first
    | exact lp Γ
    | decide
    | (exfalso; rename_i h; simp at h; done)
    | trace_state
theorem byteOf (n m : Nat) : IntKind.wrap .u8 ((n : Int).fdiv (2 ^ m)) = ((UInt8.ofNat (n / 2 ^ m)).toNat : Int) := by
  rw [Int.fdiv_eq_ediv_of_nonneg _ (Int.le_of_lt (Int.pow_pos (by decide))), UInt8.toNat_ofNat']
  have : (n : Int) / 2 ^ m = ((n / 2 ^ m : Nat) : Int) := by rw [Int.natCast_ediv]; norm_cast
  rw [this, IntKind.wrap_u8]
  omega
theorem seal_any (l : List UInt8) (hl : l.length ≤ 1000000000) (Q : T → Obs → Glb → Prop) (hQ : ∀ x, x = str (sealL l) → Q x [] none_) : TCalls Tryz.prog 71 [str l] [] none_ Q := by
  have hc := crc_lt l
  refine TCalls.of Tryz.func71 rfl (CanCall.of Tryz.func71 rfl (by decide)) [] fun Γ => ?_
  refine run_sound (⟨fun | 1, 2 => told (u32 (crc l)) [] [] | 2, 1 => .plain .no | 8, 1 => .res (str (sealL l)) | _, _ => .no, [], fun  | _ => none⟩) 400 (B := TCalls Tryz.prog (83 : Nat) [T.sl (1 : Nat) [T.v (Value.string (ByteArray.mk (List.toArray l)))]] [] (fun x => none) (callPost (Hint.call false Unit (fun x => True) [] false (fun x => u32 (↑(crc l) : Int)) (fun x => []) fun x => none_)) ∧ ∀ (a : Unit), True → ByteArray.size (ByteArray.mk (List.toArray l)) ≤ (140737488355328 : Nat) ∧ ∀ (x : Value), ¬IntKind.wrap IntKind.i64 ((8 : Int) * (0 : Int)) < (0 : Int) ∧ (x = x ∧ List.length (List.map (fun c => T.v (Value.int IntKind.u8 (↑(UInt8.toNat c) : Int))) (Array.toList (ByteArray.data (ByteArray.mk (List.toArray l))))) = List.length (List.map (fun c => T.v (Value.int IntKind.u8 (↑(UInt8.toNat c) : Int))) (Array.toList (ByteArray.data (ByteArray.mk (List.toArray l)))))) ∧ Fits (List.length (List.map (fun c => T.v (Value.int IntKind.u8 (↑(UInt8.toNat c) : Int))) (Array.toList (ByteArray.data (ByteArray.mk (List.toArray l))))) + (1 : Nat)) (nat_lit 1) ∧ ∀ (x : Value), ¬IntKind.wrap IntKind.i64 ((8 : Int) * IntKind.wrap IntKind.i64 ((0 : Int) + (1 : Int))) < (0 : Int) ∧ (x = x ∧ List.length (List.map (fun c => T.v (Value.int IntKind.u8 (↑(UInt8.toNat c) : Int))) (Array.toList (ByteArray.data (ByteArray.mk (List.toArray l)))) ++ [T.v (Value.int IntKind.u8 (IntKind.wrap IntKind.u8 (Int.fdiv (↑(crc l) : Int) ((2 : Int) ^ min (Int.toNat (IntKind.wrap IntKind.i64 ((8 : Int) * (0 : Int)))) (32 : Nat)))))]) = List.length (List.map (fun c => T.v (Value.int IntKind.u8 (↑(UInt8.toNat c) : Int))) (Array.toList (ByteArray.data (ByteArray.mk (List.toArray l)))) ++ [T.v (Value.int IntKind.u8 (IntKind.wrap IntKind.u8 (Int.fdiv (↑(crc l) : Int) ((2 : Int) ^ min (Int.toNat (IntKind.wrap IntKind.i64 ((8 : Int) * (0 : Int)))) (32 : Nat)))))])) ∧ Fits (List.length (List.map (fun c => T.v (Value.int IntKind.u8 (↑(UInt8.toNat c) : Int))) (Array.toList (ByteArray.data (ByteArray.mk (List.toArray l)))) ++ [T.v (Value.int IntKind.u8 (IntKind.wrap IntKind.u8 (Int.fdiv (↑(crc l) : Int) ((2 : Int) ^ min (Int.toNat (IntKind.wrap IntKind.i64 ((8 : Int) * (0 : Int)))) (32 : Nat)))))]) + (1 : Nat)) (nat_lit 1) ∧ ∀ (x : Value), ¬IntKind.wrap IntKind.i64 ((8 : Int) * IntKind.wrap IntKind.i64 (IntKind.wrap IntKind.i64 ((0 : Int) + (1 : Int)) + (1 : Int))) < (0 : Int) ∧ (x = x ∧ List.length (List.map (fun c => T.v (Value.int IntKind.u8 (↑(UInt8.toNat c) : Int))) (Array.toList (ByteArray.data (ByteArray.mk (List.toArray l)))) ++ [T.v (Value.int IntKind.u8 (IntKind.wrap IntKind.u8 (Int.fdiv (↑(crc l) : Int) ((2 : Int) ^ min (Int.toNat (IntKind.wrap IntKind.i64 ((8 : Int) * (0 : Int)))) (32 : Nat)))))] ++ [T.v (Value.int IntKind.u8 (IntKind.wrap IntKind.u8 (Int.fdiv (↑(crc l) : Int) ((2 : Int) ^ min (Int.toNat (IntKind.wrap IntKind.i64 ((8 : Int) * IntKind.wrap IntKind.i64 ((0 : Int) + (1 : Int))))) (32 : Nat)))))]) = List.length (List.map (fun c => T.v (Value.int IntKind.u8 (↑(UInt8.toNat c) : Int))) (Array.toList (ByteArray.data (ByteArray.mk (List.toArray l)))) ++ [T.v (Value.int IntKind.u8 (IntKind.wrap IntKind.u8 (Int.fdiv (↑(crc l) : Int) ((2 : Int) ^ min (Int.toNat (IntKind.wrap IntKind.i64 ((8 : Int) * (0 : Int)))) (32 : Nat)))))] ++ [T.v (Value.int IntKind.u8 (IntKind.wrap IntKind.u8 (Int.fdiv (↑(crc l) : Int) ((2 : Int) ^ min (Int.toNat (IntKind.wrap IntKind.i64 ((8 : Int) * IntKind.wrap IntKind.i64 ((0 : Int) + (1 : Int))))) (32 : Nat)))))])) ∧ Fits (List.length (List.map (fun c => T.v (Value.int IntKind.u8 (↑(UInt8.toNat c) : Int))) (Array.toList (ByteArray.data (ByteArray.mk (List.toArray l)))) ++ [T.v (Value.int IntKind.u8 (IntKind.wrap IntKind.u8 (Int.fdiv (↑(crc l) : Int) ((2 : Int) ^ min (Int.toNat (IntKind.wrap IntKind.i64 ((8 : Int) * (0 : Int)))) (32 : Nat)))))] ++ [T.v (Value.int IntKind.u8 (IntKind.wrap IntKind.u8 (Int.fdiv (↑(crc l) : Int) ((2 : Int) ^ min (Int.toNat (IntKind.wrap IntKind.i64 ((8 : Int) * IntKind.wrap IntKind.i64 ((0 : Int) + (1 : Int))))) (32 : Nat)))))]) + (1 : Nat)) (nat_lit 1) ∧ ∀ (x : Value), ¬IntKind.wrap IntKind.i64 ((8 : Int) * IntKind.wrap IntKind.i64 (IntKind.wrap IntKind.i64 (IntKind.wrap IntKind.i64 ((0 : Int) + (1 : Int)) + (1 : Int)) + (1 : Int))) < (0 : Int) ∧ (x = x ∧ List.length (List.map (fun c => T.v (Value.int IntKind.u8 (↑(UInt8.toNat c) : Int))) (Array.toList (ByteArray.data (ByteArray.mk (List.toArray l)))) ++ [T.v (Value.int IntKind.u8 (IntKind.wrap IntKind.u8 (Int.fdiv (↑(crc l) : Int) ((2 : Int) ^ min (Int.toNat (IntKind.wrap IntKind.i64 ((8 : Int) * (0 : Int)))) (32 : Nat)))))] ++ [T.v (Value.int IntKind.u8 (IntKind.wrap IntKind.u8 (Int.fdiv (↑(crc l) : Int) ((2 : Int) ^ min (Int.toNat (IntKind.wrap IntKind.i64 ((8 : Int) * IntKind.wrap IntKind.i64 ((0 : Int) + (1 : Int))))) (32 : Nat)))))] ++ [T.v (Value.int IntKind.u8 (IntKind.wrap IntKind.u8 (Int.fdiv (↑(crc l) : Int) ((2 : Int) ^ min (Int.toNat (IntKind.wrap IntKind.i64 ((8 : Int) * IntKind.wrap IntKind.i64 (IntKind.wrap IntKind.i64 ((0 : Int) + (1 : Int)) + (1 : Int))))) (32 : Nat)))))]) = List.length (List.map (fun c => T.v (Value.int IntKind.u8 (↑(UInt8.toNat c) : Int))) (Array.toList (ByteArray.data (ByteArray.mk (List.toArray l)))) ++ [T.v (Value.int IntKind.u8 (IntKind.wrap IntKind.u8 (Int.fdiv (↑(crc l) : Int) ((2 : Int) ^ min (Int.toNat (IntKind.wrap IntKind.i64 ((8 : Int) * (0 : Int)))) (32 : Nat)))))] ++ [T.v (Value.int IntKind.u8 (IntKind.wrap IntKind.u8 (Int.fdiv (↑(crc l) : Int) ((2 : Int) ^ min (Int.toNat (IntKind.wrap IntKind.i64 ((8 : Int) * IntKind.wrap IntKind.i64 ((0 : Int) + (1 : Int))))) (32 : Nat)))))] ++ [T.v (Value.int IntKind.u8 (IntKind.wrap IntKind.u8 (Int.fdiv (↑(crc l) : Int) ((2 : Int) ^ min (Int.toNat (IntKind.wrap IntKind.i64 ((8 : Int) * IntKind.wrap IntKind.i64 (IntKind.wrap IntKind.i64 ((0 : Int) + (1 : Int)) + (1 : Int))))) (32 : Nat)))))])) ∧ Fits (List.length (List.map (fun c => T.v (Value.int IntKind.u8 (↑(UInt8.toNat c) : Int))) (Array.toList (ByteArray.data (ByteArray.mk (List.toArray l)))) ++ [T.v (Value.int IntKind.u8 (IntKind.wrap IntKind.u8 (Int.fdiv (↑(crc l) : Int) ((2 : Int) ^ min (Int.toNat (IntKind.wrap IntKind.i64 ((8 : Int) * (0 : Int)))) (32 : Nat)))))] ++ [T.v (Value.int IntKind.u8 (IntKind.wrap IntKind.u8 (Int.fdiv (↑(crc l) : Int) ((2 : Int) ^ min (Int.toNat (IntKind.wrap IntKind.i64 ((8 : Int) * IntKind.wrap IntKind.i64 ((0 : Int) + (1 : Int))))) (32 : Nat)))))] ++ [T.v (Value.int IntKind.u8 (IntKind.wrap IntKind.u8 (Int.fdiv (↑(crc l) : Int) ((2 : Int) ^ min (Int.toNat (IntKind.wrap IntKind.i64 ((8 : Int) * IntKind.wrap IntKind.i64 (IntKind.wrap IntKind.i64 ((0 : Int) + (1 : Int)) + (1 : Int))))) (32 : Nat)))))]) + (1 : Nat)) (nat_lit 1) ∧ ∀ (x : Value), List.map (fun c => T.v (Value.int IntKind.u8 (↑(UInt8.toNat c) : Int))) (Array.toList (ByteArray.data (ByteArray.mk (List.toArray l)))) ++ [T.v (Value.int IntKind.u8 (IntKind.wrap IntKind.u8 (Int.fdiv (↑(crc l) : Int) ((2 : Int) ^ min (Int.toNat (IntKind.wrap IntKind.i64 ((8 : Int) * (0 : Int)))) (32 : Nat)))))] ++ [T.v (Value.int IntKind.u8 (IntKind.wrap IntKind.u8 (Int.fdiv (↑(crc l) : Int) ((2 : Int) ^ min (Int.toNat (IntKind.wrap IntKind.i64 ((8 : Int) * IntKind.wrap IntKind.i64 ((0 : Int) + (1 : Int))))) (32 : Nat)))))] ++ [T.v (Value.int IntKind.u8 (IntKind.wrap IntKind.u8 (Int.fdiv (↑(crc l) : Int) ((2 : Int) ^ min (Int.toNat (IntKind.wrap IntKind.i64 ((8 : Int) * IntKind.wrap IntKind.i64 (IntKind.wrap IntKind.i64 ((0 : Int) + (1 : Int)) + (1 : Int))))) (32 : Nat)))))] ++ [T.v (Value.int IntKind.u8 (IntKind.wrap IntKind.u8 (Int.fdiv (↑(crc l) : Int) ((2 : Int) ^ min (Int.toNat (IntKind.wrap IntKind.i64 ((8 : Int) * IntKind.wrap IntKind.i64 (IntKind.wrap IntKind.i64 (IntKind.wrap IntKind.i64 ((0 : Int) + (1 : Int)) + (1 : Int)) + (1 : Int))))) (32 : Nat)))))] = List.map (fun c => T.v (Value.int IntKind.u8 (↑(UInt8.toNat c) : Int))) (Array.toList (ByteArray.data (ByteArray.mk (List.toArray (sealL l))))) ∧ Q (T.v (Value.string (ByteArray.mk (List.toArray (sealL l))))) [] fun x => none) (by kernel_rfl) ?_
  repeat' (first | exact rfl | exact Nat.le_of_ble_eq_true rfl | refine And.intro ?_ ?_ | intro _ | refine bsplit_mk (fun _ => ?_) (fun _ => ?_))
  all_goals first
    | exact sum_any l hl _ (fun x h => told_post h)
    | exact hQ _ rfl
    | (show (⟨l.toArray⟩ : ByteArray).size ≤ _; rw [bs_len]; omega)
    | (rename_i h; exact absurd h (by decide))
    | (simp [maxLen]; omega)
    | (show bL l ++ [_] ++ [_] ++ [_] ++ [_] = bL (sealL l)
       unfold sealL
       rw [bL_app]
       simp only [List.append_assoc, List.cons_append, List.nil_append]
       congr 1
       unfold le4 bL
       simp only [List.map_cons, List.map_nil]
       rw [byteOf, byteOf, byteOf, byteOf]
       rfl)
    | trace_state
theorem u64T (n : Nat) (h : n ≤ 1000000000) : T.v (.int .u64 (IntKind.wrap .u64 (n : Int))) = u64 n := by rw [IntKind.wrap_u64]; exact congrArg u64 (by omega)
theorem onum_any (n : Nat) (z : Int) (Q : T → Obs → Glb → Prop) (hQ : ∀ x, x = .agg (X1.partC ⟨1, z, n, ⟨#[]⟩⟩) → Q x [] none_) : TCalls Tryz.prog 52 [u64 n, int z] [] none_ Q := by
  refine TCalls.of Tryz.func52 rfl (CanCall.of Tryz.func52 rfl (by decide)) [] fun Γ => ?_
  refine run_sound (⟨fun _ _ => .no, [], fun _ => none⟩) 400 (B := ∀ (b : Nat), ((4 : Nat) = nat_lit 4 ∧ List.all [T.v (Value.int IntKind.i64 (1 : Int)), T.v (Value.int IntKind.i64 z), T.v (Value.int IntKind.u64 (↑n : Int)), T.v (Value.string (ByteArray.mk (#[])))] T.one = true) ∧ b = b ∧ (0 : Nat) + nat_lit 4 ≤ (4 : Nat) ∧ b = b ∧ Q (T.agg [T.v (Value.int IntKind.i64 (1 : Int)), T.v (Value.int IntKind.i64 z), T.v (Value.int IntKind.u64 (↑n : Int)), T.v (Value.string (ByteArray.mk (#[])))]) [] fun x => none) (by kernel_rfl) ?_
  repeat' (first | exact rfl | exact Nat.le_of_ble_eq_true rfl | refine And.intro ?_ ?_ | intro _ | refine bsplit_mk (fun _ => ?_) (fun _ => ?_))
  exact hQ _ rfl
end X2
end Go.Proofs.YtcmcmafeaabjmaaGreat.Vm
namespace Go.Proofs.YtcmcmafeaabjmaaGreat
namespace Oct
def getN (l : List UInt8) : Nat := l.foldl (fun n c => 256 * n + c.toNat) 0
def takeL (l : List UInt8) (bad : Int) (frm n : Int) : List UInt8 × List UInt8 × Int :=
  if bad ≠ 0 then ([], l, bad) else if n < 0 then ([], l, 4) else if n > l.length - frm then ([], l, 2)
  else ((l.take (frm + n).toNat).drop frm.toNat, l.drop (frm + n).toNat, 0)
theorem takeL_len (l : List UInt8) (bad : Int) (n : Int) (h0 : 0 ≤ n) (h8 : n ≤ 8) : (takeL l bad 0 n).1.length ≤ 8 := by
  unfold takeL
  split
  · simp
  · split
    · simp
    · split
      · simp
      · simp; omega
theorem getN_lt (l : List UInt8) : getN l < 256 ^ l.length := by
  unfold getN
  suffices h : ∀ (l : List UInt8) (n k : Nat), n < 256 ^ k → l.foldl (fun n c => 256 * n + c.toNat) n < 256 ^ (k + l.length) by
    have := h l 0 0 (by simp)
    simpa using this
  intro l
  induction l with
  | nil => intro n k h; simpa using h
  | cons c l ih =>
    intro n k h
    have := ih (256 * n + c.toNat) (k + 1) (by
      have hc : c.toNat < 256 := c.toNat_lt
      rw [Nat.pow_succ]; omega)
    simpa [Nat.add_assoc, Nat.add_comm 1] using this
theorem getN_snoc (l : List UInt8) (c : UInt8) : getN (l ++ [c]) = 256 * getN l + c.toNat := by simp [getN]
theorem pow_le8 (k : Nat) (h : k ≤ 8) : 256 ^ k ≤ 18446744073709551616 := Nat.le_trans (Nat.pow_le_pow_right (by omega) h) (Nat.le_of_eq rfl)
theorem getN_be : ∀ (k n : Nat), n < 256 ^ k → getN (be k n) = n
  | 0, n, h => by simp at h; simp [be, getN, h]
  | k + 1, n, h => by
    show getN (be k (n / 256) ++ [UInt8.ofNat n]) = n
    rw [getN_snoc, getN_be k (n / 256) (by rw [Nat.pow_succ] at h; omega), UInt8.toNat_ofNat']
    omega
end Oct
end Go.Proofs.YtcmcmafeaabjmaaGreat
