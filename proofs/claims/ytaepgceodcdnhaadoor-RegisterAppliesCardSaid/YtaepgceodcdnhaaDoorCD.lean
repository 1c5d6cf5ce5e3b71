/- Sums by the engine: crc.step, Sum, Seal; the document's Bit, Sum, Seal. -/
import Derived.Test.YtaepgceodcdnhaaDoorBrg
import Derived.Test.YtaepgceodcdnhaaDoorCrc0
namespace Go.Proofs.YtaepgceodcdnhaaDoor.Vm
open Go Go.RowKit
set_option maxRecDepth 100000
/-- bytes, as elements -/
def bL (l : List UInt8) : List T := l.map fun c => T.v (.int .u8 c.toNat)
theorem bytesL_mk (l : List UInt8) : bytesL ⟨l.toArray⟩ = bL l := rfl
theorem bL_len (l : List UInt8) : (bL l).length = l.length := by simp [bL]
theorem bL_app (a b : List UInt8) : bL (a ++ b) = bL a ++ bL b := by simp [bL]
theorem str_cat (a b : List UInt8) : (Value.string (⟨a.toArray⟩ ++ ⟨b.toArray⟩)) = Value.string ⟨(a ++ b).toArray⟩ := by rw [bs_cat]
theorem str_at (l : List UInt8) (i : Nat) (h : i < l.length) : ((⟨l.toArray⟩ : ByteArray)[((i : Int)).toNat]?).map (fun c : UInt8 => T.v (.int .u8 c.toNat)) = some (u8 (l[i]).toNat) := by
  rw [Int.toNat_natCast]
  have hs : i < (⟨l.toArray⟩ : ByteArray).size := by rw [bs_len]; exact h
  rw [getElem?_pos (⟨l.toArray⟩ : ByteArray) i hs]
  rfl
theorem cat_ok (a b : List UInt8) (h : a.length + b.length ≤ 9223372036854775807) : (⟨a.toArray⟩ : ByteArray).size + (⟨b.toArray⟩ : ByteArray).size ≤ 9223372036854775807 := by rw [bs_len, bs_len]; exact h
namespace X2
open Crc
theorem xorT {x y : Nat} (hx : x < 4294967296) (hy : y < 4294967296) : T.v (.int .u32 (IntKind.wrap .u32 ((BitVec.ofInt 32 (x : Int) ^^^ BitVec.ofInt 32 (y : Int)).toNat : Int))) = u32 ((x ^^^ y : Nat) : Int) := by rw [xor32 hx hy]; rfl
theorem andT {x : Nat} (hx : x < 4294967296) : T.v (.int .u32 (IntKind.wrap .u32 ((BitVec.ofInt 32 (x : Int) &&& BitVec.ofInt 32 1).toNat : Int))) = u32 ((x % 2 : Nat) : Int) := by rw [and32 hx]; rfl
theorem notT {x : Nat} (hx : x < 4294967296) : T.v (.int .u32 (IntKind.wrap .u32 ((BitVec.ofInt 32 4294967295 ^^^ BitVec.ofInt 32 (x : Int)).toNat : Int))) = u32 ((4294967295 - x : Nat) : Int) := by rw [not32 hx]; rfl
theorem shrT (x : Nat) : T.v (.int .u32 ((x : Int).fdiv (2 ^ min (Int.toNat 1) 32))) = u32 ((x / 2 : Nat) : Int) := by rw [shr1]; rfl
theorem step_loop (Γ : Ctx) (r0 : Nat) (h0 : r0 < 4294967296) (Q : T → Obs → Glb → Prop) (hQ : ∀ x, x = u32 (stN 8 r0) → Q x [] none_) : ∀ (f j : Nat), j + f = 8 →
    TWk Tryd.prog Γ (fin Tryd.prog Tryd.f79 [] Q) [.code (sub (bd Tryd.f79) [1, 1, 0, 1, 0]), .blk 0, .code (sub (bd Tryd.f79) [1, 1, 1])] ⟨frame 21 [(0, u32 (stN j r0)), (9, int j)], [], none_⟩ := by
  intro f
  induction f with
  | zero =>
    intro j hj
    obtain rfl : j = 8 := by omega
    refine run_sound (⟨fun _ _ => .no, [((2, 3), ([0, 9], 0))], fun _ => none⟩) 400 (B := Q (T.v (Value.int IntKind.u32 (↑(stN (8 : Nat) r0) : Int))) [] fun x => none) (by kernel_rfl) ?_
    repeat' (first | exact rfl | exact Nat.le_of_ble_eq_true rfl | refine And.intro ?_ ?_ | intro _ | refine bsplit_mk (fun _ => ?_) (fun _ => ?_))
    all_goals first
      | exact hQ _ rfl
      | (exfalso; rename_i h; simp at h; done)
      | trace_state
  | succ f ih =>
    intro j hj
    have nx := ih (j + 1) (by omega)
    have hl := stN_lt h0 j
    have hw : IntKind.wrap .i64 ((j : Int) + 1) = ((j + 1 : Nat) : Int) := by rw [wrap_i64 (by omega) (by omega)]; omega
    refine run_sound (⟨fun | 4, 1 => .res (u32 (stN j r0 % 2 : Nat)) | 5, 1 => .res (u32 (stN j r0 / 2 : Nat)) | 5, 2 => .res (u32 (stN j r0 / 2 ^^^ poly : Nat)) | 6, 1 => .res (u32 (stN j r0 / 2 : Nat)) | _, _ => .no, [((2, 3), ([0, 9], 0))], fun  | _ => none⟩) 400 (B := bsplit (decide ((↑j : Int) < (8 : Int))) (T.v (Value.int IntKind.u32 (IntKind.wrap IntKind.u32 (↑(BitVec.toNat (BitVec.ofInt (32 : Nat) (↑(stN j r0) : Int) &&& BitVec.ofInt (32 : Nat) (1 : Int))) : Int))) = T.v (Value.int IntKind.u32 (↑(stN j r0 % (2 : Nat)) : Int)) ∧ bsplit ((↑(stN j r0 % (2 : Nat)) : Int) == (1 : Int)) (T.v (Value.int IntKind.u32 (Int.fdiv (↑(stN j r0) : Int) ((2 : Int) ^ min (Int.toNat (1 : Int)) (32 : Nat)))) = T.v (Value.int IntKind.u32 (↑(stN j r0 / (2 : Nat)) : Int)) ∧ T.v (Value.int IntKind.u32 (IntKind.wrap IntKind.u32 (↑(BitVec.toNat (BitVec.ofInt (32 : Nat) (↑(stN j r0 / (2 : Nat)) : Int) ^^^ BitVec.ofInt (32 : Nat) (3988292384 : Int))) : Int))) = T.v (Value.int IntKind.u32 (↑(stN j r0 / (2 : Nat) ^^^ poly) : Int)) ∧ TWk Tryd.prog Γ (fin Tryd.prog Tryd.f79 [] Q) [It.code (sub (bd Tryd.f79) [(1 : Nat), (1 : Nat), (0 : Nat), (1 : Nat), (0 : Nat)]), It.blk (0 : Nat), It.code (sub (bd Tryd.f79) [(1 : Nat), (1 : Nat), (1 : Nat)])] { fr := [T.v (Value.int IntKind.u32 (↑(stN j r0 / (2 : Nat) ^^^ poly) : Int)), T.und, T.und, T.und, T.und, T.und, T.und, T.und, T.und, T.v (Value.int IntKind.i64 (IntKind.wrap IntKind.i64 ((↑j : Int) + (1 : Int)))), T.und, T.und, T.und, T.und, T.und, T.und, T.und, T.und, T.und, T.und, T.und], ob := [], gl := fun x => none }) (T.v (Value.int IntKind.u32 (Int.fdiv (↑(stN j r0) : Int) ((2 : Int) ^ min (Int.toNat (1 : Int)) (32 : Nat)))) = T.v (Value.int IntKind.u32 (↑(stN j r0 / (2 : Nat)) : Int)) ∧ TWk Tryd.prog Γ (fin Tryd.prog Tryd.f79 [] Q) [It.code (sub (bd Tryd.f79) [(1 : Nat), (1 : Nat), (0 : Nat), (1 : Nat), (0 : Nat)]), It.blk (0 : Nat), It.code (sub (bd Tryd.f79) [(1 : Nat), (1 : Nat), (1 : Nat)])] { fr := [T.v (Value.int IntKind.u32 (↑(stN j r0 / (2 : Nat)) : Int)), T.und, T.und, T.und, T.und, T.und, T.und, T.und, T.und, T.v (Value.int IntKind.i64 (IntKind.wrap IntKind.i64 ((↑j : Int) + (1 : Int)))), T.und, T.und, T.und, T.und, T.und, T.und, T.und, T.und, T.und, T.und, T.und], ob := [], gl := fun x => none })) (Q (T.v (Value.int IntKind.u32 (↑(stN j r0) : Int))) [] fun x => none)) (by kernel_rfl) ?_
    rw [hw]
    repeat' (first | exact rfl | exact Nat.le_of_ble_eq_true rfl | refine And.intro ?_ ?_ | intro _ | refine bsplit_mk (fun _ => ?_) (fun _ => ?_))
    all_goals first
      | exact andT hl
      | exact shrT _
      | exact xorT (y := poly) (by omega : stN j r0 / 2 < 4294967296) (by decide)
      | (rename_i h; have e : stN (j + 1) r0 = stN j r0 / 2 ^^^ poly := st_one (by simp at h; omega); rw [e] at nx; exact nx)
      | (rename_i h; have e : stN (j + 1) r0 = stN j r0 / 2 := st_zero (by simp at h; omega); rw [e] at nx; exact nx)
      | (exfalso; simp only [decide_eq_false_iff_not] at *; omega)
      | (clear nx ih hQ; trace_state)
theorem step_any (r c : Nat) (hr : r < 4294967296) (hc : c < 256) (Q : T → Obs → Glb → Prop) (hQ : ∀ x, x = u32 (Crc.step r c) → Q x [] none_) : TCalls Tryd.prog 79 [u32 r, u8 c] [] none_ Q := by
  have h0 : r ^^^ c < 4294967296 := Nat.xor_lt_two_pow (n := 32) (by omega) (by omega)
  have lp := fun Γ => step_loop Γ (r ^^^ c) h0 Q hQ 8 0 rfl
  refine TCalls.of Tryd.func79 rfl (CanCall.of Tryd.func79 rfl (by decide)) [] fun Γ => ?_
  refine run_sound (⟨fun | 1, 2 => .res (u32 c) | 1, 3 => .res (u32 (r ^^^ c : Nat)) | _, _ => .no, [((2, 3), ([0, 9], 0))], fun  | _ => none⟩) 400 (B := T.v (Value.int IntKind.u32 (IntKind.wrap IntKind.u32 (↑c : Int))) = T.v (Value.int IntKind.u32 (↑c : Int)) ∧ T.v (Value.int IntKind.u32 (IntKind.wrap IntKind.u32 (↑(BitVec.toNat (BitVec.ofInt (32 : Nat) (↑r : Int) ^^^ BitVec.ofInt (32 : Nat) (↑c : Int))) : Int))) = T.v (Value.int IntKind.u32 (↑(r ^^^ c) : Int)) ∧ TWk Tryd.prog Γ (fin Tryd.prog Tryd.f79 [] Q) [It.code (sub (bd Tryd.f79) [(1 : Nat), (1 : Nat), (0 : Nat), (1 : Nat), (0 : Nat)]), It.blk (0 : Nat), It.code (sub (bd Tryd.f79) [(1 : Nat), (1 : Nat), (1 : Nat)])] { fr := [T.v (Value.int IntKind.u32 (↑(r ^^^ c) : Int)), T.und, T.und, T.und, T.und, T.und, T.und, T.und, T.und, T.v (Value.int IntKind.i64 (0 : Int)), T.und, T.und, T.und, T.und, T.und, T.und, T.und, T.und, T.und, T.und, T.und], ob := [], gl := fun x => none }) (by kernel_rfl) ?_
  repeat' (first | exact rfl | exact Nat.le_of_ble_eq_true rfl | refine And.intro ?_ ?_ | intro _ | refine bsplit_mk (fun _ => ?_) (fun _ => ?_))
  all_goals first
    | exact xorT hr (by omega)
    | exact lp Γ
    | exact congrArg (fun z => T.v (.int .u32 z)) (wrap32 (by omega : c < 4294967296))
    | trace_state
/-- one text -/
theorem sum_in (Γ : Ctx) (l : List UInt8) (hl : l.length ≤ 1000000000) (Q : T → Obs → Glb → Prop) (hQ : ∀ x, x = u32 (crc l) → Q x [] none_) : ∀ (f i : Nat), i + f = l.length →
    TWk Tryd.prog Γ (fin Tryd.prog Tryd.f49 [] Q) [.code (sub (bd Tryd.f49) [1, 1, 0, 1, 0, 0, 1, 1, 0, 0, 1, 1, 0]), .blk 2, .blk 1, .code (sub (bd Tryd.f49) [1, 1, 0, 1, 0, 0, 1, 1, 1]), .code (sub (bd Tryd.f49) [1, 1, 0, 1, 0]), .blk 0, .code (sub (bd Tryd.f49) [1, 1, 1])] ⟨frame 27 [(3, u32 (sumN (l.take i) 4294967295)), (5, str l), (7, .sl 1 [str l]), (8, int 1), (9, int 0), (14, int l.length), (15, int i)], [], none_⟩ := by
  intro f
  induction f with
  | zero =>
    intro i hi
    obtain rfl : i = l.length := by omega
    have hw := notT (sumN_lt l (show 4294967295 < 4294967296 by decide))
    rw [List.take_length]
    refine run_sound (⟨fun | 8, 3 => .res (u8 0) | 8, 4 => told (u32 0) [] [] | 11, 1 => .res (u32 (crc l)) | _, _ => .no, [((2, 6), ([3, 5, 7, 8, 9, 14, 15], 0))], fun  | _ => none⟩) 400 (B := bsplit (decide ((↑(List.length l) : Int) < (↑(List.length l) : Int))) ((0 : Int) ≤ (↑(List.length l) : Int) ∧ Option.map (fun c => T.v (Value.int IntKind.u8 (↑(UInt8.toNat c) : Int))) (ByteArray.mk (List.toArray l))[Int.toNat (↑(List.length l) : Int)]? = some (T.v (Value.int IntKind.u8 (0 : Int))) ∧ TCalls Tryd.prog (79 : Nat) [T.v (Value.int IntKind.u32 (↑(sumN l (4294967295 : Nat)) : Int)), T.v (Value.int IntKind.u8 (0 : Int))] [] (fun x => none) (callPost (Hint.call false Unit (fun x => True) [] false (fun x => u32 (0 : Int)) (fun x => []) fun x => none_)) ∧ ∀ (a : Unit), True → TWk Tryd.prog Γ (fin Tryd.prog Tryd.f49 [] Q) [It.code (sub (bd Tryd.f49) [(1 : Nat), (1 : Nat), (0 : Nat), (1 : Nat), (0 : Nat), (0 : Nat), (1 : Nat), (1 : Nat), (0 : Nat), (0 : Nat), (1 : Nat), (1 : Nat), (0 : Nat)]), It.blk (2 : Nat), It.blk (1 : Nat), It.code (sub (bd Tryd.f49) [(1 : Nat), (1 : Nat), (0 : Nat), (1 : Nat), (0 : Nat), (0 : Nat), (1 : Nat), (1 : Nat), (1 : Nat)]), It.code (sub (bd Tryd.f49) [(1 : Nat), (1 : Nat), (0 : Nat), (1 : Nat), (0 : Nat)]), It.blk (0 : Nat), It.code (sub (bd Tryd.f49) [(1 : Nat), (1 : Nat), (1 : Nat)])] { fr := [T.und, T.und, T.und, T.v (Value.int IntKind.u32 (0 : Int)), T.und, T.v (Value.string (ByteArray.mk (List.toArray l))), T.und, T.sl (1 : Nat) [T.v (Value.string (ByteArray.mk (List.toArray l)))], T.v (Value.int IntKind.i64 (1 : Int)), T.v (Value.int IntKind.i64 (0 : Int)), T.und, T.und, T.und, T.und, T.v (Value.int IntKind.i64 (↑(List.length l) : Int)), T.v (Value.int IntKind.i64 (IntKind.wrap IntKind.i64 ((↑(List.length l) : Int) + (1 : Int)))), T.und, T.und, T.und, T.und, T.und, T.und, T.und, T.und, T.und, T.und, T.und], ob := [], gl := fun x => none }) (T.v (Value.int IntKind.u32 (IntKind.wrap IntKind.u32 (↑(BitVec.toNat (BitVec.ofInt (32 : Nat) (if IntKind.signed IntKind.u32 = true then (-1 : Int) else if IntKind.signed IntKind.u32 = true then (2 : Int) ^ ((32 : Nat) - (1 : Nat)) - (1 : Int) else (2 : Int) ^ (32 : Nat) - (1 : Int)) ^^^ BitVec.ofInt (32 : Nat) (↑(sumN l (4294967295 : Nat)) : Int))) : Int))) = T.v (Value.int IntKind.u32 (↑(crc l) : Int)) ∧ Q (T.v (Value.int IntKind.u32 (↑(crc l) : Int))) [] fun x => none)) (by kernel_rfl) ?_
    repeat' (first | exact rfl | exact Nat.le_of_ble_eq_true rfl | refine And.intro ?_ ?_ | intro _ | refine bsplit_mk (fun _ => ?_) (fun _ => ?_))
    all_goals first
      | exact hw
      | exact hQ _ rfl
      | (exfalso; simp only [decide_eq_true_eq] at *; omega)
      | trace_state
  | succ f ih =>
    intro i hi
    have hlt : i < l.length := by omega
    have nx := ih (i + 1) (by omega)
    rw [List.take_succ_eq_append_getElem hlt, sumN_snoc] at nx
    have hb := sumN_lt (l.take i) (show 4294967295 < 4294967296 by decide)
    have hc := (l[i]).toNat_lt
    have hw : IntKind.wrap .i64 ((i : Int) + 1) = ((i + 1 : Nat) : Int) := by rw [wrap_i64 (by omega) (by omega)]; omega
    refine run_sound (⟨fun | 8, 3 => .res (u8 (l[i]).toNat) | 8, 4 => told (u32 (Crc.step (sumN (l.take i) 4294967295) (l[i]).toNat)) [] [] | _, _ => .no, [((2, 6), ([3, 5, 7, 8, 9, 14, 15], 0))], fun  | _ => none⟩) 400 (B := bsplit (decide ((↑i : Int) < (↑(List.length l) : Int))) ((0 : Int) ≤ (↑i : Int) ∧ Option.map (fun c => T.v (Value.int IntKind.u8 (↑(UInt8.toNat c) : Int))) (ByteArray.mk (List.toArray l))[Int.toNat (↑i : Int)]? = some (T.v (Value.int IntKind.u8 (↑(UInt8.toNat l[i]) : Int))) ∧ TCalls Tryd.prog (79 : Nat) [T.v (Value.int IntKind.u32 (↑(sumN (List.take i l) (4294967295 : Nat)) : Int)), T.v (Value.int IntKind.u8 (↑(UInt8.toNat l[i]) : Int))] [] (fun x => none) (callPost (Hint.call false Unit (fun x => True) [] false (fun x => u32 (↑(Crc.step (sumN (List.take i l) (4294967295 : Nat)) (UInt8.toNat l[i])) : Int)) (fun x => []) fun x => none_)) ∧ ∀ (a : Unit), True → TWk Tryd.prog Γ (fin Tryd.prog Tryd.f49 [] Q) [It.code (sub (bd Tryd.f49) [(1 : Nat), (1 : Nat), (0 : Nat), (1 : Nat), (0 : Nat), (0 : Nat), (1 : Nat), (1 : Nat), (0 : Nat), (0 : Nat), (1 : Nat), (1 : Nat), (0 : Nat)]), It.blk (2 : Nat), It.blk (1 : Nat), It.code (sub (bd Tryd.f49) [(1 : Nat), (1 : Nat), (0 : Nat), (1 : Nat), (0 : Nat), (0 : Nat), (1 : Nat), (1 : Nat), (1 : Nat)]), It.code (sub (bd Tryd.f49) [(1 : Nat), (1 : Nat), (0 : Nat), (1 : Nat), (0 : Nat)]), It.blk (0 : Nat), It.code (sub (bd Tryd.f49) [(1 : Nat), (1 : Nat), (1 : Nat)])] { fr := [T.und, T.und, T.und, T.v (Value.int IntKind.u32 (↑(Crc.step (sumN (List.take i l) (4294967295 : Nat)) (UInt8.toNat l[i])) : Int)), T.und, T.v (Value.string (ByteArray.mk (List.toArray l))), T.und, T.sl (1 : Nat) [T.v (Value.string (ByteArray.mk (List.toArray l)))], T.v (Value.int IntKind.i64 (1 : Int)), T.v (Value.int IntKind.i64 (0 : Int)), T.und, T.und, T.und, T.und, T.v (Value.int IntKind.i64 (↑(List.length l) : Int)), T.v (Value.int IntKind.i64 (IntKind.wrap IntKind.i64 ((↑i : Int) + (1 : Int)))), T.und, T.und, T.und, T.und, T.und, T.und, T.und, T.und, T.und, T.und, T.und], ob := [], gl := fun x => none }) (Q (T.v (Value.int IntKind.u32 (IntKind.wrap IntKind.u32 (↑(BitVec.toNat (BitVec.ofInt (32 : Nat) (if IntKind.signed IntKind.u32 = true then (-1 : Int) else if IntKind.signed IntKind.u32 = true then (2 : Int) ^ ((32 : Nat) - (1 : Nat)) - (1 : Int) else (2 : Int) ^ (32 : Nat) - (1 : Int)) ^^^ BitVec.ofInt (32 : Nat) (↑(sumN (List.take i l) (4294967295 : Nat)) : Int))) : Int)))) [] fun x => none)) (by kernel_rfl) ?_
    rw [hw]
    repeat' (first | exact rfl | exact Nat.le_of_ble_eq_true rfl | refine And.intro ?_ ?_ | intro _ | refine bsplit_mk (fun _ => ?_) (fun _ => ?_))
    all_goals first
      | exact nx
      | exact step_any _ _ hb (by omega) _ (fun x h => told_post h)
      | omega
      | exact str_at l i hlt
      | (exfalso; simp only [decide_eq_false_iff_not] at *; omega)
      | (clear nx ih hQ; trace_state)
theorem sum_any (l : List UInt8) (hl : l.length ≤ 1000000000) (Q : T → Obs → Glb → Prop) (hQ : ∀ x, x = u32 (crc l) → Q x [] none_) : TCalls Tryd.prog 49 [.sl 1 [str l]] [] none_ Q := by
  have lp := fun Γ => sum_in Γ l hl Q hQ l.length 0 (by omega)
  refine TCalls.of Tryd.func49 rfl (CanCall.of Tryd.func49 rfl (by decide)) [] fun Γ => ?_
  refine run_sound (⟨fun _ _ => .no, [((2, 6), ([3, 5, 7, 8, 9, 14, 15], 0))], fun _ => none⟩) 400 (B := (0 : Int) ≤ (0 : Int) ∧ TWk Tryd.prog Γ (fin Tryd.prog Tryd.f49 [] Q) [It.code (sub (bd Tryd.f49) [(1 : Nat), (1 : Nat), (0 : Nat), (1 : Nat), (0 : Nat), (0 : Nat), (1 : Nat), (1 : Nat), (0 : Nat), (0 : Nat), (1 : Nat), (1 : Nat), (0 : Nat)]), It.blk (2 : Nat), It.blk (1 : Nat), It.code (sub (bd Tryd.f49) [(1 : Nat), (1 : Nat), (0 : Nat), (1 : Nat), (0 : Nat), (0 : Nat), (1 : Nat), (1 : Nat), (1 : Nat)]), It.code (sub (bd Tryd.f49) [(1 : Nat), (1 : Nat), (0 : Nat), (1 : Nat), (0 : Nat)]), It.blk (0 : Nat), It.code (sub (bd Tryd.f49) [(1 : Nat), (1 : Nat), (1 : Nat)])] { fr := [T.und, T.und, T.und, T.v (Value.int IntKind.u32 (4294967295 : Int)), T.und, T.v (Value.string (ByteArray.mk (List.toArray l))), T.und, T.sl (1 : Nat) [T.v (Value.string (ByteArray.mk (List.toArray l)))], T.v (Value.int IntKind.i64 (↑(1 : Nat) : Int)), T.v (Value.int IntKind.i64 (0 : Int)), T.und, T.und, T.und, T.und, T.v (Value.int IntKind.i64 (↑(ByteArray.size (ByteArray.mk (List.toArray l))) : Int)), T.v (Value.int IntKind.i64 (0 : Int)), T.und, T.und, T.und, T.und, T.und, T.und, T.und, T.und, T.und, T.und, T.und], ob := [], gl := fun x => none }) (by kernel_rfl) ?_
  repeat' (first | exact rfl | exact Nat.le_of_ble_eq_true rfl | refine And.intro ?_ ?_ | intro _ | refine bsplit_mk (fun _ => ?_) (fun _ => ?_))
  all_goals first
    | exact lp Γ
    | decide
    | (exfalso; rename_i h; simp at h; done)
    | trace_state
theorem byteOf (n m : Nat) : IntKind.wrap .u8 ((n : Int).fdiv (2 ^ m)) = ((UInt8.ofNat (n / 2 ^ m)).toNat : Int) := by
  rw [Int.fdiv_eq_ediv_of_nonneg _ (Int.le_of_lt (Int.pow_pos (by decide))), UInt8.toNat_ofNat']
  have : (n : Int) / 2 ^ m = ((n / 2 ^ m : Nat) : Int) := by rw [Int.natCast_ediv]; norm_cast
  rw [this, IntKind.wrap_u8]
  omega
/-- the sum behind a text, byte by byte -/
theorem seal_any (l : List UInt8) (hl : l.length ≤ 1000000000) (Q : T → Obs → Glb → Prop) (hQ : ∀ x, x = str (sealL l) → Q x [] none_) : TCalls Tryd.prog 17 [str l] [] none_ Q := by
  have hc := crc_lt l
  refine TCalls.of Tryd.func17 rfl (CanCall.of Tryd.func17 rfl (by decide)) [] fun Γ => ?_
  refine run_sound (⟨fun | 1, 2 => told (u32 (crc l)) [] [] | 2, 1 => .plain .no | 8, 1 => .res (str (sealL l)) | _, _ => .no, [], fun  | _ => none⟩) 400 (B := TCalls Tryd.prog (49 : Nat) [T.sl (1 : Nat) [T.v (Value.string (ByteArray.mk (List.toArray l)))]] [] (fun x => none) (callPost (Hint.call false Unit (fun x => True) [] false (fun x => u32 (↑(crc l) : Int)) (fun x => []) fun x => none_)) ∧ ∀ (a : Unit), True → ByteArray.size (ByteArray.mk (List.toArray l)) ≤ (140737488355328 : Nat) ∧ ∀ (x : Value), ¬IntKind.wrap IntKind.i64 ((8 : Int) * (0 : Int)) < (0 : Int) ∧ (x = x ∧ List.length (List.map (fun c => T.v (Value.int IntKind.u8 (↑(UInt8.toNat c) : Int))) (Array.toList (ByteArray.data (ByteArray.mk (List.toArray l))))) = List.length (List.map (fun c => T.v (Value.int IntKind.u8 (↑(UInt8.toNat c) : Int))) (Array.toList (ByteArray.data (ByteArray.mk (List.toArray l)))))) ∧ Fits (List.length (List.map (fun c => T.v (Value.int IntKind.u8 (↑(UInt8.toNat c) : Int))) (Array.toList (ByteArray.data (ByteArray.mk (List.toArray l))))) + (1 : Nat)) (nat_lit 1) ∧ ∀ (x : Value), ¬IntKind.wrap IntKind.i64 ((8 : Int) * IntKind.wrap IntKind.i64 ((0 : Int) + (1 : Int))) < (0 : Int) ∧ (x = x ∧ List.length (List.map (fun c => T.v (Value.int IntKind.u8 (↑(UInt8.toNat c) : Int))) (Array.toList (ByteArray.data (ByteArray.mk (List.toArray l)))) ++ [T.v (Value.int IntKind.u8 (IntKind.wrap IntKind.u8 (Int.fdiv (↑(crc l) : Int) ((2 : Int) ^ min (Int.toNat (IntKind.wrap IntKind.i64 ((8 : Int) * (0 : Int)))) (32 : Nat)))))]) = List.length (List.map (fun c => T.v (Value.int IntKind.u8 (↑(UInt8.toNat c) : Int))) (Array.toList (ByteArray.data (ByteArray.mk (List.toArray l)))) ++ [T.v (Value.int IntKind.u8 (IntKind.wrap IntKind.u8 (Int.fdiv (↑(crc l) : Int) ((2 : Int) ^ min (Int.toNat (IntKind.wrap IntKind.i64 ((8 : Int) * (0 : Int)))) (32 : Nat)))))])) ∧ Fits (List.length (List.map (fun c => T.v (Value.int IntKind.u8 (↑(UInt8.toNat c) : Int))) (Array.toList (ByteArray.data (ByteArray.mk (List.toArray l)))) ++ [T.v (Value.int IntKind.u8 (IntKind.wrap IntKind.u8 (Int.fdiv (↑(crc l) : Int) ((2 : Int) ^ min (Int.toNat (IntKind.wrap IntKind.i64 ((8 : Int) * (0 : Int)))) (32 : Nat)))))]) + (1 : Nat)) (nat_lit 1) ∧ ∀ (x : Value), ¬IntKind.wrap IntKind.i64 ((8 : Int) * IntKind.wrap IntKind.i64 (IntKind.wrap IntKind.i64 ((0 : Int) + (1 : Int)) + (1 : Int))) < (0 : Int) ∧ (x = x ∧ List.length (List.map (fun c => T.v (Value.int IntKind.u8 (↑(UInt8.toNat c) : Int))) (Array.toList (ByteArray.data (ByteArray.mk (List.toArray l)))) ++ [T.v (Value.int IntKind.u8 (IntKind.wrap IntKind.u8 (Int.fdiv (↑(crc l) : Int) ((2 : Int) ^ min (Int.toNat (IntKind.wrap IntKind.i64 ((8 : Int) * (0 : Int)))) (32 : Nat)))))] ++ [T.v (Value.int IntKind.u8 (IntKind.wrap IntKind.u8 (Int.fdiv (↑(crc l) : Int) ((2 : Int) ^ min (Int.toNat (IntKind.wrap IntKind.i64 ((8 : Int) * IntKind.wrap IntKind.i64 ((0 : Int) + (1 : Int))))) (32 : Nat)))))]) = List.length (List.map (fun c => T.v (Value.int IntKind.u8 (↑(UInt8.toNat c) : Int))) (Array.toList (ByteArray.data (ByteArray.mk (List.toArray l)))) ++ [T.v (Value.int IntKind.u8 (IntKind.wrap IntKind.u8 (Int.fdiv (↑(crc l) : Int) ((2 : Int) ^ min (Int.toNat (IntKind.wrap IntKind.i64 ((8 : Int) * (0 : Int)))) (32 : Nat)))))] ++ [T.v (Value.int IntKind.u8 (IntKind.wrap IntKind.u8 (Int.fdiv (↑(crc l) : Int) ((2 : Int) ^ min (Int.toNat (IntKind.wrap IntKind.i64 ((8 : Int) * IntKind.wrap IntKind.i64 ((0 : Int) + (1 : Int))))) (32 : Nat)))))])) ∧ Fits (List.length (List.map (fun c => T.v (Value.int IntKind.u8 (↑(UInt8.toNat c) : Int))) (Array.toList (ByteArray.data (ByteArray.mk (List.toArray l)))) ++ [T.v (Value.int IntKind.u8 (IntKind.wrap IntKind.u8 (Int.fdiv (↑(crc l) : Int) ((2 : Int) ^ min (Int.toNat (IntKind.wrap IntKind.i64 ((8 : Int) * (0 : Int)))) (32 : Nat)))))] ++ [T.v (Value.int IntKind.u8 (IntKind.wrap IntKind.u8 (Int.fdiv (↑(crc l) : Int) ((2 : Int) ^ min (Int.toNat (IntKind.wrap IntKind.i64 ((8 : Int) * IntKind.wrap IntKind.i64 ((0 : Int) + (1 : Int))))) (32 : Nat)))))]) + (1 : Nat)) (nat_lit 1) ∧ ∀ (x : Value), ¬IntKind.wrap IntKind.i64 ((8 : Int) * IntKind.wrap IntKind.i64 (IntKind.wrap IntKind.i64 (IntKind.wrap IntKind.i64 ((0 : Int) + (1 : Int)) + (1 : Int)) + (1 : Int))) < (0 : Int) ∧ (x = x ∧ List.length (List.map (fun c => T.v (Value.int IntKind.u8 (↑(UInt8.toNat c) : Int))) (Array.toList (ByteArray.data (ByteArray.mk (List.toArray l)))) ++ [T.v (Value.int IntKind.u8 (IntKind.wrap IntKind.u8 (Int.fdiv (↑(crc l) : Int) ((2 : Int) ^ min (Int.toNat (IntKind.wrap IntKind.i64 ((8 : Int) * (0 : Int)))) (32 : Nat)))))] ++ [T.v (Value.int IntKind.u8 (IntKind.wrap IntKind.u8 (Int.fdiv (↑(crc l) : Int) ((2 : Int) ^ min (Int.toNat (IntKind.wrap IntKind.i64 ((8 : Int) * IntKind.wrap IntKind.i64 ((0 : Int) + (1 : Int))))) (32 : Nat)))))] ++ [T.v (Value.int IntKind.u8 (IntKind.wrap IntKind.u8 (Int.fdiv (↑(crc l) : Int) ((2 : Int) ^ min (Int.toNat (IntKind.wrap IntKind.i64 ((8 : Int) * IntKind.wrap IntKind.i64 (IntKind.wrap IntKind.i64 ((0 : Int) + (1 : Int)) + (1 : Int))))) (32 : Nat)))))]) = List.length (List.map (fun c => T.v (Value.int IntKind.u8 (↑(UInt8.toNat c) : Int))) (Array.toList (ByteArray.data (ByteArray.mk (List.toArray l)))) ++ [T.v (Value.int IntKind.u8 (IntKind.wrap IntKind.u8 (Int.fdiv (↑(crc l) : Int) ((2 : Int) ^ min (Int.toNat (IntKind.wrap IntKind.i64 ((8 : Int) * (0 : Int)))) (32 : Nat)))))] ++ [T.v (Value.int IntKind.u8 (IntKind.wrap IntKind.u8 (Int.fdiv (↑(crc l) : Int) ((2 : Int) ^ min (Int.toNat (IntKind.wrap IntKind.i64 ((8 : Int) * IntKind.wrap IntKind.i64 ((0 : Int) + (1 : Int))))) (32 : Nat)))))] ++ [T.v (Value.int IntKind.u8 (IntKind.wrap IntKind.u8 (Int.fdiv (↑(crc l) : Int) ((2 : Int) ^ min (Int.toNat (IntKind.wrap IntKind.i64 ((8 : Int) * IntKind.wrap IntKind.i64 (IntKind.wrap IntKind.i64 ((0 : Int) + (1 : Int)) + (1 : Int))))) (32 : Nat)))))])) ∧ Fits (List.length (List.map (fun c => T.v (Value.int IntKind.u8 (↑(UInt8.toNat c) : Int))) (Array.toList (ByteArray.data (ByteArray.mk (List.toArray l)))) ++ [T.v (Value.int IntKind.u8 (IntKind.wrap IntKind.u8 (Int.fdiv (↑(crc l) : Int) ((2 : Int) ^ min (Int.toNat (IntKind.wrap IntKind.i64 ((8 : Int) * (0 : Int)))) (32 : Nat)))))] ++ [T.v (Value.int IntKind.u8 (IntKind.wrap IntKind.u8 (Int.fdiv (↑(crc l) : Int) ((2 : Int) ^ min (Int.toNat (IntKind.wrap IntKind.i64 ((8 : Int) * IntKind.wrap IntKind.i64 ((0 : Int) + (1 : Int))))) (32 : Nat)))))] ++ [T.v (Value.int IntKind.u8 (IntKind.wrap IntKind.u8 (Int.fdiv (↑(crc l) : Int) ((2 : Int) ^ min (Int.toNat (IntKind.wrap IntKind.i64 ((8 : Int) * IntKind.wrap IntKind.i64 (IntKind.wrap IntKind.i64 ((0 : Int) + (1 : Int)) + (1 : Int))))) (32 : Nat)))))]) + (1 : Nat)) (nat_lit 1) ∧ ∀ (x : Value), List.map (fun c => T.v (Value.int IntKind.u8 (↑(UInt8.toNat c) : Int))) (Array.toList (ByteArray.data (ByteArray.mk (List.toArray l)))) ++ [T.v (Value.int IntKind.u8 (IntKind.wrap IntKind.u8 (Int.fdiv (↑(crc l) : Int) ((2 : Int) ^ min (Int.toNat (IntKind.wrap IntKind.i64 ((8 : Int) * (0 : Int)))) (32 : Nat)))))] ++ [T.v (Value.int IntKind.u8 (IntKind.wrap IntKind.u8 (Int.fdiv (↑(crc l) : Int) ((2 : Int) ^ min (Int.toNat (IntKind.wrap IntKind.i64 ((8 : Int) * IntKind.wrap IntKind.i64 ((0 : Int) + (1 : Int))))) (32 : Nat)))))] ++ [T.v (Value.int IntKind.u8 (IntKind.wrap IntKind.u8 (Int.fdiv (↑(crc l) : Int) ((2 : Int) ^ min (Int.toNat (IntKind.wrap IntKind.i64 ((8 : Int) * IntKind.wrap IntKind.i64 (IntKind.wrap IntKind.i64 ((0 : Int) + (1 : Int)) + (1 : Int))))) (32 : Nat)))))] ++ [T.v (Value.int IntKind.u8 (IntKind.wrap IntKind.u8 (Int.fdiv (↑(crc l) : Int) ((2 : Int) ^ min (Int.toNat (IntKind.wrap IntKind.i64 ((8 : Int) * IntKind.wrap IntKind.i64 (IntKind.wrap IntKind.i64 (IntKind.wrap IntKind.i64 ((0 : Int) + (1 : Int)) + (1 : Int)) + (1 : Int))))) (32 : Nat)))))] = List.map (fun c => T.v (Value.int IntKind.u8 (↑(UInt8.toNat c) : Int))) (Array.toList (ByteArray.data (ByteArray.mk (List.toArray (sealL l))))) ∧ Q (T.v (Value.string (ByteArray.mk (List.toArray (sealL l))))) [] fun x => none) (by kernel_rfl) ?_
  repeat' (first | exact rfl | exact Nat.le_of_ble_eq_true rfl | refine And.intro ?_ ?_ | intro _ | refine bsplit_mk (fun _ => ?_) (fun _ => ?_))
  all_goals first
    | exact sum_any l hl _ (fun x h => told_post h)
    | exact hQ _ rfl
    | (show (⟨l.toArray⟩ : ByteArray).size ≤ _; rw [bs_len]; omega)
    | (rename_i h; exact absurd h (by decide))
    | (simp [maxLen]; omega)
    | (show bL l ++ [_] ++ [_] ++ [_] ++ [_] = bL (sealL l)
       unfold sealL
       rw [bL_app]
       simp only [List.append_assoc, List.cons_append, List.nil_append]
       congr 1
       unfold le4 bL
       simp only [List.map_cons, List.map_nil]
       rw [byteOf, byteOf, byteOf, byteOf]
       rfl)
    | trace_state
theorem tmod8 (i : Nat) : T.v (.int .i64 ((i : Int).tmod 8)) = int (i % 8 : Nat) := by rw [Int.tmod_eq_emod_of_nonneg (by omega)]; exact congrArg int (by omega)
theorem bit_loop (Γ : Ctx) (c i : Nat) (hc : c < 256) (Q : T → Obs → Glb → Prop) (hQ : ∀ x, x = int (rbit c (i % 8)) → Q x [] none_) : ∀ (f j : Nat), j + f = i % 8 →
    TWk Tryd.prog Γ (fin Tryd.prog Tryd.f84 [] Q) [.code (sub (bd Tryd.f84) [1, 1, 0, 1, 0]), .blk 0, .code (sub (bd Tryd.f84) [1, 1, 1])] ⟨frame 22 [(1, int i), (5, int (c / 2 ^ j : Nat)), (6, int j)], [], none_⟩ := by
  intro f
  induction f with
  | zero =>
    intro j hj
    obtain rfl : j = i % 8 := by omega
    have hr : T.v (.int .i64 (((c / 2 ^ (i % 8) : Nat) : Int).tmod 2)) = int (rbit c (i % 8)) := by unfold rbit; generalize c / 2 ^ (i % 8) = y; rw [Int.tmod_eq_emod_of_nonneg (by omega)]; exact congrArg int (by omega)
    refine run_sound (⟨fun | 3, 2 => .res (int (i % 8 : Nat)) | 6, 1 => .res (int (rbit c (i % 8))) | _, _ => .no, [((2, 3), ([1, 5, 6], 0))], fun  | _ => none⟩) 400 (B := T.v (Value.int IntKind.i64 (Int.tmod (↑i : Int) (8 : Int))) = T.v (Value.int IntKind.i64 (↑(i % (8 : Nat)) : Int)) ∧ bsplit (decide ((↑(i % (8 : Nat)) : Int) < (↑(i % (8 : Nat)) : Int))) (TWk Tryd.prog Γ (fin Tryd.prog Tryd.f84 [] Q) [It.code (sub (bd Tryd.f84) [(1 : Nat), (1 : Nat), (0 : Nat), (1 : Nat), (0 : Nat)]), It.blk (0 : Nat), It.code (sub (bd Tryd.f84) [(1 : Nat), (1 : Nat), (1 : Nat)])] { fr := [T.und, T.v (Value.int IntKind.i64 (↑i : Int)), T.und, T.und, T.und, T.v (Value.int IntKind.i64 (IntKind.wrap IntKind.i64 (Int.tdiv (↑(c / (2 : Nat) ^ (i % (8 : Nat))) : Int) (2 : Int)))), T.v (Value.int IntKind.i64 (IntKind.wrap IntKind.i64 ((↑(i % (8 : Nat)) : Int) + (1 : Int)))), T.und, T.und, T.und, T.und, T.und, T.und, T.und, T.und, T.und, T.und, T.und, T.und, T.und, T.und, T.und], ob := [], gl := fun x => none }) (T.v (Value.int IntKind.i64 (Int.tmod (↑(c / (2 : Nat) ^ (i % (8 : Nat))) : Int) (2 : Int))) = T.v (Value.int IntKind.i64 (↑(rbit c (i % (8 : Nat))) : Int)) ∧ Q (T.v (Value.int IntKind.i64 (↑(rbit c (i % (8 : Nat))) : Int))) [] fun x => none)) (by kernel_rfl) ?_
    repeat' (first | exact rfl | exact Nat.le_of_ble_eq_true rfl | refine And.intro ?_ ?_ | intro _ | refine bsplit_mk (fun _ => ?_) (fun _ => ?_))
    all_goals first
      | exact tmod8 i
      | exact hr
      | exact hQ _ rfl
      | (exfalso; simp only [decide_eq_true_eq] at *; omega)
      | trace_state
  | succ f ih =>
    intro j hj
    have nx := ih (j + 1) (by omega)
    have hw : IntKind.wrap .i64 ((j : Int) + 1) = ((j + 1 : Nat) : Int) := by rw [wrap_i64 (by omega) (by omega)]; omega
    have hcd : c / 2 ^ j ≤ c := Nat.div_le_self _ _
    have hd : T.v (.int .i64 (IntKind.wrap .i64 (((c / 2 ^ j : Nat) : Int).tdiv 2))) = int (c / 2 ^ (j + 1) : Nat) := by
      rw [Nat.pow_succ, ← Nat.div_div_eq_div_mul]
      generalize c / 2 ^ j = y at *
      rw [Int.tdiv_eq_ediv_of_nonneg (by omega), wrap_i64 (by omega) (by omega)]
      exact congrArg int (by omega)
    refine run_sound (⟨fun | 3, 2 => .res (int (i % 8 : Nat)) | 5, 1 => .res (int (c / 2 ^ (j + 1) : Nat)) | _, _ => .no, [((2, 3), ([1, 5, 6], 0))], fun  | _ => none⟩) 400 (B := T.v (Value.int IntKind.i64 (Int.tmod (↑i : Int) (8 : Int))) = T.v (Value.int IntKind.i64 (↑(i % (8 : Nat)) : Int)) ∧ bsplit (decide ((↑j : Int) < (↑(i % (8 : Nat)) : Int))) (T.v (Value.int IntKind.i64 (IntKind.wrap IntKind.i64 (Int.tdiv (↑(c / (2 : Nat) ^ j) : Int) (2 : Int)))) = T.v (Value.int IntKind.i64 (↑(c / (2 : Nat) ^ (j + (1 : Nat))) : Int)) ∧ TWk Tryd.prog Γ (fin Tryd.prog Tryd.f84 [] Q) [It.code (sub (bd Tryd.f84) [(1 : Nat), (1 : Nat), (0 : Nat), (1 : Nat), (0 : Nat)]), It.blk (0 : Nat), It.code (sub (bd Tryd.f84) [(1 : Nat), (1 : Nat), (1 : Nat)])] { fr := [T.und, T.v (Value.int IntKind.i64 (↑i : Int)), T.und, T.und, T.und, T.v (Value.int IntKind.i64 (↑(c / (2 : Nat) ^ (j + (1 : Nat))) : Int)), T.v (Value.int IntKind.i64 (IntKind.wrap IntKind.i64 ((↑j : Int) + (1 : Int)))), T.und, T.und, T.und, T.und, T.und, T.und, T.und, T.und, T.und, T.und, T.und, T.und, T.und, T.und, T.und], ob := [], gl := fun x => none }) (Q (T.v (Value.int IntKind.i64 (Int.tmod (↑(c / (2 : Nat) ^ j) : Int) (2 : Int)))) [] fun x => none)) (by kernel_rfl) ?_
    rw [hw]
    repeat' (first | exact rfl | exact Nat.le_of_ble_eq_true rfl | refine And.intro ?_ ?_ | intro _ | refine bsplit_mk (fun _ => ?_) (fun _ => ?_))
    all_goals first
      | exact tmod8 i
      | exact hd
      | exact nx
      | (exfalso; simp only [decide_eq_false_iff_not] at *; omega)
      | trace_state
theorem bit_any (l : List UInt8) (hl : l.length ≤ 1000000000) (i : Nat) (hi : i < 8 * l.length) (Q : T → Obs → Glb → Prop) (hQ : ∀ x, x = int (bitL l i) → Q x [] none_) : TCalls Tryd.prog 84 [str l, int i] [] none_ Q := by
  have h8 : i / 8 < l.length := by omega
  have hg : l.getD (i / 8) 0 = l[i / 8] := by rw [List.getD_eq_getElem?_getD, List.getElem?_eq_getElem h8]; rfl
  have hc := (l[i / 8]).toNat_lt
  have lp := fun Γ => bit_loop Γ (l[i / 8]).toNat i (by omega) Q (by rw [← hg]; exact hQ) (i % 8) 0 (by omega)
  rw [Nat.pow_zero, Nat.div_one] at lp
  have hq : T.v (.int .i64 (IntKind.wrap .i64 ((i : Int).tdiv 8))) = int (i / 8 : Nat) := by
    rw [Int.tdiv_eq_ediv_of_nonneg (by omega), wrap_i64 (by omega) (by omega)]; exact congrArg int (by omega)
  refine TCalls.of Tryd.func84 rfl (CanCall.of Tryd.func84 rfl (by decide)) [] fun Γ => ?_
  refine run_sound (⟨fun | 1, 2 => .res (int (i / 8 : Nat)) | 1, 3 => .res (u8 (l[i / 8]).toNat) | 1, 4 => .res (int (l[i / 8]).toNat) | _, _ => .no, [((2, 3), ([1, 5, 6], 0))], fun  | _ => none⟩) 400 (B := T.v (Value.int IntKind.i64 (IntKind.wrap IntKind.i64 (Int.tdiv (↑i : Int) (8 : Int)))) = T.v (Value.int IntKind.i64 (↑(i / (8 : Nat)) : Int)) ∧ (0 : Int) ≤ (↑(i / (8 : Nat)) : Int) ∧ Option.map (fun c => T.v (Value.int IntKind.u8 (↑(UInt8.toNat c) : Int))) (ByteArray.mk (List.toArray l))[Int.toNat (↑(i / (8 : Nat)) : Int)]? = some (T.v (Value.int IntKind.u8 (↑(UInt8.toNat l[i / (8 : Nat)]) : Int))) ∧ T.v (Value.int IntKind.i64 (IntKind.wrap IntKind.i64 (↑(UInt8.toNat l[i / (8 : Nat)]) : Int))) = T.v (Value.int IntKind.i64 (↑(UInt8.toNat l[i / (8 : Nat)]) : Int)) ∧ TWk Tryd.prog Γ (fin Tryd.prog Tryd.f84 [] Q) [It.code (sub (bd Tryd.f84) [(1 : Nat), (1 : Nat), (0 : Nat), (1 : Nat), (0 : Nat)]), It.blk (0 : Nat), It.code (sub (bd Tryd.f84) [(1 : Nat), (1 : Nat), (1 : Nat)])] { fr := [T.und, T.v (Value.int IntKind.i64 (↑i : Int)), T.und, T.und, T.und, T.v (Value.int IntKind.i64 (↑(UInt8.toNat l[i / (8 : Nat)]) : Int)), T.v (Value.int IntKind.i64 (0 : Int)), T.und, T.und, T.und, T.und, T.und, T.und, T.und, T.und, T.und, T.und, T.und, T.und, T.und, T.und, T.und], ob := [], gl := fun x => none }) (by kernel_rfl) ?_
  repeat' (first | exact rfl | exact Nat.le_of_ble_eq_true rfl | refine And.intro ?_ ?_ | intro _ | refine bsplit_mk (fun _ => ?_) (fun _ => ?_))
  all_goals first
    | exact lp Γ
    | exact hq
    | exact str_at l (i / 8) h8
    | exact congrArg int (wrap_i64 (by omega) (by omega))
    | omega
    | trace_state
theorem rsum_loop (Γ : Ctx) (l : List UInt8) (hl : l.length ≤ 1000000000) (Q : T → Obs → Glb → Prop) (hQ : ∀ x, x = u32 (crc l) → Q x [] none_) : ∀ (f i : Nat), i + f = 8 * l.length →
    TWk Tryd.prog Γ (fin Tryd.prog Tryd.f67 [] Q) [.code (sub (bd Tryd.f67) [1, 1, 0, 1, 0]), .blk 0, .code (sub (bd Tryd.f67) [1, 1, 1])] ⟨frame 27 [(0, str l), (3, u32 (sumB l i)), (4, int i)], [], none_⟩ := by
  have h8 : T.v (.int .i64 (IntKind.wrap .i64 (8 * (⟨l.toArray⟩ : ByteArray).size))) = int (8 * l.length : Nat) := by rw [bs_len, wrap_i64 (by omega) (by omega)]; exact congrArg int (by omega)
  intro f
  induction f with
  | zero =>
    intro i hi
    obtain rfl : i = 8 * l.length := by omega
    have hb := sumB_lt l (8 * l.length)
    have hs : T.v (.int .u32 (IntKind.wrap .u32 (4294967295 - (sumB l (8 * l.length) : Int)))) = u32 (crc l) := by
      rw [← sumB_all]
      generalize sumB l (8 * l.length) = y at *
      rw [show (4294967295 - (y : Int)) = ((4294967295 - y : Nat) : Int) by omega, wrap32 (by omega)]; rfl
    refine run_sound (⟨fun | 3, 3 => .res (int (8 * l.length : Nat)) | 5, 2 => .res (int 0) | 7, 3 => told (int 0) [] [] | 9, 1 => .res (u32 (crc l)) | _, _ => .no, [((2, 3), ([0, 3, 4], 0)), ((0, 5), ([0, 3, 4], 0))], fun  | _ => none⟩) 400 (B := T.v (Value.int IntKind.i64 (IntKind.wrap IntKind.i64 ((8 : Int) * (↑(ByteArray.size (ByteArray.mk (List.toArray l))) : Int)))) = T.v (Value.int IntKind.i64 (↑((8 : Nat) * List.length l) : Int)) ∧ bsplit (decide ((↑((8 : Nat) * List.length l) : Int) < (↑((8 : Nat) * List.length l) : Int))) (TWk Tryd.prog Γ (fin Tryd.prog Tryd.f67 [] Q) [It.code (sub (bd Tryd.f67) [(1 : Nat), (1 : Nat), (0 : Nat), (1 : Nat), (0 : Nat), (0 : Nat), (1 : Nat), (0 : Nat), (0 : Nat)]), It.blk (1 : Nat), It.code (sub (bd Tryd.f67) [(1 : Nat), (1 : Nat), (0 : Nat), (1 : Nat), (0 : Nat), (0 : Nat), (1 : Nat), (1 : Nat)]), It.code (sub (bd Tryd.f67) [(1 : Nat), (1 : Nat), (0 : Nat), (1 : Nat), (0 : Nat)]), It.blk (0 : Nat), It.code (sub (bd Tryd.f67) [(1 : Nat), (1 : Nat), (1 : Nat)])] { fr := [T.v (Value.string (ByteArray.mk (List.toArray l))), T.und, T.und, T.v (Value.int IntKind.u32 (↑(sumB l ((8 : Nat) * List.length l)) : Int)), T.v (Value.int IntKind.i64 (↑((8 : Nat) * List.length l) : Int)), T.und, T.und, T.und, T.und, T.und, T.und, T.und, T.und, T.und, T.und, T.und, T.und, T.und, T.und, T.und, T.und, T.und, T.und, T.und, T.und, T.und, T.und], ob := [], gl := fun x => none }) (T.v (Value.int IntKind.u32 (IntKind.wrap IntKind.u32 ((4294967295 : Int) - (↑(sumB l ((8 : Nat) * List.length l)) : Int)))) = T.v (Value.int IntKind.u32 (↑(crc l) : Int)) ∧ Q (T.v (Value.int IntKind.u32 (↑(crc l) : Int))) [] fun x => none)) (by kernel_rfl) ?_
    repeat' (first | exact rfl | exact Nat.le_of_ble_eq_true rfl | refine And.intro ?_ ?_ | intro _ | refine bsplit_mk (fun _ => ?_) (fun _ => ?_))
    all_goals first
      | exact h8
      | exact hs
      | exact hQ _ rfl
      | (exfalso; simp only [decide_eq_true_eq] at *; omega)
      | trace_state
  | succ f ih =>
    intro i hi
    have nx := ih (i + 1) (by omega)
    have hb := sumB_lt l i
    have hr2 : bitL l i < 2 := by unfold bitL rbit; omega
    have hw : IntKind.wrap .i64 ((i : Int) + 1) = ((i + 1 : Nat) : Int) := by rw [wrap_i64 (by omega) (by omega)]; omega
    have hm : T.v (.int .u32 ((sumB l i : Int).tmod 2)) = u32 (sumB l i % 2 : Nat) := by
      generalize sumB l i = y; rw [Int.tmod_eq_emod_of_nonneg (by omega)]; exact congrArg u32 (by omega)
    have hm2 : T.v (.int .i64 (IntKind.wrap .i64 ((sumB l i % 2 : Nat) : Int))) = int (sumB l i % 2 : Nat) := by
      generalize sumB l i = y; rw [wrap_i64 (by omega) (by omega)]; rfl
    have hd : T.v (.int .u32 (IntKind.wrap .u32 ((sumB l i : Int).tdiv 2))) = u32 (sumB l i / 2 : Nat) := by
      generalize sumB l i = y at *; rw [Int.tdiv_eq_ediv_of_nonneg (by omega), show ((y : Int) / 2) = ((y / 2 : Nat) : Int) by omega, wrap32 (by omega)]; rfl
    refine run_sound (⟨fun | 3, 3 => .res (int (8 * l.length : Nat)) | 5, 1 => .res (u32 (sumB l i % 2 : Nat)) | 5, 2 => .res (int (sumB l i % 2 : Nat)) | 6, 1 => .res (u32 (sumB l i / 2 : Nat)) | 7, 3 => told (int (bitL l i)) [] [] | 8, 1 => .res (u32 (sumB l i / 2 ^^^ poly : Nat)) | _, _ => .no, [((2, 3), ([0, 3, 4], 0))], fun  | _ => none⟩) 400 (B := T.v (Value.int IntKind.i64 (IntKind.wrap IntKind.i64 ((8 : Int) * (↑(ByteArray.size (ByteArray.mk (List.toArray l))) : Int)))) = T.v (Value.int IntKind.i64 (↑((8 : Nat) * List.length l) : Int)) ∧ bsplit (decide ((↑i : Int) < (↑((8 : Nat) * List.length l) : Int))) (T.v (Value.int IntKind.u32 (Int.tmod (↑(sumB l i) : Int) (2 : Int))) = T.v (Value.int IntKind.u32 (↑(sumB l i % (2 : Nat)) : Int)) ∧ T.v (Value.int IntKind.i64 (IntKind.wrap IntKind.i64 (↑(sumB l i % (2 : Nat)) : Int))) = T.v (Value.int IntKind.i64 (↑(sumB l i % (2 : Nat)) : Int)) ∧ T.v (Value.int IntKind.u32 (IntKind.wrap IntKind.u32 (Int.tdiv (↑(sumB l i) : Int) (2 : Int)))) = T.v (Value.int IntKind.u32 (↑(sumB l i / (2 : Nat)) : Int)) ∧ TCalls Tryd.prog (84 : Nat) [T.v (Value.string (ByteArray.mk (List.toArray l))), T.v (Value.int IntKind.i64 (↑i : Int))] [] (fun x => none) (callPost (Hint.call false Unit (fun x => True) [] false (fun x => int (↑(bitL l i) : Int)) (fun x => []) fun x => none_)) ∧ ∀ (a : Unit), True → bsplit ((↑(sumB l i % (2 : Nat)) : Int) != (↑(bitL l i) : Int)) (T.v (Value.int IntKind.u32 (IntKind.wrap IntKind.u32 (↑(BitVec.toNat (BitVec.ofInt (32 : Nat) (↑(sumB l i / (2 : Nat)) : Int) ^^^ BitVec.ofInt (32 : Nat) (3988292384 : Int))) : Int))) = T.v (Value.int IntKind.u32 (↑(sumB l i / (2 : Nat) ^^^ poly) : Int)) ∧ TWk Tryd.prog Γ (fin Tryd.prog Tryd.f67 [] Q) [It.code (sub (bd Tryd.f67) [(1 : Nat), (1 : Nat), (0 : Nat), (1 : Nat), (0 : Nat)]), It.blk (0 : Nat), It.code (sub (bd Tryd.f67) [(1 : Nat), (1 : Nat), (1 : Nat)])] { fr := [T.v (Value.string (ByteArray.mk (List.toArray l))), T.und, T.und, T.v (Value.int IntKind.u32 (↑(sumB l i / (2 : Nat) ^^^ poly) : Int)), T.v (Value.int IntKind.i64 (IntKind.wrap IntKind.i64 ((↑i : Int) + (1 : Int)))), T.und, T.und, T.und, T.und, T.und, T.und, T.und, T.und, T.und, T.und, T.und, T.und, T.und, T.und, T.und, T.und, T.und, T.und, T.und, T.und, T.und, T.und], ob := [], gl := fun x => none }) (TWk Tryd.prog Γ (fin Tryd.prog Tryd.f67 [] Q) [It.code (sub (bd Tryd.f67) [(1 : Nat), (1 : Nat), (0 : Nat), (1 : Nat), (0 : Nat)]), It.blk (0 : Nat), It.code (sub (bd Tryd.f67) [(1 : Nat), (1 : Nat), (1 : Nat)])] { fr := [T.v (Value.string (ByteArray.mk (List.toArray l))), T.und, T.und, T.v (Value.int IntKind.u32 (↑(sumB l i / (2 : Nat)) : Int)), T.v (Value.int IntKind.i64 (IntKind.wrap IntKind.i64 ((↑i : Int) + (1 : Int)))), T.und, T.und, T.und, T.und, T.und, T.und, T.und, T.und, T.und, T.und, T.und, T.und, T.und, T.und, T.und, T.und, T.und, T.und, T.und, T.und, T.und, T.und], ob := [], gl := fun x => none })) (Q (T.v (Value.int IntKind.u32 (IntKind.wrap IntKind.u32 ((4294967295 : Int) - (↑(sumB l i) : Int))))) [] fun x => none)) (by kernel_rfl) ?_
    rw [hw]
    repeat' (first | exact rfl | exact Nat.le_of_ble_eq_true rfl | refine And.intro ?_ ?_ | intro _ | refine bsplit_mk (fun _ => ?_) (fun _ => ?_))
    all_goals first
      | exact h8
      | exact hm
      | exact hm2
      | exact hd
      | exact bit_any l hl i (by omega) _ (fun x h => told_post h)
      | exact xorT (y := poly) (by omega : sumB l i / 2 < 4294967296) (by decide)
      | (rename_i h; have e : sumB l (i + 1) = sumB l i / 2 ^^^ poly := by
           show rst (sumB l i) _ = _
           unfold rst; rw [if_pos]; simp at h; omega
         rw [e] at nx; exact nx)
      | (rename_i h; have e : sumB l (i + 1) = sumB l i / 2 := by
           show rst (sumB l i) _ = _
           unfold rst; rw [if_neg]; simp at h; omega
         rw [e] at nx; exact nx)
      | (exfalso; simp only [decide_eq_false_iff_not] at *; omega)
      | (clear nx ih; trace_state)
theorem rsum_any (l : List UInt8) (hl : l.length ≤ 1000000000) (Q : T → Obs → Glb → Prop) (hQ : ∀ x, x = u32 (crc l) → Q x [] none_) : TCalls Tryd.prog 67 [str l] [] none_ Q := by
  have lp := fun Γ => rsum_loop Γ l hl Q hQ (8 * l.length) 0 (by omega)
  refine TCalls.of Tryd.func67 rfl (CanCall.of Tryd.func67 rfl (by decide)) [] fun Γ => ?_
  refine run_sound (⟨fun _ _ => .no, [((2, 3), ([0, 3, 4], 0))], fun _ => none⟩) 400 (B := TWk Tryd.prog Γ (fin Tryd.prog Tryd.f67 [] Q) [It.code (sub (bd Tryd.f67) [(1 : Nat), (1 : Nat), (0 : Nat), (1 : Nat), (0 : Nat)]), It.blk (0 : Nat), It.code (sub (bd Tryd.f67) [(1 : Nat), (1 : Nat), (1 : Nat)])] { fr := [T.v (Value.string (ByteArray.mk (List.toArray l))), T.und, T.und, T.v (Value.int IntKind.u32 (4294967295 : Int)), T.v (Value.int IntKind.i64 (0 : Int)), T.und, T.und, T.und, T.und, T.und, T.und, T.und, T.und, T.und, T.und, T.und, T.und, T.und, T.und, T.und, T.und, T.und, T.und, T.und, T.und, T.und, T.und], ob := [], gl := fun x => none }) (by kernel_rfl) ?_
  repeat' (first | exact rfl | exact Nat.le_of_ble_eq_true rfl | refine And.intro ?_ ?_ | intro _ | refine bsplit_mk (fun _ => ?_) (fun _ => ?_))
  exact lp Γ
theorem le4_take (n j : Nat) (h : j < 4) : (le4 n).take (j + 1) = (le4 n).take j ++ [UInt8.ofNat (n / 256 ^ j)] := by
  rcases (by omega : j = 0 ∨ j = 1 ∨ j = 2 ∨ j = 3) with rfl | rfl | rfl | rfl <;> rfl
theorem rseal_loop (Γ : Ctx) (l : List UInt8) (hl : l.length ≤ 1000000000) (n : Nat) (hn : n < 4294967296) (Q : T → Obs → Glb → Prop) (hQ : ∀ x, x = str (l ++ le4 n) → Q x [] none_) : ∀ (f j : Nat), j + f = 4 →
    TWk Tryd.prog Γ (fin Tryd.prog Tryd.f37 [] Q) [.code (sub (bd Tryd.f37) [1, 1, 0, 1, 0]), .blk 0, .code (sub (bd Tryd.f37) [1, 1, 1])] ⟨frame 21 [(0, str (l ++ (le4 n).take j)), (3, u32 (n / 256 ^ j : Nat)), (4, int j)], [], none_⟩ := by
  intro f
  induction f with
  | zero =>
    intro j hj
    obtain rfl : j = 4 := by omega
    refine run_sound (⟨fun _ _ => .no, [((2, 3), ([0, 3, 4], 0)), ((0, 5), ([0, 3, 4], 0))], fun _ => none⟩) 400 (B := Q (T.v (Value.string (ByteArray.mk (List.toArray (l ++ List.take (4 : Nat) (le4 n)))))) [] fun x => none) (by kernel_rfl) ?_
    repeat' (first | exact rfl | exact Nat.le_of_ble_eq_true rfl | refine And.intro ?_ ?_ | intro _ | refine bsplit_mk (fun _ => ?_) (fun _ => ?_))
    all_goals first
      | exact hQ _ rfl
      | (exfalso; rename_i h; simp at h; done)
      | trace_state
  | succ f ih =>
    intro j hj
    have nx := ih (j + 1) (by omega)
    have hle : n / 256 ^ j ≤ n := Nat.div_le_self _ _
    rw [le4_take n j (by omega), ← List.append_assoc, Nat.pow_succ, ← Nat.div_div_eq_div_mul] at nx
    generalize n / 256 ^ j = y at *
    have hw : IntKind.wrap .i64 ((j : Int) + 1) = ((j + 1 : Nat) : Int) := by rw [wrap_i64 (by omega) (by omega)]; omega
    have hm : T.v (.int .u32 ((y : Int).tmod 256)) = u32 (y % 256 : Nat) := by rw [Int.tmod_eq_emod_of_nonneg (by omega)]; exact congrArg u32 (by omega)
    have hm2 : T.v (.int .u8 (IntKind.wrap .u8 ((y % 256 : Nat) : Int))) = u8 (UInt8.ofNat y).toNat := by rw [IntKind.wrap_u8, UInt8.toNat_ofNat']; exact congrArg u8 (by omega)
    have hd : T.v (.int .u32 (IntKind.wrap .u32 ((y : Int).tdiv 256))) = u32 (y / 256 : Nat) := by
      rw [Int.tdiv_eq_ediv_of_nonneg (by omega), show ((y : Int) / 256) = ((y / 256 : Nat) : Int) by omega, wrap32 (by omega)]; rfl
    refine run_sound (⟨fun | 5, 2 => .res (u32 (y % 256 : Nat)) | 5, 3 => .res (u8 (UInt8.ofNat y).toNat) | 5, 5 => .res (str [UInt8.ofNat y]) | 5, 6 => .res (str (l ++ (le4 n).take j ++ [UInt8.ofNat y])) | 6, 1 => .res (u32 (y / 256 : Nat)) | _, _ => .no, [((2, 3), ([0, 3, 4], 0))], fun  | _ => none⟩) 400 (B := bsplit (decide ((↑j : Int) < (4 : Int))) (T.v (Value.int IntKind.u32 (Int.tmod (↑y : Int) (256 : Int))) = T.v (Value.int IntKind.u32 (↑(y % (256 : Nat)) : Int)) ∧ T.v (Value.int IntKind.u8 (IntKind.wrap IntKind.u8 (↑(y % (256 : Nat)) : Int))) = T.v (Value.int IntKind.u8 (↑(UInt8.toNat (UInt8.ofNat y)) : Int)) ∧ [T.v (Value.int IntKind.u8 (↑(UInt8.toNat (UInt8.ofNat y)) : Int))] = [T.v (Value.int IntKind.u8 (↑(UInt8.toNat (UInt8.ofNat y)) : Int))] ∧ ByteArray.size (ByteArray.mk (List.toArray (l ++ List.take j (le4 n)))) + ByteArray.size (ByteArray.mk (#[UInt8.ofNat y])) ≤ (9223372036854775807 : Nat) ∧ some (T.v (Value.string ((ByteArray.mk (List.toArray (l ++ List.take j (le4 n)))) ++ (ByteArray.mk (#[UInt8.ofNat y]))))) = some (T.v (Value.string (ByteArray.mk (List.toArray (l ++ List.take j (le4 n) ++ [UInt8.ofNat y]))))) ∧ T.v (Value.int IntKind.u32 (IntKind.wrap IntKind.u32 (Int.tdiv (↑y : Int) (256 : Int)))) = T.v (Value.int IntKind.u32 (↑(y / (256 : Nat)) : Int)) ∧ TWk Tryd.prog Γ (fin Tryd.prog Tryd.f37 [] Q) [It.code (sub (bd Tryd.f37) [(1 : Nat), (1 : Nat), (0 : Nat), (1 : Nat), (0 : Nat)]), It.blk (0 : Nat), It.code (sub (bd Tryd.f37) [(1 : Nat), (1 : Nat), (1 : Nat)])] { fr := [T.v (Value.string (ByteArray.mk (List.toArray (l ++ List.take j (le4 n) ++ [UInt8.ofNat y])))), T.und, T.und, T.v (Value.int IntKind.u32 (↑(y / (256 : Nat)) : Int)), T.v (Value.int IntKind.i64 (IntKind.wrap IntKind.i64 ((↑j : Int) + (1 : Int)))), T.und, T.und, T.und, T.und, T.und, T.und, T.und, T.und, T.und, T.und, T.und, T.und, T.und, T.und, T.und, T.und], ob := [], gl := fun x => none }) (Q (T.v (Value.string (ByteArray.mk (List.toArray (l ++ List.take j (le4 n)))))) [] fun x => none)) (by kernel_rfl) ?_
    rw [hw]
    repeat' (first | exact rfl | exact Nat.le_of_ble_eq_true rfl | refine And.intro ?_ ?_ | intro _ | refine bsplit_mk (fun _ => ?_) (fun _ => ?_))
    all_goals first
      | exact hm
      | exact hm2
      | exact hd
      | exact nx
      | exact congrArg T.v (str_cat _ _)
      | exact cat_ok _ [_] (by simp [le4]; omega)
      | (exfalso; simp only [decide_eq_false_iff_not] at *; omega)
      | (clear nx ih; trace_state)
theorem rseal_any (l : List UInt8) (hl : l.length ≤ 1000000000) (Q : T → Obs → Glb → Prop) (hQ : ∀ x, x = str (sealL l) → Q x [] none_) : TCalls Tryd.prog 37 [str l] [] none_ Q := by
  have lp := fun Γ => rseal_loop Γ l hl (crc l) (crc_lt l) Q hQ 4 0 rfl
  rw [Nat.pow_zero, Nat.div_one, List.take_zero, List.append_nil] at lp
  refine TCalls.of Tryd.func37 rfl (CanCall.of Tryd.func37 rfl (by decide)) [] fun Γ => ?_
  refine run_sound (⟨fun | 1, 1 => told (u32 (crc l)) [] [] | _, _ => .no, [((2, 3), ([0, 3, 4], 0))], fun  | _ => none⟩) 400 (B := TCalls Tryd.prog (67 : Nat) [T.v (Value.string (ByteArray.mk (List.toArray l)))] [] (fun x => none) (callPost (Hint.call false Unit (fun x => True) [] false (fun x => u32 (↑(crc l) : Int)) (fun x => []) fun x => none_)) ∧ ∀ (a : Unit), True → TWk Tryd.prog Γ (fin Tryd.prog Tryd.f37 [] Q) [It.code (sub (bd Tryd.f37) [(1 : Nat), (1 : Nat), (0 : Nat), (1 : Nat), (0 : Nat)]), It.blk (0 : Nat), It.code (sub (bd Tryd.f37) [(1 : Nat), (1 : Nat), (1 : Nat)])] { fr := [T.v (Value.string (ByteArray.mk (List.toArray l))), T.und, T.und, T.v (Value.int IntKind.u32 (↑(crc l) : Int)), T.v (Value.int IntKind.i64 (0 : Int)), T.und, T.und, T.und, T.und, T.und, T.und, T.und, T.und, T.und, T.und, T.und, T.und, T.und, T.und, T.und, T.und], ob := [], gl := fun x => none }) (by kernel_rfl) ?_
  repeat' (first | exact rfl | exact Nat.le_of_ble_eq_true rfl | refine And.intro ?_ ?_ | intro _ | refine bsplit_mk (fun _ => ?_) (fun _ => ?_))
  all_goals first
    | exact rsum_any l hl _ (fun x h => told_post h)
    | exact lp Γ
    | trace_state
theorem u64T (n : Nat) (h : n ≤ 1000000000) : T.v (.int .u64 (IntKind.wrap .u64 (n : Int))) = u64 n := by rw [IntKind.wrap_u64]; exact congrArg u64 (by omega)
theorem onum_any (n : Nat) (z : Int) (Q : T → Obs → Glb → Prop) (hQ : ∀ x, x = .agg (X1.partC ⟨1, z, n, ⟨#[]⟩⟩) → Q x [] none_) : TCalls Tryd.prog 56 [u64 n, int z] [] none_ Q := by
  refine TCalls.of Tryd.func56 rfl (CanCall.of Tryd.func56 rfl (by decide)) [] fun Γ => ?_
  refine run_sound (⟨fun _ _ => .no, [], fun _ => none⟩) 400 (B := ∀ (b : Nat), ((4 : Nat) = nat_lit 4 ∧ List.all [T.v (Value.int IntKind.i64 (1 : Int)), T.v (Value.int IntKind.i64 z), T.v (Value.int IntKind.u64 (↑n : Int)), T.v (Value.string (ByteArray.mk (#[])))] T.one = true) ∧ b = b ∧ (0 : Nat) + nat_lit 4 ≤ (4 : Nat) ∧ b = b ∧ Q (T.agg [T.v (Value.int IntKind.i64 (1 : Int)), T.v (Value.int IntKind.i64 z), T.v (Value.int IntKind.u64 (↑n : Int)), T.v (Value.string (ByteArray.mk (#[])))]) [] fun x => none) (by kernel_rfl) ?_
  repeat' (first | exact rfl | exact Nat.le_of_ble_eq_true rfl | refine And.intro ?_ ?_ | intro _ | refine bsplit_mk (fun _ => ?_) (fun _ => ?_))
  exact hQ _ rfl
end X2
end Go.Proofs.YtaepgceodcdnhaaDoor.Vm
