/- Texts of this claim: CD, Oct2, OR, Jrn0. -/
import Derived.Test.YtpjkdcbogjigeaaGreatMg15
namespace Go.Proofs.YtpjkdcbogjigeaaGreat.Vm
open Go Go.RowKit
set_option maxRecDepth 100000
noncomputable abbrev kCD0 (l : List Nat) : It := .code (sub (bd Tryz.f154) l)
noncomputable abbrev kCD1 (l : List Nat) : It := .code (sub (bd Tryz.f166) l)
noncomputable abbrev wCD2 (Γ : Ctx) (Q : T → Obs → Glb → Prop) : List It → S → Prop := TWk Tryz.prog Γ (fin Tryz.prog Tryz.f166 [] Q)
noncomputable abbrev wCD3 (Γ : Ctx) (Q : T → Obs → Glb → Prop) : List It → S → Prop := TWk Tryz.prog Γ (fin Tryz.prog Tryz.f154 [] Q)
def bL (l : List UInt8) : List T := l.map fun c => T.v (.int .u8 c.toNat)
theorem bL_app (a b : List UInt8) : bL (a ++ b) = bL a ++ bL b := by simp [bL]
theorem str_at (l : List UInt8) (i : Nat) (h : i < l.length) : ((⟨l.toArray⟩ : ByteArray)[((i : Int)).toNat]?).map (fun c : UInt8 => T.v (.int .u8 c.toNat)) = some (u8 (l[i]).toNat) := by
  rw [Int.toNat_natCast]
  have hs : i < (⟨l.toArray⟩ : ByteArray).size := by rw [bs_len]; exact h
  rw [getElem?_pos (⟨l.toArray⟩ : ByteArray) i hs]
  rfl
theorem cat_ok (a b : List UInt8) (h : a.length + b.length ≤ 9223372036854775807) : (⟨a.toArray⟩ : ByteArray).size + (⟨b.toArray⟩ : ByteArray).size ≤ 9223372036854775807 := by rw [bs_len, bs_len]; exact h
namespace X2
open Crc
theorem xorT {x y : Nat} (hx : x < 4294967296) (hy : y < 4294967296) : T.v (.int .u32 (IntKind.wrap .u32 ((BitVec.ofInt 32 (x : Int) ^^^ BitVec.ofInt 32 (y : Int)).toNat : Int))) = u32 ((x ^^^ y : Nat) : Int) := by rw [xor32 hx hy]; rfl
theorem andT {x : Nat} (hx : x < 4294967296) : T.v (.int .u32 (IntKind.wrap .u32 ((BitVec.ofInt 32 (x : Int) &&& BitVec.ofInt 32 1).toNat : Int))) = u32 ((x % 2 : Nat) : Int) := by rw [and32 hx]; rfl
theorem notT {x : Nat} (hx : x < 4294967296) : T.v (.int .u32 (IntKind.wrap .u32 ((BitVec.ofInt 32 4294967295 ^^^ BitVec.ofInt 32 (x : Int)).toNat : Int))) = u32 ((4294967295 - x : Nat) : Int) := by rw [not32 hx]; rfl
theorem shrT (x : Nat) : T.v (.int .u32 ((x : Int).fdiv (2 ^ min (Int.toNat 1) 32))) = u32 ((x / 2 : Nat) : Int) := by rw [shr1]; rfl
theorem step_loop (Γ : Ctx) (r0 : Nat) (h0 : r0 < 4294967296) (Q : T → Obs → Glb → Prop) (hQ : ∀ x, x = u32 (stN 8 r0) → Q x [] none_) : ∀ (f j : Nat), j + f = 8 →
    wCD2 Γ Q [kCD1 [1,1,0,1,0], .blk 0, kCD1 [1,1,1]] ⟨frame 21 [(0, u32 (stN j r0)), (9, int j)], [], none_⟩ := by
  intro f
  induction f with
  | zero =>
    intro j hj
    obtain rfl : j = 8 := by omega
    let HH : Nat → Nat → Hint := fun _ _ => .no
    exact run_sound ⟨HH, [((2, 3), ([0,9], 0))], fun _ => none⟩ 400 (by kernel_rfl) (hQ (u32 (stN 8 r0)) rfl)
  | succ f ih =>
    intro j hj
    have nx := ih (j + 1) (by omega)
    have hl := stN_lt h0 j
    have hw : IntKind.wrap .i64 ((j : Int) + 1) = ((j + 1 : Nat) : Int) := by rw [wrap_i64 (by omega) (by omega)]; omega
    let HH : Nat → Nat → Hint := fun | 4, 1 => .res (u32 (stN j r0 % 2 : Nat)) | 5, 1 => .res (u32 (stN j r0 / 2 : Nat)) | 5, 2 => .res (u32 (stN j r0 / 2 ^^^ poly : Nat)) | 6, 1 => .res (u32 (stN j r0 / 2 : Nat)) | _, _ => .no
    exact run_sound ⟨HH, [((2, 3), ([0,9], 0))], fun  | _ => none⟩ 400 (by kernel_rfl) (Ys (decide ((↑j : Int) < (8 : Int))) (fun Z0 => (Ya (andT hl) (Ys ((↑(stN j r0 % 2) : Int) == (1 : Int)) (fun Z1 => (Ya (shrT (stN j r0)) (Ya (show u32 (IntKind.wrap IntKind.u32 (↑(BitVec.toNat (BitVec.ofInt 32 (↑(stN j r0 / 2) : Int) ^^^ BitVec.ofInt 32 (3988292384 : Int))) : Int)) = u32 (stN j r0 / 2 ^^^ poly) from xorT (y := poly) (by omega : stN j r0 / 2 < 4294967296) (by decide)) (show wCD2 Γ Q [kCD1 [1,1,0,1,0], It.blk 0, kCD1 [1,1,1]] (S.mk (frame 21 [(0, u32 (stN j r0 / 2 ^^^ poly)), (9, int (IntKind.wrap IntKind.i64 ((↑j : Int) + (1 : Int))))]) [] fun x => none) by simp only [hw] at *; have e : stN (j + 1) r0 = stN j r0 / 2 ^^^ poly := st_one (by simp at Z1; omega); rw [e] at nx; exact nx)))) (fun Z2 => (Ya (shrT (stN j r0)) (show wCD2 Γ Q [kCD1 [1,1,0,1,0], It.blk 0, kCD1 [1,1,1]] (S.mk (frame 21 [(0, u32 (stN j r0 / 2)), (9, int (IntKind.wrap IntKind.i64 ((↑j : Int) + (1 : Int))))]) [] fun x => none) by simp only [hw] at *; have e : stN (j + 1) r0 = stN j r0 / 2 := st_zero (by simp at Z2; omega); rw [e] at nx; exact nx)))))) (fun Z3 => (show Q (u32 (stN j r0)) [] fun x => none by exfalso; simp only [decide_eq_false_iff_not] at *; omega)))
theorem step_any (r c : Nat) (hr : r < 4294967296) (hc : c < 256) (Q : T → Obs → Glb → Prop) (hQ : ∀ x, x = u32 (Crc.step r c) → Q x [] none_) : TCalls Tryz.prog 166 [u32 r, u8 c] [] none_ Q := by
  have h0 : r ^^^ c < 4294967296 := Nat.xor_lt_two_pow (n := 32) (by omega) (by omega)
  have lp := fun Γ => step_loop Γ (r ^^^ c) h0 Q hQ 8 0 rfl
  refine TCalls.of Tryz.func166 rfl (CanCall.of Tryz.func166 rfl (by decide)) [] fun Γ => ?_
  let HH : Nat → Nat → Hint := fun | 1, 2 => .res (u32 c) | 1, 3 => .res (u32 (r ^^^ c : Nat)) | _, _ => .no
  exact run_sound ⟨HH, [((2, 3), ([0,9], 0))], fun  | _ => none⟩ 400 (by kernel_rfl) (Ya (congrArg (fun z => T.v (.int .u32 z)) (wrap32 (by omega : c < 4294967296))) (Ya (show u32 (IntKind.wrap IntKind.u32 (↑(BitVec.toNat (BitVec.ofInt 32 (↑r : Int) ^^^ BitVec.ofInt 32 (↑c : Int))) : Int)) = u32 (r ^^^ c) from xorT hr (by omega)) (lp Γ)))
theorem sum_in (Γ : Ctx) (l : List UInt8) (hl : l.length ≤ 1000000000) (Q : T → Obs → Glb → Prop) (hQ : ∀ x, x = u32 (crc l) → Q x [] none_) : ∀ (f i : Nat), i + f = l.length →
    wCD3 Γ Q [kCD0 [1,1,0,1,0,0,1,1,0,0,1,1,0], .blk 2, .blk 1, kCD0 [1,1,0,1,0,0,1,1,1], kCD0 [1,1,0,1,0], .blk 0, kCD0 [1,1,1]] ⟨frame 27 [(3, u32 (sumN (l.take i) 4294967295)), (5, str l), (7, .sl 1 [str l]), (8, int 1), (9, int 0), (14, int l.length), (15, int i)], [], none_⟩ := by
  intro f
  induction f with
  | zero =>
    intro i hi
    obtain rfl : i = l.length := by omega
    have hw := notT (sumN_lt l (show 4294967295 < 4294967296 by decide))
    rw [List.take_length]
    let HH : Nat → Nat → Hint := fun | 8, 3 => .res (u8 0) | 8, 4 => told (u32 0) [] [] | 11, 1 => .res (u32 (crc l)) | _, _ => .no
    let z0 := ByteArray.mk (List.toArray l)
    exact run_sound ⟨HH, [((2, 6), ([3,5,7,8,9,14,15], 0))], fun  | _ => none⟩ 400 (by kernel_rfl) (Ys (decide ((↑(List.length l) : Int) < (↑(List.length l) : Int))) (fun Z0 => (Ya (show (0 : Int) ≤ (↑(List.length l) : Int) by omega) (Ya (show Option.map (fun c => u8 (UInt8.toNat c)) z0[Int.toNat (↑(List.length l) : Int)]? = some (u8 (0 : Int)) by exfalso; simp only [decide_eq_true_eq] at *; omega) (Ya (show TCalls Tryz.prog 166 [u32 (sumN l 4294967295), u8 (0 : Int)] [] none_ (callPost (told (u32 (0 : Int)) [] [])) by exfalso; simp only [decide_eq_true_eq] at *; omega) (Yu (show wCD3 Γ Q [kCD0 [1,1,0,1,0,0,1,1,0,0,1,1,0], It.blk 2, It.blk 1, kCD0 [1,1,0,1,0,0,1,1,1], kCD0 [1,1,0,1,0], It.blk 0, kCD0 [1,1,1]] (S.mk (frame 27 [(3, u32 (0 : Int)), (5, T.v (Value.string z0)), (7, T.sl 1 [T.v (Value.string z0)]), (8, int (1 : Int)), (9, int (0 : Int)), (14, int (List.length l)), (15, int (IntKind.wrap IntKind.i64 ((↑(List.length l) : Int) + (1 : Int))))]) [] fun x => none) by exfalso; simp only [decide_eq_true_eq] at *; omega)))))) (fun Z1 => (Ya hw (hQ (u32 (crc l)) rfl))))
  | succ f ih =>
    intro i hi
    have hlt : i < l.length := by omega
    have nx := ih (i + 1) (by omega)
    rw [List.take_succ_eq_append_getElem hlt, sumN_snoc] at nx
    have hb := sumN_lt (l.take i) (show 4294967295 < 4294967296 by decide)
    have hc := (l[i]).toNat_lt
    have hw : IntKind.wrap .i64 ((i : Int) + 1) = ((i + 1 : Nat) : Int) := by rw [wrap_i64 (by omega) (by omega)]; omega
    let HH : Nat → Nat → Hint := fun | 8, 3 => .res (u8 (l[i]).toNat) | 8, 4 => told (u32 (Crc.step (sumN (l.take i) 4294967295) (l[i]).toNat)) [] [] | _, _ => .no
    let z0 := sumN (List.take i l) 4294967295
    exact run_sound ⟨HH, [((2, 6), ([3,5,7,8,9,14,15], 0))], fun  | _ => none⟩ 400 (by kernel_rfl) (Ys (decide ((↑i : Int) < (↑(List.length l) : Int))) (fun Z0 => (Ya (show (0 : Int) ≤ (↑i : Int) by omega) (Ya (str_at l i hlt) (Ya (show TCalls Tryz.prog 166 [u32 z0, u8 (UInt8.toNat l[i])] [] none_ (callPost (told (u32 (↑(Crc.step z0 (UInt8.toNat l[i])) : Int)) [] [])) from step_any _ _ hb (by omega) _ (fun x h => told_post h)) (Yu (show wCD3 Γ Q [kCD0 [1,1,0,1,0,0,1,1,0,0,1,1,0], It.blk 2, It.blk 1, kCD0 [1,1,0,1,0,0,1,1,1], kCD0 [1,1,0,1,0], It.blk 0, kCD0 [1,1,1]] (S.mk (frame 27 [(3, u32 (Crc.step (sumN (List.take i l) 4294967295) (UInt8.toNat l[i]))), (5, T.v (Value.string (ByteArray.mk (List.toArray l)))), (7, T.sl 1 [T.v (Value.string (ByteArray.mk (List.toArray l)))]), (8, int (1 : Int)), (9, int (0 : Int)), (14, int (List.length l)), (15, int (IntKind.wrap IntKind.i64 ((↑i : Int) + (1 : Int))))]) [] fun x => none) by simp only [hw] at *; exact nx)))))) (fun Z1 => (show Q (u32 (IntKind.wrap IntKind.u32 (↑(BitVec.toNat (BitVec.ofInt 32 (if IntKind.signed IntKind.u32 = true then (-1 : Int) else if IntKind.signed IntKind.u32 = true then (2 : Int) ^ (32 - 1) - (1 : Int) else (2 : Int) ^ 32 - (1 : Int)) ^^^ BitVec.ofInt 32 (↑z0 : Int))) : Int))) [] fun x => none by exfalso; simp only [decide_eq_false_iff_not] at *; omega)))
theorem sum_any (l : List UInt8) (hl : l.length ≤ 1000000000) (Q : T → Obs → Glb → Prop) (hQ : ∀ x, x = u32 (crc l) → Q x [] none_) : TCalls Tryz.prog 154 [.sl 1 [str l]] [] none_ Q := by
  have lp := fun Γ => sum_in Γ l hl Q hQ l.length 0 (by omega)
  refine TCalls.of Tryz.func154 rfl (CanCall.of Tryz.func154 rfl (by decide)) [] fun Γ => ?_
  let HH : Nat → Nat → Hint := fun _ _ => .no
  exact run_sound ⟨HH, [((2, 6), ([3,5,7,8,9,14,15], 0))], fun _ => none⟩ 400 (by kernel_rfl) (Ya (show (0 : Int) ≤ (0 : Int) by omega) (lp Γ))
theorem byteOf (n m : Nat) : IntKind.wrap .u8 ((n : Int).fdiv (2 ^ m)) = ((UInt8.ofNat (n / 2 ^ m)).toNat : Int) := by
  rw [Int.fdiv_eq_ediv_of_nonneg _ (Int.le_of_lt (Int.pow_pos (by decide))), UInt8.toNat_ofNat']
  have : (n : Int) / 2 ^ m = ((n / 2 ^ m : Nat) : Int) := by rw [Int.natCast_ediv]; norm_cast
  rw [this, IntKind.wrap_u8]
  omega
theorem seal_any (l : List UInt8) (hl : l.length ≤ 1000000000) (Q : T → Obs → Glb → Prop) (hQ : ∀ x, x = str (sealL l) → Q x [] none_) : TCalls Tryz.prog 135 [str l] [] none_ Q := by
  have hc := crc_lt l
  refine TCalls.of Tryz.func135 rfl (CanCall.of Tryz.func135 rfl (by decide)) [] fun Γ => ?_
  let HH : Nat → Nat → Hint := fun | 1, 2 => told (u32 (crc l)) [] [] | 2, 1 => .plain .no | 8, 1 => .res (str (sealL l)) | _, _ => .no
  let z0 := [u8 (IntKind.wrap IntKind.u8 (Int.fdiv (↑(crc l) : Int) ((2 : Int) ^ min (Int.toNat (IntKind.wrap IntKind.i64 ((8 : Int) * (0 : Int)))) 32)))]
  let z1 := [u8 (IntKind.wrap IntKind.u8 (Int.fdiv (↑(crc l) : Int) ((2 : Int) ^ min (Int.toNat (IntKind.wrap IntKind.i64 ((8 : Int) * IntKind.wrap IntKind.i64 ((0 : Int) + (1 : Int))))) 32)))]
  let z2 := ByteArray.mk (List.toArray l)
  exact run_sound ⟨HH, [], fun  | _ => none⟩ 400 (by kernel_rfl) (Ya (sum_any l hl (HH 1 2).P (fun x h => told_post h)) (Yu (Ya (show ByteArray.size (ByteArray.mk (List.toArray l)) ≤ 140737488355328 by show (⟨l.toArray⟩ : ByteArray).size ≤ _; rw [bs_len]; omega) (fun (Z0 : Value) => (Ya (show ¬IntKind.wrap IntKind.i64 ((8 : Int) * (0 : Int)) < (0 : Int) by intro h; exact absurd h (by decide)) (Ya (Yb Z0 (Ye (List.length (List.map (fun c => u8 (UInt8.toNat c)) z2.data.toList)))) (Ya (Ya (show (List.length (List.map (fun c => u8 (UInt8.toNat c)) (ByteArray.mk (List.toArray l)).data.toList) + 1) * nat_lit 1 ≤ 140737488355328 by simp [maxLen]; omega) (show List.length (List.map (fun c => u8 (UInt8.toNat c)) (ByteArray.mk (List.toArray l)).data.toList) + 1 ≤ maxLen by simp [maxLen]; omega)) (fun (Z1 : Value) => (Ya (show ¬IntKind.wrap IntKind.i64 ((8 : Int) * IntKind.wrap IntKind.i64 ((0 : Int) + (1 : Int))) < (0 : Int) by intro h; exact absurd h (by decide)) (Ya (Yb Z1 (Ye (List.length (List.map (fun c => u8 (UInt8.toNat c)) z2.data.toList ++ z0)))) (Ya (Ya (show (List.length (List.map (fun c => u8 (UInt8.toNat c)) (ByteArray.mk (List.toArray l)).data.toList ++ [u8 (IntKind.wrap IntKind.u8 (Int.fdiv (↑(crc l) : Int) ((2 : Int) ^ min (Int.toNat (IntKind.wrap IntKind.i64 ((8 : Int) * (0 : Int)))) 32)))]) + 1) * nat_lit 1 ≤ 140737488355328 by simp [maxLen]; omega) (show List.length (List.map (fun c => u8 (UInt8.toNat c)) (ByteArray.mk (List.toArray l)).data.toList ++ [u8 (IntKind.wrap IntKind.u8 (Int.fdiv (↑(crc l) : Int) ((2 : Int) ^ min (Int.toNat (IntKind.wrap IntKind.i64 ((8 : Int) * (0 : Int)))) 32)))]) + 1 ≤ maxLen by simp [maxLen]; omega)) (fun (Z2 : Value) => (Ya (show ¬IntKind.wrap IntKind.i64 ((8 : Int) * IntKind.wrap IntKind.i64 (IntKind.wrap IntKind.i64 ((0 : Int) + (1 : Int)) + (1 : Int))) < (0 : Int) by intro h; exact absurd h (by decide)) (Ya (Yb Z2 (Ye (List.length (List.map (fun c => u8 (UInt8.toNat c)) z2.data.toList ++ z0 ++ z1)))) (Ya (Ya (show (List.length (List.map (fun c => u8 (UInt8.toNat c)) (ByteArray.mk (List.toArray l)).data.toList ++ [u8 (IntKind.wrap IntKind.u8 (Int.fdiv (↑(crc l) : Int) ((2 : Int) ^ min (Int.toNat (IntKind.wrap IntKind.i64 ((8 : Int) * (0 : Int)))) 32)))] ++ [u8 (IntKind.wrap IntKind.u8 (Int.fdiv (↑(crc l) : Int) ((2 : Int) ^ min (Int.toNat (IntKind.wrap IntKind.i64 ((8 : Int) * IntKind.wrap IntKind.i64 ((0 : Int) + (1 : Int))))) 32)))]) + 1) * nat_lit 1 ≤ 140737488355328 by simp [maxLen]; omega) (show List.length (List.map (fun c => u8 (UInt8.toNat c)) (ByteArray.mk (List.toArray l)).data.toList ++ [u8 (IntKind.wrap IntKind.u8 (Int.fdiv (↑(crc l) : Int) ((2 : Int) ^ min (Int.toNat (IntKind.wrap IntKind.i64 ((8 : Int) * (0 : Int)))) 32)))] ++ [u8 (IntKind.wrap IntKind.u8 (Int.fdiv (↑(crc l) : Int) ((2 : Int) ^ min (Int.toNat (IntKind.wrap IntKind.i64 ((8 : Int) * IntKind.wrap IntKind.i64 ((0 : Int) + (1 : Int))))) 32)))]) + 1 ≤ maxLen by simp [maxLen]; omega)) (fun (Z3 : Value) => (Ya (show ¬IntKind.wrap IntKind.i64 ((8 : Int) * IntKind.wrap IntKind.i64 (IntKind.wrap IntKind.i64 (IntKind.wrap IntKind.i64 ((0 : Int) + (1 : Int)) + (1 : Int)) + (1 : Int))) < (0 : Int) by intro h; exact absurd h (by decide)) (Ya (Yb Z3 (Ye (List.length (List.map (fun c => u8 (UInt8.toNat c)) z2.data.toList ++ z0 ++ z1 ++ [u8 (IntKind.wrap IntKind.u8 (Int.fdiv (↑(crc l) : Int) ((2 : Int) ^ min (Int.toNat (IntKind.wrap IntKind.i64 ((8 : Int) * IntKind.wrap IntKind.i64 (IntKind.wrap IntKind.i64 ((0 : Int) + (1 : Int)) + (1 : Int))))) 32)))])))) (Ya (Ya (show (List.length (List.map (fun c => u8 (UInt8.toNat c)) (ByteArray.mk (List.toArray l)).data.toList ++ [u8 (IntKind.wrap IntKind.u8 (Int.fdiv (↑(crc l) : Int) ((2 : Int) ^ min (Int.toNat (IntKind.wrap IntKind.i64 ((8 : Int) * (0 : Int)))) 32)))] ++ [u8 (IntKind.wrap IntKind.u8 (Int.fdiv (↑(crc l) : Int) ((2 : Int) ^ min (Int.toNat (IntKind.wrap IntKind.i64 ((8 : Int) * IntKind.wrap IntKind.i64 ((0 : Int) + (1 : Int))))) 32)))] ++ [u8 (IntKind.wrap IntKind.u8 (Int.fdiv (↑(crc l) : Int) ((2 : Int) ^ min (Int.toNat (IntKind.wrap IntKind.i64 ((8 : Int) * IntKind.wrap IntKind.i64 (IntKind.wrap IntKind.i64 ((0 : Int) + (1 : Int)) + (1 : Int))))) 32)))]) + 1) * nat_lit 1 ≤ 140737488355328 by simp [maxLen]; omega) (show List.length (List.map (fun c => u8 (UInt8.toNat c)) (ByteArray.mk (List.toArray l)).data.toList ++ [u8 (IntKind.wrap IntKind.u8 (Int.fdiv (↑(crc l) : Int) ((2 : Int) ^ min (Int.toNat (IntKind.wrap IntKind.i64 ((8 : Int) * (0 : Int)))) 32)))] ++ [u8 (IntKind.wrap IntKind.u8 (Int.fdiv (↑(crc l) : Int) ((2 : Int) ^ min (Int.toNat (IntKind.wrap IntKind.i64 ((8 : Int) * IntKind.wrap IntKind.i64 ((0 : Int) + (1 : Int))))) 32)))] ++ [u8 (IntKind.wrap IntKind.u8 (Int.fdiv (↑(crc l) : Int) ((2 : Int) ^ min (Int.toNat (IntKind.wrap IntKind.i64 ((8 : Int) * IntKind.wrap IntKind.i64 (IntKind.wrap IntKind.i64 ((0 : Int) + (1 : Int)) + (1 : Int))))) 32)))]) + 1 ≤ maxLen by simp [maxLen]; omega)) (fun (Z4 : Value) => (Ya (show List.map (fun c => u8 (UInt8.toNat c)) (ByteArray.mk (List.toArray l)).data.toList ++ [u8 (IntKind.wrap IntKind.u8 (Int.fdiv (↑(crc l) : Int) ((2 : Int) ^ min (Int.toNat (IntKind.wrap IntKind.i64 ((8 : Int) * (0 : Int)))) 32)))] ++ [u8 (IntKind.wrap IntKind.u8 (Int.fdiv (↑(crc l) : Int) ((2 : Int) ^ min (Int.toNat (IntKind.wrap IntKind.i64 ((8 : Int) * IntKind.wrap IntKind.i64 ((0 : Int) + (1 : Int))))) 32)))] ++ [u8 (IntKind.wrap IntKind.u8 (Int.fdiv (↑(crc l) : Int) ((2 : Int) ^ min (Int.toNat (IntKind.wrap IntKind.i64 ((8 : Int) * IntKind.wrap IntKind.i64 (IntKind.wrap IntKind.i64 ((0 : Int) + (1 : Int)) + (1 : Int))))) 32)))] ++ [u8 (IntKind.wrap IntKind.u8 (Int.fdiv (↑(crc l) : Int) ((2 : Int) ^ min (Int.toNat (IntKind.wrap IntKind.i64 ((8 : Int) * IntKind.wrap IntKind.i64 (IntKind.wrap IntKind.i64 (IntKind.wrap IntKind.i64 ((0 : Int) + (1 : Int)) + (1 : Int)) + (1 : Int))))) 32)))] = List.map (fun c => u8 (UInt8.toNat c)) (ByteArray.mk (List.toArray (sealL l))).data.toList by show bL l ++ [_] ++ [_] ++ [_] ++ [_] = bL (sealL l); unfold sealL; rw [bL_app]; simp only [List.append_assoc, List.cons_append, List.nil_append]; congr 1; unfold le4 bL; simp only [List.map_cons, List.map_nil]; rw [byteOf, byteOf, byteOf, byteOf]; rfl) (hQ (T.v (Value.string (ByteArray.mk (List.toArray (sealL l))))) rfl))))))))))))))))))))))
theorem u64T (n : Nat) (h : n ≤ 1000000000) : T.v (.int .u64 (IntKind.wrap .u64 (n : Int))) = u64 n := by rw [IntKind.wrap_u64]; exact congrArg u64 (by omega)
theorem onum_any (n : Nat) (z : Int) (Q : T → Obs → Glb → Prop) (hQ : ∀ x, x = .agg (X1.partC ⟨1, z, n, ⟨#[]⟩⟩) → Q x [] none_) : TCalls Tryz.prog 92 [u64 n, int z] [] none_ Q := by
  refine TCalls.of Tryz.func92 rfl (CanCall.of Tryz.func92 rfl (by decide)) [] fun Γ => ?_
  let HH : Nat → Nat → Hint := fun _ _ => .no
  exact run_sound ⟨HH, [], fun _ => none⟩ 400 (by kernel_rfl) (fun (Z0 : Nat) => (Yk 4 Z0 (Yb Z0 (hQ (T.agg [int (1 : Int), int z, u64 n, T.v (Value.string (ByteArray.mk #[]))]) rfl))))
end X2
end Go.Proofs.YtpjkdcbogjigeaaGreat.Vm
namespace Go.Proofs.YtpjkdcbogjigeaaGreat
namespace Oct
def getN (l : List UInt8) : Nat := l.foldl (fun n c => 256 * n + c.toNat) 0
def takeL (l : List UInt8) (bad : Int) (frm n : Int) : List UInt8 × List UInt8 × Int :=
  if bad ≠ 0 then ([], l, bad) else if n < 0 then ([], l, 4) else if n > l.length - frm then ([], l, 2)
  else ((l.take (frm + n).toNat).drop frm.toNat, l.drop (frm + n).toNat, 0)
theorem takeL_len (l : List UInt8) (bad : Int) (n : Int) (h0 : 0 ≤ n) (h8 : n ≤ 8) : (takeL l bad 0 n).1.length ≤ 8 := by
  unfold takeL
  split
  · simp
  · split
    · simp
    · split
      · simp
      · simp; omega
theorem getN_lt (l : List UInt8) : getN l < 256 ^ l.length := by
  unfold getN
  suffices h : ∀ (l : List UInt8) (n k : Nat), n < 256 ^ k → l.foldl (fun n c => 256 * n + c.toNat) n < 256 ^ (k + l.length) by
    have := h l 0 0 (by simp)
    simpa using this
  intro l
  induction l with
  | nil => intro n k h; simpa using h
  | cons c l ih =>
    intro n k h
    have := ih (256 * n + c.toNat) (k + 1) (by
      have hc : c.toNat < 256 := c.toNat_lt
      rw [Nat.pow_succ]; omega)
    simpa [Nat.add_assoc, Nat.add_comm 1] using this
theorem getN_snoc (l : List UInt8) (c : UInt8) : getN (l ++ [c]) = 256 * getN l + c.toNat := by simp [getN]
theorem pow_le8 (k : Nat) (h : k ≤ 8) : 256 ^ k ≤ 18446744073709551616 := Nat.le_trans (Nat.pow_le_pow_right (by omega) h) (Nat.le_of_eq rfl)
theorem getN_be : ∀ (k n : Nat), n < 256 ^ k → getN (be k n) = n
  | 0, n, h => by simp at h; simp [be, getN, h]
  | k + 1, n, h => by
    show getN (be k (n / 256) ++ [UInt8.ofNat n]) = n
    rw [getN_snoc, getN_be k (n / 256) (by rw [Nat.pow_succ] at h; omega), UInt8.toNat_ofNat']
    omega
end Oct
end Go.Proofs.YtpjkdcbogjigeaaGreat
namespace Go.Proofs.YtpjkdcbogjigeaaGreat.Vm
open Go Go.RowKit
set_option maxRecDepth 100000
noncomputable abbrev kOR0 (l : List Nat) : It := .code (sub (bd Tryz.f132) l)
noncomputable abbrev kOR1 (l : List Nat) : It := .code (sub (bd Tryz.f153) l)
noncomputable abbrev wOR2 (Γ : Ctx) (Q : T → Obs → Glb → Prop) : List It → S → Prop := TWk Tryz.prog Γ (fin Tryz.prog Tryz.f153 [0] Q)
noncomputable abbrev wOR3 (Γ : Ctx) (Q : T → Obs → Glb → Prop) : List It → S → Prop := TWk Tryz.prog Γ (fin Tryz.prog Tryz.f132 [0] Q)
namespace X1
open Oct (getN takeL)
def rdC (l : List UInt8) (bad : Int) : List T := [str l, int bad]
def obsD (b : Nat) (l : List UInt8) (bad : Int) : Obs := [(b, .cells (rdC l bad))]
theorem read_any (l : List UInt8) (Q : T → Obs → Glb → Prop) (hQ : ∀ b, Q (.ptr 0 b 0) (obsD b l 0) none_) : TCalls Tryz.prog 131 [str l] [] none_ Q := by
  refine TCalls.of Tryz.func131 rfl (CanCall.of Tryz.func131 rfl (by decide)) [0] fun Γ => ?_
  let HH : Nat → Nat → Hint := fun _ _ => .no
  exact run_sound ⟨HH, [], fun _ => none⟩ 400 (by kernel_rfl) (fun (Z0 : Nat) => (hQ Z0))
theorem fail_any (b : Nat) (l : List UInt8) (bad e : Int) (Q : T → Obs → Glb → Prop) (hQ : Q (.tup []) (obsD b l (if bad = 0 then e else bad)) none_) : TCalls Tryz.prog 152 [.ptr 0 b 0, int e] (obsD b l bad) none_ Q := by
  by_cases hb : bad = 0
  · rw [if_pos hb] at hQ
    subst hb
    refine TCalls.of Tryz.func152 rfl (CanCall.of Tryz.func152 rfl (by decide)) [0] fun Γ => ?_
    let HH : Nat → Nat → Hint := fun _ _ => .no
    exact run_sound ⟨HH, [], fun _ => none⟩ 400 (by kernel_rfl) (Yb b (Yl 1 (Yb b (Ya (Yn (2) (2) rfl) hQ))))
  · rw [if_neg hb] at hQ
    refine TCalls.of Tryz.func152 rfl (CanCall.of Tryz.func152 rfl (by decide)) [0] fun Γ => ?_
    let HH : Nat → Nat → Hint := fun _ _ => .no
    exact run_sound ⟨HH, [], fun _ => none⟩ 400 (by kernel_rfl) (Yb b (Ys (bad == (0 : Int)) (fun Z0 => (Yl 1 (Yb b (Ya (Yn (2) (2) rfl) (show Q (T.tup []) [(b, Ob.cells [T.v (Value.string (ByteArray.mk (List.toArray l))), int e])] fun x => none by exfalso; simp only [beq_iff_eq] at *; omega))))) (fun Z1 => hQ)))
def rdH (i : Nat) (l : List UInt8) (bad : Int) (x : T) : Hint := .withB fun B => told x [i] (obsD (B.getD i 0) l bad)
theorem fail_post (b : Nat) (l : List UInt8) (e : Int) : TCalls Tryz.prog 152 [.ptr 0 b 0, int e] (obsD b l 0) none_ (callPost (told (.tup []) [0] (obsD b l e))) :=
  fail_any b l 0 e _ (by rw [if_pos rfl]; exact ⟨(), trivial, rfl, rfl, Nat.le_of_ble_eq_true rfl, fun h => by cases h⟩)
theorem str_cut (l : List UInt8) (a b : Nat) : T.v (.string ((⟨l.toArray⟩ : ByteArray).extract a b)) = str ((l.take b).drop a) := by rw [bs_cut]; rfl
theorem take_any (b : Nat) (l : List UInt8) (hl : l.length ≤ 1000000000) (bad : Int) (frm : Nat) (hf : frm ≤ 1) (hfl : frm ≤ l.length) (n : Int) (hn : n ≤ 1000000000) (Q : T → Obs → Glb → Prop)
    (hQ : ∀ x, x = str (takeL l bad frm n).1 → Q x (obsD b (takeL l bad frm n).2.1 (takeL l bad frm n).2.2) none_) : TCalls Tryz.prog 153 [.ptr 0 b 0, int frm, int n] (obsD b l bad) none_ Q := by
  unfold takeL at hQ
  by_cases hb : bad ≠ 0
  · rw [if_pos hb] at hQ
    refine TCalls.of Tryz.func153 rfl (CanCall.of Tryz.func153 rfl (by decide)) [0] fun Γ => ?_
    let HH : Nat → Nat → Hint := fun _ _ => .no
    exact run_sound ⟨HH, [((0, 9), ([0,1,2], 1))], fun _ => none⟩ 400 (by kernel_rfl) (Yb b (Ys (bad != (0 : Int)) (fun Z0 => (hQ (T.v (Value.string (ByteArray.mk #[]))) rfl)) (fun Z1 => (Ys (decide (n < (0 : Int))) (fun Z2 => (show False by exfalso; simp only [bne_eq_false_iff_eq] at *; omega)) (fun Z3 => (Yb b (Ys (decide (n > IntKind.wrap IntKind.i64 ((↑(ByteArray.size (ByteArray.mk (List.toArray l))) : Int) - (↑frm : Int)))) (fun Z4 => (show False by exfalso; simp only [bne_eq_false_iff_eq] at *; omega)) (fun Z5 => (show wOR2 Γ Q [kOR1 [1,1]] (S.mk (frame 52 [(0, T.ptr 0 b 0), (1, int frm), (2, int n)]) [(b, Ob.cells [T.v (Value.string (ByteArray.mk (List.toArray l))), int bad])] fun x => none) by exfalso; simp only [bne_eq_false_iff_eq] at *; omega)))))))))
  · rw [if_neg hb] at hQ
    have hb0 : bad = 0 := by omega
    subst hb0
    by_cases h0 : n < 0
    · rw [if_pos h0] at hQ
      refine TCalls.of Tryz.func153 rfl (CanCall.of Tryz.func153 rfl (by decide)) [0] fun Γ => ?_
      let HH : Nat → Nat → Hint := fun | 4, 1 => rdH 0 l 4 (.tup []) | _, _ => .no
      exact run_sound ⟨HH, [((0, 6), ([0,1,2], 1))], fun  | _ => none⟩ 400 (by kernel_rfl) (Yb b (Ys (decide (n < (0 : Int))) (fun Z0 => (Ya (fail_post b l 4) (Yu (hQ (T.v (Value.string (ByteArray.mk #[]))) rfl)))) (fun Z1 => (show wOR2 Γ Q [kOR1 [1,0,0,1,1,1,1], It.blk 0, kOR1 [1,1]] (S.mk (frame 52 [(0, T.ptr 0 b 0), (1, int frm), (2, int n)]) [(b, Ob.cells [T.v (Value.string (ByteArray.mk (List.toArray l))), int (0 : Int)])] fun x => none) by exfalso; simp only [decide_eq_false_iff_not] at *; omega))))
    · rw [if_neg h0] at hQ
      have hw : IntKind.wrap .i64 (((⟨l.toArray⟩ : ByteArray).size : Int) - frm) = (l.length : Int) - frm := by rw [bs_len, wrap_i64 (by omega) (by omega)]
      by_cases h1 : n > (l.length : Int) - frm
      · rw [if_pos h1] at hQ
        refine TCalls.of Tryz.func153 rfl (CanCall.of Tryz.func153 rfl (by decide)) [0] fun Γ => ?_
        let HH : Nat → Nat → Hint := fun | 7, 1 => rdH 0 l 2 (.tup []) | _, _ => .no
        let z0 := [(b, Ob.cells [T.v (Value.string (ByteArray.mk (List.toArray l))), int (0 : Int)])]
        exact run_sound ⟨HH, [((0, 4), ([0], 1)), ((0, 9), ([0,1,2], 1))], fun  | _ => none⟩ 400 (by kernel_rfl) (Yb b (Ys (decide (n < (0 : Int))) (fun Z0 => (show wOR2 Γ Q [kOR1 [1,0,0,1,1,1,0], It.blk 0, kOR1 [1,1]] (S.mk (frame 52 [(0, T.ptr 0 b 0)]) z0 fun x => none) by exfalso; simp only [decide_eq_false_iff_not, decide_eq_true_eq] at *; omega)) (fun Z1 => (Yb b (Ys (decide (n > IntKind.wrap IntKind.i64 ((↑(ByteArray.size (ByteArray.mk (List.toArray l))) : Int) - (↑frm : Int)))) (fun Z2 => (Ya (fail_post b l 2) (Yu (hQ (T.v (Value.string (ByteArray.mk #[]))) rfl)))) (fun Z3 => (show wOR2 Γ Q [kOR1 [1,1]] (S.mk (frame 52 [(0, T.ptr 0 b 0), (1, int frm), (2, int n)]) z0 fun x => none) by exfalso; simp only [decide_eq_false_iff_not, decide_eq_true_eq] at *; omega)))))))
      · rw [if_neg h1] at hQ
        obtain ⟨k, rfl⟩ : ∃ k : Nat, n = k := ⟨n.toNat, by omega⟩
        have hw2 : IntKind.wrap .i64 ((frm : Int) + k) = ((frm + k : Nat) : Int) := by rw [wrap_i64 (by omega) (by omega)]; omega
        have e1 : ((frm : Int) + (k : Int)).toNat = frm + k := by omega
        rw [e1, Int.toNat_natCast] at hQ
        have c1 : T.v (.string ((⟨l.toArray⟩ : ByteArray).extract frm (frm + k))) = str ((l.take (frm + k)).drop frm) := str_cut _ _ _
        have c2 : T.v (.string ((⟨l.toArray⟩ : ByteArray).extract (frm + k) (⟨l.toArray⟩ : ByteArray).size)) = str (l.drop (frm + k)) := by rw [str_cut, bs_len, List.take_length]
        have hq : Q (str ((l.take (frm + k)).drop frm)) [(b, .cells [str (l.drop (frm + k)), int 0])] none_ := hQ _ rfl
        rw [← c1, ← c2] at hq
        refine TCalls.of Tryz.func153 rfl (CanCall.of Tryz.func153 rfl (by decide)) [0] fun Γ => ?_
        let HH : Nat → Nat → Hint := fun _ _ => .no
        exact run_sound ⟨HH, [((0, 4), ([0], 1)), ((0, 7), ([0], 1))], fun _ => none⟩ 400 (by kernel_rfl) (Yb b (Yb b (Ys (decide ((↑k : Int) > IntKind.wrap IntKind.i64 ((↑(ByteArray.size (ByteArray.mk (List.toArray l))) : Int) - (↑frm : Int)))) (fun Z0 => (show wOR2 Γ Q [kOR1 [1,0,0,1,1,1,1,1,0], It.blk 0, kOR1 [1,1]] (S.mk (frame 52 [(0, T.ptr 0 b 0)]) [(b, Ob.cells [T.v (Value.string (ByteArray.mk (List.toArray l))), int (0 : Int)])] fun x => none) by exfalso; simp only [decide_eq_false_iff_not, decide_eq_true_eq] at *; omega)) (fun Z1 => (Yb b (Ya (Ya (show (0 : Int) ≤ (IntKind.i64, (↑frm : Int)).snd by omega) (Ya (show (IntKind.i64, (↑frm : Int)).snd ≤ (IntKind.i64, IntKind.wrap IntKind.i64 ((↑frm : Int) + (↑k : Int))).snd by omega) (show (IntKind.i64, IntKind.wrap IntKind.i64 ((↑frm : Int) + (↑k : Int))).snd ≤ (↑(ByteArray.size (ByteArray.mk (List.toArray l))) : Int) by rw [bs_len]; omega))) (Yb b (Ya (Ya (show (0 : Int) ≤ (IntKind.i64, IntKind.wrap IntKind.i64 ((↑frm : Int) + (↑k : Int))).snd by omega) (Ya (show (IntKind.i64, IntKind.wrap IntKind.i64 ((↑frm : Int) + (↑k : Int))).snd ≤ (↑(ByteArray.size (ByteArray.mk (List.toArray l))) : Int) by rw [bs_len]; omega) (show (↑(ByteArray.size (ByteArray.mk (List.toArray l))) : Int) ≤ (↑(ByteArray.size (ByteArray.mk (List.toArray l))) : Int) by omega))) (Yl 1 (Yb b (Ya (Yn (1) (2) rfl) (show Q (T.v (Value.string (ByteArray.extract (ByteArray.mk (List.toArray l)) (Int.toNat (IntKind.i64, (↑frm : Int)).snd) (Int.toNat (IntKind.i64, IntKind.wrap IntKind.i64 ((↑frm : Int) + (↑k : Int))).snd)))) [(b, Ob.cells [T.v (Value.string (ByteArray.extract (ByteArray.mk (List.toArray l)) (Int.toNat (IntKind.i64, IntKind.wrap IntKind.i64 ((↑frm : Int) + (↑k : Int))).snd) (Int.toNat (↑(ByteArray.size (ByteArray.mk (List.toArray l))) : Int)))), int (0 : Int)])] fun x => none by simp only [hw, hw2] at *; exact hq))))))))))))
theorem raw_any (b : Nat) (l : List UInt8) (hl : l.length ≤ 1000000000) (bad : Int) (n : Int) (hn : n ≤ 1000000000) (Q : T → Obs → Glb → Prop)
    (hQ : ∀ x, x = str (takeL l bad 0 n).1 → Q x (obsD b (takeL l bad 0 n).2.1 (takeL l bad 0 n).2.2) none_) : TCalls Tryz.prog 134 [.ptr 0 b 0, int n] (obsD b l bad) none_ Q := by
  have h : TCalls Tryz.prog 153 [.ptr 0 b 0, int 0, int n] (obsD b l bad) none_ (callPost (told (str (takeL l bad 0 n).1) [0] (obsD b (takeL l bad 0 n).2.1 (takeL l bad 0 n).2.2))) :=
    take_any b l hl bad 0 (by decide) (Nat.zero_le _) n hn _ (fun y hy => ⟨(), trivial, hy, rfl, Nat.le_of_ble_eq_true rfl, fun h => by cases h⟩)
  generalize takeL l bad 0 n = q at *
  refine TCalls.of Tryz.func134 rfl (CanCall.of Tryz.func134 rfl (by decide)) [0] fun Γ => ?_
  let HH : Nat → Nat → Hint := fun | 3, 2 => rdH 0 q.2.1 q.2.2 (str q.1) | _, _ => .no
  exact run_sound ⟨HH, [], fun  | _ => none⟩ 400 (by kernel_rfl) (Ya h (Yu (hQ (T.v (Value.string (ByteArray.mk (List.toArray q.fst)))) rfl)))
theorem orT (N c : Nat) (hN : N * 256 + 256 ≤ 18446744073709551616) (hc : c < 256) : T.v (.int .u64 (IntKind.wrap .u64 ((BitVec.ofInt 64 ((N * 256 : Nat) : Int) ||| BitVec.ofInt 64 (c : Int)).toNat : Int))) = u64 ((256 * N + c : Nat) : Int) := by
  have e : (BitVec.ofInt 64 ((N * 256 : Nat) : Int) ||| BitVec.ofInt 64 (c : Int)).toNat = 256 * N + c := by
    rw [BitVec.toNat_or, BitVec.ofInt_natCast, BitVec.ofInt_natCast, BitVec.toNat_ofNat, BitVec.toNat_ofNat, Nat.mod_eq_of_lt (by omega), Nat.mod_eq_of_lt (by omega), Nat.mul_comm N 256]
    exact (Nat.two_pow_add_eq_or_of_lt (i := 8) (b := c) (by omega) N).symm
  rw [e, IntKind.wrap_u64]
  exact congrArg u64 (by omega)
theorem num_loop (Γ : Ctx) (b : Nat) (l d : List UInt8) (bad : Int) (hd : d.length ≤ 8) (Q : T → Obs → Glb → Prop) (hQ : ∀ x, x = u64 (getN d) → Q x (obsD b l bad) none_) : ∀ (f i : Nat), i + f = d.length →
    wOR3 Γ Q [kOR0 [1,1,1,0,1,0], .blk 1, kOR0 [1,1,1,1]] ⟨frame 36 [(5, u64 (getN (d.take i))), (23, .sl 1 (bL d)), (24, int (bL d).length), (25, int i)], obsD b l bad, none_⟩ := by
  intro f
  induction f with
  | zero =>
    intro i hi
    obtain rfl : i = d.length := by omega
    rw [List.take_length]
    let HH : Nat → Nat → Hint := fun | 9, 0 => .res (u8 0) | _, _ => .no
    let z0 := List.map (fun c => u8 (UInt8.toNat c)) d
    exact run_sound ⟨HH, [((2, 8), ([5,23,24,25], 1))], fun  | _ => none⟩ 400 (by kernel_rfl) (Ys (decide ((↑(List.length d) : Int) < (↑(List.length (List.map (fun c => u8 (UInt8.toNat c)) d)) : Int))) (fun Z0 => (Ya (show (0 : Int) ≤ (↑(List.length d) : Int) by omega) (Ya (show z0[Int.toNat (↑(List.length d) : Int)]? = some (u8 (0 : Int)) by exfalso; simp only [decide_eq_true_eq, List.length_map] at *; omega) (show wOR3 Γ Q [kOR0 [1,1,1,0,1,0], It.blk 1, kOR0 [1,1,1,1]] (S.mk (frame 36 [(5, u64 (IntKind.wrap IntKind.u64 (↑(BitVec.toNat (BitVec.ofInt 64 (IntKind.wrap IntKind.u64 ((↑(getN d) : Int) * (2 : Int) ^ min (Int.toNat (8 : Int)) 64)) ||| BitVec.ofInt 64 (IntKind.wrap IntKind.u64 (0 : Int)))) : Int))), (23, T.sl 1 z0), (24, int (List.length z0)), (25, int (IntKind.wrap IntKind.i64 ((↑(List.length d) : Int) + (1 : Int))))]) [(b, Ob.cells [T.v (Value.string (ByteArray.mk (List.toArray l))), int bad])] fun x => none) by exfalso; simp only [decide_eq_true_eq, List.length_map] at *; omega)))) (fun Z1 => (hQ (u64 (getN d)) rfl)))
  | succ f ih =>
    intro i hi
    have hlt : i < d.length := by omega
    have nx := ih (i + 1) (by omega)
    rw [List.take_succ_eq_append_getElem hlt, Oct.getN_snoc] at nx
    have hN := Oct.getN_lt (d.take i)
    have hlen : (d.take i).length = i := by rw [List.length_take]; omega
    rw [hlen] at hN
    have h8 := Oct.pow_le8 (i + 1) (by omega)
    rw [Nat.pow_succ] at h8
    have hc := (d[i]).toNat_lt
    have hx : (bL d)[(i : Int).toNat]? = some (u8 (d[i]).toNat) := by rw [Int.toNat_natCast, bL, List.getElem?_map, List.getElem?_eq_getElem hlt]; rfl
    have hw : IntKind.wrap .i64 ((i : Int) + 1) = ((i + 1 : Nat) : Int) := by rw [wrap_i64 (by omega) (by omega)]; omega
    generalize getN (d.take i) = N at *
    generalize 256 ^ i = p at *
    have hs : T.v (.int .u64 (IntKind.wrap .u64 ((N : Int) * 256))) = u64 (N * 256 : Nat) := by rw [IntKind.wrap_u64]; exact congrArg u64 (by omega)
    have hcv : T.v (.int .u64 (IntKind.wrap .u64 ((d[i]).toNat : Int))) = u64 (d[i]).toNat := by rw [IntKind.wrap_u64]; exact congrArg u64 (by omega)
    let HH : Nat → Nat → Hint := fun | 9, 0 => .res (u8 (d[i]).toNat) | 10, 1 => .res (u64 (N * 256 : Nat)) | 10, 3 => .res (u64 (d[i]).toNat) | 10, 4 => .res (u64 (256 * N + (d[i]).toNat : Nat)) | _, _ => .no
    exact run_sound ⟨HH, [((2, 8), ([5,23,24,25], 1))], fun  | _ => none⟩ 400 (by kernel_rfl) (Ys (decide ((↑i : Int) < (↑(List.length (List.map (fun c => u8 (UInt8.toNat c)) d)) : Int))) (fun Z0 => (Ya (show (0 : Int) ≤ (↑i : Int) by omega) (Ya hx (Ya hs (Ya hcv (Ya (show u64 (IntKind.wrap IntKind.u64 (↑(BitVec.toNat (BitVec.ofInt 64 (↑(N * 256) : Int) ||| BitVec.ofInt 64 (↑(UInt8.toNat d[i]) : Int))) : Int)) = u64 (256 * N + UInt8.toNat d[i]) from orT N _ (by omega) (by omega)) (show wOR3 Γ Q [kOR0 [1,1,1,0,1,0], It.blk 1, kOR0 [1,1,1,1]] (S.mk (frame 36 [(5, u64 (256 * N + UInt8.toNat d[i])), (23, T.sl 1 (List.map (fun c => u8 (UInt8.toNat c)) d)), (24, int (List.length (List.map (fun c => u8 (UInt8.toNat c)) d))), (25, int (IntKind.wrap IntKind.i64 ((↑i : Int) + (1 : Int))))]) [(b, Ob.cells [T.v (Value.string (ByteArray.mk (List.toArray l))), int bad])] fun x => none) by simp only [hw] at *; exact nx))))))) (fun Z1 => (show Q (u64 N) [(b, Ob.cells [T.v (Value.string (ByteArray.mk (List.toArray l))), int bad])] fun x => none by exfalso; simp only [decide_eq_false_iff_not, List.length_map] at *; omega)))
theorem rdnum_any (b : Nat) (l : List UInt8) (hl : l.length ≤ 1000000000) (bad : Int) (z : Nat) (hz : 1 ≤ z ∧ z ≤ 8) (Q : T → Obs → Glb → Prop)
    (hQ : ∀ x, x = u64 (getN (takeL l bad 0 z).1) → Q x (obsD b (takeL l bad 0 z).2.1 (takeL l bad 0 z).2.2) none_) : TCalls Tryz.prog 132 [.ptr 0 b 0, int z] (obsD b l bad) none_ Q := by
  have h8 := Oct.takeL_len l bad z (by omega) (by omega)
  have h : TCalls Tryz.prog 153 [.ptr 0 b 0, int 0, int z] (obsD b l bad) none_ (callPost (told (str (takeL l bad 0 z).1) [0] (obsD b (takeL l bad 0 z).2.1 (takeL l bad 0 z).2.2))) :=
    take_any b l hl bad 0 (by decide) (Nat.zero_le _) z (by omega) _ (fun y hy => ⟨(), trivial, hy, rfl, Nat.le_of_ble_eq_true rfl, fun h => by cases h⟩)
  generalize takeL l bad 0 z = q at *
  have lp := fun Γ => num_loop Γ b q.2.1 q.1 q.2.2 h8 Q hQ q.1.length 0 (by omega)
  refine TCalls.of Tryz.func132 rfl (CanCall.of Tryz.func132 rfl (by decide)) [0] fun Γ => ?_
  let HH : Nat → Nat → Hint := fun | 7, 2 => rdH 0 q.2.1 q.2.2 (str q.1) | _, _ => .no
  let z0 := S.mk (frame 36 [(0, T.ptr 0 b 0)]) [(b, Ob.cells [T.v (Value.string (ByteArray.mk (List.toArray l))), int bad])] fun x => none
  let z1 := [kOR0 [1,0,0,1,1,1,0], It.blk 0, kOR0 [1,1]]
  exact run_sound ⟨HH, [((2, 8), ([5,23,24,25], 1)), ((0, 4), ([0], 1))], fun  | _ => none⟩ 400 (by kernel_rfl) (Ys (decide ((↑z : Int) < (1 : Int))) (fun Z0 => (show wOR3 Γ Q z1 z0 by exfalso; simp only [decide_eq_true_eq] at *; omega)) (fun Z1 => (Ys (decide ((↑z : Int) > (8 : Int))) (fun Z2 => (show wOR3 Γ Q z1 z0 by exfalso; simp only [decide_eq_true_eq] at *; omega)) (fun Z3 => (Ya h (Yu (Ya (show ByteArray.size (ByteArray.mk (List.toArray q.fst)) ≤ 140737488355328 by rw [bs_len]; omega) (lp Γ))))))))
end X1
end Go.Proofs.YtpjkdcbogjigeaaGreat.Vm
namespace Go.Proofs.YtpjkdcbogjigeaaGreat.Jrn
open Crc (sealL sealL_len le4 crc)
open Oct (be getN)
structure Dk where
  b : List UInt8
  n : Nat
  off : Bool
def newD : Dk := ⟨[], 0, false⟩
def rdyE (d : Dk) : Int := if d.off then 10 else 0
def appE (d : Dk) (s : List UInt8) : Int := if d.off then 10 else if 1048576 < d.b.length + s.length then 6 else 0
def appD (d : Dk) (s : List UInt8) : Dk := if appE d s = 0 then { d with b := d.b ++ s } else d
def synD (d : Dk) : Dk := if d.off then d else { d with n := d.b.length }
def keepD (d : Dk) (n : Nat) : Dk := ⟨d.b.take n, n, d.off⟩
def startD (d : Dk) : Dk := { d with off := false }
structure Dk.Ok (d : Dk) : Prop where
  n : d.n ≤ d.b.length
  l : d.b.length ≤ 1048576
theorem Dk.Ok.keep {d : Dk} (h : d.Ok) {n : Nat} (hn : n ≤ d.b.length) : (keepD d n).Ok := by
  have h2 := h.l
  exact ⟨by show n ≤ (d.b.take n).length; rw [List.length_take]; omega, by show (d.b.take n).length ≤ _; rw [List.length_take]; omega⟩
theorem Dk.Ok.start {d : Dk} (h : d.Ok) : (startD d).Ok := ⟨h.n, h.l⟩
def frL (l : List UInt8) : List UInt8 := sealL (be 2 l.length ++ l)
theorem frL_len (l : List UInt8) : (frL l).length = l.length + 6 := by rw [frL, sealL_len]; simp [Oct.length_be]; omega
def hdN (s : List UInt8) : Nat := getN (s.take 2)
def Vr (t : List UInt8) : Prop := 1 ≤ t.length ∧ t.length ≤ 512
def firstB (s : List UInt8) : Bool := decide (2 ≤ s.length ∧ 1 ≤ hdN s ∧ hdN s ≤ 512 ∧ hdN s + 6 ≤ s.length ∧ frL ((s.drop 2).take (hdN s)) = s.take (hdN s + 6))
def firstL (s : List UInt8) : Option (List UInt8) := if firstB s then some ((s.drop 2).take (hdN s)) else none
theorem firstL_some {s t : List UInt8} (h : firstL s = some t) : Vr t ∧ t.length = hdN s ∧ t.length + 6 ≤ s.length ∧ s.take (t.length + 6) = frL t := by
  unfold firstL at h
  split at h
  · rename_i hb
    obtain ⟨h1, h2, h3, h4, h5⟩ := of_decide_eq_true hb
    injection h with h
    have hl : t.length = hdN s := by rw [← h, List.length_take, List.length_drop]; omega
    rw [h] at h5
    exact ⟨⟨by omega, by omega⟩, hl, by omega, by rw [hl]; exact h5.symm⟩
  · cases h
theorem hdN_fr (t r : List UInt8) (h : t.length < 65536) : hdN (frL t ++ r) = t.length := by
  unfold hdN frL sealL
  rw [List.append_assoc, List.append_assoc, List.take_append_of_le_length (by simp [Oct.length_be]), List.take_of_length_le (by simp [Oct.length_be])]
  exact Oct.getN_be 2 t.length (by omega)
theorem text_fr (t r : List UInt8) : ((frL t ++ r).drop 2).take t.length = t := by
  unfold frL sealL
  rw [List.append_assoc, List.append_assoc, List.drop_append_of_le_length (by simp [Oct.length_be]), List.drop_of_length_le (by simp [Oct.length_be]), List.nil_append, List.take_append_of_le_length (Nat.le_refl _), List.take_length]
theorem take_fr (t r : List UInt8) : (frL t ++ r).take (t.length + 6) = frL t := by
  rw [← frL_len, List.take_append_of_le_length (Nat.le_refl _), List.take_length]
theorem firstL_fr {t : List UInt8} (h : Vr t) (r : List UInt8) : firstL (frL t ++ r) = some t := by
  have h1 := h.1
  have h2 := h.2
  unfold firstL
  rw [if_pos]
  · rw [hdN_fr t r (by omega), text_fr]
  · unfold firstB
    rw [hdN_fr t r (by omega), text_fr, take_fr]
    refine decide_eq_true ⟨?_, h1, h2, ?_, rfl⟩
    · rw [List.length_append, frL_len]; omega
    · rw [List.length_append, frL_len]; omega
theorem firstL_nil : firstL [] = none := by unfold firstL; rw [if_neg]; intro hb; obtain ⟨a1, _⟩ := of_decide_eq_true hb; simp at a1
def recs : Nat → List UInt8 → List (List UInt8) × Nat
  | 0, _ => ([], 0)
  | f + 1, s => match firstL s with
    | none => ([], 0)
    | some t => (t :: (recs f (s.drop (t.length + 6))).1, t.length + 6 + (recs f (s.drop (t.length + 6))).2)
def flat (l : List (List UInt8)) : List UInt8 := l.flatMap frL
theorem flat_snoc (l : List (List UInt8)) (t : List UInt8) : flat (l ++ [t]) = flat l ++ frL t := by simp [flat]
theorem flat_cons (l : List (List UInt8)) (t : List UInt8) : flat (t :: l) = frL t ++ flat l := by simp [flat]
def recA (s : List UInt8) : List (List UInt8) × Nat := recs s.length s
theorem recs_flat : ∀ (l : List (List UInt8)) (f : Nat) (r : List UInt8), (∀ t ∈ l, Vr t) → l.length ≤ f → (l.length < f → firstL r = none) → recs f (flat l ++ r) = (l, (flat l).length)
  | [], 0, _, _, _, _ => rfl
  | [], f + 1, r, _, _, h => by
    show recs (f + 1) r = ([], 0)
    unfold recs
    rw [h (by simp)]
  | t :: l, 0, _, _, h, _ => by simp at h
  | t :: l, f + 1, r, hv, hl, h => by
    rw [flat_cons, List.append_assoc]
    unfold recs
    rw [firstL_fr (hv t (by simp))]
    have e : (frL t ++ (flat l ++ r)).drop (t.length + 6) = flat l ++ r := by
      rw [← frL_len, List.drop_append_of_le_length (Nat.le_refl _), List.drop_length, List.nil_append]
    dsimp only
    rw [e, recs_flat l f r (fun t ht => hv t (by simp [ht])) (by simpa using hl) (fun hh => h (by simpa using hh))]
    dsimp only
    rw [List.length_append, frL_len]
theorem flat_len_ge (l : List (List UInt8)) : l.length ≤ (flat l).length := by
  induction l with
  | nil => exact Nat.le_refl _
  | cons t l ih => rw [flat_cons, List.length_append, frL_len, List.length_cons]; omega
theorem recA_flat {l : List (List UInt8)} {r : List UInt8} (hv : ∀ t ∈ l, Vr t) (hr : firstL r = none) : recA (flat l ++ r) = (l, (flat l).length) :=
  recs_flat l _ r hv (by rw [List.length_append]; have := flat_len_ge l; omega) (fun _ => hr)
def jd (l : List (List UInt8)) : Dk := ⟨flat l, (flat l).length, false⟩
def Vs (l : List (List UInt8)) : Prop := (∀ t ∈ l, Vr t) ∧ (flat l).length ≤ 1048576
theorem Vs.ok {l : List (List UInt8)} (h : Vs l) : (jd l).Ok := ⟨Nat.le_refl _, h.2⟩
theorem vs_nil : Vs [] := ⟨(fun _ h => by cases h), (by decide)⟩
theorem rec_jd {l : List (List UInt8)} (h : Vs l) : recA (jd l).b = (l, (flat l).length) := by
  have := recA_flat (r := []) h.1 firstL_nil
  rw [List.append_nil] at this
  exact this
theorem keep_jd (l : List (List UInt8)) : keepD (jd l) (flat l).length = jd l := by
  unfold keepD jd
  rw [List.take_length]
theorem appE_jd {l : List (List UInt8)} {s : List UInt8} (h : (flat l).length + s.length + 6 ≤ 1048576) : appE (jd l) (frL s) = 0 := by
  unfold appE
  rw [if_neg (show ¬ (jd l).off = true from Bool.false_ne_true), if_neg]
  rw [frL_len]
  show ¬ 1048576 < (flat l).length + (s.length + 6)
  omega
theorem add_jd {l : List (List UInt8)} {s : List UInt8} (h : (flat l).length + s.length + 6 ≤ 1048576) : synD (appD (jd l) (frL s)) = jd (l ++ [s]) := by
  unfold appD
  rw [if_pos (appE_jd h)]
  unfold synD
  dsimp only
  rw [if_neg (show ¬ (jd l).off = true from Bool.false_ne_true)]
  unfold jd
  rw [flat_snoc]
theorem Vs.len {l : List (List UInt8)} (h : Vs l) : l.length ≤ 1048576 := Nat.le_trans (flat_len_ge l) h.2
end Go.Proofs.YtpjkdcbogjigeaaGreat.Jrn
