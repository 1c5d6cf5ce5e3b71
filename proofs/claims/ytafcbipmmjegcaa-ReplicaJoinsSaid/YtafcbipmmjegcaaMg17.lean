/- Texts of this claim: RpA, VmG. -/
import Derived.Test.YtafcbipmmjegcaaMg15
import Derived.Test.YtafcbipmmjegcaaMg16
import Derived.Test.YtafcbipmmjegcaaMg13
namespace Go.Proofs.Ytafcbipmmjegcaa.Vm
open Go Go.RowKit
set_option maxRecDepth 100000
namespace X20
open Rep (Stp Wrd Cel Drv Plc RS Fm Ev)
def txt (z : ByteArray) : T := .v (.string z)
def stC (s : Stp) : List T := [u32 s.n, u8 s.b, u8 s.l]
def wdC (w : Wrd) : List T := [u32 w.s.n, u8 w.s.b, u8 w.s.l, bool w.h, txt w.t, bool w.r]
def clC (c : Cel) : List T := [u32 c.w.s.n, u8 c.w.s.b, u8 c.w.s.l, bool c.w.h, txt c.w.t, bool c.w.r, int c.st]
theorem nat_lt {a b : Nat} : decide ((a : Int) < (b : Int)) = decide (a < b) := by rw [Bool.eq_iff_iff]; simp only [decide_eq_true_eq]; omega
theorem nat_eq {a b : Nat} : ((a : Int) == (b : Int)) = decide (a = b) := by rw [Bool.eq_iff_iff]; simp only [beq_iff_eq, decide_eq_true_eq]; omega
theorem below_any (a b c d : Nat) (Q : T → Obs → Glb → Prop) (hQ : ∀ r, r = bool (decide (a < c ∨ a = c ∧ b < d)) → Q r [] none_) : TCalls Try.prog 89 [.agg [u32 a, u8 b], .agg [u32 c, u8 d]] [] none_ Q := by
 refine TCalls.of Try.func89 rfl (CanCall.of Try.func89 rfl (by decide)) [] fun Γ => ?_
 refine run_sound (⟨fun _ _ => .no, [], fun _ => none⟩) 400 (B := ∀ (b_1 b_2 : Nat), b_1 = b_1 ∧ b_2 = b_2 ∧ bsplit (decide ((↑a : Int) < (↑c : Int))) (Q (T.v (Value.bool true)) [] fun x => none) (b_1 = b_1 ∧ b_2 = b_2 ∧ bsplit ((↑a : Int) == (↑c : Int)) (b_1 = b_1 ∧ b_2 = b_2 ∧ Q (T.v (Value.bool (decide ((↑b : Int) < (↑d : Int))))) [] fun x => none) (Q (T.v (Value.bool false)) [] fun x => none))) (by kernel_rfl) ?_
 repeat' (first | exact rfl | exact Nat.le_of_ble_eq_true rfl | refine And.intro ?_ ?_ | intro _ | refine bsplit_mk (fun _ => ?_) (fun _ => ?_))
 all_goals (refine hQ _ (congrArg bool ?_); simp only [nat_lt, nat_eq] at *; simp_all)
theorem less_iff (a b : Stp) : Rep.less a b = true ↔ (a.n < b.n ∨ a.n = b.n ∧ (a.b < b.b ∨ a.b = b.b ∧ a.l < b.l)) := by unfold Rep.less; exact decide_eq_true_iff
theorem less_any (a b : Stp) (Q : T → Obs → Glb → Prop) (hQ : ∀ r, r = bool (Rep.less a b) → Q r [] none_) : TCalls Try.prog 54 [.agg (stC a), .agg (stC b)] [] none_ Q := by
 refine TCalls.of Try.func54 rfl (CanCall.of Try.func54 rfl (by decide)) [] fun Γ => ?_
 let HH : Nat → Nat → Hint := fun | 1, 4 => told (bool (decide (a.n < b.n ∨ a.n = b.n ∧ a.b < b.b))) [] [] | _, _ => .no
 exact run_sound ⟨HH, [], fun  | _ => none⟩ 400 (by kernel_rfl) (fun (Z0 : Nat) => (fun (Z1 : Nat) => (Yb Z0 (Yb Z1 (Ya (below_any a.n a.b b.n b.b (HH 1 4).P fun r h => told_post h) (Yu (Ys (decide (a.n < b.n ∨ a.n = b.n ∧ a.b < b.b)) (fun Z2 => (hQ (bool true) (congrArg (fun b => bool b) (by rw [Bool.eq_iff_iff, less_iff]; simp only [nat_lt, nat_eq, Bool.and_true, Bool.and_eq_true, decide_eq_true_eq, decide_eq_false_iff_not, Bool.and_eq_false_imp, Bool.false_eq_true, true_iff, false_iff] at *; omega)))) (fun Z3 => (Yb Z0 (Yb Z1 (Ys ((↑a.n : Int) == (↑b.n : Int) && ((↑a.b : Int) == (↑b.b : Int) && true)) (fun Z4 => (Yb Z0 (Yb Z1 (hQ (bool (decide ((↑a.l : Int) < (↑b.l : Int)))) (congrArg (fun b => bool b) (by rw [Bool.eq_iff_iff, less_iff]; simp only [nat_lt, nat_eq, Bool.and_true, Bool.and_eq_true, decide_eq_true_eq, decide_eq_false_iff_not, Bool.and_eq_false_imp, Bool.false_eq_true, true_iff, false_iff] at *; omega)))))) (fun Z5 => (hQ (bool false) (congrArg (fun b => bool b) (by rw [Bool.eq_iff_iff, less_iff]; simp only [nat_lt, nat_eq, Bool.and_true, Bool.and_eq_true, decide_eq_true_eq, decide_eq_false_iff_not, Bool.and_eq_false_imp, Bool.false_eq_true, true_iff, false_iff] at *; omega)))))))))))))))
theorem more_any (n b d w : Nat) (hn : n ≤ 4294967295) (hd : d ≤ 2) (Q : T → Obs → Glb → Prop) (hQ : ∀ r, r = (if n + d ≤ 4294967295 then .tup [.agg [u32 (n + d : Nat), u8 w], bool true] else .tup [.agg [u32 0, u8 0], bool false]) → Q r [] none_) : TCalls Try.prog 81 [.agg [u32 n, u8 b], u32 d, u8 w] [] none_ Q := by
 have e1 : IntKind.wrap .u32 (4294967295 - (n : Int)) = 4294967295 - (n : Int) := IntWalk.u32_in _ (by omega)
 refine TCalls.of Try.func81 rfl (CanCall.of Try.func81 rfl (by decide)) [] fun Γ => ?_
 refine run_sound (⟨fun _ _ => .no, [], fun _ => none⟩) 400 (B := ∀ (b b_1 : Nat), b = b ∧ bsplit (decide ((↑d : Int) > IntKind.wrap IntKind.u32 ((4294967295 : Int) - (↑n : Int)))) (((2 : Nat) = nat_lit 2 ∧ List.all [T.v (Value.int IntKind.u32 (0 : Int)), T.v (Value.int IntKind.u8 (0 : Int))] T.one = true) ∧ b_1 = b_1 ∧ (0 : Nat) + nat_lit 2 ≤ (2 : Nat) ∧ b_1 = b_1 ∧ Q (T.tup [T.agg [T.v (Value.int IntKind.u32 (0 : Int)), T.v (Value.int IntKind.u8 (0 : Int))], T.v (Value.bool false)]) [] fun x => none) (b = b ∧ ((2 : Nat) = nat_lit 2 ∧ List.all [T.v (Value.int IntKind.u32 (IntKind.wrap IntKind.u32 ((↑n : Int) + (↑d : Int)))), T.v (Value.int IntKind.u8 (↑w : Int))] T.one = true) ∧ b_1 = b_1 ∧ (0 : Nat) + nat_lit 2 ≤ (2 : Nat) ∧ b_1 = b_1 ∧ Q (T.tup [T.agg [T.v (Value.int IntKind.u32 (IntKind.wrap IntKind.u32 ((↑n : Int) + (↑d : Int)))), T.v (Value.int IntKind.u8 (↑w : Int))], T.v (Value.bool true)]) [] fun x => none)) (by kernel_rfl) ?_
 rw [e1]
 repeat' (first | exact rfl | exact Nat.le_of_ble_eq_true rfl | refine And.intro ?_ ?_ | intro _ | refine bsplit_mk (fun _ => ?_) (fun _ => ?_))
 all_goals (refine hQ _ ?_; rename_i h; simp only [decide_eq_true_eq, decide_eq_false_iff_not] at h)
 ·rw [if_neg (by omega)]; rfl
 ·rw [if_pos (by omega), IntWalk.u32_in _ (by omega)]; rfl
def nxT (o : Option Stp) : T := match o with | some s => .tup [.agg (stC s), bool true] | none => .tup [.agg [u32 0, u8 0, u8 0], bool false]
theorem next_any (s : Stp) (d node life : Nat) (hn : s.n ≤ 4294967295) (h1 : 1 ≤ d) (hd : d ≤ 2) (Q : T → Obs → Glb → Prop) (hQ : ∀ r, r = nxT (Rep.nextS s d node life) → Q r [] none_) : TCalls Try.prog 44 [.agg (stC s), u32 d, u8 node, u8 life] [] none_ Q := by
 by_cases h : s.n + d ≤ 4294967295
 ·have hQ := hQ _ (by rw [Rep.nextS, if_pos h])
  refine TCalls.of Try.func44 rfl (CanCall.of Try.func44 rfl (by decide)) [] fun Γ => ?_
  let HH : Nat → Nat → Hint := fun | 1, 4 => told (.tup [.agg [u32 (s.n + d : Nat), u8 node], bool true]) [] [] | _, _ => .no
  exact run_sound ⟨HH, [], fun  | _ => none⟩ 400 (by kernel_rfl) (fun (Z0 : Nat) => (fun (Z1 : Nat) => (Yb Z0 (Ya (more_any s.n s.b d node hn hd (HH 1 4).P fun r hr => told_post (by rw [hr, if_pos h])) (Yu (fun (Z2 : Nat) => (Yk 2 Z2 (Ys ((↑d : Int) == (0 : Int)) (fun Z3 => (Yk 3 Z1 (Yb Z1 (show Q (T.tup [T.agg [u32 (0 : Int), u8 (0 : Int), u8 (0 : Int)], bool false]) [] fun x => none by exfalso; simp at *; omega)))) (fun Z4 => (Yb Z2 (Yk 3 Z1 (Yb Z1 hQ))))))))))))
 ·have hQ := hQ _ (by rw [Rep.nextS, if_neg h])
  refine TCalls.of Try.func44 rfl (CanCall.of Try.func44 rfl (by decide)) [] fun Γ => ?_
  let HH : Nat → Nat → Hint := fun | 1, 4 => told (.tup [.agg [u32 0, u8 0], bool false]) [] [] | _, _ => .no
  exact run_sound ⟨HH, [], fun  | _ => none⟩ 400 (by kernel_rfl) (fun (Z0 : Nat) => (fun (Z1 : Nat) => (Yb Z0 (Ya (more_any s.n s.b d node hn hd (HH 1 4).P fun r hr => told_post (by rw [hr, if_neg h])) (Yu (fun (Z2 : Nat) => (Yk 2 Z2 (Yk 3 Z1 (Yb Z1 hQ)))))))))
theorem state_any (b : Bool) (Q : T → Obs → Glb → Prop) (hQ : ∀ r, r = int (if b then 1 else 2 : Nat) → Q r [] none_) : TCalls Try.prog 98 [bool b] [] none_ Q := by
 refine TCalls.of Try.func98 rfl (CanCall.of Try.func98 rfl (by decide)) [] fun Γ => ?_
 refine run_sound (⟨fun _ _ => .no, [], fun _ => none⟩) 400 (B := bsplit b (Q (T.v (Value.int IntKind.i64 (1 : Int))) [] fun x => none) (Q (T.v (Value.int IntKind.i64 (2 : Int))) [] fun x => none)) (by kernel_rfl) ?_
 repeat' (first | exact rfl | exact Nat.le_of_ble_eq_true rfl | refine And.intro ?_ ?_ | intro _ | refine bsplit_mk (fun _ => ?_) (fun _ => ?_))
 all_goals (rename_i h; refine hQ _ ?_; rw [h]; rfl)
theorem st_eq (s t : Stp) : ((s.n : Int) == t.n && ((s.b : Int) == t.b && ((s.l : Int) == t.l && true))) = decide (s = t) := by
 obtain ⟨a, b, c⟩ := s
 obtain ⟨d, e, f⟩ := t
 rw [Bool.eq_iff_iff]
 simp only [nat_eq, Bool.and_true, Bool.and_eq_true, decide_eq_true_eq, Stp.mk.injEq]
theorem st_eq2 (s t : Stp) : (((s.n : Int) == t.n && ((s.b : Int) == t.b && true)) && ((s.l : Int) == t.l && true)) = decide (s = t) := by
 rw [← st_eq, Bool.eq_iff_iff]
 simp only [Bool.and_true, Bool.and_eq_true, and_assoc]
def ivT (x : Cel × Nat) : T := .tup [.agg (clC x.1), int x.2]
theorem inv_any (c : Cel) (w : Wrd) (Q : T → Obs → Glb → Prop) (hQ : ∀ r, r = ivT (Rep.inv c w) → Q r [] none_) : TCalls Try.prog 45 [.agg (clC c), .agg (wdC w)] [] none_ Q := by
 refine TCalls.of Try.func45 rfl (CanCall.of Try.func45 rfl (by decide)) [] fun Γ => ?_
 refine run_sound (⟨fun | 1, 5 => told (bool (Rep.less c.w.s w.s)) [] [] | _, _ => .no, [], fun  | _ => none⟩) 400 (B := ∀ (b b_1 b_2 : Nat), b = b ∧ b_1 = b_1 ∧ TCalls Try.prog (54 : Nat) [T.agg [T.v (Value.int IntKind.u32 (↑(Stp.n (Wrd.s (Cel.w c))) : Int)), T.v (Value.int IntKind.u8 (↑(Stp.b (Wrd.s (Cel.w c))) : Int)), T.v (Value.int IntKind.u8 (↑(Stp.l (Wrd.s (Cel.w c))) : Int))], T.agg [T.v (Value.int IntKind.u32 (↑(Stp.n (Wrd.s w)) : Int)), T.v (Value.int IntKind.u8 (↑(Stp.b (Wrd.s w)) : Int)), T.v (Value.int IntKind.u8 (↑(Stp.l (Wrd.s w)) : Int))]] [] (fun x => none) (callPost (Hint.call false Unit (fun x => True) [] false (fun x => bool (Rep.less (Wrd.s (Cel.w c)) (Wrd.s w))) (fun x => []) fun x => none_)) ∧ ∀ (a : Unit), True → bsplit (Rep.less (Wrd.s (Cel.w c)) (Wrd.s w)) (b_1 = b_1 ∧ ((7 : Nat) = nat_lit 7 ∧ List.all [T.v (Value.int IntKind.u32 (↑(Stp.n (Wrd.s w)) : Int)), T.v (Value.int IntKind.u8 (↑(Stp.b (Wrd.s w)) : Int)), T.v (Value.int IntKind.u8 (↑(Stp.l (Wrd.s w)) : Int)), T.v (Value.bool (Wrd.h w)), T.v (Value.string (Wrd.t w)), T.v (Value.bool (Wrd.r w)), T.v (Value.int IntKind.i64 (2 : Int))] T.one = true) ∧ b_2 = b_2 ∧ (0 : Nat) + nat_lit 7 ≤ (7 : Nat) ∧ b_2 = b_2 ∧ Q (T.tup [T.agg [T.v (Value.int IntKind.u32 (↑(Stp.n (Wrd.s w)) : Int)), T.v (Value.int IntKind.u8 (↑(Stp.b (Wrd.s w)) : Int)), T.v (Value.int IntKind.u8 (↑(Stp.l (Wrd.s w)) : Int)), T.v (Value.bool (Wrd.h w)), T.v (Value.string (Wrd.t w)), T.v (Value.bool (Wrd.r w)), T.v (Value.int IntKind.i64 (2 : Int))], T.v (Value.int IntKind.i64 (1 : Int))]) [] fun x => none) (b = b ∧ b_1 = b_1 ∧ bsplit ((↑(Stp.n (Wrd.s (Cel.w c))) : Int) == (↑(Stp.n (Wrd.s w)) : Int) && ((↑(Stp.b (Wrd.s (Cel.w c))) : Int) == (↑(Stp.b (Wrd.s w)) : Int) && true) && ((↑(Stp.l (Wrd.s (Cel.w c))) : Int) == (↑(Stp.l (Wrd.s w)) : Int) && true)) (b = b ∧ ((7 : Nat) = nat_lit 7 ∧ List.all [T.v (Value.int IntKind.u32 (↑(Stp.n (Wrd.s (Cel.w c))) : Int)), T.v (Value.int IntKind.u8 (↑(Stp.b (Wrd.s (Cel.w c))) : Int)), T.v (Value.int IntKind.u8 (↑(Stp.l (Wrd.s (Cel.w c))) : Int)), T.v (Value.bool (Wrd.h (Cel.w c))), T.v (Value.string (Wrd.t (Cel.w c))), T.v (Value.bool (Wrd.r (Cel.w c))), T.v (Value.int IntKind.i64 (↑(Cel.st c) : Int))] T.one = true) ∧ b_2 = b_2 ∧ (0 : Nat) + nat_lit 7 ≤ (7 : Nat) ∧ b_2 = b_2 ∧ Q (T.tup [T.agg [T.v (Value.int IntKind.u32 (↑(Stp.n (Wrd.s (Cel.w c))) : Int)), T.v (Value.int IntKind.u8 (↑(Stp.b (Wrd.s (Cel.w c))) : Int)), T.v (Value.int IntKind.u8 (↑(Stp.l (Wrd.s (Cel.w c))) : Int)), T.v (Value.bool (Wrd.h (Cel.w c))), T.v (Value.string (Wrd.t (Cel.w c))), T.v (Value.bool (Wrd.r (Cel.w c))), T.v (Value.int IntKind.i64 (↑(Cel.st c) : Int))], T.v (Value.int IntKind.i64 (2 : Int))]) [] fun x => none) (b_1 = b_1 ∧ bsplit (Wrd.r w) (b = b ∧ ((7 : Nat) = nat_lit 7 ∧ List.all [T.v (Value.int IntKind.u32 (↑(Stp.n (Wrd.s (Cel.w c))) : Int)), T.v (Value.int IntKind.u8 (↑(Stp.b (Wrd.s (Cel.w c))) : Int)), T.v (Value.int IntKind.u8 (↑(Stp.l (Wrd.s (Cel.w c))) : Int)), T.v (Value.bool (Wrd.h (Cel.w c))), T.v (Value.string (Wrd.t (Cel.w c))), T.v (Value.bool (Wrd.r (Cel.w c))), T.v (Value.int IntKind.i64 (↑(Cel.st c) : Int))] T.one = true) ∧ b_2 = b_2 ∧ (0 : Nat) + nat_lit 7 ≤ (7 : Nat) ∧ b_2 = b_2 ∧ Q (T.tup [T.agg [T.v (Value.int IntKind.u32 (↑(Stp.n (Wrd.s (Cel.w c))) : Int)), T.v (Value.int IntKind.u8 (↑(Stp.b (Wrd.s (Cel.w c))) : Int)), T.v (Value.int IntKind.u8 (↑(Stp.l (Wrd.s (Cel.w c))) : Int)), T.v (Value.bool (Wrd.h (Cel.w c))), T.v (Value.string (Wrd.t (Cel.w c))), T.v (Value.bool (Wrd.r (Cel.w c))), T.v (Value.int IntKind.i64 (↑(Cel.st c) : Int))], T.v (Value.int IntKind.i64 (4 : Int))]) [] fun x => none) (b = b ∧ ((7 : Nat) = nat_lit 7 ∧ List.all [T.v (Value.int IntKind.u32 (↑(Stp.n (Wrd.s (Cel.w c))) : Int)), T.v (Value.int IntKind.u8 (↑(Stp.b (Wrd.s (Cel.w c))) : Int)), T.v (Value.int IntKind.u8 (↑(Stp.l (Wrd.s (Cel.w c))) : Int)), T.v (Value.bool (Wrd.h (Cel.w c))), T.v (Value.string (Wrd.t (Cel.w c))), T.v (Value.bool (Wrd.r (Cel.w c))), T.v (Value.int IntKind.i64 (↑(Cel.st c) : Int))] T.one = true) ∧ b_2 = b_2 ∧ (0 : Nat) + nat_lit 7 ≤ (7 : Nat) ∧ b_2 = b_2 ∧ Q (T.tup [T.agg [T.v (Value.int IntKind.u32 (↑(Stp.n (Wrd.s (Cel.w c))) : Int)), T.v (Value.int IntKind.u8 (↑(Stp.b (Wrd.s (Cel.w c))) : Int)), T.v (Value.int IntKind.u8 (↑(Stp.l (Wrd.s (Cel.w c))) : Int)), T.v (Value.bool (Wrd.h (Cel.w c))), T.v (Value.string (Wrd.t (Cel.w c))), T.v (Value.bool (Wrd.r (Cel.w c))), T.v (Value.int IntKind.i64 (↑(Cel.st c) : Int))], T.v (Value.int IntKind.i64 (3 : Int))]) [] fun x => none)))) (by kernel_rfl) ?_
 repeat' (first | exact rfl | exact Nat.le_of_ble_eq_true rfl | refine And.intro ?_ ?_ | intro _ | refine bsplit_mk (fun _ => ?_) (fun _ => ?_))
 all_goals first
  | exact less_any _ _ _ fun r hr => told_post hr
  | skip
 all_goals refine hQ _ ?_
 all_goals try simp only [st_eq2] at *
 ·rename_i h; unfold Rep.inv; rw [if_pos h]; rfl
 ·rename_i h g; unfold Rep.inv; rw [if_neg (by simp [h]), if_pos (by simpa using g)]; rfl
 ·rename_i h k g; unfold Rep.inv; rw [if_neg (by simp [h]), if_neg (by simpa using g), if_pos k]; rfl
 ·rename_i h k g; unfold Rep.inv; rw [if_neg (by simp [h]), if_neg (by simpa using g), if_neg (by simp [k])]; rfl
def vlT (x : Cel × Bool) : T := .tup [.agg (clC x.1), bool x.2]
theorem two_ne {n : Nat} (h : ((n : Int) != 2) = true) : n ≠ 2 := by simp at h; omega
theorem two_eq {n : Nat} (h : ((n : Int) != 2) = false) : n = 2 := by simp at h; omega
theorem val_any (c : Cel) (t : Stp) (Q : T → Obs → Glb → Prop) (hQ : ∀ r, r = vlT (Rep.val c t) → Q r [] none_) : TCalls Try.prog 74 [.agg (clC c), .agg (stC t)] [] none_ Q := by
 refine TCalls.of Try.func74 rfl (CanCall.of Try.func74 rfl (by decide)) [] fun Γ => ?_
 let HH : Nat → Nat → Hint := fun _ _ => .no
 exact run_sound ⟨HH, [], fun _ => none⟩ 400 (by kernel_rfl) (fun (Z0 : Nat) => (fun (Z1 : Nat) => (fun (Z2 : Nat) => (Yb Z0 (Ys ((↑c.st : Int) != (2 : Int)) (fun Z3 => (Yb Z0 (Yk 7 Z2 (Yb Z2 (show Q (T.tup [T.agg (clC c), bool false]) [] fun x => none by refine hQ _ ?_; unfold Rep.val; rw [if_neg (fun g => two_ne Z3 g.1)]; rfl))))) (fun Z4 => (Yb Z0 (Yb Z1 (Ys (!((↑c.w.s.n : Int) == (↑t.n : Int) && ((↑c.w.s.b : Int) == (↑t.b : Int) && true) && ((↑c.w.s.l : Int) == (↑t.l : Int) && true))) (fun Z5 => (Yb Z0 (Yk 7 Z2 (Yb Z2 (show Q (T.tup [T.agg (clC c), bool false]) [] fun x => none by rw [st_eq2] at Z5; refine hQ _ ?_; unfold Rep.val; rw [if_neg (fun g => by simp at Z5; exact Z5 g.2)]; rfl))))) (fun Z6 => (Yl 1 (Yb Z0 (Ya (Yn (7) (7) rfl) (Yb Z0 (Yk 7 Z2 (Yb Z2 (show Q (T.tup [T.agg [u32 c.w.s.n, u8 c.w.s.b, u8 c.w.s.l, bool c.w.h, T.v (Value.string c.w.t), bool c.w.r, int (1 : Int)], bool true]) [] fun x => none by rw [st_eq2] at Z6; refine hQ _ ?_; unfold Rep.val; rw [if_pos ⟨two_eq Z4, by simpa using Z6⟩]; rfl)))))))))))))))))
theorem give_any (c : Cel) (w : Wrd) (v : Bool) (Q : T → Obs → Glb → Prop) (hQ : ∀ r, r = vlT (Rep.give c w v) → Q r [] none_) : TCalls Try.prog 77 [.agg (clC c), .agg (wdC w), bool v] [] none_ Q := by
 refine TCalls.of Try.func77 rfl (CanCall.of Try.func77 rfl (by decide)) [] fun Γ => ?_
 refine run_sound (⟨fun | 1, 9 => told (bool (Rep.less c.w.s w.s)) [] [] | 2, 2 => told (int (if v then 1 else 2 : Nat)) [] [] | 5, 3 => told (vlT (Rep.val c w.s)) [] [] | _, _ => .no, [], fun | 2 => some ⟨[1], [4], .take true [0,1] (.one 2 (.take true [3] (.one 4 (.take false [5] .done))))⟩ | _ => none⟩) 400 (B := ∀ (b b_1 b_2 : Nat), b = b ∧ bsplit ((↑(Cel.st c) : Int) == (0 : Int)) (b_1 = b_1 ∧ TCalls Try.prog (98 : Nat) [T.v (Value.bool v)] [] (fun x => none) (callPost (Hint.call false Unit (fun x => True) [] false (fun x => int (↑(if v = true then (1 : Nat) else (2 : Nat)) : Int)) (fun x => []) fun x => none_)) ∧ ∀ (a : Unit), True → ((7 : Nat) = nat_lit 7 ∧ List.all [T.v (Value.int IntKind.u32 (↑(Stp.n (Wrd.s w)) : Int)), T.v (Value.int IntKind.u8 (↑(Stp.b (Wrd.s w)) : Int)), T.v (Value.int IntKind.u8 (↑(Stp.l (Wrd.s w)) : Int)), T.v (Value.bool (Wrd.h w)), T.v (Value.string (Wrd.t w)), T.v (Value.bool (Wrd.r w)), T.v (Value.int IntKind.i64 (↑(if v = true then (1 : Nat) else (2 : Nat)) : Int))] T.one = true) ∧ b_2 = b_2 ∧ (0 : Nat) + nat_lit 7 ≤ (7 : Nat) ∧ b_2 = b_2 ∧ Q (T.tup [T.agg [T.v (Value.int IntKind.u32 (↑(Stp.n (Wrd.s w)) : Int)), T.v (Value.int IntKind.u8 (↑(Stp.b (Wrd.s w)) : Int)), T.v (Value.int IntKind.u8 (↑(Stp.l (Wrd.s w)) : Int)), T.v (Value.bool (Wrd.h w)), T.v (Value.string (Wrd.t w)), T.v (Value.bool (Wrd.r w)), T.v (Value.int IntKind.i64 (↑(if v = true then (1 : Nat) else (2 : Nat)) : Int))], T.v (Value.bool true)]) [] fun x => none) (b = b ∧ b_1 = b_1 ∧ TCalls Try.prog (54 : Nat) [T.agg [T.v (Value.int IntKind.u32 (↑(Stp.n (Wrd.s (Cel.w c))) : Int)), T.v (Value.int IntKind.u8 (↑(Stp.b (Wrd.s (Cel.w c))) : Int)), T.v (Value.int IntKind.u8 (↑(Stp.l (Wrd.s (Cel.w c))) : Int))], T.agg [T.v (Value.int IntKind.u32 (↑(Stp.n (Wrd.s w)) : Int)), T.v (Value.int IntKind.u8 (↑(Stp.b (Wrd.s w)) : Int)), T.v (Value.int IntKind.u8 (↑(Stp.l (Wrd.s w)) : Int))]] [] (fun x => none) (callPost (Hint.call false Unit (fun x => True) [] false (fun x => bool (Rep.less (Wrd.s (Cel.w c)) (Wrd.s w))) (fun x => []) fun x => none_)) ∧ ∀ (a : Unit), True → bsplit (Rep.less (Wrd.s (Cel.w c)) (Wrd.s w)) (b_1 = b_1 ∧ TCalls Try.prog (98 : Nat) [T.v (Value.bool v)] [] (fun x => none) (callPost (Hint.call false Unit (fun x => True) [] false (fun x => int (↑(if v = true then (1 : Nat) else (2 : Nat)) : Int)) (fun x => []) fun x => none_)) ∧ ∀ (a : Unit), True → ((7 : Nat) = nat_lit 7 ∧ List.all [T.v (Value.int IntKind.u32 (↑(Stp.n (Wrd.s w)) : Int)), T.v (Value.int IntKind.u8 (↑(Stp.b (Wrd.s w)) : Int)), T.v (Value.int IntKind.u8 (↑(Stp.l (Wrd.s w)) : Int)), T.v (Value.bool (Wrd.h w)), T.v (Value.string (Wrd.t w)), T.v (Value.bool (Wrd.r w)), T.v (Value.int IntKind.i64 (↑(if v = true then (1 : Nat) else (2 : Nat)) : Int))] T.one = true) ∧ b_2 = b_2 ∧ (0 : Nat) + nat_lit 7 ≤ (7 : Nat) ∧ b_2 = b_2 ∧ Q (T.tup [T.agg [T.v (Value.int IntKind.u32 (↑(Stp.n (Wrd.s w)) : Int)), T.v (Value.int IntKind.u8 (↑(Stp.b (Wrd.s w)) : Int)), T.v (Value.int IntKind.u8 (↑(Stp.l (Wrd.s w)) : Int)), T.v (Value.bool (Wrd.h w)), T.v (Value.string (Wrd.t w)), T.v (Value.bool (Wrd.r w)), T.v (Value.int IntKind.i64 (↑(if v = true then (1 : Nat) else (2 : Nat)) : Int))], T.v (Value.bool true)]) [] fun x => none) (bsplit (!v) (b = b ∧ ((7 : Nat) = nat_lit 7 ∧ List.all [T.v (Value.int IntKind.u32 (↑(Stp.n (Wrd.s (Cel.w c))) : Int)), T.v (Value.int IntKind.u8 (↑(Stp.b (Wrd.s (Cel.w c))) : Int)), T.v (Value.int IntKind.u8 (↑(Stp.l (Wrd.s (Cel.w c))) : Int)), T.v (Value.bool (Wrd.h (Cel.w c))), T.v (Value.string (Wrd.t (Cel.w c))), T.v (Value.bool (Wrd.r (Cel.w c))), T.v (Value.int IntKind.i64 (↑(Cel.st c) : Int))] T.one = true) ∧ b_2 = b_2 ∧ (0 : Nat) + nat_lit 7 ≤ (7 : Nat) ∧ b_2 = b_2 ∧ Q (T.tup [T.agg [T.v (Value.int IntKind.u32 (↑(Stp.n (Wrd.s (Cel.w c))) : Int)), T.v (Value.int IntKind.u8 (↑(Stp.b (Wrd.s (Cel.w c))) : Int)), T.v (Value.int IntKind.u8 (↑(Stp.l (Wrd.s (Cel.w c))) : Int)), T.v (Value.bool (Wrd.h (Cel.w c))), T.v (Value.string (Wrd.t (Cel.w c))), T.v (Value.bool (Wrd.r (Cel.w c))), T.v (Value.int IntKind.i64 (↑(Cel.st c) : Int))], T.v (Value.bool false)]) [] fun x => none) (b = b ∧ b_1 = b_1 ∧ TCalls Try.prog (74 : Nat) [T.agg [T.v (Value.int IntKind.u32 (↑(Stp.n (Wrd.s (Cel.w c))) : Int)), T.v (Value.int IntKind.u8 (↑(Stp.b (Wrd.s (Cel.w c))) : Int)), T.v (Value.int IntKind.u8 (↑(Stp.l (Wrd.s (Cel.w c))) : Int)), T.v (Value.bool (Wrd.h (Cel.w c))), T.v (Value.string (Wrd.t (Cel.w c))), T.v (Value.bool (Wrd.r (Cel.w c))), T.v (Value.int IntKind.i64 (↑(Cel.st c) : Int))], T.agg [T.v (Value.int IntKind.u32 (↑(Stp.n (Wrd.s w)) : Int)), T.v (Value.int IntKind.u8 (↑(Stp.b (Wrd.s w)) : Int)), T.v (Value.int IntKind.u8 (↑(Stp.l (Wrd.s w)) : Int))]] [] (fun x => none) (callPost (Hint.call false Unit (fun x => True) [] false (fun x => vlT (Rep.val c (Wrd.s w))) (fun x => []) fun x => none_)) ∧ ∀ (a : Unit), True → ((7 : Nat) = nat_lit 7 ∧ List.all [T.v (Value.int IntKind.u32 (↑(Stp.n (Wrd.s (Cel.w (Prod.fst (Rep.val c (Wrd.s w)))))) : Int)), T.v (Value.int IntKind.u8 (↑(Stp.b (Wrd.s (Cel.w (Prod.fst (Rep.val c (Wrd.s w)))))) : Int)), T.v (Value.int IntKind.u8 (↑(Stp.l (Wrd.s (Cel.w (Prod.fst (Rep.val c (Wrd.s w)))))) : Int)), T.v (Value.bool (Wrd.h (Cel.w (Prod.fst (Rep.val c (Wrd.s w)))))), T.v (Value.string (Wrd.t (Cel.w (Prod.fst (Rep.val c (Wrd.s w)))))), T.v (Value.bool (Wrd.r (Cel.w (Prod.fst (Rep.val c (Wrd.s w)))))), T.v (Value.int IntKind.i64 (↑(Cel.st (Prod.fst (Rep.val c (Wrd.s w)))) : Int))] T.one = true) ∧ b_2 = b_2 ∧ (0 : Nat) + nat_lit 7 ≤ (7 : Nat) ∧ b_2 = b_2 ∧ Q (T.tup [T.agg [T.v (Value.int IntKind.u32 (↑(Stp.n (Wrd.s (Cel.w (Prod.fst (Rep.val c (Wrd.s w)))))) : Int)), T.v (Value.int IntKind.u8 (↑(Stp.b (Wrd.s (Cel.w (Prod.fst (Rep.val c (Wrd.s w)))))) : Int)), T.v (Value.int IntKind.u8 (↑(Stp.l (Wrd.s (Cel.w (Prod.fst (Rep.val c (Wrd.s w)))))) : Int)), T.v (Value.bool (Wrd.h (Cel.w (Prod.fst (Rep.val c (Wrd.s w)))))), T.v (Value.string (Wrd.t (Cel.w (Prod.fst (Rep.val c (Wrd.s w)))))), T.v (Value.bool (Wrd.r (Cel.w (Prod.fst (Rep.val c (Wrd.s w)))))), T.v (Value.int IntKind.i64 (↑(Cel.st (Prod.fst (Rep.val c (Wrd.s w)))) : Int))], T.v (Value.bool (Prod.snd (Rep.val c (Wrd.s w))))]) [] fun x => none)))) (by kernel_rfl) ?_
 repeat' (first | exact rfl | exact Nat.le_of_ble_eq_true rfl | refine And.intro ?_ ?_ | intro _ | refine bsplit_mk (fun _ => ?_) (fun _ => ?_))
 all_goals first
  | exact less_any _ _ _ fun r hr => told_post hr
  | exact state_any _ _ fun r hr => told_post hr
  | exact val_any _ _ _ fun r hr => told_post hr
  | skip
 ·rename_i h _ _
  refine hQ _ ?_; unfold Rep.give; rw [if_pos (show c.st = 0 ∨ Rep.less c.w.s w.s = true from .inl (by simp at h; omega))]; rfl
 ·rename_i _ h _ _
  refine hQ _ ?_; unfold Rep.give; rw [if_pos (show c.st = 0 ∨ Rep.less c.w.s w.s = true from .inr h)]; rfl
 ·rename_i h0 _ _ h g
  refine hQ _ ?_; unfold Rep.give; rw [if_neg (fun k => by simp at h0; rcases k with k | k; · omega
                                                           ·rw [h] at k; cases k), if_neg (by simpa using g)]; rfl
 ·rename_i h0 _ _ h g _ _
  refine hQ _ ?_; unfold Rep.give; rw [if_neg (fun k => by simp at h0; rcases k with k | k; · omega
                                                           ·rw [h] at k; cases k), if_pos (by simpa using g)]; rfl
end X20
end Go.Proofs.Ytafcbipmmjegcaa.Vm
namespace Go.Proofs.Ytafcbipmmjegcaa.Vm
open Go Go.RowKit
def setO (gl : Glb) (b : Nat) (X : Ob) : Glb := fun j => if j = b then some X else gl j
def dropO (gl : Glb) (b : Nat) : Glb := fun j => if j = b then none else gl j
theorem setO_at (gl : Glb) (b : Nat) (X : Ob) : setO gl b X b = some X := if_pos rfl
theorem setO_ne (gl : Glb) {b c : Nat} (X : Ob) (h : c ≠ b) : setO gl b X c = gl c := if_neg h
theorem dropO_ne (gl : Glb) {b c : Nat} (h : c ≠ b) : dropO gl b c = gl c := if_neg h
theorem dropO_at (gl : Glb) (b : Nat) : dropO gl b b = none := if_pos rfl
theorem setO_drop (gl : Glb) (b : Nat) (X : Ob) : setO (dropO gl b) b X = setO gl b X := by funext j; unfold setO dropO; split <;> rfl
theorem setO_comm (gl : Glb) {b c : Nat} (X Y : Ob) (h : b ≠ c) : setO (setO gl b X) c Y = setO (setO gl c Y) b X := by
 funext j; unfold setO; split <;> split <;> simp_all
theorem setO_self (gl : Glb) {b : Nat} {X : Ob} (h : gl b = some X) : setO gl b X = gl := by funext j; unfold setO; split <;> simp_all
structure Apart (ob : Obs) (gl : Glb) : Prop where
 apart : ∀ (i j : Nat) (x y : Nat × Ob) (b : Nat), ob[i]? = some x → ob[j]? = some y → obBlk x = some b → obBlk y = some b → i = j
 sep : ∀ (i : Nat) (x : Nat × Ob) (b : Nat), ob[i]? = some x → obBlk x = some b → gl b = none
theorem Imp.intoG {ts : List T} {ob : Obs} {gl : Glb} {b : Nat} {X : Ob} (hb : obBlk (b, X) = some b) : Imp ts (ob ++ [(b, X)]) gl ts ob (setO gl b X) := by
 have hlast : (ob ++ [(b, X)])[ob.length]? = some (b, X) := by simp
 have hin : ∀ {i : Nat} {x : Nat × Ob}, ob[i]? = some x → (ob ++ [(b, X)])[i]? = some x ∧ i < ob.length := fun {i x} h => by
  obtain ⟨hl, _⟩ := List.getElem?_eq_some_iff.1 h
  exact ⟨by rw [List.getElem?_append_left hl]; exact h, hl⟩
 refine ⟨fun _ _ h => h, fun M w h => ⟨h.promise, fun i x hx => h.objs i x (hin hx).1, fun i j x y c hx hy h1 h2 => h.apart i j x y c (hin hx).1 (hin hy).1 h1 h2, fun c x hx => ?_, fun i x c hx h1 => ?_⟩, fun c hc => ?_⟩
 ·unfold setO at hx
  split at hx
  ·rename_i e
   injection hx with hx
   subst e hx
   exact ⟨hb, h.objs _ _ hlast⟩
  ·exact h.glob c x hx
 ·by_cases e : c = b
  ·subst e
   have := h.apart i ob.length x _ c (hin hx).1 hlast h1 hb
   have := (hin hx).2
   omega
  ·rw [setO_ne gl X e]; exact h.sep i x c (hin hx).1 h1
 ·rcases hc with ⟨i, x, h1, h2⟩ | h1
  ·exact .inl ⟨i, x, (hin h1).1, h2⟩
  ·by_cases e : c = b
   ·exact .inl ⟨ob.length, (b, X), hlast, e ▸ hb⟩
   ·rw [setO_ne gl X e] at h1; exact .inr h1
theorem Imp.outG {ts : List T} {ob : Obs} {gl : Glb} {b : Nat} {X : Ob} (hb : obBlk (b, X) = some b) (hg : gl b = some X) : Imp ts ob gl ts (ob ++ [(b, X)]) (dropO gl b) := by
 have hcase : ∀ {i : Nat} {x : Nat × Ob}, (ob ++ [(b, X)])[i]? = some x → (ob[i]? = some x ∧ i < ob.length) ∨ (i = ob.length ∧ x = (b, X)) := fun {i x} h => by
  rw [List.getElem?_append] at h
  split at h
  ·exact .inl ⟨h, by assumption⟩
  ·rename_i hge
   have : i - ob.length = 0 := by
    rcases Nat.eq_zero_or_pos (i - ob.length) with e | e
    ·exact e
    ·rw [List.getElem?_eq_none (by simp; omega)] at h; cases h
   rw [this] at h
   simp at h
   exact .inr ⟨by omega, h.symm⟩
 refine ⟨fun _ _ h => h, fun M w h => ?_, fun c hc => ?_⟩
 ·refine ⟨h.promise, fun i x hx => ?_, fun i j x y c hx hy h1 h2 => ?_, fun c x hx => ?_, fun i x c hx h1 => ?_⟩
  ·rcases hcase hx with ⟨h1, _⟩ | ⟨_, rfl⟩
   ·exact h.objs i x h1
   ·exact (h.glob b X hg).2
  ·rcases hcase hx with ⟨g1, g2⟩ | ⟨g1, rfl⟩ <;> rcases hcase hy with ⟨k1, k2⟩ | ⟨k1, rfl⟩
   ·exact h.apart i j x y c g1 k1 h1 h2
   ·rw [hb] at h2; injection h2 with h2; subst h2
    rw [h.sep i x _ g1 h1] at hg; cases hg
   ·rw [hb] at h1; injection h1 with h1; subst h1
    rw [h.sep j y _ k1 h2] at hg; cases hg
   ·omega
  ·unfold dropO at hx
   split at hx
   ·cases hx
   ·exact h.glob c x hx
  ·rcases hcase hx with ⟨g1, g2⟩ | ⟨g1, rfl⟩
   ·unfold dropO; split
    ·rfl
    ·exact h.sep i x c g1 h1
   ·rw [hb] at h1; injection h1 with h1; subst h1; exact dropO_at _ _
 ·rcases hc with ⟨i, x, h1, h2⟩ | h1
  ·rcases hcase h1 with ⟨g1, _⟩ | ⟨_, rfl⟩
   ·exact .inl ⟨i, x, g1, h2⟩
   ·refine .inr ?_
    rw [hb] at h2
    injection h2 with h2
    rw [← h2, hg]; rfl
  ·unfold dropO at h1
   split at h1
   ·cases h1
   ·exact .inr h1
theorem TCalls.postA {P : Program} {f : FuncId} {ts : List T} {ob : Obs} {gl : Glb} {Q Q' : T → Obs → Glb → Prop} (h : TCalls P f ts ob gl Q)
  (hq : ∀ r ob' gl', Apart ob' gl' → Q r ob' gl' → ∃ r2 ob2 gl2, Imp [r] ob' gl' [r2] ob2 gl2 ∧ Q' r2 ob2 gl2) : TCalls P f ts ob gl Q' :=
 ⟨h.can, fun M w xs hp hx => (h.calls M w xs hp hx).mono fun _ _ ⟨x, r, M', ob', gl', h1, h2, h3, h4, h5⟩ => by
  obtain ⟨r2, ob2, gl2, hi, h6⟩ := hq r ob' gl' ⟨h3.apart, h3.sep⟩ h5
  refine ⟨x, r2, M', ob2, gl2, h1, ?_, hi.hp _ _ h3, h4.imp hi.dom, h6⟩
  have := hi.rel M' [x] (by simp only [RelL]; exact ⟨x, [], rfl, h2, rfl⟩)
  simp only [RelL] at this
  obtain ⟨u, us, e, h7, _⟩ := this
  injection e with e
  exact e ▸ h7⟩
theorem TCalls.apart {P : Program} {f : FuncId} {ts : List T} {ob : Obs} {gl : Glb} {Q : T → Obs → Glb → Prop} (hc : CanCall P f) (h : Apart ob gl → TCalls P f ts ob gl Q) : TCalls P f ts ob gl Q :=
 ⟨hc, fun M w xs hp hx => (h ⟨hp.apart, hp.sep⟩).calls M w xs hp hx⟩
theorem TWk.apart {P : Program} {Γ : Ctx} {R : S → Prop} {c : Code} {k : List It} {s : S} (h : Apart s.ob s.gl → TWk P Γ R (.code c :: k) s) : TWk P Γ R (.code c :: k) s :=
 ⟨fun M a w hs => (h ⟨hs.hp.apart, hs.hp.sep⟩).out M a w hs⟩
theorem Imp.cellR {ts : List T} {ob : Obs} {gl : Glb} {i b j : Nat} {cs : List T} {t t' : T} (hi : ob[i]? = some (b, .cells cs)) (hj : cs[j]? = some t) (ht : ∀ M v, Rel M t v → Rel M t' v) : Imp ts ob gl ts (ob.set i (b, .cells (cs.set j t'))) gl :=
 Imp.ob hi (fun M w h => by
  obtain ⟨C, t0, h1, h2, h3⟩ := h
  refine ⟨C, t0, h1, ?_, h3⟩
  obtain ⟨y, g1, g2⟩ := h2.get hj
  have h4 := h2.set j (ht M y g2)
  have e : C.toList.set j y = C.toList := by
   obtain ⟨hl, he⟩ := List.getElem?_eq_some_iff.1 g1
   rw [← he, List.set_getElem_self]
  rwa [e] at h4) (fun _ h => h)
theorem ptr_gp {i b o : Nat} (M : Pm) (v : Value) (h : Rel M (.ptr i b o) v) : Rel M (.gp b o) v := h
theorem gp_ptr {i b o : Nat} (M : Pm) (v : Value) (h : Rel M (.gp b o) v) : Rel M (.ptr i b o) v := h
theorem mp_v {i b : Nat} (M : Pm) (v : Value) (h : Rel M (.mp i b) v) : Rel M (.v (.map (some b))) v := h
theorem v_mp {i b : Nat} (M : Pm) (v : Value) (h : Rel M (.v (.map (some b))) v) : Rel M (.mp i b) v := h
end Go.Proofs.Ytafcbipmmjegcaa.Vm
