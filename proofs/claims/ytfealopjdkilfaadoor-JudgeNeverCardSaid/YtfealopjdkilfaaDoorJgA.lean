/- Judge by the engine: entries; has, apply. -/
import Derived.Test.YtfealopjdkilfaaDoorRegA
import Derived.Test.YtfealopjdkilfaaDoorJdg1
namespace Go.Proofs.YtfealopjdkilfaaDoor.Vm
open Go Go.RowKit
set_option maxRecDepth 100000
namespace X27
open Reg (Val Res In64 applyR)
open Jdg (En never sure fits next)
open X4 (Gs obsG vC opC tabC strI)
theorem bit_of (m i : Nat) (hm : m < 65536) (hi : i < 16) : (IntKind.u32.wrap ↑(BitVec.ofInt 32 ((m : Int).fdiv (2 ^ min (i : Int).toNat 32)) &&& BitVec.ofInt 32 1).toNat == 1) = m.testBit i := by
  have e1 : min (i : Int).toNat 32 = i := by omega
  rw [e1]
  have e2 : (m : Int).fdiv (2 ^ i) = ((m / 2 ^ i : Nat) : Int) := by
    rw [Int.fdiv_eq_ediv_of_nonneg _ (Int.le_of_lt (Int.pow_pos (by decide)))]
    simp
  rw [e2]
  have e3 : BitVec.ofInt 32 ((m / 2 ^ i : Nat) : Int) = BitVec.ofNat 32 (m / 2 ^ i) := BitVec.ofInt_natCast 32 _
  have e4 : BitVec.ofInt 32 1 = BitVec.ofNat 32 1 := rfl
  rw [e3, e4, BitVec.toNat_and, BitVec.toNat_ofNat, BitVec.toNat_ofNat]
  have e5 : m / 2 ^ i % 2 ^ 32 = m / 2 ^ i := Nat.mod_eq_of_lt (Nat.lt_of_le_of_lt (Nat.div_le_self _ _) (by omega))
  rw [e5, show 1 % 2 ^ 32 = 1 from rfl, Nat.and_one_is_mod]
  have e6 : m.testBit i = (m / 2 ^ i % 2 == 1) := by
    rw [Nat.testBit_eq_decide_div_mod_eq]
    rfl
  rw [e6]
  rcases Nat.mod_two_eq_zero_or_one (m / 2 ^ i) with h | h <;> rw [h] <;> rfl
def enC (x : En) : List T := [int x.op.k, int x.op.key, str x.op.t, bool x.op.o.h, str x.op.o.t, int x.op.n, int x.s, int x.e, int x.er, bool x.av.h, str x.av.t, u32 0, u8 0, u8 0, bool x.w]
theorem never_post (x : En) : TCalls Tryd.prog 16 [.agg (enC x)] [] none_ (callPost (told (bool (never x)) [] [])) := by
  have hQ : ∀ y, y = bool (never x) → callPost (told (bool (never x)) [] []) y [] none_ := fun y h => told_post h
  generalize callPost (told (bool (never x)) [] []) = Q at *
  unfold Jdg.never at hQ
  unfold enC
  refine TCalls.of Tryd.func16 rfl (CanCall.of Tryd.func16 rfl (by decide)) [] fun Γ => ?_
  refine run_sound (⟨fun _ _ => .no, [], fun _ => none⟩) 400 (B := ∀ (b : Nat), b = b ∧ bsplit (decide (En.e x > (0 : Int))) (b = b ∧ Q (T.v (Value.bool (En.er x == (12 : Int)))) [] fun x => none) (Q (T.v (Value.bool false)) [] fun x => none)) (by kernel_rfl) ?_
  repeat' (first | exact rfl | exact Nat.le_of_ble_eq_true rfl | refine And.intro ?_ ?_ | intro _ | refine bsplit_mk (fun _ => ?_) (fun _ => ?_))
  all_goals first
    | (refine hQ _ ?_; rename_i h; rw [h]; rfl)
    | trace_state
theorem sure_post (x : En) : TCalls Tryd.prog 18 [.agg (enC x)] [] none_ (callPost (told (bool (sure x)) [] [])) := by
  have hQ : ∀ y, y = bool (sure x) → callPost (told (bool (sure x)) [] []) y [] none_ := fun y h => told_post h
  generalize callPost (told (bool (sure x)) [] []) = Q at *
  have cn := never_post x
  unfold Jdg.sure at hQ
  generalize never x = nv at *
  unfold enC at *
  refine TCalls.of Tryd.func18 rfl (CanCall.of Tryd.func18 rfl (by decide)) [] fun Γ => ?_
  refine run_sound (⟨fun | 1, 11 => told (bool nv) [] [] | _, _ => .no, [], fun  | _ => none⟩) 400 (B := ∀ (b : Nat), b = b ∧ bsplit (decide (En.e x > (0 : Int))) (b = b ∧ bsplit (En.er x != (13 : Int)) (b = b ∧ TCalls Tryd.prog (16 : Nat) [T.agg [T.v (Value.int IntKind.i64 (Reg.Op.k (En.op x))), T.v (Value.int IntKind.i64 (Reg.Op.key (En.op x))), T.v (Value.string (ByteArray.mk (List.toArray (Reg.Op.t (En.op x))))), T.v (Value.bool (Val.h (Reg.Op.o (En.op x)))), T.v (Value.string (ByteArray.mk (List.toArray (Val.t (Reg.Op.o (En.op x)))))), T.v (Value.int IntKind.i64 (Reg.Op.n (En.op x))), T.v (Value.int IntKind.i64 (En.s x)), T.v (Value.int IntKind.i64 (En.e x)), T.v (Value.int IntKind.i64 (En.er x)), T.v (Value.bool (Val.h (En.av x))), T.v (Value.string (ByteArray.mk (List.toArray (Val.t (En.av x))))), T.v (Value.int IntKind.u32 (0 : Int)), T.v (Value.int IntKind.u8 (0 : Int)), T.v (Value.int IntKind.u8 (0 : Int)), T.v (Value.bool (En.w x))]] [] (fun x => none) (callPost (Hint.call false Unit (fun x => True) [] false (fun x => bool nv) (fun x => []) fun x => none_)) ∧ ∀ (a : Unit), True → Q (T.v (Value.bool !nv)) [] fun x => none) (Q (T.v (Value.bool false)) [] fun x => none)) (Q (T.v (Value.bool false)) [] fun x => none)) (by kernel_rfl) ?_
  repeat' (first | exact rfl | exact Nat.le_of_ble_eq_true rfl | refine And.intro ?_ ?_ | intro _ | refine bsplit_mk (fun _ => ?_) (fun _ => ?_))
  all_goals first
    | exact cn
    | (refine hQ _ (congrArg (fun b => T.v (Value.bool b)) ?_); simp_all; done)
    | (refine hQ _ (congrArg (fun b => T.v (Value.bool b)) ?_); rename_i h; have h : ¬ (0 < x.e) := of_decide_eq_false h; rw [decide_eq_false h]; rfl)
    | trace_state
theorem ahead_post (x y : En) : TCalls Tryd.prog 17 [.agg (enC x), .agg (enC y)] [] none_ (callPost (told (bool (Jdg.ahead x y)) [] [])) := by
  have hQ : ∀ z, z = bool (Jdg.ahead x y) → callPost (told (bool (Jdg.ahead x y)) [] []) z [] none_ := fun y h => told_post h
  generalize callPost (told (bool (Jdg.ahead x y)) [] []) = Q at *
  have cs := sure_post x
  have cn := never_post x
  unfold Jdg.ahead at hQ
  generalize never x = nv at *
  generalize sure x = sv at *
  unfold enC at *
  refine TCalls.of Tryd.func17 rfl (CanCall.of Tryd.func17 rfl (by decide)) [] fun Γ => ?_
  refine run_sound (⟨fun | 1, 1 => told (bool sv) [] [] | 1, 4 => told (bool nv) [] [] | _, _ => .no, [], fun  | _ => none⟩) 400 (B := ∀ (b b_1 : Nat), b = b ∧ TCalls Tryd.prog (18 : Nat) [T.agg [T.v (Value.int IntKind.i64 (Reg.Op.k (En.op x))), T.v (Value.int IntKind.i64 (Reg.Op.key (En.op x))), T.v (Value.string (ByteArray.mk (List.toArray (Reg.Op.t (En.op x))))), T.v (Value.bool (Val.h (Reg.Op.o (En.op x)))), T.v (Value.string (ByteArray.mk (List.toArray (Val.t (Reg.Op.o (En.op x)))))), T.v (Value.int IntKind.i64 (Reg.Op.n (En.op x))), T.v (Value.int IntKind.i64 (En.s x)), T.v (Value.int IntKind.i64 (En.e x)), T.v (Value.int IntKind.i64 (En.er x)), T.v (Value.bool (Val.h (En.av x))), T.v (Value.string (ByteArray.mk (List.toArray (Val.t (En.av x))))), T.v (Value.int IntKind.u32 (0 : Int)), T.v (Value.int IntKind.u8 (0 : Int)), T.v (Value.int IntKind.u8 (0 : Int)), T.v (Value.bool (En.w x))]] [] (fun x => none) (callPost (Hint.call false Unit (fun x => True) [] false (fun x => bool sv) (fun x => []) fun x => none_)) ∧ ∀ (a : Unit), True → bsplit sv (b = b ∧ b_1 = b_1 ∧ Q (T.v (Value.bool (decide (En.e x < En.s y)))) [] fun x => none) (b = b ∧ TCalls Tryd.prog (16 : Nat) [T.agg [T.v (Value.int IntKind.i64 (Reg.Op.k (En.op x))), T.v (Value.int IntKind.i64 (Reg.Op.key (En.op x))), T.v (Value.string (ByteArray.mk (List.toArray (Reg.Op.t (En.op x))))), T.v (Value.bool (Val.h (Reg.Op.o (En.op x)))), T.v (Value.string (ByteArray.mk (List.toArray (Val.t (Reg.Op.o (En.op x)))))), T.v (Value.int IntKind.i64 (Reg.Op.n (En.op x))), T.v (Value.int IntKind.i64 (En.s x)), T.v (Value.int IntKind.i64 (En.e x)), T.v (Value.int IntKind.i64 (En.er x)), T.v (Value.bool (Val.h (En.av x))), T.v (Value.string (ByteArray.mk (List.toArray (Val.t (En.av x))))), T.v (Value.int IntKind.u32 (0 : Int)), T.v (Value.int IntKind.u8 (0 : Int)), T.v (Value.int IntKind.u8 (0 : Int)), T.v (Value.bool (En.w x))]] [] (fun x => none) (callPost (Hint.call false Unit (fun x => True) [] false (fun x => bool nv) (fun x => []) fun x => none_)) ∧ ∀ (a : Unit), True → bsplit nv (b = b ∧ b_1 = b_1 ∧ Q (T.v (Value.bool (decide (En.e x < En.s y)))) [] fun x => none) (Q (T.v (Value.bool false)) [] fun x => none))) (by kernel_rfl) ?_
  repeat' (first | exact rfl | exact Nat.le_of_ble_eq_true rfl | refine And.intro ?_ ?_ | intro _ | refine bsplit_mk (fun _ => ?_) (fun _ => ?_))
  all_goals first
    | exact cn
    | exact cs
    | (refine hQ _ (congrArg (fun b => T.v (Value.bool b)) ?_); simp_all; done)
    | trace_state
theorem has_post (m i : Nat) (hm : m < 65536) (hi : i < 16) : TCalls Tryd.prog 31 [u32 m, int i] [] none_ (callPost (told (bool (m.testBit i)) [] [])) := by
  have hQ : ∀ z, z = bool (m.testBit i) → callPost (told (bool (m.testBit i)) [] []) z [] none_ := fun y h => told_post h
  generalize callPost (told (bool (m.testBit i)) [] []) = Q at *
  refine TCalls.of Tryd.func31 rfl (CanCall.of Tryd.func31 rfl (by decide)) [] fun Γ => ?_
  refine run_sound (⟨fun _ _ => .no, [], fun _ => none⟩) 400 (B := ¬(↑i : Int) < (0 : Int) ∧ Q (T.v (Value.bool (IntKind.wrap IntKind.u32 (↑(BitVec.toNat (BitVec.ofInt (32 : Nat) (Int.fdiv (↑m : Int) ((2 : Int) ^ min (Int.toNat (↑i : Int)) (32 : Nat))) &&& BitVec.ofInt (32 : Nat) (1 : Int))) : Int) == (1 : Int)))) [] fun x => none) (by kernel_rfl) ?_
  repeat' (first | exact rfl | exact Nat.le_of_ble_eq_true rfl | refine And.intro ?_ ?_ | intro _ | refine bsplit_mk (fun _ => ?_) (fun _ => ?_))
  · omega
  · exact hQ _ (congrArg (fun b => T.v (Value.bool b)) (bit_of m i hm hi))
theorem ans_same (re er : Int) (ah : Bool) (at' : List UInt8) (b : Val) : (re == er && (ah == b.h && ((⟨at'.toArray⟩ : ByteArray).toList == (⟨b.t.toArray⟩ : ByteArray).toList && true) && true)) = (decide (re = er) && decide ((⟨ah, at'⟩ : Val) = b)) := by
  obtain ⟨h, t⟩ := b
  rw [str_same, Bool.eq_iff_iff]
  simp only [Bool.and_eq_true, beq_iff_eq, decide_eq_true_eq, and_true, Val.mk.injEq, strI]
def retJ (g : Gs) (v : Val) (x : En) : Hint := told (.tup [.agg (vC (applyR v x.op).v), bool (fits x (applyR v x.op))]) [0, 1, 2] (obsG g)
theorem japply_post (g : Gs) (v : Val) (hl : v.t.length ≤ 1000) (x : En) (hm : In64 x.op.n) : TCalls Tryd.prog 21 [.agg (vC v), .agg (enC x)] (obsG g) none_ (callPost (retJ g v x)) := by
  have hQ : ∀ y, y = .tup [.agg (vC (applyR v x.op).v), bool (fits x (applyR v x.op))] → callPost (retJ g v x) y (obsG g) none_ := fun y h => told_post h
  generalize callPost (retJ g v x) = Q at *
  have ca := X4.apply_post g v hl x.op hm
  have cs := sure_post x
  unfold Jdg.fits at hQ
  generalize applyR v x.op = R at *
  generalize sure x = sv at *
  unfold X4.resT at ca
  obtain ⟨⟨rh, rt⟩, re, ⟨ah, at'⟩, rw'⟩ := R
  unfold enC opC vC at *
  simp only at ca hQ
  unfold obsG at *
  generalize tabC = TC at *
  refine TCalls.of Tryd.func21 rfl (CanCall.of Tryd.func21 rfl (by decide)) [0, 1, 2] fun Γ => ?_
  refine run_sound (⟨fun | 1, 3 => told (.tup [.agg [bool rh, str rt], .agg [int re, bool ah, str at'], bool rw']) [0, 1, 2] [(0, .whole TC g.t1 g.f1), (1, .whole #[.iface g.tp g.p] g.t2 g.f2), (2, .whole #[.iface g.tq g.q] g.t3 g.f3)] | 2, 2 => told (bool sv) [] [] | _, _ => .no, [], fun | 2 => some ⟨[4, 6, 7], [], .take true [0,1] (.one 2 (.take true [3,4,5,6,7,8,9,10,11,12,13,14,15] (.one 16 (.take true [17] .done))))⟩ | _ => none⟩) 400 (B := ∀ (b b_1 b_2 : Nat), b = b ∧ b_1 = b_1 ∧ TCalls Tryd.prog (14 : Nat) [T.agg [T.v (Value.bool (Val.h v)), T.v (Value.string (ByteArray.mk (List.toArray (Val.t v))))], T.agg [T.v (Value.int IntKind.i64 (Reg.Op.k (En.op x))), T.v (Value.int IntKind.i64 (Reg.Op.key (En.op x))), T.v (Value.string (ByteArray.mk (List.toArray (Reg.Op.t (En.op x))))), T.v (Value.bool (Val.h (Reg.Op.o (En.op x)))), T.v (Value.string (ByteArray.mk (List.toArray (Val.t (Reg.Op.o (En.op x)))))), T.v (Value.int IntKind.i64 (Reg.Op.n (En.op x)))]] [((0 : Nat), Ob.whole TC (Gs.t1 g) (Gs.f1 g)), ((1 : Nat), Ob.whole #[Value.iface (Gs.tp g) (Gs.p g)] (Gs.t2 g) (Gs.f2 g)), ((2 : Nat), Ob.whole #[Value.iface (Gs.tq g) (Gs.q g)] (Gs.t3 g) (Gs.f3 g))] (fun x => none) (callPost (Hint.call false Unit (fun x => True) [(0 : Nat), (1 : Nat), (2 : Nat)] false (fun x => T.tup [T.agg [bool rh, str rt], T.agg [int re, bool ah, str at'], bool rw']) (fun x => [((0 : Nat), Ob.whole TC (Gs.t1 g) (Gs.f1 g)), ((1 : Nat), Ob.whole #[Value.iface (Gs.tp g) (Gs.p g)] (Gs.t2 g) (Gs.f2 g)), ((2 : Nat), Ob.whole #[Value.iface (Gs.tq g) (Gs.q g)] (Gs.t3 g) (Gs.f3 g))]) fun x => none_)) ∧ ∀ (a : Unit), True → ∀ (b b_3 : Nat), ((2 : Nat) = nat_lit 2 ∧ List.all [T.v (Value.bool rh), T.v (Value.string (ByteArray.mk (List.toArray rt)))] T.one = true) ∧ b = b ∧ (0 : Nat) + nat_lit 2 ≤ (2 : Nat) ∧ ((3 : Nat) = nat_lit 3 ∧ List.all [T.v (Value.int IntKind.i64 re), T.v (Value.bool ah), T.v (Value.string (ByteArray.mk (List.toArray at')))] T.one = true) ∧ b_3 = b_3 ∧ (0 : Nat) + nat_lit 3 ≤ (3 : Nat) ∧ b = b ∧ b_1 = b_1 ∧ TCalls Tryd.prog (18 : Nat) [T.agg [T.v (Value.int IntKind.i64 (Reg.Op.k (En.op x))), T.v (Value.int IntKind.i64 (Reg.Op.key (En.op x))), T.v (Value.string (ByteArray.mk (List.toArray (Reg.Op.t (En.op x))))), T.v (Value.bool (Val.h (Reg.Op.o (En.op x)))), T.v (Value.string (ByteArray.mk (List.toArray (Val.t (Reg.Op.o (En.op x)))))), T.v (Value.int IntKind.i64 (Reg.Op.n (En.op x))), T.v (Value.int IntKind.i64 (En.s x)), T.v (Value.int IntKind.i64 (En.e x)), T.v (Value.int IntKind.i64 (En.er x)), T.v (Value.bool (Val.h (En.av x))), T.v (Value.string (ByteArray.mk (List.toArray (Val.t (En.av x))))), T.v (Value.int IntKind.u32 (0 : Int)), T.v (Value.int IntKind.u8 (0 : Int)), T.v (Value.int IntKind.u8 (0 : Int)), T.v (Value.bool (En.w x))]] [] (fun x => none) (callPost (Hint.call false Unit (fun x => True) [] false (fun x => bool sv) (fun x => []) fun x => none_)) ∧ ∀ (a : Unit), True → bsplit (!sv) (((2 : Nat) = nat_lit 2 ∧ List.all [T.v (Value.bool rh), T.v (Value.string (ByteArray.mk (List.toArray rt)))] T.one = true) ∧ b_2 = b_2 ∧ (0 : Nat) + nat_lit 2 ≤ (2 : Nat) ∧ b_2 = b_2 ∧ Q (T.tup [T.agg [T.v (Value.bool rh), T.v (Value.string (ByteArray.mk (List.toArray rt)))], T.v (Value.bool true)]) [((0 : Nat), Ob.whole TC (Gs.t1 g) (Gs.f1 g)), ((1 : Nat), Ob.whole #[Value.iface (Gs.tp g) (Gs.p g)] (Gs.t2 g) (Gs.f2 g)), ((2 : Nat), Ob.whole #[Value.iface (Gs.tq g) (Gs.q g)] (Gs.t3 g) (Gs.f3 g))] fun x => none) (b_3 = b_3 ∧ b_1 = b_1 ∧ bsplit (re == En.er x && (ah == Val.h (En.av x) && (ByteArray.toList (ByteArray.mk (List.toArray at')) == ByteArray.toList (ByteArray.mk (List.toArray (Val.t (En.av x)))) && true) && true)) (b_1 = b_1 ∧ ((2 : Nat) = nat_lit 2 ∧ List.all [T.v (Value.bool rh), T.v (Value.string (ByteArray.mk (List.toArray rt)))] T.one = true) ∧ b_2 = b_2 ∧ (0 : Nat) + nat_lit 2 ≤ (2 : Nat) ∧ b_2 = b_2 ∧ Q (T.tup [T.agg [T.v (Value.bool rh), T.v (Value.string (ByteArray.mk (List.toArray rt)))], T.v (Value.bool (rw' == En.w x))]) [((0 : Nat), Ob.whole TC (Gs.t1 g) (Gs.f1 g)), ((1 : Nat), Ob.whole #[Value.iface (Gs.tp g) (Gs.p g)] (Gs.t2 g) (Gs.f2 g)), ((2 : Nat), Ob.whole #[Value.iface (Gs.tq g) (Gs.q g)] (Gs.t3 g) (Gs.f3 g))] fun x => none) (((2 : Nat) = nat_lit 2 ∧ List.all [T.v (Value.bool rh), T.v (Value.string (ByteArray.mk (List.toArray rt)))] T.one = true) ∧ b_2 = b_2 ∧ (0 : Nat) + nat_lit 2 ≤ (2 : Nat) ∧ b_2 = b_2 ∧ Q (T.tup [T.agg [T.v (Value.bool rh), T.v (Value.string (ByteArray.mk (List.toArray rt)))], T.v (Value.bool false)]) [((0 : Nat), Ob.whole TC (Gs.t1 g) (Gs.f1 g)), ((1 : Nat), Ob.whole #[Value.iface (Gs.tp g) (Gs.p g)] (Gs.t2 g) (Gs.f2 g)), ((2 : Nat), Ob.whole #[Value.iface (Gs.tq g) (Gs.q g)] (Gs.t3 g) (Gs.f3 g))] fun x => none))) (by kernel_rfl) ?_
  repeat' (first | exact rfl | exact Nat.le_of_ble_eq_true rfl | refine And.intro ?_ ?_ | intro _ | refine bsplit_mk (fun _ => ?_) (fun _ => ?_))
  all_goals first
    | exact ca
    | exact cs
    | (refine hQ _ (congrArg (fun c => T.tup [.agg [bool rh, str rt], bool c]) ?_); rename_i h; rw [Bool.not_eq_true'] at h; rw [h]; rfl)
    | (refine hQ _ (congrArg (fun c => T.tup [.agg [bool rh, str rt], bool c]) ?_); rename_i h; rename_i h2; rw [ans_same] at h; rw [Bool.not_eq_false'] at h2; rw [h2, h]; cases rw' <;> cases x.w <;> rfl)
    | trace_state
end X27
end Go.Proofs.YtfealopjdkilfaaDoor.Vm
