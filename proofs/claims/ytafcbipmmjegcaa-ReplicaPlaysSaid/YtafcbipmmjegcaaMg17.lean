/- Texts of this claim: VE. -/
import Derived.Test.YtafcbipmmjegcaaMg16
namespace Go.Proofs.Ytafcbipmmjegcaa.Vm
open Go Go.RowKit
set_option maxRecDepth 100000
namespace X5
open View (Mem VS atN atI ready)
def memI (l : List Mem) (i : Int) : Mem := (l[i.toNat]?).getD ⟨0, 0, false⟩
theorem mems_get {l : List Mem} {i : Int} (h0 : 0 ≤ i) (h1 : i < l.length) : (mems l)[i.toNat]? = some (.agg (memC (memI l i))) := by
  have h : i.toNat < l.length := by omega
  rw [mems, List.getElem?_map, memI, List.getElem?_eq_getElem h]; rfl
theorem atI_lt (l : List Mem) (x : Nat) : atI l x < l.length ∧ -1 ≤ atI l x := View.atI_lt l x
def findV (l : List Mem) (x : Nat) : Mem × Bool := if atI l x < 0 then (⟨0, 0, false⟩, false) else (memI l (atI l x), true)
def hasV (l : List Mem) (x y : Nat) : Bool := (findV l x).2 && (findV l x).1.life == y
def aheadV (l : List Mem) (x : Nat) : Nat := if 0 < atI l x then (memI l (atI l x - 1)).node else 0
def behindV (l : List Mem) (x : Nat) : Nat := if 0 ≤ atI l x ∧ atI l x + 1 < l.length then (memI l (atI l x + 1)).node else 0
theorem find_any (v : VS) (x : Nat) (hl : lim v.ms) (Q : T → Obs → Glb → Prop) (hQ : ∀ r, r = .tup [.agg (memC (findV v.ms x).1), bool (findV v.ms x).2] → Q r [] none_) : TCalls Try.prog 97 [.agg (viewC v), u8 x] [] none_ Q := by
  refine TCalls.of Try.func97 rfl (CanCall.of Try.func97 rfl (by decide)) [] fun Γ => ?_
  refine run_sound (⟨fun | 1, 2 => told (int (atI v.ms x)) [] [] | 4, 3 => .res (.agg (memC (memI v.ms (atI v.ms x)))) | _, _ => .no, [], fun  | _ => none⟩) 400 (B := ∀ (b b_1 : Nat), b = b ∧ TCalls Try.prog (58 : Nat) [T.agg [T.v (Value.int IntKind.u32 (VS.e v)), T.sl (3 : Nat) (mems (VS.ms v)), T.v (Value.int IntKind.u8 (↑(VS.L v (0 : Nat)) : Int)), T.v (Value.int IntKind.u8 (↑(VS.L v (1 : Nat)) : Int)), T.v (Value.int IntKind.u8 (↑(VS.L v (2 : Nat)) : Int)), T.v (Value.int IntKind.u8 (↑(VS.L v (3 : Nat)) : Int)), T.v (Value.int IntKind.u8 (↑(VS.L v (4 : Nat)) : Int)), T.v (Value.int IntKind.u8 (↑(VS.L v (5 : Nat)) : Int)), T.v (Value.int IntKind.u8 (↑(VS.L v (6 : Nat)) : Int)), T.v (Value.int IntKind.u8 (↑(VS.L v (7 : Nat)) : Int))], T.v (Value.int IntKind.u8 (↑x : Int))] [] (fun x => none) (callPost (Hint.call false Unit (fun x => True) [] false (fun x_1 => int (atI (VS.ms v) x)) (fun x => []) fun x => none_)) ∧ ∀ (a : Unit), True → bsplit (decide (atI (VS.ms v) x < (0 : Int))) (((3 : Nat) = nat_lit 3 ∧ List.all [T.v (Value.int IntKind.u8 (0 : Int)), T.v (Value.int IntKind.u8 (0 : Int)), T.v (Value.bool false)] T.one = true) ∧ b_1 = b_1 ∧ (0 : Nat) + nat_lit 3 ≤ (3 : Nat) ∧ b_1 = b_1 ∧ Q (T.tup [T.agg [T.v (Value.int IntKind.u8 (0 : Int)), T.v (Value.int IntKind.u8 (0 : Int)), T.v (Value.bool false)], T.v (Value.bool false)]) [] fun x => none) (b = b ∧ (0 : Int) ≤ atI (VS.ms v) x ∧ (mems (VS.ms v))[Int.toNat (atI (VS.ms v) x)]? = some (T.agg [T.v (Value.int IntKind.u8 (↑(Mem.node (memI (VS.ms v) (atI (VS.ms v) x))) : Int)), T.v (Value.int IntKind.u8 (↑(Mem.life (memI (VS.ms v) (atI (VS.ms v) x))) : Int)), T.v (Value.bool (Mem.ready (memI (VS.ms v) (atI (VS.ms v) x))))]) ∧ ((3 : Nat) = nat_lit 3 ∧ List.all [T.v (Value.int IntKind.u8 (↑(Mem.node (memI (VS.ms v) (atI (VS.ms v) x))) : Int)), T.v (Value.int IntKind.u8 (↑(Mem.life (memI (VS.ms v) (atI (VS.ms v) x))) : Int)), T.v (Value.bool (Mem.ready (memI (VS.ms v) (atI (VS.ms v) x))))] T.one = true) ∧ b_1 = b_1 ∧ (0 : Nat) + nat_lit 3 ≤ (3 : Nat) ∧ b_1 = b_1 ∧ Q (T.tup [T.agg [T.v (Value.int IntKind.u8 (↑(Mem.node (memI (VS.ms v) (atI (VS.ms v) x))) : Int)), T.v (Value.int IntKind.u8 (↑(Mem.life (memI (VS.ms v) (atI (VS.ms v) x))) : Int)), T.v (Value.bool (Mem.ready (memI (VS.ms v) (atI (VS.ms v) x))))], T.v (Value.bool true)]) [] fun x => none)) (by kernel_rfl) ?_
  have ha := atI_lt v.ms x
  repeat' (first | exact rfl | exact Nat.le_of_ble_eq_true rfl | refine And.intro ?_ ?_ | intro _ | refine bsplit_mk (fun _ => ?_) (fun _ => ?_))
  · exact at_any v x hl _ (fun r h => told_post h)
  · rename_i h; exact hQ _ (by rw [findV, if_pos (by simpa using h)]; rfl)
  · rename_i h; simp at h; omega
  · rename_i h; simp at h; exact mems_get h ha.1
  · rename_i h; exact hQ _ (by rw [findV, if_neg (by simpa using h)]; rfl)
theorem has_any (v : VS) (x y : Nat) (hl : lim v.ms) (Q : T → Obs → Glb → Prop) (hQ : ∀ r, r = bool (hasV v.ms x y) → Q r [] none_) : TCalls Try.prog 69 [.agg (viewC v), u8 x, u8 y] [] none_ Q := by
  refine TCalls.of Try.func69 rfl (CanCall.of Try.func69 rfl (by decide)) [] fun Γ => ?_
  refine run_sound (⟨fun | 1, 2 => told (.tup [.agg (memC (findV v.ms x).1), bool (findV v.ms x).2]) [] [] | _, _ => .no, [], fun  | _ => none⟩) 400 (B := ∀ (b : Nat), b = b ∧ TCalls Try.prog (97 : Nat) [T.agg [T.v (Value.int IntKind.u32 (VS.e v)), T.sl (3 : Nat) (mems (VS.ms v)), T.v (Value.int IntKind.u8 (↑(VS.L v (0 : Nat)) : Int)), T.v (Value.int IntKind.u8 (↑(VS.L v (1 : Nat)) : Int)), T.v (Value.int IntKind.u8 (↑(VS.L v (2 : Nat)) : Int)), T.v (Value.int IntKind.u8 (↑(VS.L v (3 : Nat)) : Int)), T.v (Value.int IntKind.u8 (↑(VS.L v (4 : Nat)) : Int)), T.v (Value.int IntKind.u8 (↑(VS.L v (5 : Nat)) : Int)), T.v (Value.int IntKind.u8 (↑(VS.L v (6 : Nat)) : Int)), T.v (Value.int IntKind.u8 (↑(VS.L v (7 : Nat)) : Int))], T.v (Value.int IntKind.u8 (↑x : Int))] [] (fun x => none) (callPost (Hint.call false Unit (fun x => True) [] false (fun x_1 => T.tup [T.agg (memC (Prod.fst (findV (VS.ms v) x))), bool (Prod.snd (findV (VS.ms v) x))]) (fun x => []) fun x => none_)) ∧ ∀ (a : Unit), True → ∀ (b : Nat), ((3 : Nat) = nat_lit 3 ∧ List.all [T.v (Value.int IntKind.u8 (↑(Mem.node (Prod.fst (findV (VS.ms v) x))) : Int)), T.v (Value.int IntKind.u8 (↑(Mem.life (Prod.fst (findV (VS.ms v) x))) : Int)), T.v (Value.bool (Mem.ready (Prod.fst (findV (VS.ms v) x))))] T.one = true) ∧ b = b ∧ (0 : Nat) + nat_lit 3 ≤ (3 : Nat) ∧ bsplit (Prod.snd (findV (VS.ms v) x)) (b = b ∧ Q (T.v (Value.bool ((↑(Mem.life (Prod.fst (findV (VS.ms v) x))) : Int) == (↑y : Int)))) [] fun x => none) (Q (T.v (Value.bool false)) [] fun x => none)) (by kernel_rfl) ?_
  repeat' (first | exact rfl | exact Nat.le_of_ble_eq_true rfl | refine And.intro ?_ ?_ | intro _ | refine bsplit_mk (fun _ => ?_) (fun _ => ?_))
  · exact find_any v x hl _ (fun r h => told_post h)
  · rename_i h; exact hQ _ (by rw [hasV, h, Bool.true_and]; exact congrArg bool (by rw [Bool.eq_iff_iff]; simp only [beq_iff_eq]; omega))
  · rename_i h; exact hQ _ (by rw [hasV, h, Bool.false_and]; rfl)
theorem ends_any (v : VS) (x : Nat) (hl : lim v.ms) (Q : T → Obs → Glb → Prop) (hQ : ∀ r, r = .tup [u8 (aheadV v.ms x), u8 (behindV v.ms x)] → Q r [] none_) : TCalls Try.prog 70 [.agg (viewC v), u8 x] [] none_ Q := by
  refine TCalls.of Try.func70 rfl (CanCall.of Try.func70 rfl (by decide)) [] fun Γ => ?_
  refine run_sound (⟨fun | 1, 2 => told (int (atI v.ms x)) [] [] | 3, 4 => .res (.agg (memC (memI v.ms (atI v.ms x - 1)))) | 5, 4 => .res (.agg (memC (memI v.ms (atI v.ms x + 1)))) | _, _ => .no, [], fun  | _ => none⟩) 400 (B := ∀ (b : Nat), b = b ∧ TCalls Try.prog (58 : Nat) [T.agg [T.v (Value.int IntKind.u32 (VS.e v)), T.sl (3 : Nat) (mems (VS.ms v)), T.v (Value.int IntKind.u8 (↑(VS.L v (0 : Nat)) : Int)), T.v (Value.int IntKind.u8 (↑(VS.L v (1 : Nat)) : Int)), T.v (Value.int IntKind.u8 (↑(VS.L v (2 : Nat)) : Int)), T.v (Value.int IntKind.u8 (↑(VS.L v (3 : Nat)) : Int)), T.v (Value.int IntKind.u8 (↑(VS.L v (4 : Nat)) : Int)), T.v (Value.int IntKind.u8 (↑(VS.L v (5 : Nat)) : Int)), T.v (Value.int IntKind.u8 (↑(VS.L v (6 : Nat)) : Int)), T.v (Value.int IntKind.u8 (↑(VS.L v (7 : Nat)) : Int))], T.v (Value.int IntKind.u8 (↑x : Int))] [] (fun x => none) (callPost (Hint.call false Unit (fun x => True) [] false (fun x_1 => int (atI (VS.ms v) x)) (fun x => []) fun x => none_)) ∧ ∀ (a : Unit), True → bsplit (decide (atI (VS.ms v) x > (0 : Int))) (b = b ∧ (0 : Int) ≤ IntKind.wrap IntKind.i64 (atI (VS.ms v) x - (1 : Int)) ∧ (mems (VS.ms v))[Int.toNat (IntKind.wrap IntKind.i64 (atI (VS.ms v) x - (1 : Int)))]? = some (T.agg [T.v (Value.int IntKind.u8 (↑(Mem.node (memI (VS.ms v) (atI (VS.ms v) x - (1 : Int)))) : Int)), T.v (Value.int IntKind.u8 (↑(Mem.life (memI (VS.ms v) (atI (VS.ms v) x - (1 : Int)))) : Int)), T.v (Value.bool (Mem.ready (memI (VS.ms v) (atI (VS.ms v) x - (1 : Int)))))]) ∧ bsplit (decide (atI (VS.ms v) x ≥ (0 : Int))) (b = b ∧ bsplit (decide (IntKind.wrap IntKind.i64 (atI (VS.ms v) x + (1 : Int)) < (↑(List.length (mems (VS.ms v))) : Int))) (b = b ∧ (0 : Int) ≤ IntKind.wrap IntKind.i64 (atI (VS.ms v) x + (1 : Int)) ∧ (mems (VS.ms v))[Int.toNat (IntKind.wrap IntKind.i64 (atI (VS.ms v) x + (1 : Int)))]? = some (T.agg [T.v (Value.int IntKind.u8 (↑(Mem.node (memI (VS.ms v) (atI (VS.ms v) x + (1 : Int)))) : Int)), T.v (Value.int IntKind.u8 (↑(Mem.life (memI (VS.ms v) (atI (VS.ms v) x + (1 : Int)))) : Int)), T.v (Value.bool (Mem.ready (memI (VS.ms v) (atI (VS.ms v) x + (1 : Int)))))]) ∧ Q (T.tup [T.v (Value.int IntKind.u8 (↑(Mem.node (memI (VS.ms v) (atI (VS.ms v) x - (1 : Int)))) : Int)), T.v (Value.int IntKind.u8 (↑(Mem.node (memI (VS.ms v) (atI (VS.ms v) x + (1 : Int)))) : Int))]) [] fun x => none) (Q (T.tup [T.v (Value.int IntKind.u8 (↑(Mem.node (memI (VS.ms v) (atI (VS.ms v) x - (1 : Int)))) : Int)), T.v (Value.int IntKind.u8 (0 : Int))]) [] fun x => none)) (Q (T.tup [T.v (Value.int IntKind.u8 (↑(Mem.node (memI (VS.ms v) (atI (VS.ms v) x - (1 : Int)))) : Int)), T.v (Value.int IntKind.u8 (0 : Int))]) [] fun x => none)) (bsplit (decide (atI (VS.ms v) x ≥ (0 : Int))) (b = b ∧ bsplit (decide (IntKind.wrap IntKind.i64 (atI (VS.ms v) x + (1 : Int)) < (↑(List.length (mems (VS.ms v))) : Int))) (b = b ∧ (0 : Int) ≤ IntKind.wrap IntKind.i64 (atI (VS.ms v) x + (1 : Int)) ∧ (mems (VS.ms v))[Int.toNat (IntKind.wrap IntKind.i64 (atI (VS.ms v) x + (1 : Int)))]? = some (T.agg [T.v (Value.int IntKind.u8 (↑(Mem.node (memI (VS.ms v) (atI (VS.ms v) x + (1 : Int)))) : Int)), T.v (Value.int IntKind.u8 (↑(Mem.life (memI (VS.ms v) (atI (VS.ms v) x + (1 : Int)))) : Int)), T.v (Value.bool (Mem.ready (memI (VS.ms v) (atI (VS.ms v) x + (1 : Int)))))]) ∧ Q (T.tup [T.v (Value.int IntKind.u8 (0 : Int)), T.v (Value.int IntKind.u8 (↑(Mem.node (memI (VS.ms v) (atI (VS.ms v) x + (1 : Int)))) : Int))]) [] fun x => none) (Q (T.tup [T.v (Value.int IntKind.u8 (0 : Int)), T.v (Value.int IntKind.u8 (0 : Int))]) [] fun x => none)) (Q (T.tup [T.v (Value.int IntKind.u8 (0 : Int)), T.v (Value.int IntKind.u8 (0 : Int))]) [] fun x => none))) (by kernel_rfl) ?_
  have ha := atI_lt v.ms x
  have w1 : 0 < atI v.ms x → IntKind.wrap .i64 (atI v.ms x - 1) = atI v.ms x - 1 := fun h => wrap_i64 (by omega) (by have := hl; rw [lim] at this; omega)
  have w2 : IntKind.wrap .i64 (atI v.ms x + 1) = atI v.ms x + 1 := wrap_i64 (by omega) (by have := hl; rw [lim] at this; omega)
  rw [w2]
  repeat' (first | exact rfl | exact Nat.le_of_ble_eq_true rfl | refine And.intro ?_ ?_ | intro _ | refine bsplit_mk (fun _ => ?_) (fun _ => ?_))
  all_goals try simp only [decide_eq_true_eq, decide_eq_false_iff_not, mems_len, ge_iff_le, gt_iff_lt] at *
  all_goals first
    | exact at_any v x hl _ (fun r h => told_post h)
    | (rw [w1 (by omega)]; exact mems_get (by omega) (by omega))
    | exact mems_get (by omega) (by omega)
    | exact hQ _ (by simp only [aheadV, behindV]; (repeat' split) <;> first | rfl | (exfalso; omega))
    | (rw [w1 (by omega)]; omega)
    | omega
    | trace_state
theorem equal_loop (Γ : Ctx) (l m : List Mem) (hlen : l.length = m.length) (hl : lim l) (Q : T → Obs → Glb → Prop) (hQ : ∀ r, r = bool (decide (l = m)) → Q r [] none_) : ∀ (r r' d : List Mem) (k : Int), l = d ++ r → m = d ++ r' → k = d.length →
    TWk Try.prog Γ (fin Try.prog Try.f95 [] Q) [.code (sub (bd Try.f95) [1, 1, 0, 1, 0]), .blk 0, .code (sub (bd Try.f95) [1, 1, 1])] ⟨frame 26 [(0, .sl 3 (mems l)), (1, .sl 3 (mems m)), (12, int (mems l).length), (13, int k)], [], none_⟩ := by
  intro r
  induction r with
  | nil =>
    intro r' d k h1 h2 hk
    refine run_sound (⟨fun | 6, 2 => .res (.agg (memC ⟨0, 0, false⟩)) | 6, 6 => .res (.agg (memC ⟨0, 0, false⟩)) | _, _ => .no, [((2, 4), ([0, 1, 12, 13], 0))], fun  | _ => none⟩) 400 (B := bsplit (decide (k < (↑(List.length (mems l)) : Int))) ((0 : Int) ≤ k ∧ (mems l)[Int.toNat k]? = some (T.agg [T.v (Value.int IntKind.u8 (↑(Mem.node { node := (0 : Nat), life := (0 : Nat), ready := false }) : Int)), T.v (Value.int IntKind.u8 (↑(Mem.life { node := (0 : Nat), life := (0 : Nat), ready := false }) : Int)), T.v (Value.bool false)]) ∧ (0 : Int) ≤ k ∧ (mems m)[Int.toNat k]? = some (T.agg [T.v (Value.int IntKind.u8 (↑(Mem.node { node := (0 : Nat), life := (0 : Nat), ready := false }) : Int)), T.v (Value.int IntKind.u8 (↑(Mem.life { node := (0 : Nat), life := (0 : Nat), ready := false }) : Int)), T.v (Value.bool false)]) ∧ TWk Try.prog Γ (fin Try.prog Try.f95 [] Q) [It.code (sub (bd Try.f95) [(1 : Nat), (1 : Nat), (0 : Nat), (1 : Nat), (0 : Nat)]), It.blk (0 : Nat), It.code (sub (bd Try.f95) [(1 : Nat), (1 : Nat), (1 : Nat)])] { fr := [T.sl (3 : Nat) (mems l), T.sl (3 : Nat) (mems m), T.und, T.und, T.und, T.und, T.und, T.und, T.und, T.und, T.und, T.und, T.v (Value.int IntKind.i64 (↑(List.length (mems l)) : Int)), T.v (Value.int IntKind.i64 (IntKind.wrap IntKind.i64 (k + (1 : Int)))), T.und, T.und, T.und, T.und, T.und, T.und, T.und, T.und, T.und, T.und, T.und, T.und], ob := [], gl := fun x => none }) (Q (T.v (Value.bool true)) [] fun x => none)) (by kernel_rfl) ?_
    have hm : r' = [] := by cases r' with
      | nil => rfl
      | cons a r' => exact absurd hlen (by rw [h1, h2]; simp)
    refine bsplit_mk (fun h => by simp [h1, hk, mems_len] at h) (fun _ => hQ _ ?_)
    rw [h1, h2, hm, decide_eq_true rfl]; rfl
  | cons a r ih =>
    intro r' d k h1 h2 hk
    cases r' with
    | nil => exact absurd hlen (by rw [h1, h2]; simp)
    | cons a' r' =>
      refine run_sound (⟨fun | 6, 2 => .res (.agg (memC a)) | 6, 6 => .res (.agg (memC a')) | _, _ => .no, [((2, 4), ([0, 1, 12, 13], 0))], fun  | _ => none⟩) 400 (B := bsplit (decide (k < (↑(List.length (mems l)) : Int))) ((0 : Int) ≤ k ∧ (mems l)[Int.toNat k]? = some (T.agg [T.v (Value.int IntKind.u8 (↑(Mem.node a) : Int)), T.v (Value.int IntKind.u8 (↑(Mem.life a) : Int)), T.v (Value.bool (Mem.ready a))]) ∧ (0 : Int) ≤ k ∧ (mems m)[Int.toNat k]? = some (T.agg [T.v (Value.int IntKind.u8 (↑(Mem.node a') : Int)), T.v (Value.int IntKind.u8 (↑(Mem.life a') : Int)), T.v (Value.bool (Mem.ready a'))]) ∧ bsplit (!((↑(Mem.node a) : Int) == (↑(Mem.node a') : Int) && ((↑(Mem.life a) : Int) == (↑(Mem.life a') : Int) && (Mem.ready a == Mem.ready a' && true)))) (Q (T.v (Value.bool false)) [] fun x => none) (TWk Try.prog Γ (fin Try.prog Try.f95 [] Q) [It.code (sub (bd Try.f95) [(1 : Nat), (1 : Nat), (0 : Nat), (1 : Nat), (0 : Nat)]), It.blk (0 : Nat), It.code (sub (bd Try.f95) [(1 : Nat), (1 : Nat), (1 : Nat)])] { fr := [T.sl (3 : Nat) (mems l), T.sl (3 : Nat) (mems m), T.und, T.und, T.und, T.und, T.und, T.und, T.und, T.und, T.und, T.und, T.v (Value.int IntKind.i64 (↑(List.length (mems l)) : Int)), T.v (Value.int IntKind.i64 (IntKind.wrap IntKind.i64 (k + (1 : Int)))), T.und, T.und, T.und, T.und, T.und, T.und, T.und, T.und, T.und, T.und, T.und, T.und], ob := [], gl := fun x => none })) (Q (T.v (Value.bool true)) [] fun x => none)) (by kernel_rfl) ?_
      have hl' : d.length < 1000000 := by have := hl; rw [lim, h1, List.length_append, List.length_cons] at this; omega
      rw [show IntKind.wrap .i64 (k + 1) = k + 1 from wrap_i64 (by omega) (by omega)]
      refine bsplit_mk (fun _ => ⟨by omega, by simp [h1, hk, mems]; rfl, by omega, by simp [h2, hk, mems]; rfl, bsplit_mk (fun h => hQ _ ?_) (fun h => ?_)⟩) (fun h => by simp [h1, hk, mems_len] at h; omega)
      · rw [decide_eq_false]; rfl
        intro e
        rw [h1, h2] at e
        have e2 := List.append_cancel_left e
        injection e2 with e3 e4
        subst e3
        simp at h
      · have e : a = a' := by
          obtain ⟨n, l, b⟩ := a
          obtain ⟨n', l', b'⟩ := a'
          simp at h
          obtain ⟨g1, g2, g3⟩ := h
          simp only [Mem.mk.injEq]
          exact ⟨by omega, by omega, g3⟩
        subst e
        exact ih r' (d ++ [a]) (k + 1) (by simp [h1]) (by simp [h2]) (by simp [hk])
theorem equal_any (l m : List Mem) (hl : lim l) (hm : lim m) (Q : T → Obs → Glb → Prop) (hQ : ∀ r, r = bool (decide (l = m)) → Q r [] none_) : TCalls Try.prog 95 [.sl 3 (mems l), .sl 3 (mems m)] [] none_ Q := by
  refine TCalls.of Try.func95 rfl (CanCall.of Try.func95 rfl (by decide)) [] fun Γ => ?_
  refine run_sound (⟨fun _ _ => .no, [((2, 4), ([0, 1, 12, 13], 0))], fun _ => none⟩) 400 (B := bsplit ((↑(List.length (mems l)) : Int) != (↑(List.length (mems m)) : Int)) (Q (T.v (Value.bool false)) [] fun x => none) (TWk Try.prog Γ (fin Try.prog Try.f95 [] Q) [It.code (sub (bd Try.f95) [(1 : Nat), (1 : Nat), (0 : Nat), (1 : Nat), (0 : Nat)]), It.blk (0 : Nat), It.code (sub (bd Try.f95) [(1 : Nat), (1 : Nat), (1 : Nat)])] { fr := [T.sl (3 : Nat) (mems l), T.sl (3 : Nat) (mems m), T.und, T.und, T.und, T.und, T.und, T.und, T.und, T.und, T.und, T.und, T.v (Value.int IntKind.i64 (↑(List.length (mems l)) : Int)), T.v (Value.int IntKind.i64 (0 : Int)), T.und, T.und, T.und, T.und, T.und, T.und, T.und, T.und, T.und, T.und, T.und, T.und], ob := [], gl := fun x => none })) (by kernel_rfl) ?_
  rw [mems_len, mems_len]
  by_cases he : l.length = m.length
  · refine bsplit_mk (fun h => by simp [he] at h) (fun _ => ?_)
    have := equal_loop Γ l m he hl Q hQ l m [] 0 (by simp) (by simp) rfl
    rw [mems_len] at this
    exact this
  · refine bsplit_mk (fun _ => hQ _ ?_) (fun h => by simp at h; omega)
    rw [decide_eq_false (fun e => he (by rw [e]))]; rfl
def livesB (L M : Nat → Nat) : Bool := (L 0 : Int) == (M 0 : Int) && ((L 1 : Int) == (M 1 : Int) && ((L 2 : Int) == (M 2 : Int) && ((L 3 : Int) == (M 3 : Int) && ((L 4 : Int) == (M 4 : Int) && ((L 5 : Int) == (M 5 : Int) && ((L 6 : Int) == (M 6 : Int) && ((L 7 : Int) == (M 7 : Int) && true)))))))
def sameB (v w : VS) : Bool := v.e == w.e && (livesB v.L w.L && decide (v.ms = w.ms))
theorem same_any (v w : VS) (hl : lim v.ms) (hm : lim w.ms) (Q : T → Obs → Glb → Prop) (hQ : ∀ r, r = bool (sameB v w) → Q r [] none_) : TCalls Try.prog 61 [.agg (viewC v), .agg (viewC w)] [] none_ Q := by
  refine TCalls.of Try.func61 rfl (CanCall.of Try.func61 rfl (by decide)) [] fun Γ => ?_
  refine run_sound (⟨fun | 1, 17 => told (bool (decide (v.ms = w.ms))) [] [] | _, _ => .no, [], fun  | _ => none⟩) 400 (B := ∀ (b b_1 : Nat), b = b ∧ b_1 = b_1 ∧ bsplit (VS.e v == VS.e w) (b = b ∧ b_1 = b_1 ∧ bsplit ((↑(VS.L v (0 : Nat)) : Int) == (↑(VS.L w (0 : Nat)) : Int) && ((↑(VS.L v (1 : Nat)) : Int) == (↑(VS.L w (1 : Nat)) : Int) && ((↑(VS.L v (2 : Nat)) : Int) == (↑(VS.L w (2 : Nat)) : Int) && ((↑(VS.L v (3 : Nat)) : Int) == (↑(VS.L w (3 : Nat)) : Int) && ((↑(VS.L v (4 : Nat)) : Int) == (↑(VS.L w (4 : Nat)) : Int) && ((↑(VS.L v (5 : Nat)) : Int) == (↑(VS.L w (5 : Nat)) : Int) && ((↑(VS.L v (6 : Nat)) : Int) == (↑(VS.L w (6 : Nat)) : Int) && ((↑(VS.L v (7 : Nat)) : Int) == (↑(VS.L w (7 : Nat)) : Int) && true)))))))) (b = b ∧ b_1 = b_1 ∧ TCalls Try.prog (95 : Nat) [T.sl (3 : Nat) (mems (VS.ms v)), T.sl (3 : Nat) (mems (VS.ms w))] [] (fun x => none) (callPost (Hint.call false Unit (fun x => True) [] false (fun x => bool (decide (VS.ms v = VS.ms w))) (fun x => []) fun x => none_)) ∧ ∀ (a : Unit), True → Q (T.v (Value.bool (decide (VS.ms v = VS.ms w)))) [] fun x => none) (Q (T.v (Value.bool false)) [] fun x => none)) (Q (T.v (Value.bool false)) [] fun x => none)) (by kernel_rfl) ?_
  refine fun _ _ => ⟨rfl, rfl, bsplit_mk (fun h => ⟨rfl, rfl, bsplit_mk (fun h2 => ⟨rfl, rfl, equal_any v.ms w.ms hl hm _ (fun r h => told_post h), fun _ _ => hQ _ ?_⟩) (fun h2 => hQ _ ?_)⟩) (fun h => hQ _ ?_)⟩
  · have h2' : livesB v.L w.L = true := h2
    rw [sameB, h, h2']; rfl
  · have h2' : livesB v.L w.L = false := h2
    rw [sameB, h, h2']; rfl
  · rw [sameB, h]; rfl
end X5
end Go.Proofs.Ytafcbipmmjegcaa.Vm
