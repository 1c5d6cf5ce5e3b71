/- Rosters by the engine: which command is wanted. -/
import Derived.Test.YtidhblpcaccchaaRA
namespace Go.Proofs.Ytidhblpcaccchaa.Vm
open Go Go.RowKit
set_option maxRecDepth 100000
namespace X15
/-- a command and a test, as a call tells them: the command is of account if the test holds -/
def cmdH (sel : List Nat) (ob : Obs) (c : Lrn.Cmd) (t : Bool) : Hint := .call false Lrn.Cmd (fun d => t = true → d = c) sel false (fun d => .tup [.agg (X13.cmdC d), bool t]) (fun _ => ob) (fun _ => none_)
open View (Mem VS WF)
open Lrn (Cmd)
open Ros (Wd RS)
open X5 (memC mems mems_len vwT viewC lim vB vwR zc apply_any)
open X13 (cmdC c0)
theorem granted_any (b : Nat) (r : RS) (k n l : Nat) (e q : Int) (hn' : n < 256) (Q : T → Obs → Glb → Prop) (hQ : Q (.tup []) (obsR b (Ros.granted r ⟨k, n, l, e, q⟩)) none_) : TCalls Try.prog 62 [.ptr 0 b 0, .agg (cmdC ⟨k, n, l, e, q⟩)] (obsR b r) none_ Q := by
  have hw : IntKind.wrap .i64 (n : Int) = n := wrap_i64 (by omega) (by omega)
  by_cases hn : 1 ≤ n ∧ n ≤ 8
  · have hB : Ros.grantB ⟨k, n, l, e, q⟩ = decide (k = 4) := by unfold Ros.grantB; simp [hn]
    have hy : k = 4 → Ros.granted r ⟨k, n, l, e, q⟩ = { r with S := Ros.put r.S n r.now, G := Ros.put r.G n ⟨k, n, l, e, q⟩ } := fun h => by unfold Ros.granted; rw [hB, decide_eq_true h]; rfl
    have hx : ¬ k = 4 → Ros.granted r ⟨k, n, l, e, q⟩ = r := fun h => by unfold Ros.granted; rw [hB, decide_eq_false h]; rfl
    refine TCalls.of Try.func62 rfl (CanCall.of Try.func62 rfl (by decide)) [0] fun Γ => ?_
    refine run_sound (⟨fun | 1, 11 => told (bool true) [] [] | 2, 14 => .obj (rosC { r with S := Ros.put r.S n r.now }) | 2, 18 => .obj (rosC { r with S := Ros.put r.S n r.now, G := Ros.put r.G n ⟨k, n, l, e, q⟩ }) | _, _ => .no, [], fun | 2 => some ⟨[1], [18], .take true [0,1,2,3,4,5,6,7,8,10,11,12,15,16] (.one 9 (.take true [13] (.one 14 (.take true [17] (.one 18 .done)))))⟩ | _ => none⟩) 400 (B := ∀ (b_1 : Nat), b_1 = b_1 ∧ bsplit ((↑(Cmd.k { k := k, n := n, l := l, e := e, q := q }) : Int) == (4 : Int)) (b_1 = b_1 ∧ TCalls Try.prog 93 [int (IntKind.wrap IntKind.i64 (↑(Cmd.n { k := k, n := n, l := l, e := e, q := q }) : Int)), int (8 : Int)] [] (fun x => none) (callPost (Hint.call false Unit (fun x => True) [] false (fun x => bool true) (fun x => []) fun x => none_)) ∧ ∀ (a : Unit), True → b_1 = b_1 ∧ b_1 = b_1 ∧ b_1 = b_1 ∧ b = b ∧ ((0 : Int) ≤ (↑(Cmd.n { k := k, n := n, l := l, e := e, q := q }) : Int) ∧ (↑(Cmd.n { k := k, n := n, l := l, e := e, q := q }) : Int) < (↑(9 : Nat) : Int)) ∧ (1 = nat_lit 1 ∧ List.all (List.map T.v (Array.toList #[Value.int IntKind.i64 (RS.now r)])) T.one = true) ∧ b = b ∧ 57 + Int.toNat (↑(Cmd.n { k := k, n := n, l := l, e := e, q := q }) : Int) * nat_lit 1 + nat_lit 1 ≤ 111 ∧ List.take (57 + Int.toNat (↑(Cmd.n { k := k, n := n, l := l, e := e, q := q }) : Int) * nat_lit 1) (rosC r) ++ List.map T.v (Array.toList #[Value.int IntKind.i64 (RS.now r)]) ++ List.drop (57 + Int.toNat (↑(Cmd.n { k := k, n := n, l := l, e := e, q := q }) : Int) * nat_lit 1 + 1) (rosC r) = (rosC { su := RS.su r, wa := RS.wa r, now := RS.now r, W := RS.W r, S := Ros.put (RS.S r) n (RS.now r), G := RS.G r }) ∧ ((0 : Int) ≤ (↑(Cmd.n { k := k, n := n, l := l, e := e, q := q }) : Int) ∧ (↑(Cmd.n { k := k, n := n, l := l, e := e, q := q }) : Int) < (↑(9 : Nat) : Int)) ∧ (5 = nat_lit 5 ∧ List.all [u8 (Cmd.k { k := k, n := n, l := l, e := e, q := q }), u8 (Cmd.n { k := k, n := n, l := l, e := e, q := q }), u8 (Cmd.l { k := k, n := n, l := l, e := e, q := q }), u32 (Cmd.e { k := k, n := n, l := l, e := e, q := q }), u32 (Cmd.q { k := k, n := n, l := l, e := e, q := q })] T.one = true) ∧ b = b ∧ 66 + Int.toNat (↑(Cmd.n { k := k, n := n, l := l, e := e, q := q }) : Int) * nat_lit 5 + nat_lit 5 ≤ 111 ∧ List.take (66 + Int.toNat (↑(Cmd.n { k := k, n := n, l := l, e := e, q := q }) : Int) * nat_lit 5) (rosC { su := RS.su r, wa := RS.wa r, now := RS.now r, W := RS.W r, S := Ros.put (RS.S r) n (RS.now r), G := RS.G r }) ++ [u8 (Cmd.k { k := k, n := n, l := l, e := e, q := q }), u8 (Cmd.n { k := k, n := n, l := l, e := e, q := q }), u8 (Cmd.l { k := k, n := n, l := l, e := e, q := q }), u32 (Cmd.e { k := k, n := n, l := l, e := e, q := q }), u32 (Cmd.q { k := k, n := n, l := l, e := e, q := q })] ++ List.drop (66 + Int.toNat (↑(Cmd.n { k := k, n := n, l := l, e := e, q := q }) : Int) * nat_lit 5 + 5) (rosC { su := RS.su r, wa := RS.wa r, now := RS.now r, W := RS.W r, S := Ros.put (RS.S r) n (RS.now r), G := RS.G r }) = (rosC { su := RS.su r, wa := RS.wa r, now := RS.now r, W := RS.W r, S := Ros.put (RS.S r) n (RS.now r), G := Ros.put (RS.G r) n { k := k, n := n, l := l, e := e, q := q } }) ∧ Q (T.tup []) [(b, Ob.cells (rosC { su := RS.su r, wa := RS.wa r, now := RS.now r, W := RS.W r, S := Ros.put (RS.S r) n (RS.now r), G := Ros.put (RS.G r) n { k := k, n := n, l := l, e := e, q := q } }))] fun x => none) (Q (T.tup []) [(b, Ob.cells (rosC r))] fun x => none)) (by kernel_rfl) ?_
    rw [hw]
    repeat' (first | exact rfl | exact Nat.le_of_ble_eq_true rfl | refine And.intro ?_ ?_ | intro _ | refine bsplit_mk (fun _ => ?_) (fun _ => ?_))
    all_goals first
      | exact within_yes _ _ (by omega)
      | omega
      | (rcases nine hn with rfl | rfl | rfl | rfl | rfl | rfl | rfl | rfl <;> rfl)
      | (show (n : Int) < 9; omega)
      | (show (0 : Int) ≤ n; omega)
      | (show 57 + (n : Int).toNat * 1 + 1 ≤ 111; omega)
      | (show 66 + (n : Int).toNat * 5 + 5 ≤ 111; omega)
      | (rename_i h; rw [hx (by simp at h; omega)] at hQ; exact hQ)
      | (rename_i h; rw [hy (by simp at h; omega)] at hQ; exact hQ)
      | (rw [hy (by simp only [beq_iff_eq] at *; omega)] at hQ; exact hQ)
      | (clear hB hy hx; trace_state)
  · have hx : Ros.granted r ⟨k, n, l, e, q⟩ = r := by
      unfold Ros.granted
      rw [show Ros.grantB ⟨k, n, l, e, q⟩ = false by unfold Ros.grantB; exact decide_eq_false (fun h => hn h.2)]; rfl
    rw [hx] at hQ
    refine TCalls.of Try.func62 rfl (CanCall.of Try.func62 rfl (by decide)) [0] fun Γ => ?_
    refine run_sound (⟨fun | 1, 11 => told (bool false) [] [] | 2, 14 => .no | 2, 18 => .no | _, _ => .no, [((0, 2), ([0, 3], 2))], fun | 2 => some ⟨[1], [18], .take true [0,1,2,3,4,5,6,7,8,10,11,12,15,16] (.one 9 (.take true [13] (.one 14 (.take true [17] (.one 18 .done)))))⟩ | _ => none⟩) 400 (B := ∀ (b_1 : Nat), b_1 = b_1 ∧ bsplit ((↑(Cmd.k { k := k, n := n, l := l, e := e, q := q }) : Int) == (4 : Int)) (b_1 = b_1 ∧ TCalls Try.prog 93 [int (IntKind.wrap IntKind.i64 (↑(Cmd.n { k := k, n := n, l := l, e := e, q := q }) : Int)), int (8 : Int)] [] (fun x => none) (callPost (Hint.call false Unit (fun x => True) [] false (fun x => bool false) (fun x => []) fun x => none_)) ∧ ∀ (a : Unit), True → Q (T.tup []) [(b, Ob.cells (rosC r))] fun x => none) (Q (T.tup []) [(b, Ob.cells (rosC r))] fun x => none)) (by kernel_rfl) ?_
    rw [hw]
    repeat' (first | exact rfl | exact Nat.le_of_ble_eq_true rfl | refine And.intro ?_ ?_ | intro _ | refine bsplit_mk (fun _ => ?_) (fun _ => ?_))
    all_goals first
      | exact within_no _ _ (by omega)
      | exact hQ
      | trace_state
theorem lost_I (r : RS) (n l : Nat) (rd : Bool) : Ros.lost r ⟨n, l, rd⟩ = (decide (((r.W n).l : Int) > (l : Int)) || (decide (r.now - (r.W n).a ≥ r.su) && Ros.has r ⟨n, l, rd⟩) || (!Ros.has r ⟨n, l, rd⟩ && decide (r.now ≥ r.su))) := by
  have e : decide (((r.W n).l : Int) > (l : Int)) = decide (l < (r.W n).l) := by rw [Bool.eq_iff_iff]; simp
  rw [e]; rfl
theorem set_I (r : RS) (v : VS) (n l : Nat) (rd : Bool) : Ros.setB r v ⟨n, l, rd⟩ = (Ros.has r ⟨n, l, rd⟩ && !rd && (r.W n).c && ((r.W n).e == v.e)) := rfl
theorem lost_any (b : Nat) (r : RS) (hs : 0 ≤ r.now ∧ r.now ≤ 1000000) (n l : Nat) (rd : Bool) (hm : 1 ≤ n ∧ n ≤ 8) (ha : 0 ≤ (r.W n).a ∧ (r.W n).a ≤ 1000000) (Q : T → Obs → Glb → Prop) (hQ : ∀ x, x = bool (Ros.lost r ⟨n, l, rd⟩) → Q x (obsR b r) none_) : TCalls Try.prog 108 [.ptr 0 b 0, .agg [u8 n, u8 l, bool rd]] (obsR b r) none_ Q := by
  have hw : IntKind.wrap .i64 (r.now - (r.W n).a) = r.now - (r.W n).a := wrap_i64 (by omega) (by omega)
  refine TCalls.of Try.func108 rfl (CanCall.of Try.func108 rfl (by decide)) [0] fun Γ => ?_
  refine run_sound (⟨fun | 1, 2 => told (.tup [.agg (wdC (r.W n)), bool (Ros.has r ⟨n, l, rd⟩)]) [0] (obsR b r) | _, _ => .no, [], fun  | _ => none⟩) 400 (B := ∀ (b_1 : Nat), b_1 = b_1 ∧ TCalls Try.prog 109 [T.ptr 0 b 0, T.agg [u8 n, u8 l, bool rd]] [(b, Ob.cells (rosC r))] (fun x => none) (callPost (Hint.call false Unit (fun x => True) [0] false (fun x => T.tup [T.agg (wdC (RS.W r n)), bool (Ros.has r { node := n, life := l, ready := rd })]) (fun x => obsR b r) fun x => none_)) ∧ ∀ (a : Unit), True → ∀ (b_2 : Nat), (6 = nat_lit 6 ∧ List.all [u8 (Wd.n (RS.W r n)), u8 (Wd.l (RS.W r n)), u32 (Wd.e (RS.W r n)), u32 (Wd.q (RS.W r n)), bool (Wd.c (RS.W r n)), int (Wd.a (RS.W r n))] T.one = true) ∧ b_2 = b_2 ∧ 0 + nat_lit 6 ≤ 6 ∧ b_2 = b_2 ∧ b_1 = b_1 ∧ bsplit (decide ((↑(Wd.l (RS.W r n)) : Int) > (↑l : Int))) (Q (bool true) [(b, Ob.cells (rosC r))] fun x => none) (b = b ∧ b_2 = b_2 ∧ b = b ∧ bsplit (decide (IntKind.wrap IntKind.i64 (RS.now r - Wd.a (RS.W r n)) ≥ RS.su r)) (bsplit (Ros.has r { node := n, life := l, ready := rd }) (Q (bool true) [(b, Ob.cells (rosC r))] fun x => none) (bsplit (!Ros.has r { node := n, life := l, ready := rd }) (b = b ∧ b = b ∧ Q (bool (decide (RS.now r ≥ RS.su r))) [(b, Ob.cells (rosC r))] fun x => none) (Q (bool false) [(b, Ob.cells (rosC r))] fun x => none))) (bsplit (!Ros.has r { node := n, life := l, ready := rd }) (b = b ∧ b = b ∧ Q (bool (decide (RS.now r ≥ RS.su r))) [(b, Ob.cells (rosC r))] fun x => none) (Q (bool false) [(b, Ob.cells (rosC r))] fun x => none)))) (by kernel_rfl) ?_
  rw [hw]
  repeat' (first | exact rfl | exact Nat.le_of_ble_eq_true rfl | refine And.intro ?_ ?_ | intro _ | refine bsplit_mk (fun _ => ?_) (fun _ => ?_))
  all_goals first
    | exact word_any b r n l rd hm _ (fun x h => told_post h)
    | (refine hQ _ ?_; rw [lost_I]; simp only [*]; rfl)
    | (exfalso; simp_all; done)
    | (clear hQ; rename_i h3 h2 h1 h; exfalso; revert h3 h2 h1 h; trace_state)
    | trace_state
theorem settle_any (b : Nat) (r : RS) (v : VS) (n l : Nat) (rd : Bool) (hm : 1 ≤ n ∧ n ≤ 8) (Q : T → Obs → Glb → Prop) (hQ : ∀ x, x = .tup [.agg (cmdC (Ros.setC ⟨n, l, rd⟩)), bool (Ros.setB r v ⟨n, l, rd⟩)] → Q x (obsR b r) none_) : TCalls Try.prog 97 [.ptr 0 b 0, .agg (viewC v), .agg [u8 n, u8 l, bool rd]] (obsR b r) none_ Q := by
  refine TCalls.of Try.func97 rfl (CanCall.of Try.func97 rfl (by decide)) [0] fun Γ => ?_
  refine run_sound (⟨fun | 1, 2 => told (.tup [.agg (wdC (r.W n)), bool (Ros.has r ⟨n, l, rd⟩)]) [0] (obsR b r) | _, _ => .no, [], fun | 2 => some ⟨[1, 2, 4], [], .take true [0,1,2,3,4,5,6,7,8,9,10,11,12,13,14,15,16,17,18,19,20,21,22,23] (.one 24 (.take true [25] .done))⟩ | _ => none⟩) 400 (B := ∀ (b_1 b_2 b_3 : Nat), b_2 = b_2 ∧ TCalls Try.prog 109 [T.ptr 0 b 0, T.agg [u8 n, u8 l, bool rd]] [(b, Ob.cells (rosC r))] (fun x => none) (callPost (Hint.call false Unit (fun x => True) [0] false (fun x => T.tup [T.agg (wdC (RS.W r n)), bool (Ros.has r { node := n, life := l, ready := rd })]) (fun x => obsR b r) fun x => none_)) ∧ ∀ (a : Unit), True → ∀ (b_4 : Nat), (6 = nat_lit 6 ∧ List.all [u8 (Wd.n (RS.W r n)), u8 (Wd.l (RS.W r n)), u32 (Wd.e (RS.W r n)), u32 (Wd.q (RS.W r n)), bool (Wd.c (RS.W r n)), int (Wd.a (RS.W r n))] T.one = true) ∧ b_4 = b_4 ∧ 0 + nat_lit 6 ≤ 6 ∧ b_2 = b_2 ∧ b_2 = b_2 ∧ bsplit (Ros.has r { node := n, life := l, ready := rd }) (b_2 = b_2 ∧ bsplit (!rd) (b_4 = b_4 ∧ bsplit (Wd.c (RS.W r n)) (b_4 = b_4 ∧ b_1 = b_1 ∧ (5 = nat_lit 5 ∧ List.all [u8 (3 : Int), u8 n, u8 l, u32 (0 : Int), u32 (0 : Int)] T.one = true) ∧ b_3 = b_3 ∧ 0 + nat_lit 5 ≤ 5 ∧ b_3 = b_3 ∧ Q (T.tup [T.agg [u8 (3 : Int), u8 n, u8 l, u32 (0 : Int), u32 (0 : Int)], bool (Wd.e (RS.W r n) == VS.e v)]) [(b, Ob.cells (rosC r))] fun x => none) ((5 = nat_lit 5 ∧ List.all [u8 (3 : Int), u8 n, u8 l, u32 (0 : Int), u32 (0 : Int)] T.one = true) ∧ b_3 = b_3 ∧ 0 + nat_lit 5 ≤ 5 ∧ b_3 = b_3 ∧ Q (T.tup [T.agg [u8 (3 : Int), u8 n, u8 l, u32 (0 : Int), u32 (0 : Int)], bool false]) [(b, Ob.cells (rosC r))] fun x => none)) ((5 = nat_lit 5 ∧ List.all [u8 (3 : Int), u8 n, u8 l, u32 (0 : Int), u32 (0 : Int)] T.one = true) ∧ b_3 = b_3 ∧ 0 + nat_lit 5 ≤ 5 ∧ b_3 = b_3 ∧ Q (T.tup [T.agg [u8 (3 : Int), u8 n, u8 l, u32 (0 : Int), u32 (0 : Int)], bool false]) [(b, Ob.cells (rosC r))] fun x => none)) ((5 = nat_lit 5 ∧ List.all [u8 (3 : Int), u8 n, u8 l, u32 (0 : Int), u32 (0 : Int)] T.one = true) ∧ b_3 = b_3 ∧ 0 + nat_lit 5 ≤ 5 ∧ b_3 = b_3 ∧ Q (T.tup [T.agg [u8 (3 : Int), u8 n, u8 l, u32 (0 : Int), u32 (0 : Int)], bool false]) [(b, Ob.cells (rosC r))] fun x => none)) (by kernel_rfl) ?_
  repeat' (first | exact rfl | exact Nat.le_of_ble_eq_true rfl | refine And.intro ?_ ?_ | intro _ | refine bsplit_mk (fun _ => ?_) (fun _ => ?_))
  all_goals first
    | exact word_any b r n l rd hm _ (fun x h => told_post h)
    | (refine hQ _ ?_; rw [set_I]; simp only [*]; rfl)
    | trace_state
end X15
end Go.Proofs.Ytidhblpcaccchaa.Vm
