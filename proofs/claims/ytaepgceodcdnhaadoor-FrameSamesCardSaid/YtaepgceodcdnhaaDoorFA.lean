/- Frames by the engine: a frame's parts. -/
import Derived.Test.YtaepgceodcdnhaaDoorOR
import Derived.Test.YtaepgceodcdnhaaDoorFrm0
import Derived.Test.YtaepgceodcdnhaaDoorRow
namespace Go.Proofs.YtaepgceodcdnhaaDoor.Vm
open Go Go.RowKit
set_option maxRecDepth 100000
namespace X6
open Frm (num text raw one Cmd Mem Ent Lvs)
open Oct (Part)
open X1 (partC parts)
theorem otext_any (x : List UInt8) (Q : T → Obs → Glb → Prop) (hQ : ∀ y, y = .agg (partC (text x)) → Q y [] none_) : TCalls Tryd.prog 61 [str x] [] none_ Q := by
  refine TCalls.of Tryd.func61 rfl (CanCall.of Tryd.func61 rfl (by decide)) [] fun Γ => ?_
  refine run_sound (⟨fun _ _ => .no, [], fun _ => none⟩) 400 (B := ∀ (b : Nat), ((4 : Nat) = nat_lit 4 ∧ List.all [T.v (Value.int IntKind.i64 (2 : Int)), T.v (Value.int IntKind.i64 (0 : Int)), T.v (Value.int IntKind.u64 (0 : Int)), T.v (Value.string (ByteArray.mk (List.toArray x)))] T.one = true) ∧ b = b ∧ (0 : Nat) + nat_lit 4 ≤ (4 : Nat) ∧ b = b ∧ Q (T.agg [T.v (Value.int IntKind.i64 (2 : Int)), T.v (Value.int IntKind.i64 (0 : Int)), T.v (Value.int IntKind.u64 (0 : Int)), T.v (Value.string (ByteArray.mk (List.toArray x)))]) [] fun x => none) (by kernel_rfl) ?_
  repeat' (first | exact rfl | exact Nat.le_of_ble_eq_true rfl | refine And.intro ?_ ?_ | intro _ | refine bsplit_mk (fun _ => ?_) (fun _ => ?_))
  exact hQ _ rfl
theorem oraw_any (x : List UInt8) (Q : T → Obs → Glb → Prop) (hQ : ∀ y, y = .agg (partC (raw x)) → Q y [] none_) : TCalls Tryd.prog 82 [str x] [] none_ Q := by
  refine TCalls.of Tryd.func82 rfl (CanCall.of Tryd.func82 rfl (by decide)) [] fun Γ => ?_
  refine run_sound (⟨fun _ _ => .no, [], fun _ => none⟩) 400 (B := ∀ (b : Nat), ((4 : Nat) = nat_lit 4 ∧ List.all [T.v (Value.int IntKind.i64 (3 : Int)), T.v (Value.int IntKind.i64 (0 : Int)), T.v (Value.int IntKind.u64 (0 : Int)), T.v (Value.string (ByteArray.mk (List.toArray x)))] T.one = true) ∧ b = b ∧ (0 : Nat) + nat_lit 4 ≤ (4 : Nat) ∧ b = b ∧ Q (T.agg [T.v (Value.int IntKind.i64 (3 : Int)), T.v (Value.int IntKind.i64 (0 : Int)), T.v (Value.int IntKind.u64 (0 : Int)), T.v (Value.string (ByteArray.mk (List.toArray x)))]) [] fun x => none) (by kernel_rfl) ?_
  repeat' (first | exact rfl | exact Nat.le_of_ble_eq_true rfl | refine And.intro ?_ ?_ | intro _ | refine bsplit_mk (fun _ => ?_) (fun _ => ?_))
  exact hQ _ rfl
theorem small_post (n : Nat) (hn : n < 256) : TCalls Tryd.prog 28 [u8 n] [] none_ (callPost (told (.agg (partC (num 1 n))) [] [])) := by
  have hw : T.v (.int .u64 (IntKind.wrap .u64 (n : Int))) = u64 n := congrArg u64 (IntWalk.u64_in _ (by omega))
  have hQ : callPost (told (.agg (partC (num 1 n))) [] []) (.agg (partC (num 1 n))) [] none_ := told_post rfl
  generalize callPost (told (.agg (partC (num 1 n))) [] []) = Q at *
  refine TCalls.of Tryd.func28 rfl (CanCall.of Tryd.func28 rfl (by decide)) [] fun Γ => ?_
  refine run_sound (⟨fun | 1, 1 => .res (u64 n) | 1, 2 => told (.agg (partC (num 1 n))) [] [] | _, _ => .no, [], fun  | _ => none⟩) 400 (B := ∀ (b : Nat), T.v (Value.int IntKind.u64 (IntKind.wrap IntKind.u64 (↑n : Int))) = T.v (Value.int IntKind.u64 (↑n : Int)) ∧ TCalls Tryd.prog (56 : Nat) [T.v (Value.int IntKind.u64 (↑n : Int)), T.v (Value.int IntKind.i64 (1 : Int))] [] (fun x => none) (callPost (Hint.call false Unit (fun x => True) [] false (fun x => T.agg (partC (num (1 : Int) n))) (fun x => []) fun x => none_)) ∧ ∀ (a : Unit), True → ((4 : Nat) = nat_lit 4 ∧ List.all [T.v (Value.int IntKind.i64 (Part.kind (num (1 : Int) n))), T.v (Value.int IntKind.i64 (Part.size (num (1 : Int) n))), T.v (Value.int IntKind.u64 (↑(Part.n (num (1 : Int) n)) : Int)), T.v (Value.string (Part.s (num (1 : Int) n)))] T.one = true) ∧ b = b ∧ (0 : Nat) + nat_lit 4 ≤ (4 : Nat) ∧ b = b ∧ Q (T.agg [T.v (Value.int IntKind.i64 (Part.kind (num (1 : Int) n))), T.v (Value.int IntKind.i64 (Part.size (num (1 : Int) n))), T.v (Value.int IntKind.u64 (↑(Part.n (num (1 : Int) n)) : Int)), T.v (Value.string (Part.s (num (1 : Int) n)))]) [] fun x => none) (by kernel_rfl) ?_
  repeat' (first | exact rfl | exact Nat.le_of_ble_eq_true rfl | refine And.intro ?_ ?_ | intro _ | refine bsplit_mk (fun _ => ?_) (fun _ => ?_))
  all_goals first
    | exact hw
    | exact X2.onum_any n 1 _ (fun x hx => told_post hx)
    | exact hQ
    | trace_state
theorem wide_post (n : Nat) (hn : n < 4294967296) : TCalls Tryd.prog 58 [u32 n] [] none_ (callPost (told (.agg (partC (num 4 n))) [] [])) := by
  have hw : T.v (.int .u64 (IntKind.wrap .u64 (n : Int))) = u64 n := congrArg u64 (IntWalk.u64_in _ (by omega))
  have hQ : callPost (told (.agg (partC (num 4 n))) [] []) (.agg (partC (num 4 n))) [] none_ := told_post rfl
  generalize callPost (told (.agg (partC (num 4 n))) [] []) = Q at *
  refine TCalls.of Tryd.func58 rfl (CanCall.of Tryd.func58 rfl (by decide)) [] fun Γ => ?_
  refine run_sound (⟨fun | 1, 1 => .res (u64 n) | 1, 2 => told (.agg (partC (num 4 n))) [] [] | _, _ => .no, [], fun  | _ => none⟩) 400 (B := ∀ (b : Nat), T.v (Value.int IntKind.u64 (IntKind.wrap IntKind.u64 (↑n : Int))) = T.v (Value.int IntKind.u64 (↑n : Int)) ∧ TCalls Tryd.prog (56 : Nat) [T.v (Value.int IntKind.u64 (↑n : Int)), T.v (Value.int IntKind.i64 (4 : Int))] [] (fun x => none) (callPost (Hint.call false Unit (fun x => True) [] false (fun x => T.agg (partC (num (4 : Int) n))) (fun x => []) fun x => none_)) ∧ ∀ (a : Unit), True → ((4 : Nat) = nat_lit 4 ∧ List.all [T.v (Value.int IntKind.i64 (Part.kind (num (4 : Int) n))), T.v (Value.int IntKind.i64 (Part.size (num (4 : Int) n))), T.v (Value.int IntKind.u64 (↑(Part.n (num (4 : Int) n)) : Int)), T.v (Value.string (Part.s (num (4 : Int) n)))] T.one = true) ∧ b = b ∧ (0 : Nat) + nat_lit 4 ≤ (4 : Nat) ∧ b = b ∧ Q (T.agg [T.v (Value.int IntKind.i64 (Part.kind (num (4 : Int) n))), T.v (Value.int IntKind.i64 (Part.size (num (4 : Int) n))), T.v (Value.int IntKind.u64 (↑(Part.n (num (4 : Int) n)) : Int)), T.v (Value.string (Part.s (num (4 : Int) n)))]) [] fun x => none) (by kernel_rfl) ?_
  repeat' (first | exact rfl | exact Nat.le_of_ble_eq_true rfl | refine And.intro ?_ ?_ | intro _ | refine bsplit_mk (fun _ => ?_) (fun _ => ?_))
  all_goals first
    | exact hw
    | exact X2.onum_any n 4 _ (fun x hx => told_post hx)
    | exact hQ
    | trace_state
theorem flag_post (b : Bool) : TCalls Tryd.prog 60 [bool b] [] none_ (callPost (told (.agg (partC (num 1 (one b)))) [] [])) := by
  have hQ : callPost (told (.agg (partC (num 1 (one b)))) [] []) (.agg (partC (num 1 (one b)))) [] none_ := told_post rfl
  generalize callPost (told (.agg (partC (num 1 (one b)))) [] []) = Q at *
  have s1 := small_post 1 (by decide)
  have s0 := small_post 0 (by decide)
  cases b with
  | true =>
    refine TCalls.of Tryd.func60 rfl (CanCall.of Tryd.func60 rfl (by decide)) [] fun Γ => ?_
    refine run_sound (⟨fun | 2, 0 => told (.agg (partC (num 1 1))) [] [] | _, _ => .no, [], fun  | _ => none⟩) 400 (B := ∀ (b : Nat), TCalls Tryd.prog (28 : Nat) [T.v (Value.int IntKind.u8 (1 : Int))] [] (fun x => none) (callPost (Hint.call false Unit (fun x => True) [] false (fun x => T.agg (partC (num (1 : Int) (1 : Nat)))) (fun x => []) fun x => none_)) ∧ ∀ (a : Unit), True → ((4 : Nat) = nat_lit 4 ∧ List.all [T.v (Value.int IntKind.i64 (Part.kind (num (1 : Int) (1 : Nat)))), T.v (Value.int IntKind.i64 (Part.size (num (1 : Int) (1 : Nat)))), T.v (Value.int IntKind.u64 (↑(Part.n (num (1 : Int) (1 : Nat))) : Int)), T.v (Value.string (Part.s (num (1 : Int) (1 : Nat))))] T.one = true) ∧ b = b ∧ (0 : Nat) + nat_lit 4 ≤ (4 : Nat) ∧ b = b ∧ Q (T.agg [T.v (Value.int IntKind.i64 (Part.kind (num (1 : Int) (1 : Nat)))), T.v (Value.int IntKind.i64 (Part.size (num (1 : Int) (1 : Nat)))), T.v (Value.int IntKind.u64 (↑(Part.n (num (1 : Int) (1 : Nat))) : Int)), T.v (Value.string (Part.s (num (1 : Int) (1 : Nat))))]) [] fun x => none) (by kernel_rfl) ?_
    repeat' (first | exact rfl | exact Nat.le_of_ble_eq_true rfl | refine And.intro ?_ ?_ | intro _ | refine bsplit_mk (fun _ => ?_) (fun _ => ?_))
    all_goals first
      | exact s1
      | exact hQ
      | trace_state
  | false =>
    refine TCalls.of Tryd.func60 rfl (CanCall.of Tryd.func60 rfl (by decide)) [] fun Γ => ?_
    refine run_sound (⟨fun | 3, 0 => told (.agg (partC (num 1 0))) [] [] | _, _ => .no, [], fun  | _ => none⟩) 400 (B := ∀ (b : Nat), TCalls Tryd.prog (28 : Nat) [T.v (Value.int IntKind.u8 (0 : Int))] [] (fun x => none) (callPost (Hint.call false Unit (fun x => True) [] false (fun x => T.agg (partC (num (1 : Int) (0 : Nat)))) (fun x => []) fun x => none_)) ∧ ∀ (a : Unit), True → ((4 : Nat) = nat_lit 4 ∧ List.all [T.v (Value.int IntKind.i64 (Part.kind (num (1 : Int) (0 : Nat)))), T.v (Value.int IntKind.i64 (Part.size (num (1 : Int) (0 : Nat)))), T.v (Value.int IntKind.u64 (↑(Part.n (num (1 : Int) (0 : Nat))) : Int)), T.v (Value.string (Part.s (num (1 : Int) (0 : Nat))))] T.one = true) ∧ b = b ∧ (0 : Nat) + nat_lit 4 ≤ (4 : Nat) ∧ b = b ∧ Q (T.agg [T.v (Value.int IntKind.i64 (Part.kind (num (1 : Int) (0 : Nat)))), T.v (Value.int IntKind.i64 (Part.size (num (1 : Int) (0 : Nat)))), T.v (Value.int IntKind.u64 (↑(Part.n (num (1 : Int) (0 : Nat))) : Int)), T.v (Value.string (Part.s (num (1 : Int) (0 : Nat))))]) [] fun x => none) (by kernel_rfl) ?_
    repeat' (first | exact rfl | exact Nat.le_of_ble_eq_true rfl | refine And.intro ?_ ?_ | intro _ | refine bsplit_mk (fun _ => ?_) (fun _ => ?_))
    all_goals first
      | exact s0
      | exact hQ
      | trace_state
def markC (n b : Nat) : List T := [u32 n, u8 b]
def cmdC (c : Cmd) : List T := [u8 c.k, u8 c.n, u8 c.l, u32 c.e, u32 c.q]
/-- a slice that may grow, as a call tells it -/
def slxH (l : List T) : Hint := .call false Value (fun _ => True) [] false (fun x => .slx 4 0 l x) (fun x => [(0, .room 4 109 l.length x)]) (fun _ => none_)
theorem marked_post (n b : Nat) (hn : n < 4294967296) (hb : b < 256) : TCalls Tryd.prog 59 [.agg (markC n b)] [] none_ (callPost (told (.sl 4 (parts [num 4 n, num 1 b])) [] [])) := by
  have s1 := wide_post n hn
  have s0 := small_post b hb
  have hQ : callPost (told (.sl 4 (parts [num 4 n, num 1 b])) [] []) (.sl 4 (parts [num 4 n, num 1 b])) [] none_ := told_post rfl
  generalize callPost (told (.sl 4 (parts [num 4 n, num 1 b])) [] []) = Q at *
  refine TCalls.of Tryd.func59 rfl (CanCall.of Tryd.func59 rfl (by decide)) [] fun Γ => ?_
  refine run_sound (⟨fun | 1, 2 => told (.agg (partC (num 4 n))) [] [] | 1, 5 => told (.agg (partC (num 1 b))) [] [] | _, _ => .no, [], fun | 1 => some ⟨[0], [5, 6], .take true [0,1,3,4] (.one 2 (.one 5 (.one 6 (.take false [7] .done))))⟩ | _ => none⟩) 400 (B := ∀ (b_1 : Nat), b_1 = b_1 ∧ b_1 = b_1 ∧ TCalls Tryd.prog (58 : Nat) [T.v (Value.int IntKind.u32 (↑n : Int))] [] (fun x => none) (callPost (Hint.call false Unit (fun x => True) [] false (fun x => T.agg (partC (num (4 : Int) n))) (fun x => []) fun x => none_)) ∧ ∀ (a : Unit), True → TCalls Tryd.prog (28 : Nat) [T.v (Value.int IntKind.u8 (↑b : Int))] [] (fun x => none) (callPost (Hint.call false Unit (fun x => True) [] false (fun x => T.agg (partC (num (1 : Int) b))) (fun x => []) fun x => none_)) ∧ ∀ (a : Unit), True → Q (T.sl (4 : Nat) [T.agg [T.v (Value.int IntKind.i64 (Part.kind (num (4 : Int) n))), T.v (Value.int IntKind.i64 (Part.size (num (4 : Int) n))), T.v (Value.int IntKind.u64 (↑(Part.n (num (4 : Int) n)) : Int)), T.v (Value.string (Part.s (num (4 : Int) n)))], T.agg [T.v (Value.int IntKind.i64 (Part.kind (num (1 : Int) b))), T.v (Value.int IntKind.i64 (Part.size (num (1 : Int) b))), T.v (Value.int IntKind.u64 (↑(Part.n (num (1 : Int) b)) : Int)), T.v (Value.string (Part.s (num (1 : Int) b)))]]) [] fun x => none) (by kernel_rfl) ?_
  repeat' (first | exact rfl | exact Nat.le_of_ble_eq_true rfl | refine And.intro ?_ ?_ | intro _ | refine bsplit_mk (fun _ => ?_) (fun _ => ?_))
  all_goals first
    | exact s1
    | exact s0
    | exact hQ
    | trace_state
theorem commanded_post (c : Cmd) (hc : c.Ok) : TCalls Tryd.prog 62 [.agg (cmdC c)] [] none_ (callPost (told (.sl 4 (parts c.ps)) [] [])) := by
  have s1 := small_post c.k hc.k
  have s2 := small_post c.n hc.n
  have s3 := small_post c.l hc.l
  have s4 := wide_post c.e hc.e
  have s5 := wide_post c.q hc.q
  have hQ : callPost (told (.sl 4 (parts c.ps)) [] []) (.sl 4 (parts c.ps)) [] none_ := told_post rfl
  generalize callPost (told (.sl 4 (parts c.ps)) [] []) = Q at *
  refine TCalls.of Tryd.func62 rfl (CanCall.of Tryd.func62 rfl (by decide)) [] fun Γ => ?_
  refine run_sound (⟨fun | 1, 2 => told (.agg (partC (num 1 c.k))) [] [] | 1, 5 => told (.agg (partC (num 1 c.n))) [] [] | 1, 8 => told (.agg (partC (num 1 c.l))) [] [] | 1, 11 => told (.agg (partC (num 4 c.e))) [] [] | 1, 14 => told (.agg (partC (num 4 c.q))) [] [] | _, _ => .no, [], fun | 1 => some ⟨[0], [14, 15], .take true [0,1,3,4,6,7,9,10,12,13] (.one 2 (.one 5 (.one 8 (.one 11 (.one 14 (.one 15 (.take false [16] .done)))))))⟩ | _ => none⟩) 400 (B := ∀ (b : Nat), b = b ∧ b = b ∧ b = b ∧ b = b ∧ b = b ∧ TCalls Tryd.prog (28 : Nat) [T.v (Value.int IntKind.u8 (↑(Cmd.k c) : Int))] [] (fun x => none) (callPost (Hint.call false Unit (fun x => True) [] false (fun x => T.agg (partC (num (1 : Int) (Cmd.k c)))) (fun x => []) fun x => none_)) ∧ ∀ (a : Unit), True → TCalls Tryd.prog (28 : Nat) [T.v (Value.int IntKind.u8 (↑(Cmd.n c) : Int))] [] (fun x => none) (callPost (Hint.call false Unit (fun x => True) [] false (fun x => T.agg (partC (num (1 : Int) (Cmd.n c)))) (fun x => []) fun x => none_)) ∧ ∀ (a : Unit), True → TCalls Tryd.prog (28 : Nat) [T.v (Value.int IntKind.u8 (↑(Cmd.l c) : Int))] [] (fun x => none) (callPost (Hint.call false Unit (fun x => True) [] false (fun x => T.agg (partC (num (1 : Int) (Cmd.l c)))) (fun x => []) fun x => none_)) ∧ ∀ (a : Unit), True → TCalls Tryd.prog (58 : Nat) [T.v (Value.int IntKind.u32 (↑(Cmd.e c) : Int))] [] (fun x => none) (callPost (Hint.call false Unit (fun x => True) [] false (fun x => T.agg (partC (num (4 : Int) (Cmd.e c)))) (fun x => []) fun x => none_)) ∧ ∀ (a : Unit), True → TCalls Tryd.prog (58 : Nat) [T.v (Value.int IntKind.u32 (↑(Cmd.q c) : Int))] [] (fun x => none) (callPost (Hint.call false Unit (fun x => True) [] false (fun x => T.agg (partC (num (4 : Int) (Cmd.q c)))) (fun x => []) fun x => none_)) ∧ ∀ (a : Unit), True → Q (T.sl (4 : Nat) [T.agg [T.v (Value.int IntKind.i64 (Part.kind (num (1 : Int) (Cmd.k c)))), T.v (Value.int IntKind.i64 (Part.size (num (1 : Int) (Cmd.k c)))), T.v (Value.int IntKind.u64 (↑(Part.n (num (1 : Int) (Cmd.k c))) : Int)), T.v (Value.string (Part.s (num (1 : Int) (Cmd.k c))))], T.agg [T.v (Value.int IntKind.i64 (Part.kind (num (1 : Int) (Cmd.n c)))), T.v (Value.int IntKind.i64 (Part.size (num (1 : Int) (Cmd.n c)))), T.v (Value.int IntKind.u64 (↑(Part.n (num (1 : Int) (Cmd.n c))) : Int)), T.v (Value.string (Part.s (num (1 : Int) (Cmd.n c))))], T.agg [T.v (Value.int IntKind.i64 (Part.kind (num (1 : Int) (Cmd.l c)))), T.v (Value.int IntKind.i64 (Part.size (num (1 : Int) (Cmd.l c)))), T.v (Value.int IntKind.u64 (↑(Part.n (num (1 : Int) (Cmd.l c))) : Int)), T.v (Value.string (Part.s (num (1 : Int) (Cmd.l c))))], T.agg [T.v (Value.int IntKind.i64 (Part.kind (num (4 : Int) (Cmd.e c)))), T.v (Value.int IntKind.i64 (Part.size (num (4 : Int) (Cmd.e c)))), T.v (Value.int IntKind.u64 (↑(Part.n (num (4 : Int) (Cmd.e c))) : Int)), T.v (Value.string (Part.s (num (4 : Int) (Cmd.e c))))], T.agg [T.v (Value.int IntKind.i64 (Part.kind (num (4 : Int) (Cmd.q c)))), T.v (Value.int IntKind.i64 (Part.size (num (4 : Int) (Cmd.q c)))), T.v (Value.int IntKind.u64 (↑(Part.n (num (4 : Int) (Cmd.q c))) : Int)), T.v (Value.string (Part.s (num (4 : Int) (Cmd.q c))))]]) [] fun x => none) (by kernel_rfl) ?_
  repeat' (first | exact rfl | exact Nat.le_of_ble_eq_true rfl | refine And.intro ?_ ?_ | intro _ | refine bsplit_mk (fun _ => ?_) (fun _ => ?_))
  all_goals first
    | exact s1
    | exact s2
    | exact s3
    | exact s4
    | exact s5
    | exact hQ
    | trace_state
end X6
end Go.Proofs.YtaepgceodcdnhaaDoor.Vm
