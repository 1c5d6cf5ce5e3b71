/- Frames by the engine: a field's parts, letter by letter. -/
import Derived.Test.YtaepgceodcdnhaaDoorFB
namespace Go.Proofs.YtaepgceodcdnhaaDoor.Vm
open Go Go.RowKit
set_option maxRecDepth 100000
namespace X6
open Frm (num text raw one Cmd Mem Ent Lvs Fm)
open Oct (Part)
open X1 (partC parts parts_len)
def frC (f : Fm) : List T := [u8 f.kind, u8 f.frm, u8 f.to, u32 f.ep, u8 f.key, u32 f.sn, u8 f.sb, u8 f.sl, bool f.has, str f.x, bool f.rmw, bool f.flag, u8 f.dir, u8 f.life, u32 f.req, u32 f.bn, u8 f.bb, u32 f.slot,
  u8 f.c.k, u8 f.c.n, u8 f.c.l, u32 f.c.e, u32 f.c.q, u32 f.ve, .sl 3 (Row.aggs memC f.ms), u8 f.lv.l0, u8 f.lv.l1, u8 f.lv.l2, u8 f.lv.l3, u8 f.lv.l4, u8 f.lv.l5, u8 f.lv.l6, u8 f.lv.l7, .sl 8 (Row.aggs entC f.es)]
theorem parts_e (f : Fm) (hf : f.Ok) : TCalls Tryd.prog 30 [.agg (frC f), .v (.int .i32 101)] [] none_ (callPost (told (.sl 4 (parts (f.ps 101))) [] [])) := by
  have hQ : callPost (told (.sl 4 (parts (f.ps 101))) [] []) (.sl 4 (parts (f.ps 101))) [] none_ := told_post rfl
  generalize callPost (told (.sl 4 (parts (f.ps 101))) [] []) = Q at *
  have s0 := wide_post f.ep hf.ep
  refine TCalls.of Tryd.func30 rfl (CanCall.of Tryd.func30 rfl (by decide)) [] fun Γ => ?_
  refine run_sound (⟨fun | 3, 2 => told (.agg (partC (num 4 f.ep))) [] [] | _, _ => .no, [], fun | 7 => some ⟨[], [7, 8, 9], .take true [0,1,2,4,5,6] (.one 3 (.one 7 (.one 8 (.one 9 (.take false [10] .done)))))⟩ | 9 => some ⟨[], [7, 8], .take true [0,1,2,4,5,6] (.one 3 (.one 7 (.one 8 (.take false [9] .done))))⟩ | _ => none⟩) 400 (B := ∀ (b : Nat), b = b ∧ TCalls Tryd.prog (58 : Nat) [T.v (Value.int IntKind.u32 (↑(Fm.ep f) : Int))] [] (fun x => none) (callPost (Hint.call false Unit (fun x => True) [] false (fun x => T.agg (partC (num (4 : Int) (Fm.ep f)))) (fun x => []) fun x => none_)) ∧ ∀ (a : Unit), True → Q (T.sl (4 : Nat) [T.agg [T.v (Value.int IntKind.i64 (Part.kind (num (4 : Int) (Fm.ep f)))), T.v (Value.int IntKind.i64 (Part.size (num (4 : Int) (Fm.ep f)))), T.v (Value.int IntKind.u64 (↑(Part.n (num (4 : Int) (Fm.ep f))) : Int)), T.v (Value.string (Part.s (num (4 : Int) (Fm.ep f))))]]) [] fun x => none) (by kernel_rfl) ?_
  repeat' (first | exact rfl | exact Nat.le_of_ble_eq_true rfl | refine And.intro ?_ ?_ | intro _ | refine bsplit_mk (fun _ => ?_) (fun _ => ?_))
  all_goals first
    | exact s0
    | exact hQ
    | (simp [maxLen, Fits]; done)
    | trace_state
theorem parts_k (f : Fm) (hf : f.Ok) : TCalls Tryd.prog 30 [.agg (frC f), .v (.int .i32 107)] [] none_ (callPost (told (.sl 4 (parts (f.ps 107))) [] [])) := by
  have hQ : callPost (told (.sl 4 (parts (f.ps 107))) [] []) (.sl 4 (parts (f.ps 107))) [] none_ := told_post rfl
  generalize callPost (told (.sl 4 (parts (f.ps 107))) [] []) = Q at *
  have s0 := small_post f.key hf.key
  refine TCalls.of Tryd.func30 rfl (CanCall.of Tryd.func30 rfl (by decide)) [] fun Γ => ?_
  refine run_sound (⟨fun | 5, 2 => told (.agg (partC (num 1 f.key))) [] [] | _, _ => .no, [], fun | 7 => some ⟨[], [7, 8, 9], .take true [0,1,2,4,5,6] (.one 3 (.one 7 (.one 8 (.one 9 (.take false [10] .done)))))⟩ | 9 => some ⟨[], [7, 8], .take true [0,1,2,4,5,6] (.one 3 (.one 7 (.one 8 (.take false [9] .done))))⟩ | _ => none⟩) 400 (B := ∀ (b : Nat), b = b ∧ TCalls Tryd.prog (28 : Nat) [T.v (Value.int IntKind.u8 (↑(Fm.key f) : Int))] [] (fun x => none) (callPost (Hint.call false Unit (fun x => True) [] false (fun x => T.agg (partC (num (1 : Int) (Fm.key f)))) (fun x => []) fun x => none_)) ∧ ∀ (a : Unit), True → Q (T.sl (4 : Nat) [T.agg [T.v (Value.int IntKind.i64 (Part.kind (num (1 : Int) (Fm.key f)))), T.v (Value.int IntKind.i64 (Part.size (num (1 : Int) (Fm.key f)))), T.v (Value.int IntKind.u64 (↑(Part.n (num (1 : Int) (Fm.key f))) : Int)), T.v (Value.string (Part.s (num (1 : Int) (Fm.key f))))]]) [] fun x => none) (by kernel_rfl) ?_
  repeat' (first | exact rfl | exact Nat.le_of_ble_eq_true rfl | refine And.intro ?_ ?_ | intro _ | refine bsplit_mk (fun _ => ?_) (fun _ => ?_))
  all_goals first
    | exact s0
    | exact hQ
    | (simp [maxLen, Fits]; done)
    | trace_state
theorem parts_s (f : Fm) (hf : f.Ok) : TCalls Tryd.prog 30 [.agg (frC f), .v (.int .i32 115)] [] none_ (callPost (told (.sl 4 (parts (f.ps 115))) [] [])) := by
  have hQ : callPost (told (.sl 4 (parts (f.ps 115))) [] []) (.sl 4 (parts (f.ps 115))) [] none_ := told_post rfl
  generalize callPost (told (.sl 4 (parts (f.ps 115))) [] []) = Q at *
  have s0 := marked_slx f.sn f.sb hf.sn hf.sb
  have s1 := small_post f.sl hf.sl
  refine TCalls.of Tryd.func30 rfl (CanCall.of Tryd.func30 rfl (by decide)) [] fun Γ => ?_
  refine run_sound (⟨fun | 7, 3 => slxH (parts [num 4 f.sn, num 1 f.sb]) | 7, 7 => told (.agg (partC (num 1 f.sl))) [] [] | _, _ => .no, [], fun | 7 => some ⟨[0], [7, 8, 9], .take true [0,1,2,4,5,6] (.one 3 (.one 7 (.one 8 (.one 9 (.take false [10] .done)))))⟩ | 9 => some ⟨[], [7, 8], .take true [0,1,2,4,5,6] (.one 3 (.one 7 (.one 8 (.take false [9] .done))))⟩ | _ => none⟩) 400 (B := ∀ (b : Nat), b = b ∧ b = b ∧ TCalls Tryd.prog (59 : Nat) [T.agg [T.v (Value.int IntKind.u32 (↑(Fm.sn f) : Int)), T.v (Value.int IntKind.u8 (↑(Fm.sb f) : Int))]] [] (fun x => none) (callPost (Hint.call false Value (fun x => True) [] false (fun x => T.slx (4 : Nat) (0 : Nat) (parts [num (4 : Int) (Fm.sn f), num (1 : Int) (Fm.sb f)]) x) (fun x => [((0 : Nat), Ob.room (4 : Nat) (109 : TypeId) (List.length (parts [num (4 : Int) (Fm.sn f), num (1 : Int) (Fm.sb f)])) x)]) fun x => none_)) ∧ ∀ (a : Value), True → TCalls Tryd.prog (28 : Nat) [T.v (Value.int IntKind.u8 (↑(Fm.sl f) : Int))] [] (fun x => none) (callPost (Hint.call false Unit (fun x => True) [] false (fun x => T.agg (partC (num (1 : Int) (Fm.sl f)))) (fun x => []) fun x => none_)) ∧ ∀ (a_1 : Unit), True → (a = a ∧ (2 : Nat) = (2 : Nat)) ∧ Fits ((2 : Nat) + (1 : Nat)) (nat_lit 40) ∧ ∀ (x : Value), Q (T.sl (4 : Nat) [T.agg [T.v (Value.int IntKind.i64 (Part.kind (num (4 : Int) (Fm.sn f)))), T.v (Value.int IntKind.i64 (Part.size (num (4 : Int) (Fm.sn f)))), T.v (Value.int IntKind.u64 (↑(Part.n (num (4 : Int) (Fm.sn f))) : Int)), T.v (Value.string (Part.s (num (4 : Int) (Fm.sn f))))], T.agg [T.v (Value.int IntKind.i64 (Part.kind (num (1 : Int) (Fm.sb f)))), T.v (Value.int IntKind.i64 (Part.size (num (1 : Int) (Fm.sb f)))), T.v (Value.int IntKind.u64 (↑(Part.n (num (1 : Int) (Fm.sb f))) : Int)), T.v (Value.string (Part.s (num (1 : Int) (Fm.sb f))))], T.agg [T.v (Value.int IntKind.i64 (Part.kind (num (1 : Int) (Fm.sl f)))), T.v (Value.int IntKind.i64 (Part.size (num (1 : Int) (Fm.sl f)))), T.v (Value.int IntKind.u64 (↑(Part.n (num (1 : Int) (Fm.sl f))) : Int)), T.v (Value.string (Part.s (num (1 : Int) (Fm.sl f))))]]) [] fun x => none) (by kernel_rfl) ?_
  repeat' (first | exact rfl | exact Nat.le_of_ble_eq_true rfl | refine And.intro ?_ ?_ | intro _ | refine bsplit_mk (fun _ => ?_) (fun _ => ?_))
  all_goals first
    | exact s0
    | exact s1
    | exact hQ
    | (simp [maxLen, Fits]; done)
    | trace_state
theorem parts_v (f : Fm) (hf : f.Ok) : TCalls Tryd.prog 30 [.agg (frC f), .v (.int .i32 118)] [] none_ (callPost (told (.sl 4 (parts (f.ps 118))) [] [])) := by
  have hQ : callPost (told (.sl 4 (parts (f.ps 118))) [] []) (.sl 4 (parts (f.ps 118))) [] none_ := told_post rfl
  generalize callPost (told (.sl 4 (parts (f.ps 118))) [] []) = Q at *
  have s0 := flag_post f.has
  have s1 := otext_any f.x _ (fun _ h => told_post (sel := []) (ob := []) h)
  refine TCalls.of Tryd.func30 rfl (CanCall.of Tryd.func30 rfl (by decide)) [] fun Γ => ?_
  refine run_sound (⟨fun | 9, 3 => told (.agg (partC (num 1 (one f.has)))) [] [] | 9, 7 => told (.agg (partC (text f.x))) [] [] | _, _ => .no, [], fun | 7 => some ⟨[], [7, 8, 9], .take true [0,1,2,4,5,6] (.one 3 (.one 7 (.one 8 (.one 9 (.take false [10] .done)))))⟩ | 9 => some ⟨[0], [7, 8], .take true [0,1,2,4,5,6] (.one 3 (.one 7 (.one 8 (.take false [9] .done))))⟩ | _ => none⟩) 400 (B := ∀ (b : Nat), b = b ∧ b = b ∧ TCalls Tryd.prog (60 : Nat) [T.v (Value.bool (Fm.has f))] [] (fun x => none) (callPost (Hint.call false Unit (fun x => True) [] false (fun x => T.agg (partC (num (1 : Int) (one (Fm.has f))))) (fun x => []) fun x => none_)) ∧ ∀ (a : Unit), True → TCalls Tryd.prog (61 : Nat) [T.v (Value.string (ByteArray.mk (List.toArray (Fm.x f))))] [] (fun x => none) (callPost (Hint.call false Unit (fun x => True) [] false (fun x => T.agg (partC (text (Fm.x f)))) (fun x => []) fun x => none_)) ∧ ∀ (a : Unit), True → Q (T.sl (4 : Nat) [T.agg [T.v (Value.int IntKind.i64 (Part.kind (num (1 : Int) (one (Fm.has f))))), T.v (Value.int IntKind.i64 (Part.size (num (1 : Int) (one (Fm.has f))))), T.v (Value.int IntKind.u64 (↑(Part.n (num (1 : Int) (one (Fm.has f)))) : Int)), T.v (Value.string (Part.s (num (1 : Int) (one (Fm.has f)))))], T.agg [T.v (Value.int IntKind.i64 (Part.kind (text (Fm.x f)))), T.v (Value.int IntKind.i64 (Part.size (text (Fm.x f)))), T.v (Value.int IntKind.u64 (↑(Part.n (text (Fm.x f))) : Int)), T.v (Value.string (Part.s (text (Fm.x f))))]]) [] fun x => none) (by kernel_rfl) ?_
  repeat' (first | exact rfl | exact Nat.le_of_ble_eq_true rfl | refine And.intro ?_ ?_ | intro _ | refine bsplit_mk (fun _ => ?_) (fun _ => ?_))
  all_goals first
    | exact s0
    | exact s1
    | exact hQ
    | (simp [maxLen, Fits]; done)
    | trace_state
theorem parts_r (f : Fm) (hf : f.Ok) : TCalls Tryd.prog 30 [.agg (frC f), .v (.int .i32 114)] [] none_ (callPost (told (.sl 4 (parts (f.ps 114))) [] [])) := by
  have hQ : callPost (told (.sl 4 (parts (f.ps 114))) [] []) (.sl 4 (parts (f.ps 114))) [] none_ := told_post rfl
  generalize callPost (told (.sl 4 (parts (f.ps 114))) [] []) = Q at *
  have s0 := flag_post f.rmw
  refine TCalls.of Tryd.func30 rfl (CanCall.of Tryd.func30 rfl (by decide)) [] fun Γ => ?_
  refine run_sound (⟨fun | 11, 2 => told (.agg (partC (num 1 (one f.rmw)))) [] [] | _, _ => .no, [], fun | 7 => some ⟨[], [7, 8, 9], .take true [0,1,2,4,5,6] (.one 3 (.one 7 (.one 8 (.one 9 (.take false [10] .done)))))⟩ | 9 => some ⟨[], [7, 8], .take true [0,1,2,4,5,6] (.one 3 (.one 7 (.one 8 (.take false [9] .done))))⟩ | _ => none⟩) 400 (B := ∀ (b : Nat), b = b ∧ TCalls Tryd.prog (60 : Nat) [T.v (Value.bool (Fm.rmw f))] [] (fun x => none) (callPost (Hint.call false Unit (fun x => True) [] false (fun x => T.agg (partC (num (1 : Int) (one (Fm.rmw f))))) (fun x => []) fun x => none_)) ∧ ∀ (a : Unit), True → Q (T.sl (4 : Nat) [T.agg [T.v (Value.int IntKind.i64 (Part.kind (num (1 : Int) (one (Fm.rmw f))))), T.v (Value.int IntKind.i64 (Part.size (num (1 : Int) (one (Fm.rmw f))))), T.v (Value.int IntKind.u64 (↑(Part.n (num (1 : Int) (one (Fm.rmw f)))) : Int)), T.v (Value.string (Part.s (num (1 : Int) (one (Fm.rmw f)))))]]) [] fun x => none) (by kernel_rfl) ?_
  repeat' (first | exact rfl | exact Nat.le_of_ble_eq_true rfl | refine And.intro ?_ ?_ | intro _ | refine bsplit_mk (fun _ => ?_) (fun _ => ?_))
  all_goals first
    | exact s0
    | exact hQ
    | (simp [maxLen, Fits]; done)
    | trace_state
theorem parts_f (f : Fm) (hf : f.Ok) : TCalls Tryd.prog 30 [.agg (frC f), .v (.int .i32 102)] [] none_ (callPost (told (.sl 4 (parts (f.ps 102))) [] [])) := by
  have hQ : callPost (told (.sl 4 (parts (f.ps 102))) [] []) (.sl 4 (parts (f.ps 102))) [] none_ := told_post rfl
  generalize callPost (told (.sl 4 (parts (f.ps 102))) [] []) = Q at *
  have s0 := flag_post f.flag
  refine TCalls.of Tryd.func30 rfl (CanCall.of Tryd.func30 rfl (by decide)) [] fun Γ => ?_
  refine run_sound (⟨fun | 13, 2 => told (.agg (partC (num 1 (one f.flag)))) [] [] | _, _ => .no, [], fun | 7 => some ⟨[], [7, 8, 9], .take true [0,1,2,4,5,6] (.one 3 (.one 7 (.one 8 (.one 9 (.take false [10] .done)))))⟩ | 9 => some ⟨[], [7, 8], .take true [0,1,2,4,5,6] (.one 3 (.one 7 (.one 8 (.take false [9] .done))))⟩ | _ => none⟩) 400 (B := ∀ (b : Nat), b = b ∧ TCalls Tryd.prog (60 : Nat) [T.v (Value.bool (Fm.flag f))] [] (fun x => none) (callPost (Hint.call false Unit (fun x => True) [] false (fun x => T.agg (partC (num (1 : Int) (one (Fm.flag f))))) (fun x => []) fun x => none_)) ∧ ∀ (a : Unit), True → Q (T.sl (4 : Nat) [T.agg [T.v (Value.int IntKind.i64 (Part.kind (num (1 : Int) (one (Fm.flag f))))), T.v (Value.int IntKind.i64 (Part.size (num (1 : Int) (one (Fm.flag f))))), T.v (Value.int IntKind.u64 (↑(Part.n (num (1 : Int) (one (Fm.flag f)))) : Int)), T.v (Value.string (Part.s (num (1 : Int) (one (Fm.flag f)))))]]) [] fun x => none) (by kernel_rfl) ?_
  repeat' (first | exact rfl | exact Nat.le_of_ble_eq_true rfl | refine And.intro ?_ ?_ | intro _ | refine bsplit_mk (fun _ => ?_) (fun _ => ?_))
  all_goals first
    | exact s0
    | exact hQ
    | (simp [maxLen, Fits]; done)
    | trace_state
theorem parts_d (f : Fm) (hf : f.Ok) : TCalls Tryd.prog 30 [.agg (frC f), .v (.int .i32 100)] [] none_ (callPost (told (.sl 4 (parts (f.ps 100))) [] [])) := by
  have hQ : callPost (told (.sl 4 (parts (f.ps 100))) [] []) (.sl 4 (parts (f.ps 100))) [] none_ := told_post rfl
  generalize callPost (told (.sl 4 (parts (f.ps 100))) [] []) = Q at *
  have s0 := small_post f.dir hf.dir
  refine TCalls.of Tryd.func30 rfl (CanCall.of Tryd.func30 rfl (by decide)) [] fun Γ => ?_
  refine run_sound (⟨fun | 15, 2 => told (.agg (partC (num 1 f.dir))) [] [] | _, _ => .no, [], fun | 7 => some ⟨[], [7, 8, 9], .take true [0,1,2,4,5,6] (.one 3 (.one 7 (.one 8 (.one 9 (.take false [10] .done)))))⟩ | 9 => some ⟨[], [7, 8], .take true [0,1,2,4,5,6] (.one 3 (.one 7 (.one 8 (.take false [9] .done))))⟩ | _ => none⟩) 400 (B := ∀ (b : Nat), b = b ∧ TCalls Tryd.prog (28 : Nat) [T.v (Value.int IntKind.u8 (↑(Fm.dir f) : Int))] [] (fun x => none) (callPost (Hint.call false Unit (fun x => True) [] false (fun x => T.agg (partC (num (1 : Int) (Fm.dir f)))) (fun x => []) fun x => none_)) ∧ ∀ (a : Unit), True → Q (T.sl (4 : Nat) [T.agg [T.v (Value.int IntKind.i64 (Part.kind (num (1 : Int) (Fm.dir f)))), T.v (Value.int IntKind.i64 (Part.size (num (1 : Int) (Fm.dir f)))), T.v (Value.int IntKind.u64 (↑(Part.n (num (1 : Int) (Fm.dir f))) : Int)), T.v (Value.string (Part.s (num (1 : Int) (Fm.dir f))))]]) [] fun x => none) (by kernel_rfl) ?_
  repeat' (first | exact rfl | exact Nat.le_of_ble_eq_true rfl | refine And.intro ?_ ?_ | intro _ | refine bsplit_mk (fun _ => ?_) (fun _ => ?_))
  all_goals first
    | exact s0
    | exact hQ
    | (simp [maxLen, Fits]; done)
    | trace_state
theorem parts_l (f : Fm) (hf : f.Ok) : TCalls Tryd.prog 30 [.agg (frC f), .v (.int .i32 108)] [] none_ (callPost (told (.sl 4 (parts (f.ps 108))) [] [])) := by
  have hQ : callPost (told (.sl 4 (parts (f.ps 108))) [] []) (.sl 4 (parts (f.ps 108))) [] none_ := told_post rfl
  generalize callPost (told (.sl 4 (parts (f.ps 108))) [] []) = Q at *
  have s0 := small_post f.life hf.life
  refine TCalls.of Tryd.func30 rfl (CanCall.of Tryd.func30 rfl (by decide)) [] fun Γ => ?_
  refine run_sound (⟨fun | 17, 2 => told (.agg (partC (num 1 f.life))) [] [] | _, _ => .no, [], fun | 7 => some ⟨[], [7, 8, 9], .take true [0,1,2,4,5,6] (.one 3 (.one 7 (.one 8 (.one 9 (.take false [10] .done)))))⟩ | 9 => some ⟨[], [7, 8], .take true [0,1,2,4,5,6] (.one 3 (.one 7 (.one 8 (.take false [9] .done))))⟩ | _ => none⟩) 400 (B := ∀ (b : Nat), b = b ∧ TCalls Tryd.prog (28 : Nat) [T.v (Value.int IntKind.u8 (↑(Fm.life f) : Int))] [] (fun x => none) (callPost (Hint.call false Unit (fun x => True) [] false (fun x => T.agg (partC (num (1 : Int) (Fm.life f)))) (fun x => []) fun x => none_)) ∧ ∀ (a : Unit), True → Q (T.sl (4 : Nat) [T.agg [T.v (Value.int IntKind.i64 (Part.kind (num (1 : Int) (Fm.life f)))), T.v (Value.int IntKind.i64 (Part.size (num (1 : Int) (Fm.life f)))), T.v (Value.int IntKind.u64 (↑(Part.n (num (1 : Int) (Fm.life f))) : Int)), T.v (Value.string (Part.s (num (1 : Int) (Fm.life f))))]]) [] fun x => none) (by kernel_rfl) ?_
  repeat' (first | exact rfl | exact Nat.le_of_ble_eq_true rfl | refine And.intro ?_ ?_ | intro _ | refine bsplit_mk (fun _ => ?_) (fun _ => ?_))
  all_goals first
    | exact s0
    | exact hQ
    | (simp [maxLen, Fits]; done)
    | trace_state
theorem parts_q (f : Fm) (hf : f.Ok) : TCalls Tryd.prog 30 [.agg (frC f), .v (.int .i32 113)] [] none_ (callPost (told (.sl 4 (parts (f.ps 113))) [] [])) := by
  have hQ : callPost (told (.sl 4 (parts (f.ps 113))) [] []) (.sl 4 (parts (f.ps 113))) [] none_ := told_post rfl
  generalize callPost (told (.sl 4 (parts (f.ps 113))) [] []) = Q at *
  have s0 := wide_post f.req hf.req
  refine TCalls.of Tryd.func30 rfl (CanCall.of Tryd.func30 rfl (by decide)) [] fun Γ => ?_
  refine run_sound (⟨fun | 19, 2 => told (.agg (partC (num 4 f.req))) [] [] | _, _ => .no, [], fun | 7 => some ⟨[], [7, 8, 9], .take true [0,1,2,4,5,6] (.one 3 (.one 7 (.one 8 (.one 9 (.take false [10] .done)))))⟩ | 9 => some ⟨[], [7, 8], .take true [0,1,2,4,5,6] (.one 3 (.one 7 (.one 8 (.take false [9] .done))))⟩ | _ => none⟩) 400 (B := ∀ (b : Nat), b = b ∧ TCalls Tryd.prog (58 : Nat) [T.v (Value.int IntKind.u32 (↑(Fm.req f) : Int))] [] (fun x => none) (callPost (Hint.call false Unit (fun x => True) [] false (fun x => T.agg (partC (num (4 : Int) (Fm.req f)))) (fun x => []) fun x => none_)) ∧ ∀ (a : Unit), True → Q (T.sl (4 : Nat) [T.agg [T.v (Value.int IntKind.i64 (Part.kind (num (4 : Int) (Fm.req f)))), T.v (Value.int IntKind.i64 (Part.size (num (4 : Int) (Fm.req f)))), T.v (Value.int IntKind.u64 (↑(Part.n (num (4 : Int) (Fm.req f))) : Int)), T.v (Value.string (Part.s (num (4 : Int) (Fm.req f))))]]) [] fun x => none) (by kernel_rfl) ?_
  repeat' (first | exact rfl | exact Nat.le_of_ble_eq_true rfl | refine And.intro ?_ ?_ | intro _ | refine bsplit_mk (fun _ => ?_) (fun _ => ?_))
  all_goals first
    | exact s0
    | exact hQ
    | (simp [maxLen, Fits]; done)
    | trace_state
theorem parts_b (f : Fm) (hf : f.Ok) : TCalls Tryd.prog 30 [.agg (frC f), .v (.int .i32 98)] [] none_ (callPost (told (.sl 4 (parts (f.ps 98))) [] [])) := by
  have hQ : callPost (told (.sl 4 (parts (f.ps 98))) [] []) (.sl 4 (parts (f.ps 98))) [] none_ := told_post rfl
  generalize callPost (told (.sl 4 (parts (f.ps 98))) [] []) = Q at *
  have s0 := marked_post f.bn f.bb hf.bn hf.bb
  refine TCalls.of Tryd.func30 rfl (CanCall.of Tryd.func30 rfl (by decide)) [] fun Γ => ?_
  refine run_sound (⟨fun | 21, 3 => told (.sl 4 (parts [num 4 f.bn, num 1 f.bb])) [] [] | _, _ => .no, [], fun | 7 => some ⟨[], [7, 8, 9], .take true [0,1,2,4,5,6] (.one 3 (.one 7 (.one 8 (.one 9 (.take false [10] .done)))))⟩ | 9 => some ⟨[], [7, 8], .take true [0,1,2,4,5,6] (.one 3 (.one 7 (.one 8 (.take false [9] .done))))⟩ | _ => none⟩) 400 (B := ∀ (b : Nat), b = b ∧ TCalls Tryd.prog (59 : Nat) [T.agg [T.v (Value.int IntKind.u32 (↑(Fm.bn f) : Int)), T.v (Value.int IntKind.u8 (↑(Fm.bb f) : Int))]] [] (fun x => none) (callPost (Hint.call false Unit (fun x => True) [] false (fun x => T.sl (4 : Nat) (parts [num (4 : Int) (Fm.bn f), num (1 : Int) (Fm.bb f)])) (fun x => []) fun x => none_)) ∧ ∀ (a : Unit), True → Q (T.sl (4 : Nat) [T.agg [T.v (Value.int IntKind.i64 (Part.kind (num (4 : Int) (Fm.bn f)))), T.v (Value.int IntKind.i64 (Part.size (num (4 : Int) (Fm.bn f)))), T.v (Value.int IntKind.u64 (↑(Part.n (num (4 : Int) (Fm.bn f))) : Int)), T.v (Value.string (Part.s (num (4 : Int) (Fm.bn f))))], T.agg [T.v (Value.int IntKind.i64 (Part.kind (num (1 : Int) (Fm.bb f)))), T.v (Value.int IntKind.i64 (Part.size (num (1 : Int) (Fm.bb f)))), T.v (Value.int IntKind.u64 (↑(Part.n (num (1 : Int) (Fm.bb f))) : Int)), T.v (Value.string (Part.s (num (1 : Int) (Fm.bb f))))]]) [] fun x => none) (by kernel_rfl) ?_
  repeat' (first | exact rfl | exact Nat.le_of_ble_eq_true rfl | refine And.intro ?_ ?_ | intro _ | refine bsplit_mk (fun _ => ?_) (fun _ => ?_))
  all_goals first
    | exact s0
    | exact hQ
    | (simp [maxLen, Fits]; done)
    | trace_state
theorem parts_n (f : Fm) (hf : f.Ok) : TCalls Tryd.prog 30 [.agg (frC f), .v (.int .i32 110)] [] none_ (callPost (told (.sl 4 (parts (f.ps 110))) [] [])) := by
  have hQ : callPost (told (.sl 4 (parts (f.ps 110))) [] []) (.sl 4 (parts (f.ps 110))) [] none_ := told_post rfl
  generalize callPost (told (.sl 4 (parts (f.ps 110))) [] []) = Q at *
  have s0 := wide_post f.slot hf.slot
  refine TCalls.of Tryd.func30 rfl (CanCall.of Tryd.func30 rfl (by decide)) [] fun Γ => ?_
  refine run_sound (⟨fun | 23, 2 => told (.agg (partC (num 4 f.slot))) [] [] | _, _ => .no, [], fun | 7 => some ⟨[], [7, 8, 9], .take true [0,1,2,4,5,6] (.one 3 (.one 7 (.one 8 (.one 9 (.take false [10] .done)))))⟩ | 9 => some ⟨[], [7, 8], .take true [0,1,2,4,5,6] (.one 3 (.one 7 (.one 8 (.take false [9] .done))))⟩ | _ => none⟩) 400 (B := ∀ (b : Nat), b = b ∧ TCalls Tryd.prog (58 : Nat) [T.v (Value.int IntKind.u32 (↑(Fm.slot f) : Int))] [] (fun x => none) (callPost (Hint.call false Unit (fun x => True) [] false (fun x => T.agg (partC (num (4 : Int) (Fm.slot f)))) (fun x => []) fun x => none_)) ∧ ∀ (a : Unit), True → Q (T.sl (4 : Nat) [T.agg [T.v (Value.int IntKind.i64 (Part.kind (num (4 : Int) (Fm.slot f)))), T.v (Value.int IntKind.i64 (Part.size (num (4 : Int) (Fm.slot f)))), T.v (Value.int IntKind.u64 (↑(Part.n (num (4 : Int) (Fm.slot f))) : Int)), T.v (Value.string (Part.s (num (4 : Int) (Fm.slot f))))]]) [] fun x => none) (by kernel_rfl) ?_
  repeat' (first | exact rfl | exact Nat.le_of_ble_eq_true rfl | refine And.intro ?_ ?_ | intro _ | refine bsplit_mk (fun _ => ?_) (fun _ => ?_))
  all_goals first
    | exact s0
    | exact hQ
    | (simp [maxLen, Fits]; done)
    | trace_state
theorem parts_c (f : Fm) (hf : f.Ok) : TCalls Tryd.prog 30 [.agg (frC f), .v (.int .i32 99)] [] none_ (callPost (told (.sl 4 (parts (f.ps 99))) [] [])) := by
  have hQ : callPost (told (.sl 4 (parts (f.ps 99))) [] []) (.sl 4 (parts (f.ps 99))) [] none_ := told_post rfl
  generalize callPost (told (.sl 4 (parts (f.ps 99))) [] []) = Q at *
  have s0 := commanded_post f.c hf.c
  refine TCalls.of Tryd.func30 rfl (CanCall.of Tryd.func30 rfl (by decide)) [] fun Γ => ?_
  refine run_sound (⟨fun | 25, 2 => told (.sl 4 (parts f.c.ps)) [] [] | _, _ => .no, [], fun | 7 => some ⟨[], [7, 8, 9], .take true [0,1,2,4,5,6] (.one 3 (.one 7 (.one 8 (.one 9 (.take false [10] .done)))))⟩ | 9 => some ⟨[], [7, 8], .take true [0,1,2,4,5,6] (.one 3 (.one 7 (.one 8 (.take false [9] .done))))⟩ | _ => none⟩) 400 (B := ∀ (b : Nat), b = b ∧ TCalls Tryd.prog (62 : Nat) [T.agg [T.v (Value.int IntKind.u8 (↑(Cmd.k (Fm.c f)) : Int)), T.v (Value.int IntKind.u8 (↑(Cmd.n (Fm.c f)) : Int)), T.v (Value.int IntKind.u8 (↑(Cmd.l (Fm.c f)) : Int)), T.v (Value.int IntKind.u32 (↑(Cmd.e (Fm.c f)) : Int)), T.v (Value.int IntKind.u32 (↑(Cmd.q (Fm.c f)) : Int))]] [] (fun x => none) (callPost (Hint.call false Unit (fun x => True) [] false (fun x => T.sl (4 : Nat) (parts (Cmd.ps (Fm.c f)))) (fun x => []) fun x => none_)) ∧ ∀ (a : Unit), True → Q (T.sl (4 : Nat) [T.agg [T.v (Value.int IntKind.i64 (Part.kind (num (1 : Int) (Cmd.k (Fm.c f))))), T.v (Value.int IntKind.i64 (Part.size (num (1 : Int) (Cmd.k (Fm.c f))))), T.v (Value.int IntKind.u64 (↑(Part.n (num (1 : Int) (Cmd.k (Fm.c f)))) : Int)), T.v (Value.string (Part.s (num (1 : Int) (Cmd.k (Fm.c f)))))], T.agg [T.v (Value.int IntKind.i64 (Part.kind (num (1 : Int) (Cmd.n (Fm.c f))))), T.v (Value.int IntKind.i64 (Part.size (num (1 : Int) (Cmd.n (Fm.c f))))), T.v (Value.int IntKind.u64 (↑(Part.n (num (1 : Int) (Cmd.n (Fm.c f)))) : Int)), T.v (Value.string (Part.s (num (1 : Int) (Cmd.n (Fm.c f)))))], T.agg [T.v (Value.int IntKind.i64 (Part.kind (num (1 : Int) (Cmd.l (Fm.c f))))), T.v (Value.int IntKind.i64 (Part.size (num (1 : Int) (Cmd.l (Fm.c f))))), T.v (Value.int IntKind.u64 (↑(Part.n (num (1 : Int) (Cmd.l (Fm.c f)))) : Int)), T.v (Value.string (Part.s (num (1 : Int) (Cmd.l (Fm.c f)))))], T.agg [T.v (Value.int IntKind.i64 (Part.kind (num (4 : Int) (Cmd.e (Fm.c f))))), T.v (Value.int IntKind.i64 (Part.size (num (4 : Int) (Cmd.e (Fm.c f))))), T.v (Value.int IntKind.u64 (↑(Part.n (num (4 : Int) (Cmd.e (Fm.c f)))) : Int)), T.v (Value.string (Part.s (num (4 : Int) (Cmd.e (Fm.c f)))))], T.agg [T.v (Value.int IntKind.i64 (Part.kind (num (4 : Int) (Cmd.q (Fm.c f))))), T.v (Value.int IntKind.i64 (Part.size (num (4 : Int) (Cmd.q (Fm.c f))))), T.v (Value.int IntKind.u64 (↑(Part.n (num (4 : Int) (Cmd.q (Fm.c f)))) : Int)), T.v (Value.string (Part.s (num (4 : Int) (Cmd.q (Fm.c f)))))]]) [] fun x => none) (by kernel_rfl) ?_
  repeat' (first | exact rfl | exact Nat.le_of_ble_eq_true rfl | refine And.intro ?_ ?_ | intro _ | refine bsplit_mk (fun _ => ?_) (fun _ => ?_))
  all_goals first
    | exact s0
    | exact hQ
    | (simp [maxLen, Fits]; done)
    | trace_state
theorem parts_w (f : Fm) (hf : f.Ok) : TCalls Tryd.prog 30 [.agg (frC f), .v (.int .i32 119)] [] none_ (callPost (told (.sl 4 (parts (f.ps 119))) [] [])) := by
  have hQ : callPost (told (.sl 4 (parts (f.ps 119))) [] []) (.sl 4 (parts (f.ps 119))) [] none_ := told_post rfl
  generalize callPost (told (.sl 4 (parts (f.ps 119))) [] []) = Q at *
  have s0 := viewed_post f.ve f.ms f.lv hf.ve hf.ms hf.mo hf.lv
  have e : f.ps 119 = viewPs f.ve f.ms f.lv := rfl
  rw [e] at hQ
  generalize parts (viewPs f.ve f.ms f.lv) = P at *
  refine TCalls.of Tryd.func30 rfl (CanCall.of Tryd.func30 rfl (by decide)) [] fun Γ => ?_
  refine run_sound (⟨fun | 27, 2 => told (.sl 4 P) [] [] | _, _ => .no, [], fun | 7 => some ⟨[], [7, 8, 9], .take true [0,1,2,4,5,6] (.one 3 (.one 7 (.one 8 (.one 9 (.take false [10] .done)))))⟩ | 9 => some ⟨[], [7, 8], .take true [0,1,2,4,5,6] (.one 3 (.one 7 (.one 8 (.take false [9] .done))))⟩ | _ => none⟩) 400 (B := ∀ (b : Nat), b = b ∧ TCalls Tryd.prog (63 : Nat) [T.agg [T.v (Value.int IntKind.u32 (↑(Fm.ve f) : Int)), T.sl (3 : Nat) (List.map (fun x => T.agg (memC x)) (Fm.ms f)), T.v (Value.int IntKind.u8 (↑(Lvs.l0 (Fm.lv f)) : Int)), T.v (Value.int IntKind.u8 (↑(Lvs.l1 (Fm.lv f)) : Int)), T.v (Value.int IntKind.u8 (↑(Lvs.l2 (Fm.lv f)) : Int)), T.v (Value.int IntKind.u8 (↑(Lvs.l3 (Fm.lv f)) : Int)), T.v (Value.int IntKind.u8 (↑(Lvs.l4 (Fm.lv f)) : Int)), T.v (Value.int IntKind.u8 (↑(Lvs.l5 (Fm.lv f)) : Int)), T.v (Value.int IntKind.u8 (↑(Lvs.l6 (Fm.lv f)) : Int)), T.v (Value.int IntKind.u8 (↑(Lvs.l7 (Fm.lv f)) : Int))]] [] (fun x => none) (callPost (Hint.call false Unit (fun x => True) [] false (fun x => T.sl (4 : Nat) P) (fun x => []) fun x => none_)) ∧ ∀ (a : Unit), True → Q (T.sl (4 : Nat) P) [] fun x => none) (by kernel_rfl) ?_
  repeat' (first | exact rfl | exact Nat.le_of_ble_eq_true rfl | refine And.intro ?_ ?_ | intro _ | refine bsplit_mk (fun _ => ?_) (fun _ => ?_))
  all_goals first
    | exact s0
    | exact hQ
    | (simp [maxLen, Fits]; done)
    | trace_state
theorem parts_t (f : Fm) (hf : f.Ok) : TCalls Tryd.prog 30 [.agg (frC f), .v (.int .i32 116)] [] none_ (callPost (told (.sl 4 (parts (f.ps 116))) [] [])) := by
  have hQ : callPost (told (.sl 4 (parts (f.ps 116))) [] []) (.sl 4 (parts (f.ps 116))) [] none_ := told_post rfl
  generalize callPost (told (.sl 4 (parts (f.ps 116))) [] []) = Q at *
  have s0 := entered_post f.es hf.es hf.eo
  have e : f.ps 116 = entPs f.es := rfl
  rw [e] at hQ
  generalize parts (entPs f.es) = P at *
  refine TCalls.of Tryd.func30 rfl (CanCall.of Tryd.func30 rfl (by decide)) [] fun Γ => ?_
  refine run_sound (⟨fun | 28, 2 => told (.sl 4 P) [] [] | _, _ => .no, [], fun | 7 => some ⟨[], [7, 8, 9], .take true [0,1,2,4,5,6] (.one 3 (.one 7 (.one 8 (.one 9 (.take false [10] .done)))))⟩ | 9 => some ⟨[], [7, 8], .take true [0,1,2,4,5,6] (.one 3 (.one 7 (.one 8 (.take false [9] .done))))⟩ | _ => none⟩) 400 (B := ∀ (b : Nat), b = b ∧ TCalls Tryd.prog (64 : Nat) [T.sl (8 : Nat) (List.map (fun x => T.agg (entC x)) (Fm.es f))] [] (fun x => none) (callPost (Hint.call false Unit (fun x => True) [] false (fun x => T.sl (4 : Nat) P) (fun x => []) fun x => none_)) ∧ ∀ (a : Unit), True → Q (T.sl (4 : Nat) P) [] fun x => none) (by kernel_rfl) ?_
  repeat' (first | exact rfl | exact Nat.le_of_ble_eq_true rfl | refine And.intro ?_ ?_ | intro _ | refine bsplit_mk (fun _ => ?_) (fun _ => ?_))
  all_goals first
    | exact s0
    | exact hQ
    | (simp [maxLen, Fits]; done)
    | trace_state
theorem parts_post (f : Fm) (hf : f.Ok) (c : Nat) (hc : Frm.isLet c = true) : TCalls Tryd.prog 30 [.agg (frC f), .v (.int .i32 c)] [] none_ (callPost (told (.sl 4 (parts (f.ps c))) [] [])) := by
  have : c = 101 ∨ c = 107 ∨ c = 115 ∨ c = 118 ∨ c = 114 ∨ c = 102 ∨ c = 100 ∨ c = 108 ∨ c = 113 ∨ c = 98 ∨ c = 110 ∨ c = 99 ∨ c = 119 ∨ c = 116 := by
    unfold Frm.isLet at hc
    simp at hc
    omega
  rcases this with rfl | rfl | rfl | rfl | rfl | rfl | rfl | rfl | rfl | rfl | rfl | rfl | rfl | rfl
  · exact parts_e f hf
  · exact parts_k f hf
  · exact parts_s f hf
  · exact parts_v f hf
  · exact parts_r f hf
  · exact parts_f f hf
  · exact parts_d f hf
  · exact parts_l f hf
  · exact parts_q f hf
  · exact parts_b f hf
  · exact parts_n f hf
  · exact parts_c f hf
  · exact parts_w f hf
  · exact parts_t f hf
end X6
end Go.Proofs.YtaepgceodcdnhaaDoor.Vm
