/- Texts of this claim, one behind the other: FC, FD, Frm2, FE, FF, FG. -/
import Derived.Test.YtaepgceodcdnhaaDoorMg4
/- Frames by the engine: a field's parts, letter by letter. -/
namespace Go.Proofs.YtaepgceodcdnhaaDoor.Vm
open Go Go.RowKit
set_option maxRecDepth 100000
namespace X6
open Frm (num text raw one Cmd Mem Ent Lvs Fm)
open Oct (Part)
open X1 (partC parts parts_len)
def frC (f : Fm) : List T := [u8 f.kind, u8 f.frm, u8 f.to, u32 f.ep, u8 f.key, u32 f.sn, u8 f.sb, u8 f.sl, bool f.has, str f.x, bool f.rmw, bool f.flag, u8 f.dir, u8 f.life, u32 f.req, u32 f.bn, u8 f.bb, u32 f.slot,
  u8 f.c.k, u8 f.c.n, u8 f.c.l, u32 f.c.e, u32 f.c.q, u32 f.ve, .sl 3 (Row.aggs memC f.ms), u8 f.lv.l0, u8 f.lv.l1, u8 f.lv.l2, u8 f.lv.l3, u8 f.lv.l4, u8 f.lv.l5, u8 f.lv.l6, u8 f.lv.l7, .sl 8 (Row.aggs entC f.es)]
theorem parts_e (f : Fm) (hf : f.Ok) : TCalls Tryd.prog 30 [.agg (frC f), .v (.int .i32 101)] [] none_ (callPost (told (.sl 4 (parts (f.ps 101))) [] [])) := by
  have hQ : callPost (told (.sl 4 (parts (f.ps 101))) [] []) (.sl 4 (parts (f.ps 101))) [] none_ := told_post rfl
  generalize callPost (told (.sl 4 (parts (f.ps 101))) [] []) = Q at *
  have s0 := wide_post f.ep hf.ep
  refine TCalls.of Tryd.func30 rfl (CanCall.of Tryd.func30 rfl (by decide)) [] fun Γ => ?_
  refine run_sound (⟨fun | 3, 2 => told (.agg (partC (num 4 f.ep))) [] [] | _, _ => .no, [], fun | 7 => some ⟨[], [7, 8, 9], .take true [0,1,2,4,5,6] (.one 3 (.one 7 (.one 8 (.one 9 (.take false [10] .done)))))⟩ | 9 => some ⟨[], [7, 8], .take true [0,1,2,4,5,6] (.one 3 (.one 7 (.one 8 (.take false [9] .done))))⟩ | _ => none⟩) 400 (B := ∀ (b : Nat), b = b ∧ TCalls Tryd.prog 58 [u32 (Fm.ep f)] [] none_ (callPost (Hint.call false Unit (fun x => True) [] false (fun x => T.agg (partC (num (4 : Int) (Fm.ep f)))) (fun x => []) fun x => none_)) ∧ ∀ (a : Unit), True → Q (T.sl 4 [T.agg [int (Part.kind (num (4 : Int) (Fm.ep f))), int (Part.size (num (4 : Int) (Fm.ep f))), u64 (Part.n (num (4 : Int) (Fm.ep f))), T.v (Value.string (Part.s (num (4 : Int) (Fm.ep f))))]]) [] fun x => none) (by kernel_rfl) ?_
  repeat' (first | exact rfl | exact Nat.le_of_ble_eq_true rfl | refine And.intro ?_ ?_ | intro _ | refine bsplit_mk (fun _ => ?_) (fun _ => ?_))
  all_goals first
    | exact s0
    | exact hQ
    | (simp [maxLen, Fits]; done)
    | trace_state
theorem parts_k (f : Fm) (hf : f.Ok) : TCalls Tryd.prog 30 [.agg (frC f), .v (.int .i32 107)] [] none_ (callPost (told (.sl 4 (parts (f.ps 107))) [] [])) := by
  have hQ : callPost (told (.sl 4 (parts (f.ps 107))) [] []) (.sl 4 (parts (f.ps 107))) [] none_ := told_post rfl
  generalize callPost (told (.sl 4 (parts (f.ps 107))) [] []) = Q at *
  have s0 := small_post f.key hf.key
  refine TCalls.of Tryd.func30 rfl (CanCall.of Tryd.func30 rfl (by decide)) [] fun Γ => ?_
  refine run_sound (⟨fun | 5, 2 => told (.agg (partC (num 1 f.key))) [] [] | _, _ => .no, [], fun | 7 => some ⟨[], [7, 8, 9], .take true [0,1,2,4,5,6] (.one 3 (.one 7 (.one 8 (.one 9 (.take false [10] .done)))))⟩ | 9 => some ⟨[], [7, 8], .take true [0,1,2,4,5,6] (.one 3 (.one 7 (.one 8 (.take false [9] .done))))⟩ | _ => none⟩) 400 (B := ∀ (b : Nat), b = b ∧ TCalls Tryd.prog 28 [u8 (Fm.key f)] [] none_ (callPost (Hint.call false Unit (fun x => True) [] false (fun x => T.agg (partC (num (1 : Int) (Fm.key f)))) (fun x => []) fun x => none_)) ∧ ∀ (a : Unit), True → Q (T.sl 4 [T.agg [int (Part.kind (num (1 : Int) (Fm.key f))), int (Part.size (num (1 : Int) (Fm.key f))), u64 (Part.n (num (1 : Int) (Fm.key f))), T.v (Value.string (Part.s (num (1 : Int) (Fm.key f))))]]) [] fun x => none) (by kernel_rfl) ?_
  repeat' (first | exact rfl | exact Nat.le_of_ble_eq_true rfl | refine And.intro ?_ ?_ | intro _ | refine bsplit_mk (fun _ => ?_) (fun _ => ?_))
  all_goals first
    | exact s0
    | exact hQ
    | (simp [maxLen, Fits]; done)
    | trace_state
theorem parts_s (f : Fm) (hf : f.Ok) : TCalls Tryd.prog 30 [.agg (frC f), .v (.int .i32 115)] [] none_ (callPost (told (.sl 4 (parts (f.ps 115))) [] [])) := by
  have hQ : callPost (told (.sl 4 (parts (f.ps 115))) [] []) (.sl 4 (parts (f.ps 115))) [] none_ := told_post rfl
  generalize callPost (told (.sl 4 (parts (f.ps 115))) [] []) = Q at *
  have s0 := marked_slx f.sn f.sb hf.sn hf.sb
  have s1 := small_post f.sl hf.sl
  refine TCalls.of Tryd.func30 rfl (CanCall.of Tryd.func30 rfl (by decide)) [] fun Γ => ?_
  refine run_sound (⟨fun | 7, 3 => slxH (parts [num 4 f.sn, num 1 f.sb]) | 7, 7 => told (.agg (partC (num 1 f.sl))) [] [] | _, _ => .no, [], fun | 7 => some ⟨[0], [7, 8, 9], .take true [0,1,2,4,5,6] (.one 3 (.one 7 (.one 8 (.one 9 (.take false [10] .done)))))⟩ | 9 => some ⟨[], [7, 8], .take true [0,1,2,4,5,6] (.one 3 (.one 7 (.one 8 (.take false [9] .done))))⟩ | _ => none⟩) 400 (B := ∀ (b : Nat), b = b ∧ b = b ∧ TCalls Tryd.prog 59 [T.agg [u32 (Fm.sn f), u8 (Fm.sb f)]] [] none_ (callPost (Hint.call false Value (fun x => True) [] false (fun x => T.slx 4 0 (parts [num (4 : Int) (Fm.sn f), num (1 : Int) (Fm.sb f)]) x) (fun x => [(0, Ob.room 4 (109 : TypeId) (List.length (parts [num (4 : Int) (Fm.sn f), num (1 : Int) (Fm.sb f)])) x)]) fun x => none_)) ∧ ∀ (a : Value), True → TCalls Tryd.prog 28 [u8 (Fm.sl f)] [] none_ (callPost (Hint.call false Unit (fun x => True) [] false (fun x => T.agg (partC (num (1 : Int) (Fm.sl f)))) (fun x => []) fun x => none_)) ∧ ∀ (a_1 : Unit), True → (a = a ∧ 2 = 2) ∧ Fits (2 + 1) (nat_lit 40) ∧ ∀ (x : Value), Q (T.sl 4 [T.agg [int (Part.kind (num (4 : Int) (Fm.sn f))), int (Part.size (num (4 : Int) (Fm.sn f))), u64 (Part.n (num (4 : Int) (Fm.sn f))), T.v (Value.string (Part.s (num (4 : Int) (Fm.sn f))))], T.agg [int (Part.kind (num (1 : Int) (Fm.sb f))), int (Part.size (num (1 : Int) (Fm.sb f))), u64 (Part.n (num (1 : Int) (Fm.sb f))), T.v (Value.string (Part.s (num (1 : Int) (Fm.sb f))))], T.agg [int (Part.kind (num (1 : Int) (Fm.sl f))), int (Part.size (num (1 : Int) (Fm.sl f))), u64 (Part.n (num (1 : Int) (Fm.sl f))), T.v (Value.string (Part.s (num (1 : Int) (Fm.sl f))))]]) [] fun x => none) (by kernel_rfl) ?_
  repeat' (first | exact rfl | exact Nat.le_of_ble_eq_true rfl | refine And.intro ?_ ?_ | intro _ | refine bsplit_mk (fun _ => ?_) (fun _ => ?_))
  all_goals first
    | exact s0
    | exact s1
    | exact hQ
    | (simp [maxLen, Fits]; done)
    | trace_state
theorem parts_v (f : Fm) (hf : f.Ok) : TCalls Tryd.prog 30 [.agg (frC f), .v (.int .i32 118)] [] none_ (callPost (told (.sl 4 (parts (f.ps 118))) [] [])) := by
  have hQ : callPost (told (.sl 4 (parts (f.ps 118))) [] []) (.sl 4 (parts (f.ps 118))) [] none_ := told_post rfl
  generalize callPost (told (.sl 4 (parts (f.ps 118))) [] []) = Q at *
  have s0 := flag_post f.has
  have s1 := otext_any f.x _ (fun _ h => told_post (sel := []) (ob := []) h)
  refine TCalls.of Tryd.func30 rfl (CanCall.of Tryd.func30 rfl (by decide)) [] fun Γ => ?_
  refine run_sound (⟨fun | 9, 3 => told (.agg (partC (num 1 (one f.has)))) [] [] | 9, 7 => told (.agg (partC (text f.x))) [] [] | _, _ => .no, [], fun | 7 => some ⟨[], [7, 8, 9], .take true [0,1,2,4,5,6] (.one 3 (.one 7 (.one 8 (.one 9 (.take false [10] .done)))))⟩ | 9 => some ⟨[0], [7, 8], .take true [0,1,2,4,5,6] (.one 3 (.one 7 (.one 8 (.take false [9] .done))))⟩ | _ => none⟩) 400 (B := ∀ (b : Nat), b = b ∧ b = b ∧ TCalls Tryd.prog 60 [bool (Fm.has f)] [] none_ (callPost (Hint.call false Unit (fun x => True) [] false (fun x => T.agg (partC (num (1 : Int) (one (Fm.has f))))) (fun x => []) fun x => none_)) ∧ ∀ (a : Unit), True → TCalls Tryd.prog 61 [str (Fm.x f)] [] none_ (callPost (Hint.call false Unit (fun x => True) [] false (fun x => T.agg (partC (text (Fm.x f)))) (fun x => []) fun x => none_)) ∧ ∀ (a : Unit), True → Q (T.sl 4 [T.agg [int (Part.kind (num (1 : Int) (one (Fm.has f)))), int (Part.size (num (1 : Int) (one (Fm.has f)))), u64 (Part.n (num (1 : Int) (one (Fm.has f)))), T.v (Value.string (Part.s (num (1 : Int) (one (Fm.has f)))))], T.agg [int (Part.kind (text (Fm.x f))), int (Part.size (text (Fm.x f))), u64 (Part.n (text (Fm.x f))), T.v (Value.string (Part.s (text (Fm.x f))))]]) [] fun x => none) (by kernel_rfl) ?_
  repeat' (first | exact rfl | exact Nat.le_of_ble_eq_true rfl | refine And.intro ?_ ?_ | intro _ | refine bsplit_mk (fun _ => ?_) (fun _ => ?_))
  all_goals first
    | exact s0
    | exact s1
    | exact hQ
    | (simp [maxLen, Fits]; done)
    | trace_state
theorem parts_r (f : Fm) (hf : f.Ok) : TCalls Tryd.prog 30 [.agg (frC f), .v (.int .i32 114)] [] none_ (callPost (told (.sl 4 (parts (f.ps 114))) [] [])) := by
  have hQ : callPost (told (.sl 4 (parts (f.ps 114))) [] []) (.sl 4 (parts (f.ps 114))) [] none_ := told_post rfl
  generalize callPost (told (.sl 4 (parts (f.ps 114))) [] []) = Q at *
  have s0 := flag_post f.rmw
  refine TCalls.of Tryd.func30 rfl (CanCall.of Tryd.func30 rfl (by decide)) [] fun Γ => ?_
  refine run_sound (⟨fun | 11, 2 => told (.agg (partC (num 1 (one f.rmw)))) [] [] | _, _ => .no, [], fun | 7 => some ⟨[], [7, 8, 9], .take true [0,1,2,4,5,6] (.one 3 (.one 7 (.one 8 (.one 9 (.take false [10] .done)))))⟩ | 9 => some ⟨[], [7, 8], .take true [0,1,2,4,5,6] (.one 3 (.one 7 (.one 8 (.take false [9] .done))))⟩ | _ => none⟩) 400 (B := ∀ (b : Nat), b = b ∧ TCalls Tryd.prog 60 [bool (Fm.rmw f)] [] none_ (callPost (Hint.call false Unit (fun x => True) [] false (fun x => T.agg (partC (num (1 : Int) (one (Fm.rmw f))))) (fun x => []) fun x => none_)) ∧ ∀ (a : Unit), True → Q (T.sl 4 [T.agg [int (Part.kind (num (1 : Int) (one (Fm.rmw f)))), int (Part.size (num (1 : Int) (one (Fm.rmw f)))), u64 (Part.n (num (1 : Int) (one (Fm.rmw f)))), T.v (Value.string (Part.s (num (1 : Int) (one (Fm.rmw f)))))]]) [] fun x => none) (by kernel_rfl) ?_
  repeat' (first | exact rfl | exact Nat.le_of_ble_eq_true rfl | refine And.intro ?_ ?_ | intro _ | refine bsplit_mk (fun _ => ?_) (fun _ => ?_))
  all_goals first
    | exact s0
    | exact hQ
    | (simp [maxLen, Fits]; done)
    | trace_state
theorem parts_f (f : Fm) (hf : f.Ok) : TCalls Tryd.prog 30 [.agg (frC f), .v (.int .i32 102)] [] none_ (callPost (told (.sl 4 (parts (f.ps 102))) [] [])) := by
  have hQ : callPost (told (.sl 4 (parts (f.ps 102))) [] []) (.sl 4 (parts (f.ps 102))) [] none_ := told_post rfl
  generalize callPost (told (.sl 4 (parts (f.ps 102))) [] []) = Q at *
  have s0 := flag_post f.flag
  refine TCalls.of Tryd.func30 rfl (CanCall.of Tryd.func30 rfl (by decide)) [] fun Γ => ?_
  refine run_sound (⟨fun | 13, 2 => told (.agg (partC (num 1 (one f.flag)))) [] [] | _, _ => .no, [], fun | 7 => some ⟨[], [7, 8, 9], .take true [0,1,2,4,5,6] (.one 3 (.one 7 (.one 8 (.one 9 (.take false [10] .done)))))⟩ | 9 => some ⟨[], [7, 8], .take true [0,1,2,4,5,6] (.one 3 (.one 7 (.one 8 (.take false [9] .done))))⟩ | _ => none⟩) 400 (B := ∀ (b : Nat), b = b ∧ TCalls Tryd.prog 60 [bool (Fm.flag f)] [] none_ (callPost (Hint.call false Unit (fun x => True) [] false (fun x => T.agg (partC (num (1 : Int) (one (Fm.flag f))))) (fun x => []) fun x => none_)) ∧ ∀ (a : Unit), True → Q (T.sl 4 [T.agg [int (Part.kind (num (1 : Int) (one (Fm.flag f)))), int (Part.size (num (1 : Int) (one (Fm.flag f)))), u64 (Part.n (num (1 : Int) (one (Fm.flag f)))), T.v (Value.string (Part.s (num (1 : Int) (one (Fm.flag f)))))]]) [] fun x => none) (by kernel_rfl) ?_
  repeat' (first | exact rfl | exact Nat.le_of_ble_eq_true rfl | refine And.intro ?_ ?_ | intro _ | refine bsplit_mk (fun _ => ?_) (fun _ => ?_))
  all_goals first
    | exact s0
    | exact hQ
    | (simp [maxLen, Fits]; done)
    | trace_state
theorem parts_d (f : Fm) (hf : f.Ok) : TCalls Tryd.prog 30 [.agg (frC f), .v (.int .i32 100)] [] none_ (callPost (told (.sl 4 (parts (f.ps 100))) [] [])) := by
  have hQ : callPost (told (.sl 4 (parts (f.ps 100))) [] []) (.sl 4 (parts (f.ps 100))) [] none_ := told_post rfl
  generalize callPost (told (.sl 4 (parts (f.ps 100))) [] []) = Q at *
  have s0 := small_post f.dir hf.dir
  refine TCalls.of Tryd.func30 rfl (CanCall.of Tryd.func30 rfl (by decide)) [] fun Γ => ?_
  refine run_sound (⟨fun | 15, 2 => told (.agg (partC (num 1 f.dir))) [] [] | _, _ => .no, [], fun | 7 => some ⟨[], [7, 8, 9], .take true [0,1,2,4,5,6] (.one 3 (.one 7 (.one 8 (.one 9 (.take false [10] .done)))))⟩ | 9 => some ⟨[], [7, 8], .take true [0,1,2,4,5,6] (.one 3 (.one 7 (.one 8 (.take false [9] .done))))⟩ | _ => none⟩) 400 (B := ∀ (b : Nat), b = b ∧ TCalls Tryd.prog 28 [u8 (Fm.dir f)] [] none_ (callPost (Hint.call false Unit (fun x => True) [] false (fun x => T.agg (partC (num (1 : Int) (Fm.dir f)))) (fun x => []) fun x => none_)) ∧ ∀ (a : Unit), True → Q (T.sl 4 [T.agg [int (Part.kind (num (1 : Int) (Fm.dir f))), int (Part.size (num (1 : Int) (Fm.dir f))), u64 (Part.n (num (1 : Int) (Fm.dir f))), T.v (Value.string (Part.s (num (1 : Int) (Fm.dir f))))]]) [] fun x => none) (by kernel_rfl) ?_
  repeat' (first | exact rfl | exact Nat.le_of_ble_eq_true rfl | refine And.intro ?_ ?_ | intro _ | refine bsplit_mk (fun _ => ?_) (fun _ => ?_))
  all_goals first
    | exact s0
    | exact hQ
    | (simp [maxLen, Fits]; done)
    | trace_state
theorem parts_l (f : Fm) (hf : f.Ok) : TCalls Tryd.prog 30 [.agg (frC f), .v (.int .i32 108)] [] none_ (callPost (told (.sl 4 (parts (f.ps 108))) [] [])) := by
  have hQ : callPost (told (.sl 4 (parts (f.ps 108))) [] []) (.sl 4 (parts (f.ps 108))) [] none_ := told_post rfl
  generalize callPost (told (.sl 4 (parts (f.ps 108))) [] []) = Q at *
  have s0 := small_post f.life hf.life
  refine TCalls.of Tryd.func30 rfl (CanCall.of Tryd.func30 rfl (by decide)) [] fun Γ => ?_
  refine run_sound (⟨fun | 17, 2 => told (.agg (partC (num 1 f.life))) [] [] | _, _ => .no, [], fun | 7 => some ⟨[], [7, 8, 9], .take true [0,1,2,4,5,6] (.one 3 (.one 7 (.one 8 (.one 9 (.take false [10] .done)))))⟩ | 9 => some ⟨[], [7, 8], .take true [0,1,2,4,5,6] (.one 3 (.one 7 (.one 8 (.take false [9] .done))))⟩ | _ => none⟩) 400 (B := ∀ (b : Nat), b = b ∧ TCalls Tryd.prog 28 [u8 (Fm.life f)] [] none_ (callPost (Hint.call false Unit (fun x => True) [] false (fun x => T.agg (partC (num (1 : Int) (Fm.life f)))) (fun x => []) fun x => none_)) ∧ ∀ (a : Unit), True → Q (T.sl 4 [T.agg [int (Part.kind (num (1 : Int) (Fm.life f))), int (Part.size (num (1 : Int) (Fm.life f))), u64 (Part.n (num (1 : Int) (Fm.life f))), T.v (Value.string (Part.s (num (1 : Int) (Fm.life f))))]]) [] fun x => none) (by kernel_rfl) ?_
  repeat' (first | exact rfl | exact Nat.le_of_ble_eq_true rfl | refine And.intro ?_ ?_ | intro _ | refine bsplit_mk (fun _ => ?_) (fun _ => ?_))
  all_goals first
    | exact s0
    | exact hQ
    | (simp [maxLen, Fits]; done)
    | trace_state
theorem parts_q (f : Fm) (hf : f.Ok) : TCalls Tryd.prog 30 [.agg (frC f), .v (.int .i32 113)] [] none_ (callPost (told (.sl 4 (parts (f.ps 113))) [] [])) := by
  have hQ : callPost (told (.sl 4 (parts (f.ps 113))) [] []) (.sl 4 (parts (f.ps 113))) [] none_ := told_post rfl
  generalize callPost (told (.sl 4 (parts (f.ps 113))) [] []) = Q at *
  have s0 := wide_post f.req hf.req
  refine TCalls.of Tryd.func30 rfl (CanCall.of Tryd.func30 rfl (by decide)) [] fun Γ => ?_
  refine run_sound (⟨fun | 19, 2 => told (.agg (partC (num 4 f.req))) [] [] | _, _ => .no, [], fun | 7 => some ⟨[], [7, 8, 9], .take true [0,1,2,4,5,6] (.one 3 (.one 7 (.one 8 (.one 9 (.take false [10] .done)))))⟩ | 9 => some ⟨[], [7, 8], .take true [0,1,2,4,5,6] (.one 3 (.one 7 (.one 8 (.take false [9] .done))))⟩ | _ => none⟩) 400 (B := ∀ (b : Nat), b = b ∧ TCalls Tryd.prog 58 [u32 (Fm.req f)] [] none_ (callPost (Hint.call false Unit (fun x => True) [] false (fun x => T.agg (partC (num (4 : Int) (Fm.req f)))) (fun x => []) fun x => none_)) ∧ ∀ (a : Unit), True → Q (T.sl 4 [T.agg [int (Part.kind (num (4 : Int) (Fm.req f))), int (Part.size (num (4 : Int) (Fm.req f))), u64 (Part.n (num (4 : Int) (Fm.req f))), T.v (Value.string (Part.s (num (4 : Int) (Fm.req f))))]]) [] fun x => none) (by kernel_rfl) ?_
  repeat' (first | exact rfl | exact Nat.le_of_ble_eq_true rfl | refine And.intro ?_ ?_ | intro _ | refine bsplit_mk (fun _ => ?_) (fun _ => ?_))
  all_goals first
    | exact s0
    | exact hQ
    | (simp [maxLen, Fits]; done)
    | trace_state
theorem parts_b (f : Fm) (hf : f.Ok) : TCalls Tryd.prog 30 [.agg (frC f), .v (.int .i32 98)] [] none_ (callPost (told (.sl 4 (parts (f.ps 98))) [] [])) := by
  have hQ : callPost (told (.sl 4 (parts (f.ps 98))) [] []) (.sl 4 (parts (f.ps 98))) [] none_ := told_post rfl
  generalize callPost (told (.sl 4 (parts (f.ps 98))) [] []) = Q at *
  have s0 := marked_post f.bn f.bb hf.bn hf.bb
  refine TCalls.of Tryd.func30 rfl (CanCall.of Tryd.func30 rfl (by decide)) [] fun Γ => ?_
  refine run_sound (⟨fun | 21, 3 => told (.sl 4 (parts [num 4 f.bn, num 1 f.bb])) [] [] | _, _ => .no, [], fun | 7 => some ⟨[], [7, 8, 9], .take true [0,1,2,4,5,6] (.one 3 (.one 7 (.one 8 (.one 9 (.take false [10] .done)))))⟩ | 9 => some ⟨[], [7, 8], .take true [0,1,2,4,5,6] (.one 3 (.one 7 (.one 8 (.take false [9] .done))))⟩ | _ => none⟩) 400 (B := ∀ (b : Nat), b = b ∧ TCalls Tryd.prog 59 [T.agg [u32 (Fm.bn f), u8 (Fm.bb f)]] [] none_ (callPost (Hint.call false Unit (fun x => True) [] false (fun x => T.sl 4 (parts [num (4 : Int) (Fm.bn f), num (1 : Int) (Fm.bb f)])) (fun x => []) fun x => none_)) ∧ ∀ (a : Unit), True → Q (T.sl 4 [T.agg [int (Part.kind (num (4 : Int) (Fm.bn f))), int (Part.size (num (4 : Int) (Fm.bn f))), u64 (Part.n (num (4 : Int) (Fm.bn f))), T.v (Value.string (Part.s (num (4 : Int) (Fm.bn f))))], T.agg [int (Part.kind (num (1 : Int) (Fm.bb f))), int (Part.size (num (1 : Int) (Fm.bb f))), u64 (Part.n (num (1 : Int) (Fm.bb f))), T.v (Value.string (Part.s (num (1 : Int) (Fm.bb f))))]]) [] fun x => none) (by kernel_rfl) ?_
  repeat' (first | exact rfl | exact Nat.le_of_ble_eq_true rfl | refine And.intro ?_ ?_ | intro _ | refine bsplit_mk (fun _ => ?_) (fun _ => ?_))
  all_goals first
    | exact s0
    | exact hQ
    | (simp [maxLen, Fits]; done)
    | trace_state
theorem parts_n (f : Fm) (hf : f.Ok) : TCalls Tryd.prog 30 [.agg (frC f), .v (.int .i32 110)] [] none_ (callPost (told (.sl 4 (parts (f.ps 110))) [] [])) := by
  have hQ : callPost (told (.sl 4 (parts (f.ps 110))) [] []) (.sl 4 (parts (f.ps 110))) [] none_ := told_post rfl
  generalize callPost (told (.sl 4 (parts (f.ps 110))) [] []) = Q at *
  have s0 := wide_post f.slot hf.slot
  refine TCalls.of Tryd.func30 rfl (CanCall.of Tryd.func30 rfl (by decide)) [] fun Γ => ?_
  refine run_sound (⟨fun | 23, 2 => told (.agg (partC (num 4 f.slot))) [] [] | _, _ => .no, [], fun | 7 => some ⟨[], [7, 8, 9], .take true [0,1,2,4,5,6] (.one 3 (.one 7 (.one 8 (.one 9 (.take false [10] .done)))))⟩ | 9 => some ⟨[], [7, 8], .take true [0,1,2,4,5,6] (.one 3 (.one 7 (.one 8 (.take false [9] .done))))⟩ | _ => none⟩) 400 (B := ∀ (b : Nat), b = b ∧ TCalls Tryd.prog 58 [u32 (Fm.slot f)] [] none_ (callPost (Hint.call false Unit (fun x => True) [] false (fun x => T.agg (partC (num (4 : Int) (Fm.slot f)))) (fun x => []) fun x => none_)) ∧ ∀ (a : Unit), True → Q (T.sl 4 [T.agg [int (Part.kind (num (4 : Int) (Fm.slot f))), int (Part.size (num (4 : Int) (Fm.slot f))), u64 (Part.n (num (4 : Int) (Fm.slot f))), T.v (Value.string (Part.s (num (4 : Int) (Fm.slot f))))]]) [] fun x => none) (by kernel_rfl) ?_
  repeat' (first | exact rfl | exact Nat.le_of_ble_eq_true rfl | refine And.intro ?_ ?_ | intro _ | refine bsplit_mk (fun _ => ?_) (fun _ => ?_))
  all_goals first
    | exact s0
    | exact hQ
    | (simp [maxLen, Fits]; done)
    | trace_state
theorem parts_c (f : Fm) (hf : f.Ok) : TCalls Tryd.prog 30 [.agg (frC f), .v (.int .i32 99)] [] none_ (callPost (told (.sl 4 (parts (f.ps 99))) [] [])) := by
  have hQ : callPost (told (.sl 4 (parts (f.ps 99))) [] []) (.sl 4 (parts (f.ps 99))) [] none_ := told_post rfl
  generalize callPost (told (.sl 4 (parts (f.ps 99))) [] []) = Q at *
  have s0 := commanded_post f.c hf.c
  refine TCalls.of Tryd.func30 rfl (CanCall.of Tryd.func30 rfl (by decide)) [] fun Γ => ?_
  refine run_sound (⟨fun | 25, 2 => told (.sl 4 (parts f.c.ps)) [] [] | _, _ => .no, [], fun | 7 => some ⟨[], [7, 8, 9], .take true [0,1,2,4,5,6] (.one 3 (.one 7 (.one 8 (.one 9 (.take false [10] .done)))))⟩ | 9 => some ⟨[], [7, 8], .take true [0,1,2,4,5,6] (.one 3 (.one 7 (.one 8 (.take false [9] .done))))⟩ | _ => none⟩) 400 (B := ∀ (b : Nat), b = b ∧ TCalls Tryd.prog 62 [T.agg [u8 (Cmd.k (Fm.c f)), u8 (Cmd.n (Fm.c f)), u8 (Cmd.l (Fm.c f)), u32 (Cmd.e (Fm.c f)), u32 (Cmd.q (Fm.c f))]] [] none_ (callPost (Hint.call false Unit (fun x => True) [] false (fun x => T.sl 4 (parts (Cmd.ps (Fm.c f)))) (fun x => []) fun x => none_)) ∧ ∀ (a : Unit), True → Q (T.sl 4 [T.agg [int (Part.kind (num (1 : Int) (Cmd.k (Fm.c f)))), int (Part.size (num (1 : Int) (Cmd.k (Fm.c f)))), u64 (Part.n (num (1 : Int) (Cmd.k (Fm.c f)))), T.v (Value.string (Part.s (num (1 : Int) (Cmd.k (Fm.c f)))))], T.agg [int (Part.kind (num (1 : Int) (Cmd.n (Fm.c f)))), int (Part.size (num (1 : Int) (Cmd.n (Fm.c f)))), u64 (Part.n (num (1 : Int) (Cmd.n (Fm.c f)))), T.v (Value.string (Part.s (num (1 : Int) (Cmd.n (Fm.c f)))))], T.agg [int (Part.kind (num (1 : Int) (Cmd.l (Fm.c f)))), int (Part.size (num (1 : Int) (Cmd.l (Fm.c f)))), u64 (Part.n (num (1 : Int) (Cmd.l (Fm.c f)))), T.v (Value.string (Part.s (num (1 : Int) (Cmd.l (Fm.c f)))))], T.agg [int (Part.kind (num (4 : Int) (Cmd.e (Fm.c f)))), int (Part.size (num (4 : Int) (Cmd.e (Fm.c f)))), u64 (Part.n (num (4 : Int) (Cmd.e (Fm.c f)))), T.v (Value.string (Part.s (num (4 : Int) (Cmd.e (Fm.c f)))))], T.agg [int (Part.kind (num (4 : Int) (Cmd.q (Fm.c f)))), int (Part.size (num (4 : Int) (Cmd.q (Fm.c f)))), u64 (Part.n (num (4 : Int) (Cmd.q (Fm.c f)))), T.v (Value.string (Part.s (num (4 : Int) (Cmd.q (Fm.c f)))))]]) [] fun x => none) (by kernel_rfl) ?_
  repeat' (first | exact rfl | exact Nat.le_of_ble_eq_true rfl | refine And.intro ?_ ?_ | intro _ | refine bsplit_mk (fun _ => ?_) (fun _ => ?_))
  all_goals first
    | exact s0
    | exact hQ
    | (simp [maxLen, Fits]; done)
    | trace_state
theorem parts_w (f : Fm) (hf : f.Ok) : TCalls Tryd.prog 30 [.agg (frC f), .v (.int .i32 119)] [] none_ (callPost (told (.sl 4 (parts (f.ps 119))) [] [])) := by
  have hQ : callPost (told (.sl 4 (parts (f.ps 119))) [] []) (.sl 4 (parts (f.ps 119))) [] none_ := told_post rfl
  generalize callPost (told (.sl 4 (parts (f.ps 119))) [] []) = Q at *
  have s0 := viewed_post f.ve f.ms f.lv hf.ve hf.ms hf.mo hf.lv
  have e : f.ps 119 = viewPs f.ve f.ms f.lv := rfl
  rw [e] at hQ
  generalize parts (viewPs f.ve f.ms f.lv) = P at *
  refine TCalls.of Tryd.func30 rfl (CanCall.of Tryd.func30 rfl (by decide)) [] fun Γ => ?_
  refine run_sound (⟨fun | 27, 2 => told (.sl 4 P) [] [] | _, _ => .no, [], fun | 7 => some ⟨[], [7, 8, 9], .take true [0,1,2,4,5,6] (.one 3 (.one 7 (.one 8 (.one 9 (.take false [10] .done)))))⟩ | 9 => some ⟨[], [7, 8], .take true [0,1,2,4,5,6] (.one 3 (.one 7 (.one 8 (.take false [9] .done))))⟩ | _ => none⟩) 400 (B := ∀ (b : Nat), b = b ∧ TCalls Tryd.prog 63 [T.agg [u32 (Fm.ve f), T.sl 3 (List.map (fun x => T.agg (memC x)) (Fm.ms f)), u8 (Lvs.l0 (Fm.lv f)), u8 (Lvs.l1 (Fm.lv f)), u8 (Lvs.l2 (Fm.lv f)), u8 (Lvs.l3 (Fm.lv f)), u8 (Lvs.l4 (Fm.lv f)), u8 (Lvs.l5 (Fm.lv f)), u8 (Lvs.l6 (Fm.lv f)), u8 (Lvs.l7 (Fm.lv f))]] [] none_ (callPost (Hint.call false Unit (fun x => True) [] false (fun x => T.sl 4 P) (fun x => []) fun x => none_)) ∧ ∀ (a : Unit), True → Q (T.sl 4 P) [] fun x => none) (by kernel_rfl) ?_
  repeat' (first | exact rfl | exact Nat.le_of_ble_eq_true rfl | refine And.intro ?_ ?_ | intro _ | refine bsplit_mk (fun _ => ?_) (fun _ => ?_))
  all_goals first
    | exact s0
    | exact hQ
    | (simp [maxLen, Fits]; done)
    | trace_state
theorem parts_t (f : Fm) (hf : f.Ok) : TCalls Tryd.prog 30 [.agg (frC f), .v (.int .i32 116)] [] none_ (callPost (told (.sl 4 (parts (f.ps 116))) [] [])) := by
  have hQ : callPost (told (.sl 4 (parts (f.ps 116))) [] []) (.sl 4 (parts (f.ps 116))) [] none_ := told_post rfl
  generalize callPost (told (.sl 4 (parts (f.ps 116))) [] []) = Q at *
  have s0 := entered_post f.es hf.es hf.eo
  have e : f.ps 116 = entPs f.es := rfl
  rw [e] at hQ
  generalize parts (entPs f.es) = P at *
  refine TCalls.of Tryd.func30 rfl (CanCall.of Tryd.func30 rfl (by decide)) [] fun Γ => ?_
  refine run_sound (⟨fun | 28, 2 => told (.sl 4 P) [] [] | _, _ => .no, [], fun | 7 => some ⟨[], [7, 8, 9], .take true [0,1,2,4,5,6] (.one 3 (.one 7 (.one 8 (.one 9 (.take false [10] .done)))))⟩ | 9 => some ⟨[], [7, 8], .take true [0,1,2,4,5,6] (.one 3 (.one 7 (.one 8 (.take false [9] .done))))⟩ | _ => none⟩) 400 (B := ∀ (b : Nat), b = b ∧ TCalls Tryd.prog 64 [T.sl 8 (List.map (fun x => T.agg (entC x)) (Fm.es f))] [] none_ (callPost (Hint.call false Unit (fun x => True) [] false (fun x => T.sl 4 P) (fun x => []) fun x => none_)) ∧ ∀ (a : Unit), True → Q (T.sl 4 P) [] fun x => none) (by kernel_rfl) ?_
  repeat' (first | exact rfl | exact Nat.le_of_ble_eq_true rfl | refine And.intro ?_ ?_ | intro _ | refine bsplit_mk (fun _ => ?_) (fun _ => ?_))
  all_goals first
    | exact s0
    | exact hQ
    | (simp [maxLen, Fits]; done)
    | trace_state
theorem parts_post (f : Fm) (hf : f.Ok) (c : Nat) (hc : Frm.isLet c = true) : TCalls Tryd.prog 30 [.agg (frC f), .v (.int .i32 c)] [] none_ (callPost (told (.sl 4 (parts (f.ps c))) [] [])) := by
  have : c = 101 ∨ c = 107 ∨ c = 115 ∨ c = 118 ∨ c = 114 ∨ c = 102 ∨ c = 100 ∨ c = 108 ∨ c = 113 ∨ c = 98 ∨ c = 110 ∨ c = 99 ∨ c = 119 ∨ c = 116 := by
    unfold Frm.isLet at hc
    simp at hc
    omega
  rcases this with rfl | rfl | rfl | rfl | rfl | rfl | rfl | rfl | rfl | rfl | rfl | rfl | rfl | rfl
  · exact parts_e f hf
  · exact parts_k f hf
  · exact parts_s f hf
  · exact parts_v f hf
  · exact parts_r f hf
  · exact parts_f f hf
  · exact parts_d f hf
  · exact parts_l f hf
  · exact parts_q f hf
  · exact parts_b f hf
  · exact parts_n f hf
  · exact parts_c f hf
  · exact parts_w f hf
  · exact parts_t f hf
end X6
end Go.Proofs.YtaepgceodcdnhaaDoor.Vm
/- Frames by the engine: of, may, Encode. -/
namespace Go.Proofs.YtaepgceodcdnhaaDoor.Vm
open Go Go.RowKit
set_option maxRecDepth 100000
namespace X6
open Frm (num text raw one Cmd Mem Ent Lvs Fm lets fields PB)
open Oct (Part joinRes)
open X1 (partC parts parts_len)
def letS (l : List Nat) : List UInt8 := l.map UInt8.ofNat
/-- the cells of the variable 'fields' -/
def fixF : List T := fields.map fun l => str (letS l)
def obsF : Obs := [(0, .fix fixF)]
theorem fixF_at (k : Nat) (h : k < 17) : (fixF.drop (0 + (k : Int).toNat * 1))[0]? = some (str (letS (lets k))) := by
  have : k = 0 ∨ k = 1 ∨ k = 2 ∨ k = 3 ∨ k = 4 ∨ k = 5 ∨ k = 6 ∨ k = 7 ∨ k = 8 ∨ k = 9 ∨ k = 10 ∨ k = 11 ∨ k = 12 ∨ k = 13 ∨ k = 14 ∨ k = 15 ∨ k = 16 := by omega
  rcases this with rfl | rfl | rfl | rfl | rfl | rfl | rfl | rfl | rfl | rfl | rfl | rfl | rfl | rfl | rfl | rfl | rfl <;> rfl
theorem of_yes (k : Nat) (h : 1 ≤ k ∧ k < 17) : TCalls Tryd.prog 27 [u8 k] obsF none_ (callPost (told (.tup [str (letS (lets k)), bool true]) [0] obsF)) := by
  have hQ : callPost (told (.tup [str (letS (lets k)), bool true]) [0] obsF) (.tup [str (letS (lets k)), bool true]) obsF none_ := told_post rfl
  generalize callPost (told (.tup [str (letS (lets k)), bool true]) [0] obsF) = Q at *
  have hf := fixF_at k h.2
  generalize letS (lets k) = z at *
  have hw : T.v (.int .i64 (IntKind.wrap .i64 (k : Int))) = int k := congrArg int (wrap_i64 (by omega) (by omega))
  unfold obsF at *
  generalize fixF = F at *
  refine TCalls.of Tryd.func27 rfl (CanCall.of Tryd.func27 rfl (by decide)) [0] fun Γ => ?_
  refine run_sound (⟨fun | 1, 4 => .res (int k) | 3, 2 => .res (str z) | _, _ => .no, [], fun  | _ => none⟩) 400 (B := bsplit (decide ((↑k : Int) < (1 : Int))) (Q (T.tup [str [], bool false]) [(0, Ob.fix F)] fun x => none) (int (IntKind.wrap IntKind.i64 (↑k : Int)) = int k ∧ bsplit (decide ((↑k : Int) ≥ (17 : Int))) (Q (T.tup [str [], bool false]) [(0, Ob.fix F)] fun x => none) (((0 : Int) ≤ (↑k : Int) ∧ (↑k : Int) < (↑(17 : Nat) : Int)) ∧ (List.drop (0 + Int.toNat (↑k : Int) * nat_lit 1) F)[0]? = some (str z) ∧ Q (T.tup [str z, bool true]) [(0, Ob.fix F)] fun x => none))) (by kernel_rfl) ?_
  repeat' (first | exact rfl | exact Nat.le_of_ble_eq_true rfl | refine And.intro ?_ ?_ | intro _ | refine bsplit_mk (fun _ => ?_) (fun _ => ?_))
  all_goals first
    | exact hw
    | exact hf
    | exact hQ
    | exact Int.natCast_nonneg _
    | (exfalso; simp only [decide_eq_true_eq, decide_eq_false_iff_not] at *; omega)
    | (simp only [decide_eq_true_eq, decide_eq_false_iff_not] at *; omega)
    | trace_state
theorem of_no (k : Nat) (hk : k < 256) (h : ¬ (1 ≤ k ∧ k < 17)) : TCalls Tryd.prog 27 [u8 k] obsF none_ (callPost (told (.tup [str [], bool false]) [0] obsF)) := by
  have hQ : callPost (told (.tup [str [], bool false]) [0] obsF) (.tup [str [], bool false]) obsF none_ := told_post rfl
  generalize callPost (told (.tup [str [], bool false]) [0] obsF) = Q at *
  have hw : T.v (.int .i64 (IntKind.wrap .i64 (k : Int))) = int k := congrArg int (wrap_i64 (by omega) (by omega))
  unfold obsF at *
  generalize fixF = F at *
  refine TCalls.of Tryd.func27 rfl (CanCall.of Tryd.func27 rfl (by decide)) [0] fun Γ => ?_
  refine run_sound (⟨fun | 1, 4 => .res (int k) | 3, 2 => .res (str []) | _, _ => .no, [((0, 3), ([0], 1))], fun  | _ => none⟩) 400 (B := bsplit (decide ((↑k : Int) < (1 : Int))) (Q (T.tup [str [], bool false]) [(0, Ob.fix F)] fun x => none) (int (IntKind.wrap IntKind.i64 (↑k : Int)) = int k ∧ bsplit (decide ((↑k : Int) ≥ (17 : Int))) (Q (T.tup [str [], bool false]) [(0, Ob.fix F)] fun x => none) (TWk Tryd.prog Γ (fin Tryd.prog Tryd.f27 [0] Q) [It.code (sub (bd Tryd.f27) [1, 1])] { fr := frame 14 [(0, u8 k)], ob := [(0, Ob.fix F)], gl := fun x => none }))) (by kernel_rfl) ?_
  repeat' (first | exact rfl | exact Nat.le_of_ble_eq_true rfl | refine And.intro ?_ ?_ | intro _ | refine bsplit_mk (fun _ => ?_) (fun _ => ?_))
  all_goals first
    | exact hw
    | exact hQ
    | (exfalso; simp only [decide_eq_true_eq, decide_eq_false_iff_not] at *; omega)
    | trace_state
theorem value_post (h : Bool) (x : List UInt8) : TCalls Tryd.prog 57 [.agg [bool h, str x]] [] none_ (callPost (told (bool (Frm.valOk h x)) [] [])) := by
  have hQ : ∀ y, y = bool (Frm.valOk h x) → callPost (told (bool (Frm.valOk h x)) [] []) y [] none_ := fun y hy => told_post hy
  generalize callPost (told (bool (Frm.valOk h x)) [] []) = Q at *
  have hs : (⟨x.toArray⟩ : ByteArray).size = x.length := by show x.toArray.size = _; simp
  have he : decide ((⟨x.toArray⟩ : ByteArray) = ByteArray.mk #[]) = decide (x = []) := by
    rw [Bool.eq_iff_iff, decide_eq_true_eq, decide_eq_true_eq]
    constructor
    · intro e; injection e with e; simpa using e
    · rintro rfl; rfl
  unfold Frm.valOk at hQ
  by_cases hl : x.length ≤ 32
  · rw [decide_eq_true hl] at hQ
    cases h with
    | true =>
      have hQ := hQ _ rfl
      refine TCalls.of Tryd.func57 rfl (CanCall.of Tryd.func57 rfl (by decide)) [] fun Γ => ?_
      refine run_sound (⟨fun _ _ => .no, [], fun _ => none⟩) 400 (B := ∀ (b : Nat), b = b ∧ bsplit (decide ((↑(ByteArray.size (ByteArray.mk (List.toArray x))) : Int) ≤ (32 : Int))) (b = b ∧ Q (T.v (Value.bool true)) [] fun x => none) (Q (T.v (Value.bool false)) [] fun x => none)) (by kernel_rfl) ?_
      repeat' (first | exact rfl | exact Nat.le_of_ble_eq_true rfl | refine And.intro ?_ ?_ | intro _ | refine bsplit_mk (fun _ => ?_) (fun _ => ?_))
      all_goals first
        | exact hQ
        | (exfalso; rename_i h; rw [hs] at h; simp only [decide_eq_false_iff_not] at h; omega)
        | trace_state
    | false =>
      have hQ := hQ _ rfl
      rw [← he] at hQ
      refine TCalls.of Tryd.func57 rfl (CanCall.of Tryd.func57 rfl (by decide)) [] fun Γ => ?_
      refine run_sound (⟨fun _ _ => .no, [], fun _ => none⟩) 400 (B := ∀ (b : Nat), b = b ∧ bsplit (decide ((↑(ByteArray.size (ByteArray.mk (List.toArray x))) : Int) ≤ (32 : Int))) (b = b ∧ b = b ∧ Q (T.v (Value.bool (decide ((ByteArray.mk (List.toArray x)) = (ByteArray.mk (#[])))))) [] fun x => none) (Q (T.v (Value.bool false)) [] fun x => none)) (by kernel_rfl) ?_
      repeat' (first | exact rfl | exact Nat.le_of_ble_eq_true rfl | refine And.intro ?_ ?_ | intro _ | refine bsplit_mk (fun _ => ?_) (fun _ => ?_))
      all_goals first
        | exact hQ
        | (exfalso; rename_i h; rw [hs] at h; simp only [decide_eq_false_iff_not] at h; omega)
        | trace_state
  · rw [decide_eq_false hl] at hQ
    have hQ := hQ _ rfl
    refine TCalls.of Tryd.func57 rfl (CanCall.of Tryd.func57 rfl (by decide)) [] fun Γ => ?_
    refine run_sound (⟨fun _ _ => .no, [], fun _ => none⟩) 400 (B := ∀ (b : Nat), b = b ∧ bsplit (decide ((↑(ByteArray.size (ByteArray.mk (List.toArray x))) : Int) ≤ (32 : Int))) (b = b ∧ bsplit h (Q (T.v (Value.bool true)) [] fun x => none) (b = b ∧ Q (T.v (Value.bool (decide ((ByteArray.mk (List.toArray x)) = (ByteArray.mk (#[])))))) [] fun x => none)) (Q (T.v (Value.bool false)) [] fun x => none)) (by kernel_rfl) ?_
    repeat' (first | exact rfl | exact Nat.le_of_ble_eq_true rfl | refine And.intro ?_ ?_ | intro _ | refine bsplit_mk (fun _ => ?_) (fun _ => ?_))
    all_goals first
      | exact hQ
      | (exfalso; have g := of_decide_eq_true ‹decide ((((⟨x.toArray⟩ : ByteArray).size : Nat) : Int) ≤ 32) = true›; rw [hs] at g; omega)
      | trace_state
theorem may_k (f : Fm) : TCalls Tryd.prog 29 [.agg (frC f), .v (.int .i32 107)] [] none_ (callPost (told (bool (f.may 107)) [] [])) := by
  have hQ : ∀ y, y = bool (f.may 107) → callPost (told (bool (f.may 107)) [] []) y [] none_ := fun y hy => told_post hy
  generalize callPost (told (bool (f.may 107)) [] []) = Q at *
  refine TCalls.of Tryd.func29 rfl (CanCall.of Tryd.func29 rfl (by decide)) [] fun Γ => ?_
  refine run_sound (⟨fun _ _ => .no, [], fun _ => none⟩) 400 (B := ∀ (b : Nat), b = b ∧ Q (T.v (Value.bool (decide ((↑(Fm.key f) : Int) < (6 : Int))))) [] fun x => none) (by kernel_rfl) ?_
  repeat' (first | exact rfl | exact Nat.le_of_ble_eq_true rfl | refine And.intro ?_ ?_ | intro _ | refine bsplit_mk (fun _ => ?_) (fun _ => ?_))
  all_goals first
    | exact hQ _ (congrArg bool (by show decide ((f.key : Int) < 6) = decide (f.key < 6); rw [Bool.eq_iff_iff, decide_eq_true_eq, decide_eq_true_eq]; omega))
    | trace_state
theorem may_v (f : Fm) : TCalls Tryd.prog 29 [.agg (frC f), .v (.int .i32 118)] [] none_ (callPost (told (bool (f.may 118)) [] [])) := by
  have hQ : ∀ y, y = bool (f.may 118) → callPost (told (bool (f.may 118)) [] []) y [] none_ := fun y hy => told_post hy
  generalize callPost (told (bool (f.may 118)) [] []) = Q at *
  have hv := value_post f.has f.x
  refine TCalls.of Tryd.func29 rfl (CanCall.of Tryd.func29 rfl (by decide)) [] fun Γ => ?_
  refine run_sound (⟨fun | 5, 2 => told (bool (Frm.valOk f.has f.x)) [] [] | _, _ => .no, [], fun  | _ => none⟩) 400 (B := ∀ (b : Nat), b = b ∧ TCalls Tryd.prog 57 [T.agg [bool (Fm.has f), str (Fm.x f)]] [] none_ (callPost (Hint.call false Unit (fun x => True) [] false (fun x => bool (Frm.valOk (Fm.has f) (Fm.x f))) (fun x => []) fun x => none_)) ∧ ∀ (a : Unit), True → Q (bool (Frm.valOk (Fm.has f) (Fm.x f))) [] fun x => none) (by kernel_rfl) ?_
  repeat' (first | exact rfl | exact Nat.le_of_ble_eq_true rfl | refine And.intro ?_ ?_ | intro _ | refine bsplit_mk (fun _ => ?_) (fun _ => ?_))
  all_goals first
    | exact hv
    | exact hQ _ rfl
    | trace_state
theorem may_w (f : Fm) : TCalls Tryd.prog 29 [.agg (frC f), .v (.int .i32 119)] [] none_ (callPost (told (bool (f.may 119)) [] [])) := by
  have hQ : ∀ y, y = bool (f.may 119) → callPost (told (bool (f.may 119)) [] []) y [] none_ := fun y hy => told_post hy
  generalize callPost (told (bool (f.may 119)) [] []) = Q at *
  have hal : (Row.aggs memC f.ms).length = f.ms.length := Row.aggs_len f.ms
  refine TCalls.of Tryd.func29 rfl (CanCall.of Tryd.func29 rfl (by decide)) [] fun Γ => ?_
  refine run_sound (⟨fun _ _ => .no, [], fun _ => none⟩) 400 (B := ∀ (b : Nat), b = b ∧ Q (T.v (Value.bool (decide ((↑(List.length (List.map (fun x => T.agg (memC x)) (Fm.ms f))) : Int) ≤ (8 : Int))))) [] fun x => none) (by kernel_rfl) ?_
  repeat' (first | exact rfl | exact Nat.le_of_ble_eq_true rfl | refine And.intro ?_ ?_ | intro _ | refine bsplit_mk (fun _ => ?_) (fun _ => ?_))
  all_goals first
    | exact hQ _ (congrArg bool (by show decide (((Row.aggs memC f.ms).length : Int) ≤ 8) = decide (f.ms.length ≤ 8); rw [hal, Bool.eq_iff_iff, decide_eq_true_eq, decide_eq_true_eq]; omega))
    | trace_state
theorem may_t (f : Fm) : TCalls Tryd.prog 29 [.agg (frC f), .v (.int .i32 116)] [] none_ (callPost (told (bool (f.may 116)) [] [])) := by
  have hQ : ∀ y, y = bool (f.may 116) → callPost (told (bool (f.may 116)) [] []) y [] none_ := fun y hy => told_post hy
  generalize callPost (told (bool (f.may 116)) [] []) = Q at *
  have hal : (Row.aggs entC f.es).length = f.es.length := Row.aggs_len f.es
  refine TCalls.of Tryd.func29 rfl (CanCall.of Tryd.func29 rfl (by decide)) [] fun Γ => ?_
  refine run_sound (⟨fun _ _ => .no, [], fun _ => none⟩) 400 (B := ∀ (b : Nat), b = b ∧ Q (T.v (Value.bool (decide ((↑(List.length (List.map (fun x => T.agg (entC x)) (Fm.es f))) : Int) ≤ (16 : Int))))) [] fun x => none) (by kernel_rfl) ?_
  repeat' (first | exact rfl | exact Nat.le_of_ble_eq_true rfl | refine And.intro ?_ ?_ | intro _ | refine bsplit_mk (fun _ => ?_) (fun _ => ?_))
  all_goals first
    | exact hQ _ (congrArg bool (by show decide (((Row.aggs entC f.es).length : Int) ≤ 16) = decide (f.es.length ≤ 16); rw [hal, Bool.eq_iff_iff, decide_eq_true_eq, decide_eq_true_eq]; omega))
    | trace_state
theorem nT {a b : Nat} (h : ((a : Int) == (b : Int)) = true) : a = b := by have := beq_iff_eq.1 h; omega
theorem nF {a b : Nat} (h : ((a : Int) == (b : Int)) = false) : ¬ a = b := by have := beq_eq_false_iff_ne.1 h; omega
theorem may_o (f : Fm) (c : Nat) (h1 : ¬ c = 107) (h2 : ¬ c = 118) (h3 : ¬ c = 119) (h4 : ¬ c = 116) : TCalls Tryd.prog 29 [.agg (frC f), .v (.int .i32 c)] [] none_ (callPost (told (bool (f.may c)) [] [])) := by
  have hQ : callPost (told (bool (f.may c)) [] []) (bool true) [] none_ := told_post (by unfold Frm.Fm.may; rw [if_neg h1, if_neg h2, if_neg h3, if_neg h4])
  generalize callPost (told (bool (f.may c)) [] []) = Q at *
  generalize frC f = F at *
  refine TCalls.of Tryd.func29 rfl (CanCall.of Tryd.func29 rfl (by decide)) [] fun Γ => ?_
  refine run_sound (⟨fun _ _ => .no, [((0, 3), ([2], 1)), ((0, 5), ([2], 1)), ((0, 7), ([2], 1)), ((0, 9), ([2], 1))], fun _ => none⟩) 400 (B := ∀ (b : Nat), bsplit ((↑c : Int) == (107 : Int)) (TWk Tryd.prog Γ (fin Tryd.prog Tryd.f29 [] Q) [It.code (sub (bd Tryd.f29) [1, 0, 1, 0, 1, 0]), It.blk 0, It.code (sub (bd Tryd.f29) [1, 1])] { fr := frame 29 [(2, T.ptr 0 b 0)], ob := [(b, Ob.cells F)], gl := fun x => none }) (bsplit ((↑c : Int) == (118 : Int)) (TWk Tryd.prog Γ (fin Tryd.prog Tryd.f29 [] Q) [It.code (sub (bd Tryd.f29) [1, 0, 1, 0, 1, 1, 1, 0]), It.blk 0, It.code (sub (bd Tryd.f29) [1, 1])] { fr := frame 29 [(2, T.ptr 0 b 0)], ob := [(b, Ob.cells F)], gl := fun x => none }) (bsplit ((↑c : Int) == (119 : Int)) (TWk Tryd.prog Γ (fin Tryd.prog Tryd.f29 [] Q) [It.code (sub (bd Tryd.f29) [1, 0, 1, 0, 1, 1, 1, 1, 1, 0]), It.blk 0, It.code (sub (bd Tryd.f29) [1, 1])] { fr := frame 29 [(2, T.ptr 0 b 0)], ob := [(b, Ob.cells F)], gl := fun x => none }) (bsplit ((↑c : Int) == (116 : Int)) (TWk Tryd.prog Γ (fin Tryd.prog Tryd.f29 [] Q) [It.code (sub (bd Tryd.f29) [1, 0, 1, 0, 1, 1, 1, 1, 1, 1, 1, 0]), It.blk 0, It.code (sub (bd Tryd.f29) [1, 1])] { fr := frame 29 [(2, T.ptr 0 b 0)], ob := [(b, Ob.cells F)], gl := fun x => none }) (Q (bool true) [] fun x => none))))) (by kernel_rfl) ?_
  repeat' (first | exact rfl | exact Nat.le_of_ble_eq_true rfl | refine And.intro ?_ ?_ | intro _ | refine bsplit_mk (fun _ => ?_) (fun _ => ?_))
  all_goals first
    | exact hQ
    | (exfalso; exact h1 (nT (b := 107) ‹_›))
    | (exfalso; exact h2 (nT (b := 118) ‹_›))
    | (exfalso; exact h3 (nT (b := 119) ‹_›))
    | (exfalso; exact h4 (nT (b := 116) ‹_›))
    | trace_state
theorem may_post (f : Fm) (c : Nat) : TCalls Tryd.prog 29 [.agg (frC f), .v (.int .i32 c)] [] none_ (callPost (told (bool (f.may c)) [] [])) := by
  by_cases h1 : c = 107
  · subst h1; exact may_k f
  by_cases h2 : c = 118
  · subst h2; exact may_v f
  by_cases h3 : c = 119
  · subst h3; exact may_w f
  by_cases h4 : c = 116
  · subst h4; exact may_t f
  exact may_o f c h1 h2 h3 h4
/-! Encode -/
theorem letS_len (l : List Nat) : (letS l).length = l.length := by simp [letS]
theorem let_lt {c : Nat} (h : Frm.isLet c = true) : c < 128 := by
  unfold Frm.isLet at h
  simp at h
  omega
theorem ascii_at (l d r : List Nat) (c : Nat) (hl : l = d ++ c :: r) (hc : c < 128) (x : Nat) : AsciiAt (⟨(letS l).toArray⟩ : ByteArray) d.length x ↔ x = c := by
  have hsz : (⟨(letS l).toArray⟩ : ByteArray).size = l.length := by show (letS l).toArray.size = _; simp [letS]
  have hlt : d.length < l.length := by rw [hl]; simp
  have hg : ((⟨(letS l).toArray⟩ : ByteArray).get! d.length).toNat = c := by
    show ((letS l).toArray[d.length]!).toNat = c
    have : (letS l).toArray[d.length]! = UInt8.ofNat c := by
      rw [getElem!_def]
      have : (letS l).toArray[d.length]? = some (UInt8.ofNat c) := by
        rw [List.getElem?_toArray, letS, List.getElem?_map, hl]; simp
      rw [this]
    rw [this, UInt8.toNat_ofNat']; omega
  unfold AsciiAt
  rw [hsz, hg]
  exact ⟨fun h => h.2.1.symm, fun h => ⟨hlt, h.symm, by omega⟩⟩
def encT (f : Fm) : T := .tup [str f.enc.1, int f.enc.2]
theorem enc_end (Γ : Ctx) (b0 c : Nat) (f : Fm) (hf : f.Ok) (hg : f.good = true) (hd : Value) (z : ByteArray) (pos : Nat) (Q : T → Obs → Glb → Prop) (hQ : ∀ x, x = encT f → Q x obsF none_) :
    TWk Tryd.prog Γ (fin Tryd.prog Tryd.f11 [0] Q) [.code (sub (bd Tryd.f11) [1, 1, 1, 1, 1])] ⟨frame 57 [(6, .slx 4 2 (parts (f.hps ++ (lets f.kind).flatMap f.ps)) hd)], [(0, .fix fixF), (b0, .cells (frC f)), (0, .room 4 109 (parts (f.hps ++ (lets f.kind).flatMap f.ps)).length hd), (c, .siter z pos)], none_⟩ := by
  have hall : ∀ c ∈ lets f.kind, f.may c = true := by
    unfold Frm.Fm.good at hg
    simp only [Bool.and_eq_true, List.all_eq_true] at hg
    exact hg.2
  have pb := hf.all_pb _ hall
  have hl6 := Frm.lets_len f.kind
  have hfl := Frm.flat_le (f := f.ps) (lets f.kind) (fun c _ => hf.ps_le c)
  have hle : (f.hps ++ (lets f.kind).flatMap f.ps).length ≤ 1000 := by
    rw [List.length_append]
    show 3 + _ ≤ _
    omega
  have hroom := Frm.room_le _ pb.s
  have hj := X1.join_any (f.hps ++ (lets f.kind).flatMap f.ps) (by omega) (fun p hp => by have := pb.n p hp; omega) (by omega) _ (fun x h => told_post (sel := []) (ob := []) (h.trans (by rw [pb.j [], List.nil_append])))
  have hbl : f.bytes.length ≤ 1000000000 := by
    have := Frm.bytes_len pb
    show (f.hb ++ (lets f.kind).flatMap f.fb).length ≤ _
    omega
  have hs := X2.seal_any f.bytes hbl _ (fun x h => told_post (sel := []) (ob := []) h)
  have he : encT f = .tup [str (Crc.sealL f.bytes), int 0] := by unfold encT Frm.Fm.enc; rw [if_pos hg]
  rw [he] at hQ
  have hj : TCalls Tryd.prog 31 [.sl 4 (parts (f.hps ++ (lets f.kind).flatMap f.ps))] [] none_ (callPost (told (.tup [str f.bytes, int 0]) [] [])) := hj
  unfold obsF at *
  generalize parts (f.hps ++ (lets f.kind).flatMap f.ps) = P at *
  generalize f.bytes = B at *
  generalize Crc.sealL B = SB at *
  generalize fixF = F at *
  generalize frC f = C at *
  refine run_sound (⟨fun | 11, 1 => .call true Unit (fun _ => True) [] false (fun _ => .tup [str B, int 0]) (fun _ => []) (fun _ => none_) | 14, 1 => told (str SB) [] [] | _, _ => .no, [], fun | 4 => some ⟨[], [11, 12], .take true [0,1,2,4,5,6,8,9,10] (.one 3 (.one 7 (.one 11 (.one 12 (.take false [13] .done)))))⟩ | _ => none⟩) 400 (B := TCalls Tryd.prog 31 [T.sl 4 P] [] none_ (callPost (Hint.call true Unit (fun x => True) [] false (fun x => T.tup [str B, int 0]) (fun x => []) fun x => none_)) ∧ ∀ (a : Unit), True → TCalls Tryd.prog 17 [str B] [] none_ (callPost (Hint.call false Unit (fun x => True) [] false (fun x => str SB) (fun x => []) fun x => none_)) ∧ ∀ (a : Unit), True → Q (T.tup [str SB, int 0]) [(0, Ob.fix F)] fun x => none) (by kernel_rfl) ?_
  repeat' (first | exact rfl | exact Nat.le_of_ble_eq_true rfl | refine And.intro ?_ ?_ | intro _ | refine bsplit_mk (fun _ => ?_) (fun _ => ?_))
  all_goals first
    | exact hj
    | exact hs
    | exact hQ _ rfl
    | trace_state
theorem bnF {b : Bool} (h : (!b) = false) : b = true := by cases b <;> simp_all
theorem bnT {b : Bool} (h : (!b) = true) : b = false := by cases b <;> simp_all
theorem flat_snoc (f : Fm) (d : List Nat) (c : Nat) : parts (f.hps ++ (d ++ [c]).flatMap f.ps) = parts (f.hps ++ d.flatMap f.ps) ++ parts (f.ps c) := by
  rw [List.flatMap_append, ← List.append_assoc, parts_app, List.flatMap_cons, List.flatMap_nil, List.append_nil]
theorem enc_bad {f : Fm} {c : Nat} (hc : c ∈ lets f.kind) (hm : f.may c = false) : f.enc = ([], 4) := by
  unfold Frm.Fm.enc Frm.Fm.good
  rw [if_neg]
  intro h
  simp only [Bool.and_eq_true, List.all_eq_true] at h
  rw [h.2 c hc] at hm
  cases hm
theorem enc_loop (Γ : Ctx) (b0 c : Nat) (f : Fm) (hf : f.Ok) (hk : 1 ≤ f.kind ∧ f.kind < 17) (Q : T → Obs → Glb → Prop) (hQ : ∀ x, x = encT f → Q x obsF none_) : ∀ (r d : List Nat) (hd : Value), lets f.kind = d ++ r → (∀ x ∈ d, f.may x = true) →
    TWk Tryd.prog Γ (fin Tryd.prog Tryd.f11 [0] Q) [.code (sub (bd Tryd.f11) [1, 1, 1, 1, 0, 1, 0]), .blk 0, .code (sub (bd Tryd.f11) [1, 1, 1, 1, 1])] ⟨frame 57 [(1, .ptr 1 b0 0), (6, .slx 4 2 (parts (f.hps ++ d.flatMap f.ps)) hd), (34, .ptr 3 c 0)], [(0, .fix fixF), (b0, .cells (frC f)), (0, .room 4 109 (parts (f.hps ++ d.flatMap f.ps)).length hd), (c, .siter ⟨(letS (lets f.kind)).toArray⟩ d.length)], none_⟩ := by
  intro r
  induction r with
  | nil =>
    intro d hd h1 h2
    have e : d = lets f.kind := by rw [h1]; simp
    subst e
    have hg : f.good = true := by
      unfold Frm.Fm.good Frm.hasKind
      rw [decide_eq_true hk, Bool.true_and, List.all_eq_true]
      exact h2
    have en := enc_end Γ b0 c f hf hg hd ⟨(letS (lets f.kind)).toArray⟩ (lets f.kind).length Q hQ
    have hsz : (⟨(letS (lets f.kind)).toArray⟩ : ByteArray).size = (lets f.kind).length := by show (letS (lets f.kind)).toArray.size = _; simp [letS]
    have hno : ¬ (lets f.kind).length < (⟨(letS (lets f.kind)).toArray⟩ : ByteArray).size := by omega
    clear hQ
    generalize (⟨(letS (lets f.kind)).toArray⟩ : ByteArray) = z at *
    generalize parts (f.hps ++ (lets f.kind).flatMap f.ps) = P at *
    generalize (lets f.kind).length = n at *
    generalize fixF = F at *
    refine run_sound (⟨fun | 8, 2 => told (bool true) [] [] | 10, 3 => told (.sl 4 []) [] [] | _, _ => .no, [((2, 6), ([1, 6, 34], 4)), ((0, 11), ([6], 4)), ((0, 7), ([1, 6, 34, 35], 4))], fun | 4 => some ⟨[], [11, 12], .take true [0,1,2,4,5,6,8,9,10] (.one 3 (.one 7 (.one 11 (.one 12 (.take false [13] .done)))))⟩ | _ => none⟩) 400 (B := c = c ∧ (n < ByteArray.size z → (∃ r, AsciiAt z n r) ∧ ∀ (r : Nat), AsciiAt z n r → TWk Tryd.prog Γ (fin Tryd.prog Tryd.f11 [0] Q) [It.code (sub (bd Tryd.f11) [1, 1, 1, 1, 0, 1, 0, 0, 1, 1, 0]), It.blk 1, It.code (sub (bd Tryd.f11) [1, 1, 1, 1, 0, 1, 0]), It.blk 0, It.code (sub (bd Tryd.f11) [1, 1, 1, 1, 1])] { fr := frame 57 [(1, T.ptr 1 b0 0), (6, T.slx 4 2 P hd), (34, T.ptr 3 c 0), (35, T.tup [bool true, int n, T.v (Value.int IntKind.i32 (↑r : Int))])], ob := [(0, Ob.fix F), (b0, Ob.cells (frC f)), (0, Ob.room 4 109 (List.length P) hd), (c, Ob.siter z (n + 1))], gl := fun x => none }) ∧ (ByteArray.size z ≤ n → TWk Tryd.prog Γ (fin Tryd.prog Tryd.f11 [0] Q) [It.code (sub (bd Tryd.f11) [1, 1, 1, 1, 1])] { fr := frame 57 [(6, T.slx 4 2 P hd)], ob := [(0, Ob.fix F), (b0, Ob.cells (frC f)), (0, Ob.room 4 109 (List.length P) hd), (c, Ob.siter z n)], gl := fun x => none })) (by kernel_rfl) ?_
    repeat' (first | exact rfl | exact Nat.le_of_ble_eq_true rfl | refine And.intro ?_ ?_ | intro _ | refine bsplit_mk (fun _ => ?_) (fun _ => ?_))
    all_goals first
      | exact en
      | exact absurd ‹_› hno
      | trace_state
  | cons x r ih =>
    intro d hd h1 h2
    have hmem : x ∈ lets f.kind := by rw [h1]; simp
    have hil := Frm.lets_ok f.kind x hmem
    have hx := ascii_at (lets f.kind) d r x h1 (let_lt hil)
    have hsz : (⟨(letS (lets f.kind)).toArray⟩ : ByteArray).size = (lets f.kind).length := by show (letS (lets f.kind)).toArray.size = _; simp [letS]
    have hlt : d.length < (⟨(letS (lets f.kind)).toArray⟩ : ByteArray).size := by rw [hsz, h1]; simp
    have hmy := may_post f x
    have hpt := parts_post f hf x hil
    have hbad := fun h : f.may x = false => hQ (.tup [str [], int 4]) (by unfold encT; rw [enc_bad hmem h])
    have nx := fun (h : f.may x = true) hd => ih (d ++ [x]) hd (by rw [h1]; simp) (fun y hy => (List.mem_append.1 hy).elim (h2 y) (fun hy => by rw [List.mem_singleton.1 hy]; exact h))
    rw [flat_snoc, show (d ++ [x]).length = d.length + 1 from by simp] at nx
    have hl6 := Frm.lets_len f.kind
    have hdl : d.length ≤ 6 := by rw [h1] at hl6; simp at hl6; omega
    have hfl := Frm.flat_le (f := f.ps) d (fun c _ => hf.ps_le c)
    have hle : (parts (f.hps ++ d.flatMap f.ps)).length ≤ 1000 := by
      rw [parts_len, List.length_append]
      show 3 + _ ≤ _
      omega
    have hl2 : (parts (f.ps x)).length ≤ 145 := by rw [parts_len]; exact hf.ps_le x
    clear ih hQ
    generalize (⟨(letS (lets f.kind)).toArray⟩ : ByteArray) = z at *
    generalize parts (f.hps ++ d.flatMap f.ps) = P at *
    generalize parts (f.ps x) = PX at *
    generalize f.may x = m at *
    generalize d.length = n at *
    unfold obsF at *
    generalize fixF = F at *
    refine run_sound (⟨fun | 8, 2 => told (bool m) [] [] | 10, 3 => told (.sl 4 PX) [] [] | _, _ => .no, [((2, 6), ([1, 6, 34], 4)), ((0, 11), ([6], 4))], fun | 4 => some ⟨[], [11, 12], .take true [0,1,2,4,5,6,8,9,10] (.one 3 (.one 7 (.one 11 (.one 12 (.take false [13] .done)))))⟩ | _ => none⟩) 400 (B := c = c ∧ (n < ByteArray.size z → (∃ r, AsciiAt z n r) ∧ ∀ (r : Nat), AsciiAt z n r → b0 = b0 ∧ TCalls Tryd.prog 29 [T.agg (frC f), T.v (Value.int IntKind.i32 (↑r : Int))] [] none_ (callPost (Hint.call false Unit (fun x => True) [] false (fun x => bool m) (fun x => []) fun x => none_)) ∧ ∀ (a : Unit), True → bsplit (!m) (Q (T.tup [str [], int 4]) [(0, Ob.fix F)] fun x => none) (b0 = b0 ∧ TCalls Tryd.prog 30 [T.agg (frC f), T.v (Value.int IntKind.i32 (↑r : Int))] [] none_ (callPost (Hint.call false Unit (fun x => True) [] false (fun x => T.sl 4 PX) (fun x => []) fun x => none_)) ∧ ∀ (a : Unit), True → (hd = hd ∧ List.length P = List.length P) ∧ Fits (List.length P + List.length PX) (nat_lit 40) ∧ ∀ (x : Value), TWk Tryd.prog Γ (fin Tryd.prog Tryd.f11 [0] Q) [It.code (sub (bd Tryd.f11) [1, 1, 1, 1, 0, 1, 0]), It.blk 0, It.code (sub (bd Tryd.f11) [1, 1, 1, 1, 1])] { fr := frame 57 [(1, T.ptr 1 b0 0), (6, T.slx 4 2 (P ++ PX) x), (34, T.ptr 3 c 0)], ob := [(0, Ob.fix F), (b0, Ob.cells (frC f)), (0, Ob.room 4 109 (List.length (P ++ PX)) x), (c, Ob.siter z (n + 1))], gl := fun x => none })) ∧ (ByteArray.size z ≤ n → TWk Tryd.prog Γ (fin Tryd.prog Tryd.f11 [0] Q) [It.code (sub (bd Tryd.f11) [1, 1, 1, 1, 1])] { fr := frame 57 [(6, T.slx 4 2 P hd)], ob := [(0, Ob.fix F), (b0, Ob.cells (frC f)), (0, Ob.room 4 109 (List.length P) hd), (c, Ob.siter z n)], gl := fun x => none })) (by kernel_rfl) ?_
    repeat' (first | exact rfl | exact Nat.le_of_ble_eq_true rfl | refine And.intro ?_ ?_ | intro _ | refine bsplit_mk (fun _ => ?_) (fun _ => ?_))
    all_goals first
      | exact nx (bnF ‹_›) _
      | exact hbad (bnT ‹_›)
      | exact ⟨x, (hx x).2 rfl⟩
      | (obtain rfl := (hx _).1 ‹_›; exact hmy)
      | (obtain rfl := (hx _).1 ‹_›; exact hpt)
      | (exfalso; omega)
      | (simp [maxLen]; omega)
      | trace_state
theorem enc_any (f : Fm) (hf : f.Ok) : TCalls Tryd.prog 11 [.agg (frC f)] obsF none_ (callPost (told (encT f) [0] obsF)) := by
  have hQ : ∀ x, x = encT f → callPost (told (encT f) [0] obsF) x obsF none_ := fun x h => told_post h
  generalize callPost (told (encT f) [0] obsF) = Q at *
  have s1 := small_post f.kind hf.kind
  have s2 := small_post f.frm hf.frm
  have s3 := small_post f.to hf.to
  by_cases hk : 1 ≤ f.kind ∧ f.kind < 17
  · have ho := of_yes f.kind hk
    have lp := fun Γ b0 c hd => enc_loop Γ b0 c f hf hk Q hQ (lets f.kind) [] hd rfl (fun x h => by cases h)
    have lp : ∀ Γ b0 c hd, TWk Tryd.prog Γ (fin Tryd.prog Tryd.f11 [0] Q) [.code (sub (bd Tryd.f11) [1, 1, 1, 1, 0, 1, 0]), .blk 0, .code (sub (bd Tryd.f11) [1, 1, 1, 1, 1])] ⟨frame 57 [(1, .ptr 1 b0 0), (6, .slx 4 2 (parts f.hps) hd), (34, .ptr 3 c 0)], [(0, .fix fixF), (b0, .cells (frC f)), (0, .room 4 109 (parts f.hps).length hd), (c, .siter ⟨(letS (lets f.kind)).toArray⟩ 0)], none_⟩ := lp
    have hz : str (letS (lets f.kind)) = .v (.string ⟨(letS (lets f.kind)).toArray⟩) := rfl
    rw [hz] at ho
    clear hQ
    generalize (⟨(letS (lets f.kind)).toArray⟩ : ByteArray) = z at *
    unfold obsF at *
    generalize fixF = F at *
    refine TCalls.of Tryd.func11 rfl (CanCall.of Tryd.func11 rfl (by decide)) [0] fun Γ => ?_
    refine run_sound (⟨fun | 1, 3 => told (.tup [.v (.string z), bool true]) [0] [(0, .fix F)] | 4, 3 => told (.agg (partC (num 1 f.kind))) [] [] | 4, 7 => told (.agg (partC (num 1 f.frm))) [] [] | 4, 11 => told (.agg (partC (num 1 f.to))) [] [] | 4, 12 => .plain .no | _, _ => .no, [((2, 6), ([1, 6, 34], 4))], fun | 4 => some ⟨[1], [11, 12], .take true [0,1,2,4,5,6,8,9,10] (.one 3 (.one 7 (.one 11 (.one 12 (.take false [13] .done)))))⟩ | _ => none⟩) 400 (B := ∀ (b : Nat), b = b ∧ TCalls Tryd.prog 27 [u8 (Fm.kind f)] [(0, Ob.fix F)] none_ (callPost (Hint.call false Unit (fun x => True) [0] false (fun x => T.tup [T.v (Value.string z), bool true]) (fun x => [(0, Ob.fix F)]) fun x => none_)) ∧ ∀ (a : Unit), True → b = b ∧ b = b ∧ b = b ∧ TCalls Tryd.prog 28 [u8 (Fm.kind f)] [] none_ (callPost (Hint.call false Unit (fun x => True) [] false (fun x => T.agg (partC (num (1 : Int) (Fm.kind f)))) (fun x => []) fun x => none_)) ∧ ∀ (a : Unit), True → TCalls Tryd.prog 28 [u8 (Fm.frm f)] [] none_ (callPost (Hint.call false Unit (fun x => True) [] false (fun x => T.agg (partC (num (1 : Int) (Fm.frm f)))) (fun x => []) fun x => none_)) ∧ ∀ (a : Unit), True → TCalls Tryd.prog 28 [u8 (Fm.to f)] [] none_ (callPost (Hint.call false Unit (fun x => True) [] false (fun x => T.agg (partC (num (1 : Int) (Fm.to f)))) (fun x => []) fun x => none_)) ∧ ∀ (a : Unit), True → ∀ (x : Value) (c : Nat), TWk Tryd.prog Γ (fin Tryd.prog Tryd.f11 [0] Q) [It.code (sub (bd Tryd.f11) [1, 1, 1, 1, 0, 1, 0]), It.blk 0, It.code (sub (bd Tryd.f11) [1, 1, 1, 1, 1])] { fr := frame 57 [(1, T.ptr 1 b 0), (6, T.slx 4 2 [T.agg [int (Part.kind (num (1 : Int) (Fm.kind f))), int (Part.size (num (1 : Int) (Fm.kind f))), u64 (Part.n (num (1 : Int) (Fm.kind f))), T.v (Value.string (Part.s (num (1 : Int) (Fm.kind f))))], T.agg [int (Part.kind (num (1 : Int) (Fm.frm f))), int (Part.size (num (1 : Int) (Fm.frm f))), u64 (Part.n (num (1 : Int) (Fm.frm f))), T.v (Value.string (Part.s (num (1 : Int) (Fm.frm f))))], T.agg [int (Part.kind (num (1 : Int) (Fm.to f))), int (Part.size (num (1 : Int) (Fm.to f))), u64 (Part.n (num (1 : Int) (Fm.to f))), T.v (Value.string (Part.s (num (1 : Int) (Fm.to f))))]] x), (34, T.ptr 3 c 0)], ob := [(0, Ob.fix F), (b, Ob.cells (frC f)), (0, Ob.room 4 109 3 x), (c, Ob.siter z 0)], gl := fun x => none }) (by kernel_rfl) ?_
    repeat' (first | exact rfl | exact Nat.le_of_ble_eq_true rfl | refine And.intro ?_ ?_ | intro _ | refine bsplit_mk (fun _ => ?_) (fun _ => ?_))
    all_goals first
      | exact ho
      | exact s1
      | exact s2
      | exact s3
      | exact lp _ _ _ _
      | trace_state
  · have ho := of_no f.kind hf.kind hk
    have he : encT f = .tup [str [], int 4] := by
      unfold encT Frm.Fm.enc Frm.Fm.good Frm.hasKind
      rw [decide_eq_false hk, Bool.false_and]; rfl
    rw [he] at hQ
    unfold obsF at *
    generalize fixF = F at *
    refine TCalls.of Tryd.func11 rfl (CanCall.of Tryd.func11 rfl (by decide)) [0] fun Γ => ?_
    refine run_sound (⟨fun | 1, 3 => told (.tup [str [], bool false]) [0] [(0, .fix F)] | _, _ => .no, [], fun | 4 => some ⟨[], [11, 12], .take true [0,1,2,4,5,6,8,9,10] (.one 3 (.one 7 (.one 11 (.one 12 (.take false [13] .done)))))⟩ | _ => none⟩) 400 (B := ∀ (b : Nat), b = b ∧ TCalls Tryd.prog 27 [u8 (Fm.kind f)] [(0, Ob.fix F)] none_ (callPost (Hint.call false Unit (fun x => True) [0] false (fun x => T.tup [str [], bool false]) (fun x => [(0, Ob.fix F)]) fun x => none_)) ∧ ∀ (a : Unit), True → Q (T.tup [str [], int 4]) [(0, Ob.fix F)] fun x => none) (by kernel_rfl) ?_
    repeat' (first | exact rfl | exact Nat.le_of_ble_eq_true rfl | refine And.intro ?_ ?_ | intro _ | refine bsplit_mk (fun _ => ?_) (fun _ => ?_))
    all_goals first
      | exact ho
      | exact hQ _ rfl
      | trace_state
end X6
end Go.Proofs.YtaepgceodcdnhaaDoor.Vm
/- Frames: plain, a frame out of bytes as the program reads it. No program is named here. -/
namespace Go.Proofs.YtaepgceodcdnhaaDoor.Frm
open Oct (getN takeL)
structure RS where
  l : List UInt8
  e : Int
  bad : Bool
def rnum (k : Nat) (s : RS) : Nat := getN (takeL s.l s.e 0 k).1
def rgo (k : Nat) (s : RS) : RS := ⟨(takeL s.l s.e 0 k).2.1, (takeL s.l s.e 0 k).2.2, s.bad⟩
def must (ok : Bool) (s : RS) : RS := if ok = false ∧ s.e ≠ 2 then ⟨s.l, s.e, true⟩ else s
def wrong (s : RS) : Bool := s.bad || decide (s.e = 2)
/-- what End tells -/
def endE (s : RS) : Int := if s.e ≠ 0 then s.e else if s.l ≠ [] then 3 else 0
/-- a reader's state -/
structure RS.Ok (s : RS) : Prop where
  l : s.l.length ≤ 1000000000
  e : s.e = 0 ∨ s.e = 2
theorem takeL_rest (l : List UInt8) (e : Int) (f : Int) (n : Int) : (takeL l e f n).2.1.length ≤ l.length := by
  unfold takeL
  split
  · exact Nat.le_refl _
  · split
    · exact Nat.le_refl _
    · split
      · exact Nat.le_refl _
      · show (l.drop _).length ≤ _; rw [List.length_drop]; omega
theorem takeL_err {l : List UInt8} {e : Int} {f : Int} {n : Int} (hn : 0 ≤ n) (he : e = 0 ∨ e = 2) : (takeL l e f n).2.2 = 0 ∨ (takeL l e f n).2.2 = 2 := by
  unfold takeL
  split
  · exact he
  · rw [if_neg (by omega)]
    split
    · exact .inr rfl
    · exact .inl rfl
theorem RS.Ok.go {s : RS} (h : s.Ok) (k : Nat) : (rgo k s).Ok := ⟨Nat.le_trans (takeL_rest _ _ _ _) h.l, takeL_err (by omega) h.e⟩
theorem RS.Ok.must {s : RS} (h : s.Ok) (b : Bool) : (Frm.must b s).Ok := by
  unfold Frm.must
  split
  · exact ⟨h.l, h.e⟩
  · exact h
theorem takeL_k (l : List UInt8) (e : Int) (k : Nat) : (takeL l e 0 k).1.length ≤ k := by
  unfold takeL
  split
  · exact Nat.zero_le _
  · split
    · exact Nat.zero_le _
    · split
      · exact Nat.zero_le _
      · show ((l.take _).drop _).length ≤ _; rw [List.length_drop, List.length_take]; omega
theorem rnum1_lt (s : RS) : rnum 1 s < 256 := by
  have h := Oct.getN_lt (takeL s.l s.e 0 (1 : Nat)).1
  have h1 := takeL_k s.l s.e 1
  have : 256 ^ (takeL s.l s.e 0 (1 : Nat)).1.length ≤ 256 ^ 1 := Nat.pow_le_pow_right (by decide) h1
  unfold rnum
  omega
theorem rnum4_lt (s : RS) : rnum 4 s < 4294967296 := by
  have h := Oct.getN_lt (takeL s.l s.e 0 (4 : Nat)).1
  have h1 := takeL_k s.l s.e 4
  have : 256 ^ (takeL s.l s.e 0 (4 : Nat)).1.length ≤ 256 ^ 4 := Nat.pow_le_pow_right (by decide) h1
  unfold rnum
  omega
def flagB (s : RS) : Bool := decide (rnum 1 s = 1)
def flagS (s : RS) : RS := must (decide (rnum 1 s ≤ 1)) (rgo 1 s)
theorem RS.Ok.flag {s : RS} (h : s.Ok) : (flagS s).Ok := (h.go 1).must _
def markS (s : RS) : RS := rgo 1 (rgo 4 s)
theorem RS.Ok.mark {s : RS} (h : s.Ok) : (markS s).Ok := (h.go 4).go 1
def cmdR (s : RS) : Cmd := ⟨rnum 1 s, rnum 1 (rgo 1 s), rnum 1 (rgo 1 (rgo 1 s)), rnum 4 (rgo 1 (rgo 1 (rgo 1 s))), rnum 4 (rgo 4 (rgo 1 (rgo 1 (rgo 1 s))))⟩
def cmdS (s : RS) : RS := rgo 4 (rgo 4 (rgo 1 (rgo 1 (rgo 1 s))))
theorem RS.Ok.cmd {s : RS} (h : s.Ok) : (cmdS s).Ok := ((((h.go 1).go 1).go 1).go 4).go 4
def cntS (most : Nat) (s : RS) : RS := must (decide (rnum 1 s ≤ most)) (rgo 1 s)
def cntN (most : Nat) (s : RS) : Nat := if wrong (cntS most s) = true then 0 else rnum 1 s
theorem RS.Ok.cnt {s : RS} (h : s.Ok) (most : Nat) : (cntS most s).Ok := (h.go 1).must _
/-- a text -/
def txtN (l : List UInt8) : Nat × Nat := match l with | [] => (0, 1) | c :: _ => (1, c.toNat)
def txtX (s : RS) : List UInt8 := (takeL s.l s.e (txtN s.l).1 (txtN s.l).2).1
def txtS (s : RS) : RS := ⟨(takeL s.l s.e (txtN s.l).1 (txtN s.l).2).2.1, (takeL s.l s.e (txtN s.l).1 (txtN s.l).2).2.2, s.bad⟩
theorem RS.Ok.txt {s : RS} (h : s.Ok) : (txtS s).Ok := ⟨Nat.le_trans (takeL_rest _ _ _ _) h.l, takeL_err (by omega) h.e⟩
/-- a value -/
def valR (s : RS) : (Bool × List UInt8) × RS :=
  if wrong (flagS s) = true then ((false, []), flagS s)
  else ((flagB s, txtX (flagS s)), must (valOk (flagB s) (txtX (flagS s))) (txtS (flagS s)))
theorem RS.Ok.val {s : RS} (h : s.Ok) : (valR s).2.Ok := by
  unfold valR
  split
  · exact h.flag
  · exact h.flag.txt.must _
def memR (s : RS) : Mem := ⟨rnum 1 s, rnum 1 (rgo 1 s), flagB (rgo 1 (rgo 1 s))⟩
def memS (s : RS) : RS := flagS (rgo 1 (rgo 1 s))
theorem RS.Ok.mem {s : RS} (h : s.Ok) : (memS s).Ok := ((h.go 1).go 1).flag
def memsR : Nat → RS → List Mem × RS
  | 0, s => ([], s)
  | n + 1, s => if wrong s = true then ([], s) else (memR s :: (memsR n (memS s)).1, (memsR n (memS s)).2)
theorem RS.Ok.mems : ∀ (n : Nat) {s : RS}, s.Ok → (memsR n s).2.Ok
  | 0, _, h => h
  | n + 1, s, h => by
    unfold memsR
    split
    · exact h
    · exact RS.Ok.mems n h.mem
theorem mems_len : ∀ (n : Nat) (s : RS), (memsR n s).1.length ≤ n
  | 0, _ => Nat.le_refl _
  | n + 1, s => by
    unfold memsR
    split
    · exact Nat.zero_le _
    · show (memsR n (memS s)).1.length + 1 ≤ n + 1
      have := mems_len n (memS s); omega
def lvsOf (b : List UInt8) : Lvs := ⟨(b.getD 0 0).toNat, (b.getD 1 0).toNat, (b.getD 2 0).toNat, (b.getD 3 0).toNat, (b.getD 4 0).toNat, (b.getD 5 0).toNat, (b.getD 6 0).toNat, (b.getD 7 0).toNat⟩
/-- a view: its epoch, its members, its lives -/
def viewR (s : RS) : (Nat × List Mem × Lvs) × RS :=
  let s1 := cntS 8 (rgo 4 s)
  let q := memsR (cntN 8 (rgo 4 s)) s1
  if wrong q.2 = true then ((rnum 4 s, q.1, lvsOf []), q.2)
  else ((rnum 4 s, q.1, lvsOf (takeL q.2.l q.2.e 0 8).1), ⟨(takeL q.2.l q.2.e 0 8).2.1, (takeL q.2.l q.2.e 0 8).2.2, q.2.bad⟩)
theorem RS.Ok.view {s : RS} (h : s.Ok) : (viewR s).2.Ok := by
  have hq := RS.Ok.mems (cntN 8 (rgo 4 s)) ((h.go 4).cnt 8)
  unfold viewR
  dsimp only
  split
  · exact hq
  · exact ⟨Nat.le_trans (takeL_rest _ _ _ _) hq.l, takeL_err (by omega) hq.e⟩
def entR (s : RS) : Ent := ⟨rnum 4 s, rnum 4 (rgo 4 s), rnum 1 (rgo 4 (rgo 4 s)), cmdR (markS (rgo 4 s))⟩
def entS (s : RS) : RS := cmdS (markS (rgo 4 s))
theorem RS.Ok.ent {s : RS} (h : s.Ok) : (entS s).Ok := (h.go 4).mark.cmd
def entsR : Nat → RS → List Ent × RS
  | 0, s => ([], s)
  | n + 1, s => if wrong s = true then ([], s) else (entR s :: (entsR n (entS s)).1, (entsR n (entS s)).2)
theorem RS.Ok.ents : ∀ (n : Nat) {s : RS}, s.Ok → (entsR n s).2.Ok
  | 0, _, h => h
  | n + 1, s, h => by
    unfold entsR
    split
    · exact h
    · exact RS.Ok.ents n h.ent
theorem ents_len : ∀ (n : Nat) (s : RS), (entsR n s).1.length ≤ n
  | 0, _ => Nat.le_refl _
  | n + 1, s => by
    unfold entsR
    split
    · exact Nat.zero_le _
    · show (entsR n (entS s)).1.length + 1 ≤ n + 1
      have := ents_len n (entS s); omega
/-- a field of a frame -/
def fldR (c : Nat) (s : RS) (f : Fm) : Fm × RS :=
  if c = 101 then ({ f with ep := rnum 4 s }, rgo 4 s)
  else if c = 107 then ({ f with key := rnum 1 s }, must (decide (rnum 1 s < 6)) (rgo 1 s))
  else if c = 115 then ({ f with sn := rnum 4 s, sb := rnum 1 (rgo 4 s), sl := rnum 1 (markS s) }, rgo 1 (markS s))
  else if c = 118 then ({ f with has := (valR s).1.1, x := (valR s).1.2 }, (valR s).2)
  else if c = 114 then ({ f with rmw := flagB s }, flagS s)
  else if c = 102 then ({ f with flag := flagB s }, flagS s)
  else if c = 100 then ({ f with dir := rnum 1 s }, rgo 1 s)
  else if c = 108 then ({ f with life := rnum 1 s }, rgo 1 s)
  else if c = 113 then ({ f with req := rnum 4 s }, rgo 4 s)
  else if c = 98 then ({ f with bn := rnum 4 s, bb := rnum 1 (rgo 4 s) }, markS s)
  else if c = 110 then ({ f with slot := rnum 4 s }, rgo 4 s)
  else if c = 99 then ({ f with c := cmdR s }, cmdS s)
  else if c = 119 then ({ f with ve := (viewR s).1.1, ms := (viewR s).1.2.1, lv := (viewR s).1.2.2 }, (viewR s).2)
  else ({ f with es := (entsR (cntN 16 s) (cntS 16 s)).1 }, (entsR (cntN 16 s) (cntS 16 s)).2)
theorem RS.Ok.fld {s : RS} (h : s.Ok) (c : Nat) (f : Fm) : (fldR c s f).2.Ok := by
  unfold fldR
  by_cases g : c = 101
  · rw [if_pos g]; exact h.go 4
  rw [if_neg g]; clear g
  by_cases g : c = 107
  · rw [if_pos g]; exact (h.go 1).must _
  rw [if_neg g]; clear g
  by_cases g : c = 115
  · rw [if_pos g]; exact h.mark.go 1
  rw [if_neg g]; clear g
  by_cases g : c = 118
  · rw [if_pos g]; exact h.val
  rw [if_neg g]; clear g
  by_cases g : c = 114
  · rw [if_pos g]; exact h.flag
  rw [if_neg g]; clear g
  by_cases g : c = 102
  · rw [if_pos g]; exact h.flag
  rw [if_neg g]; clear g
  by_cases g : c = 100
  · rw [if_pos g]; exact h.go 1
  rw [if_neg g]; clear g
  by_cases g : c = 108
  · rw [if_pos g]; exact h.go 1
  rw [if_neg g]; clear g
  by_cases g : c = 113
  · rw [if_pos g]; exact h.go 4
  rw [if_neg g]; clear g
  by_cases g : c = 98
  · rw [if_pos g]; exact h.mark
  rw [if_neg g]; clear g
  by_cases g : c = 110
  · rw [if_pos g]; exact h.go 4
  rw [if_neg g]; clear g
  by_cases g : c = 99
  · rw [if_pos g]; exact h.cmd
  rw [if_neg g]; clear g
  by_cases g : c = 119
  · rw [if_pos g]; exact h.view
  · rw [if_neg g]; exact RS.Ok.ents _ (h.cnt 16)
def fldsR : List Nat → RS → Fm → Fm × RS
  | [], s, f => (f, s)
  | c :: cs, s, f => if wrong s = true then (f, s) else fldsR cs (fldR c s f).2 (fldR c s f).1
theorem RS.Ok.flds : ∀ (cs : List Nat) {s : RS} (f : Fm), s.Ok → (fldsR cs s f).2.Ok
  | [], _, _, h => h
  | c :: cs, s, f, h => by
    unfold fldsR
    split
    · exact h
    · exact RS.Ok.flds cs _ (h.fld c f)
def fm0 : Fm := ⟨0, 0, 0, 0, 0, 0, 0, 0, false, [], false, false, 0, 0, 0, 0, 0, 0, ⟨0, 0, 0, 0, 0⟩, 0, [], ⟨0, 0, 0, 0, 0, 0, 0, 0⟩, []⟩
/-- a frame out of its bytes without the sum -/
def hdF (l : List UInt8) : Fm := { fm0 with kind := rnum 1 ⟨l, 0, false⟩, frm := rnum 1 (rgo 1 ⟨l, 0, false⟩), to := rnum 1 (rgo 1 (rgo 1 ⟨l, 0, false⟩)) }
def hdS (l : List UInt8) : RS := must (hasKind (hdF l).kind) (rgo 1 (rgo 1 (rgo 1 ⟨l, 0, false⟩)))
def letsK (k : Nat) : List Nat := if hasKind k = true then lets k else []
def bodyR (l : List UInt8) : Fm × RS := fldsR (letsK (hdF l).kind) (hdS l) (hdF l)
def decB (l : List UInt8) : Fm × Int := if (bodyR l).2.bad = true then (fm0, 4) else if endE (bodyR l).2 ≠ 0 then (fm0, endE (bodyR l).2) else ((bodyR l).1, 0)
/-- what crc.Open tells -/
def openE (l : List UInt8) : Int := if l.length < 4 then 2 else if Crc.sealL (l.take (l.length - 4)) ≠ l then 5 else 0
def decR (l : List UInt8) : Fm × Int := if openE l ≠ 0 then (fm0, openE l) else decB (l.take (l.length - 4))
end Go.Proofs.YtaepgceodcdnhaaDoor.Frm
/- Frames by the engine: the reader of a frame. -/
namespace Go.Proofs.YtaepgceodcdnhaaDoor.Vm
open Go Go.RowKit
set_option maxRecDepth 100000
namespace X6
open Frm (Cmd Mem Ent Lvs Fm RS rnum rgo must wrong endE flagB flagS markS cmdR cmdS cntS cntN txtN txtX txtS valR)
open Oct (getN takeL)
open X1 (obsD rdH rdC)
theorem end_any (b : Nat) (l : List UInt8) (e : Int) (x : Bool) : TCalls Tryd.prog 44 [.ptr 0 b 0] (obsD b l e) none_ (callPost (told (int (endE ⟨l, e, x⟩)) [0] (obsD b l e))) := by
  have hQ : ∀ y, y = int (endE ⟨l, e, x⟩) → callPost (told (int (endE ⟨l, e, x⟩)) [0] (obsD b l e)) y (obsD b l e) none_ := fun y h => told_post h
  generalize callPost (told (int (endE ⟨l, e, x⟩)) [0] (obsD b l e)) = Q at *
  unfold Frm.endE at hQ
  by_cases he : e = 0
  · subst he
    rw [if_neg (show ¬ (0 : Int) ≠ 0 by decide)] at hQ
    by_cases hl : l = []
    · subst hl
      refine TCalls.of Tryd.func44 rfl (CanCall.of Tryd.func44 rfl (by decide)) [0] fun Γ => ?_
      refine run_sound (⟨fun _ _ => .no, [], fun _ => none⟩) 400 (B := b = b ∧ b = b ∧ Q (T.v (Value.int IntKind.i64 (0 : Int))) [(b, Ob.cells [T.v (Value.string (ByteArray.mk (#[]))), T.v (Value.int IntKind.i64 (0 : Int))])] fun x => none) (by kernel_rfl) ?_
      repeat' (first | exact rfl | exact Nat.le_of_ble_eq_true rfl | refine And.intro ?_ ?_ | intro _ | refine bsplit_mk (fun _ => ?_) (fun _ => ?_))
      all_goals first
        | exact hQ _ rfl
        | trace_state
    · rw [if_pos hl] at hQ
      have hne : decide ((⟨l.toArray⟩ : ByteArray) = ByteArray.mk #[]) = false := decide_eq_false (fun h => hl (by injection h with h; simpa using h))
      refine TCalls.of Tryd.func44 rfl (CanCall.of Tryd.func44 rfl (by decide)) [0] fun Γ => ?_
      refine run_sound (⟨fun _ _ => .no, [], fun _ => none⟩) 400 (B := b = b ∧ b = b ∧ bsplit (!decide ((ByteArray.mk (List.toArray l)) = (ByteArray.mk (#[])))) (Q (int (3 : Int)) [(b, Ob.cells [T.v (Value.string (ByteArray.mk (List.toArray l))), int (0 : Int)])] fun x => none) (Q (int (0 : Int)) [(b, Ob.cells [T.v (Value.string (ByteArray.mk (List.toArray l))), int (0 : Int)])] fun x => none)) (by kernel_rfl) ?_
      repeat' (first | exact rfl | exact Nat.le_of_ble_eq_true rfl | refine And.intro ?_ ?_ | intro _ | refine bsplit_mk (fun _ => ?_) (fun _ => ?_))
      all_goals first
        | exact hQ _ rfl
        | (exfalso; rename_i h; rw [hne] at h; cases h)
        | trace_state
  · rw [if_pos he] at hQ
    have hne : (e != 0) = true := by simpa using he
    refine TCalls.of Tryd.func44 rfl (CanCall.of Tryd.func44 rfl (by decide)) [0] fun Γ => ?_
    refine run_sound (⟨fun _ _ => .no, [((0, 5), ([0], 1))], fun _ => none⟩) 400 (B := b = b ∧ bsplit (e != (0 : Int)) (b = b ∧ Q (int e) [(b, Ob.cells [str l, int e])] fun x => none) (TWk Tryd.prog Γ (fin Tryd.prog Tryd.f44 [0] Q) [It.code (sub (bd Tryd.f44) [1, 0, 0, 1, 1, 1, 1]), It.blk 0, It.code (sub (bd Tryd.f44) [1, 1])] { fr := frame 22 [(0, T.ptr 0 b 0)], ob := [(b, Ob.cells [str l, int e])], gl := fun x => none })) (by kernel_rfl) ?_
    repeat' (first | exact rfl | exact Nat.le_of_ble_eq_true rfl | refine And.intro ?_ ?_ | intro _ | refine bsplit_mk (fun _ => ?_) (fun _ => ?_))
    all_goals first
      | exact hQ _ rfl
      | (exfalso; rename_i h; rw [hne] at h; cases h)
      | trace_state
def obsR (rb fb : Nat) (s : RS) : Obs := [(rb, .cells [str s.l, int s.e]), (fb, .cells [.ptr 0 rb 0, bool s.bad])]
/-- a reader's method, as a call tells it -/
def rsH (i j : Nat) (s : RS) (x : T) : Hint := .withB fun B => told x [i, j] (obsR (B.getD i 0) (B.getD j 0) s)
theorem rs_post {rb fb : Nat} {s : RS} {x y : T} {gl : Glb} (h : y = x) : callPost (told x [0, 1] (obsR rb fb s)) y (obsR rb fb s) gl := ⟨(), trivial, h, rfl, Nat.le_of_ble_eq_true rfl, fun h => by cases h⟩
section
variable (rb fb : Nat) (s : RS) (hs : s.Ok)
include hs
theorem nm_post (k : Nat) (hk : 1 ≤ k ∧ k ≤ 8) : TCalls Tryd.prog 68 [.ptr 0 rb 0, int k] (obsD rb s.l s.e) none_ (callPost (told (u64 (rnum k s)) [0] (obsD rb (rgo k s).l (rgo k s).e))) :=
  X1.rdnum_any rb s.l hs.l s.e k hk _ fun x hx => ⟨(), trivial, hx, rfl, Nat.le_of_ble_eq_true rfl, fun h => by cases h⟩
theorem rsm_post : TCalls Tryd.prog 40 [.ptr 1 fb 0] (obsR rb fb s) none_ (callPost (told (u8 (rnum 1 s)) [0, 1] (obsR rb fb (rgo 1 s)))) := by
  have h1 := nm_post rb s hs 1 (by decide)
  have hl := Frm.rnum1_lt s
  have hQ : callPost (told (u8 (rnum 1 s)) [0, 1] (obsR rb fb (rgo 1 s))) (u8 (rnum 1 s)) [(rb, .cells [str (rgo 1 s).l, int (rgo 1 s).e]), (fb, .cells [.ptr 0 rb 0, bool s.bad])] none_ := rs_post rfl
  generalize callPost (told (u8 (rnum 1 s)) [0, 1] (obsR rb fb (rgo 1 s))) = Q at *
  generalize (rgo 1 s).l = l' at *
  generalize (rgo 1 s).e = e' at *
  generalize rnum 1 s = n at *
  have hw : T.v (.int .u8 (IntKind.wrap .u8 (n : Int))) = u8 n := congrArg u8 (IntWalk.u8_in _ (by omega))
  refine TCalls.of Tryd.func40 rfl (CanCall.of Tryd.func40 rfl (by decide)) [0, 1] fun Γ => ?_
  refine run_sound (⟨fun | 1, 4 => rdH 0 l' e' (u64 n) | 1, 5 => .res (u8 n) | _, _ => .no, [], fun  | _ => none⟩) 400 (B := fb = fb ∧ TCalls Tryd.prog 68 [T.ptr 0 rb 0, int 1] [(rb, Ob.cells [str (RS.l s), int (RS.e s)])] none_ (callPost (Hint.call false Unit (fun x => True) [0] false (fun x => u64 (↑n : Int)) (fun x => obsD rb l' e') fun x => none_)) ∧ ∀ (a : Unit), True → u8 (IntKind.wrap IntKind.u8 (↑n : Int)) = u8 n ∧ Q (u8 n) [(rb, Ob.cells [str l', int e']), (fb, Ob.cells [T.ptr 0 rb 0, bool (RS.bad s)])] fun x => none) (by kernel_rfl) ?_
  repeat' (first | exact rfl | exact Nat.le_of_ble_eq_true rfl | refine And.intro ?_ ?_ | intro _ | refine bsplit_mk (fun _ => ?_) (fun _ => ?_))
  all_goals first
    | exact h1
    | exact hw
    | exact hQ
    | trace_state
theorem rwd_post : TCalls Tryd.prog 69 [.ptr 1 fb 0] (obsR rb fb s) none_ (callPost (told (u32 (rnum 4 s)) [0, 1] (obsR rb fb (rgo 4 s)))) := by
  have h1 := nm_post rb s hs 4 (by decide)
  have hl := Frm.rnum4_lt s
  have hQ : callPost (told (u32 (rnum 4 s)) [0, 1] (obsR rb fb (rgo 4 s))) (u32 (rnum 4 s)) [(rb, .cells [str (rgo 4 s).l, int (rgo 4 s).e]), (fb, .cells [.ptr 0 rb 0, bool s.bad])] none_ := rs_post rfl
  generalize callPost (told (u32 (rnum 4 s)) [0, 1] (obsR rb fb (rgo 4 s))) = Q at *
  generalize (rgo 4 s).l = l' at *
  generalize (rgo 4 s).e = e' at *
  generalize rnum 4 s = n at *
  have hw : T.v (.int .u32 (IntKind.wrap .u32 (n : Int))) = u32 n := congrArg u32 (IntWalk.u32_in _ (by omega))
  refine TCalls.of Tryd.func69 rfl (CanCall.of Tryd.func69 rfl (by decide)) [0, 1] fun Γ => ?_
  refine run_sound (⟨fun | 1, 4 => rdH 0 l' e' (u64 n) | 1, 5 => .res (u32 n) | _, _ => .no, [], fun  | _ => none⟩) 400 (B := fb = fb ∧ TCalls Tryd.prog 68 [T.ptr 0 rb 0, int 4] [(rb, Ob.cells [str (RS.l s), int (RS.e s)])] none_ (callPost (Hint.call false Unit (fun x => True) [0] false (fun x => u64 (↑n : Int)) (fun x => obsD rb l' e') fun x => none_)) ∧ ∀ (a : Unit), True → u32 (IntKind.wrap IntKind.u32 (↑n : Int)) = u32 n ∧ Q (u32 n) [(rb, Ob.cells [str l', int e']), (fb, Ob.cells [T.ptr 0 rb 0, bool (RS.bad s)])] fun x => none) (by kernel_rfl) ?_
  repeat' (first | exact rfl | exact Nat.le_of_ble_eq_true rfl | refine And.intro ?_ ?_ | intro _ | refine bsplit_mk (fun _ => ?_) (fun _ => ?_))
  all_goals first
    | exact h1
    | exact hw
    | exact hQ
    | trace_state
theorem endE_two : endE s = 2 ↔ s.e = 2 := by
  have := hs.e
  unfold Frm.endE
  by_cases h : s.e = 0
  · rw [if_neg (fun g => g h)]
    constructor
    · intro g; split at g <;> omega
    · intro g; omega
  · rw [if_pos h]
theorem rmu_post (ok : Bool) : TCalls Tryd.prog 41 [.ptr 1 fb 0, bool ok] (obsR rb fb s) none_ (callPost (told (.tup []) [0, 1] (obsR rb fb (must ok s)))) := by
  have hE := end_any rb s.l s.e s.bad
  have h2 := endE_two s hs
  have hQ : callPost (told (.tup []) [0, 1] (obsR rb fb (must ok s))) (.tup []) (obsR rb fb (must ok s)) none_ := rs_post rfl
  generalize callPost (told (.tup []) [0, 1] (obsR rb fb (must ok s))) = Q at *
  have hE : TCalls Tryd.prog 44 [.ptr 0 rb 0] (obsD rb s.l s.e) none_ (callPost (told (int (endE s)) [0] (obsD rb s.l s.e))) := hE
  generalize endE s = n at *
  unfold Frm.must at hQ
  cases ok with
  | true =>
    rw [if_neg (by simp)] at hQ
    refine TCalls.of Tryd.func41 rfl (CanCall.of Tryd.func41 rfl (by decide)) [0, 1] fun Γ => ?_
    refine run_sound (⟨fun _ _ => .no, [], fun _ => none⟩) 400 (B := Q (T.tup []) [(rb, Ob.cells [T.v (Value.string (ByteArray.mk (List.toArray (RS.l s)))), T.v (Value.int IntKind.i64 (RS.e s))]), (fb, Ob.cells [T.ptr (0 : Nat) rb (0 : Nat), T.v (Value.bool (RS.bad s))])] fun x => none) (by kernel_rfl) ?_
    repeat' (first | exact rfl | exact Nat.le_of_ble_eq_true rfl | refine And.intro ?_ ?_ | intro _ | refine bsplit_mk (fun _ => ?_) (fun _ => ?_))
    all_goals first
      | exact hQ
      | trace_state
  | false =>
    by_cases he : s.e = 2
    · rw [if_neg (by simp [he])] at hQ
      have hn := h2.2 he
      subst hn
      refine TCalls.of Tryd.func41 rfl (CanCall.of Tryd.func41 rfl (by decide)) [0, 1] fun Γ => ?_
      refine run_sound (⟨fun | 0, 7 => rdH 0 s.l s.e (int 2) | _, _ => .no, [], fun  | _ => none⟩) 400 (B := fb = fb ∧ TCalls Tryd.prog 44 [T.ptr 0 rb 0] [(rb, Ob.cells [str (RS.l s), int (RS.e s)])] none_ (callPost (Hint.call false Unit (fun x => True) [0] false (fun x => int 2) (fun x => obsD rb (RS.l s) (RS.e s)) fun x => none_)) ∧ ∀ (a : Unit), True → Q (T.tup []) [(rb, Ob.cells [str (RS.l s), int (RS.e s)]), (fb, Ob.cells [T.ptr 0 rb 0, bool (RS.bad s)])] fun x => none) (by kernel_rfl) ?_
      repeat' (first | exact rfl | exact Nat.le_of_ble_eq_true rfl | refine And.intro ?_ ?_ | intro _ | refine bsplit_mk (fun _ => ?_) (fun _ => ?_))
      all_goals first
        | exact hE
        | exact hQ
        | trace_state
    · rw [if_pos ⟨rfl, he⟩] at hQ
      have hn : (n != 2) = true := by simpa using fun h => he (h2.1 h)
      refine TCalls.of Tryd.func41 rfl (CanCall.of Tryd.func41 rfl (by decide)) [0, 1] fun Γ => ?_
      refine run_sound (⟨fun | 0, 7 => rdH 0 s.l s.e (int n) | _, _ => .no, [], fun  | _ => none⟩) 400 (B := fb = fb ∧ TCalls Tryd.prog 44 [T.ptr 0 rb 0] [(rb, Ob.cells [str (RS.l s), int (RS.e s)])] none_ (callPost (Hint.call false Unit (fun x => True) [0] false (fun x => int n) (fun x => obsD rb (RS.l s) (RS.e s)) fun x => none_)) ∧ ∀ (a : Unit), True → bsplit (n != (2 : Int)) ((1 = nat_lit 1 ∧ List.all (List.map T.v (Array.toList #[Value.bool true])) T.one = true) ∧ fb = fb ∧ 1 + nat_lit 1 ≤ 2 ∧ Q (T.tup []) [(rb, Ob.cells [str (RS.l s), int (RS.e s)]), (fb, Ob.cells [T.ptr 0 rb 0, bool true])] fun x => none) (Q (T.tup []) [(rb, Ob.cells [str (RS.l s), int (RS.e s)]), (fb, Ob.cells [T.ptr 0 rb 0, bool (RS.bad s)])] fun x => none)) (by kernel_rfl) ?_
      repeat' (first | exact rfl | exact Nat.le_of_ble_eq_true rfl | refine And.intro ?_ ?_ | intro _ | refine bsplit_mk (fun _ => ?_) (fun _ => ?_))
      all_goals first
        | exact hE
        | exact hQ
        | (exfalso; rename_i h; rw [hn] at h; cases h)
        | trace_state
theorem rwr_post : TCalls Tryd.prog 42 [.ptr 1 fb 0] (obsR rb fb s) none_ (callPost (told (bool (wrong s)) [0, 1] (obsR rb fb s))) := by
  have hE := end_any rb s.l s.e s.bad
  have h2 := endE_two s hs
  have hQ : ∀ y, y = bool (wrong s) → callPost (told (bool (wrong s)) [0, 1] (obsR rb fb s)) y (obsR rb fb s) none_ := fun y h => rs_post h
  generalize callPost (told (bool (wrong s)) [0, 1] (obsR rb fb s)) = Q at *
  have hE : TCalls Tryd.prog 44 [.ptr 0 rb 0] (obsD rb s.l s.e) none_ (callPost (told (int (endE s)) [0] (obsD rb s.l s.e))) := hE
  generalize endE s = n at *
  unfold Frm.wrong at hQ
  have hb : bool (n == 2) = bool (decide (s.e = 2)) := congrArg bool (by rw [Bool.eq_iff_iff, beq_iff_eq, decide_eq_true_eq]; exact h2)
  cases hbad : s.bad with
  | true =>
    rw [hbad] at hQ
    unfold obsR at *
    rw [hbad] at hQ
    rw [hbad]
    refine TCalls.of Tryd.func42 rfl (CanCall.of Tryd.func42 rfl (by decide)) [0, 1] fun Γ => ?_
    refine run_sound (⟨fun _ _ => .no, [], fun _ => none⟩) 400 (B := fb = fb ∧ Q (T.v (Value.bool true)) [(rb, Ob.cells [T.v (Value.string (ByteArray.mk (List.toArray (RS.l s)))), T.v (Value.int IntKind.i64 (RS.e s))]), (fb, Ob.cells [T.ptr (0 : Nat) rb (0 : Nat), T.v (Value.bool true)])] fun x => none) (by kernel_rfl) ?_
    repeat' (first | exact rfl | exact Nat.le_of_ble_eq_true rfl | refine And.intro ?_ ?_ | intro _ | refine bsplit_mk (fun _ => ?_) (fun _ => ?_))
    all_goals first
      | exact hQ _ rfl
      | trace_state
  | false =>
    rw [hbad, Bool.false_or] at hQ
    unfold obsR at *
    rw [hbad] at hQ
    rw [hbad]
    refine TCalls.of Tryd.func42 rfl (CanCall.of Tryd.func42 rfl (by decide)) [0, 1] fun Γ => ?_
    refine run_sound (⟨fun | 1, 9 => rdH 0 s.l s.e (int n) | _, _ => .no, [], fun  | _ => none⟩) 400 (B := fb = fb ∧ fb = fb ∧ TCalls Tryd.prog 44 [T.ptr 0 rb 0] [(rb, Ob.cells [str (RS.l s), int (RS.e s)])] none_ (callPost (Hint.call false Unit (fun x => True) [0] false (fun x => int n) (fun x => obsD rb (RS.l s) (RS.e s)) fun x => none_)) ∧ ∀ (a : Unit), True → Q (bool (n == (2 : Int))) [(rb, Ob.cells [str (RS.l s), int (RS.e s)]), (fb, Ob.cells [T.ptr 0 rb 0, bool false])] fun x => none) (by kernel_rfl) ?_
    repeat' (first | exact rfl | exact Nat.le_of_ble_eq_true rfl | refine And.intro ?_ ?_ | intro _ | refine bsplit_mk (fun _ => ?_) (fun _ => ?_))
    all_goals first
      | exact hE
      | exact hQ _ hb
      | trace_state
theorem rfl_post : TCalls Tryd.prog 72 [.ptr 1 fb 0] (obsR rb fb s) none_ (callPost (told (bool (flagB s)) [0, 1] (obsR rb fb (flagS s)))) := by
  have h1 := rsm_post rb fb s hs
  have h2 := rmu_post rb fb (rgo 1 s) (hs.go 1) (decide (rnum 1 s ≤ 1))
  have hQ : callPost (told (bool (flagB s)) [0, 1] (obsR rb fb (flagS s))) (bool (flagB s)) (obsR rb fb (flagS s)) none_ := rs_post rfl
  generalize callPost (told (bool (flagB s)) [0, 1] (obsR rb fb (flagS s))) = Q at *
  have h2 : TCalls Tryd.prog 41 [.ptr 1 fb 0, bool (decide (rnum 1 s ≤ 1))] (obsR rb fb (rgo 1 s)) none_ (callPost (told (.tup []) [0, 1] (obsR rb fb (flagS s)))) := h2
  have e1 : bool (decide ((rnum 1 s : Int) ≤ 1)) = bool (decide (rnum 1 s ≤ 1)) := congrArg bool (by rw [Bool.eq_iff_iff, decide_eq_true_eq, decide_eq_true_eq]; omega)
  have e2 : bool ((rnum 1 s : Int) == 1) = bool (flagB s) := congrArg bool (by unfold Frm.flagB; rw [Bool.eq_iff_iff, beq_iff_eq, decide_eq_true_eq]; omega)
  generalize flagB s = b at *
  generalize flagS s = s2 at *
  generalize decide (rnum 1 s ≤ 1) = c at *
  generalize rnum 1 s = n at *
  generalize rgo 1 s = s1 at *
  refine TCalls.of Tryd.func72 rfl (CanCall.of Tryd.func72 rfl (by decide)) [0, 1] fun Γ => ?_
  refine run_sound (⟨fun | 1, 1 => rsH 0 1 s1 (u8 n) | 2, 2 => .res (bool c) | 2, 3 => rsH 0 1 s2 (.tup []) | 3, 1 => .res (bool b) | _, _ => .no, [], fun  | _ => none⟩) 400 (B := TCalls Tryd.prog 40 [T.ptr 1 fb 0] [(rb, Ob.cells [str (RS.l s), int (RS.e s)]), (fb, Ob.cells [T.ptr 0 rb 0, bool (RS.bad s)])] none_ (callPost (Hint.call false Unit (fun x => True) [0, 1] false (fun x => u8 (↑n : Int)) (fun x => obsR rb fb s1) fun x => none_)) ∧ ∀ (a : Unit), True → bool (decide ((↑n : Int) ≤ (1 : Int))) = bool c ∧ TCalls Tryd.prog 41 [T.ptr 1 fb 0, bool c] [(rb, Ob.cells [str (RS.l s1), int (RS.e s1)]), (fb, Ob.cells [T.ptr 0 rb 0, bool (RS.bad s1)])] none_ (callPost (Hint.call false Unit (fun x => True) [0, 1] false (fun x => T.tup []) (fun x => obsR rb fb s2) fun x => none_)) ∧ ∀ (a : Unit), True → bool ((↑n : Int) == (1 : Int)) = bool b ∧ Q (bool b) [(rb, Ob.cells [str (RS.l s2), int (RS.e s2)]), (fb, Ob.cells [T.ptr 0 rb 0, bool (RS.bad s2)])] fun x => none) (by kernel_rfl) ?_
  repeat' (first | exact rfl | exact Nat.le_of_ble_eq_true rfl | refine And.intro ?_ ?_ | intro _ | refine bsplit_mk (fun _ => ?_) (fun _ => ?_))
  all_goals first
    | exact h1
    | exact h2
    | exact e1
    | exact e2
    | exact hQ
    | trace_state
theorem rmk_post : TCalls Tryd.prog 70 [.ptr 1 fb 0] (obsR rb fb s) none_ (callPost (told (.agg (markC (rnum 4 s) (rnum 1 (rgo 4 s)))) [0, 1] (obsR rb fb (markS s)))) := by
  have h1 := rwd_post rb fb s hs
  have h2 := rsm_post rb fb (rgo 4 s) (hs.go 4)
  have hQ : callPost (told (.agg (markC (rnum 4 s) (rnum 1 (rgo 4 s)))) [0, 1] (obsR rb fb (markS s))) (.agg (markC (rnum 4 s) (rnum 1 (rgo 4 s)))) (obsR rb fb (markS s)) none_ := rs_post rfl
  generalize callPost (told (.agg (markC (rnum 4 s) (rnum 1 (rgo 4 s)))) [0, 1] (obsR rb fb (markS s))) = Q at *
  have h2 : TCalls Tryd.prog 40 [.ptr 1 fb 0] (obsR rb fb (rgo 4 s)) none_ (callPost (told (u8 (rnum 1 (rgo 4 s))) [0, 1] (obsR rb fb (markS s)))) := h2
  generalize markS s = s2 at *
  generalize rnum 1 (rgo 4 s) = m at *
  generalize rnum 4 s = n at *
  generalize rgo 4 s = s1 at *
  refine TCalls.of Tryd.func70 rfl (CanCall.of Tryd.func70 rfl (by decide)) [0, 1] fun Γ => ?_
  refine run_sound (⟨fun | 1, 1 => rsH 0 1 s1 (u32 n) | 1, 3 => rsH 0 1 s2 (u8 m) | _, _ => .no, [], fun  | _ => none⟩) 400 (B := ∀ (b : Nat), TCalls Tryd.prog 69 [T.ptr 1 fb 0] [(rb, Ob.cells [str (RS.l s), int (RS.e s)]), (fb, Ob.cells [T.ptr 0 rb 0, bool (RS.bad s)])] none_ (callPost (Hint.call false Unit (fun x => True) [0, 1] false (fun x => u32 (↑n : Int)) (fun x => obsR rb fb s1) fun x => none_)) ∧ ∀ (a : Unit), True → TCalls Tryd.prog 40 [T.ptr 1 fb 0] [(rb, Ob.cells [str (RS.l s1), int (RS.e s1)]), (fb, Ob.cells [T.ptr 0 rb 0, bool (RS.bad s1)])] none_ (callPost (Hint.call false Unit (fun x => True) [0, 1] false (fun x => u8 (↑m : Int)) (fun x => obsR rb fb s2) fun x => none_)) ∧ ∀ (a : Unit), True → (2 = nat_lit 2 ∧ List.all [u32 n, u8 m] T.one = true) ∧ b = b ∧ 0 + nat_lit 2 ≤ 2 ∧ b = b ∧ Q (T.agg [u32 n, u8 m]) [(rb, Ob.cells [str (RS.l s2), int (RS.e s2)]), (fb, Ob.cells [T.ptr 0 rb 0, bool (RS.bad s2)])] fun x => none) (by kernel_rfl) ?_
  repeat' (first | exact rfl | exact Nat.le_of_ble_eq_true rfl | refine And.intro ?_ ?_ | intro _ | refine bsplit_mk (fun _ => ?_) (fun _ => ?_))
  all_goals first
    | exact h1
    | exact h2
    | exact hQ
    | trace_state
theorem rcm_post : TCalls Tryd.prog 73 [.ptr 1 fb 0] (obsR rb fb s) none_ (callPost (told (.agg (cmdC (cmdR s))) [0, 1] (obsR rb fb (cmdS s)))) := by
  have h1 := rsm_post rb fb s hs
  have h2 := rsm_post rb fb (rgo 1 s) (hs.go 1)
  have h3 := rsm_post rb fb (rgo 1 (rgo 1 s)) ((hs.go 1).go 1)
  have h4 := rwd_post rb fb (rgo 1 (rgo 1 (rgo 1 s))) (((hs.go 1).go 1).go 1)
  have h5 := rwd_post rb fb (rgo 4 (rgo 1 (rgo 1 (rgo 1 s)))) ((((hs.go 1).go 1).go 1).go 4)
  have hQ : callPost (told (.agg (cmdC (cmdR s))) [0, 1] (obsR rb fb (cmdS s))) (.agg (cmdC (cmdR s))) (obsR rb fb (cmdS s)) none_ := rs_post rfl
  generalize callPost (told (.agg (cmdC (cmdR s))) [0, 1] (obsR rb fb (cmdS s))) = Q at *
  unfold Frm.cmdR Frm.cmdS at *
  generalize rgo 4 (rgo 4 (rgo 1 (rgo 1 (rgo 1 s)))) = s5 at *
  generalize rnum 4 (rgo 4 (rgo 1 (rgo 1 (rgo 1 s)))) = n5 at *
  generalize rgo 4 (rgo 1 (rgo 1 (rgo 1 s))) = s4 at *
  generalize rnum 4 (rgo 1 (rgo 1 (rgo 1 s))) = n4 at *
  generalize rgo 1 (rgo 1 (rgo 1 s)) = s3 at *
  generalize rnum 1 (rgo 1 (rgo 1 s)) = n3 at *
  generalize rgo 1 (rgo 1 s) = s2 at *
  generalize rnum 1 (rgo 1 s) = n2 at *
  generalize rgo 1 s = s1 at *
  generalize rnum 1 s = n1 at *
  refine TCalls.of Tryd.func73 rfl (CanCall.of Tryd.func73 rfl (by decide)) [0, 1] fun Γ => ?_
  refine run_sound (⟨fun | 1, 1 => rsH 0 1 s1 (u8 n1) | 1, 3 => rsH 0 1 s2 (u8 n2) | 1, 5 => rsH 0 1 s3 (u8 n3) | 1, 7 => rsH 0 1 s4 (u32 n4) | 1, 9 => rsH 0 1 s5 (u32 n5) | _, _ => .no, [], fun  | _ => none⟩) 400 (B := ∀ (b : Nat), TCalls Tryd.prog 40 [T.ptr 1 fb 0] [(rb, Ob.cells [str (RS.l s), int (RS.e s)]), (fb, Ob.cells [T.ptr 0 rb 0, bool (RS.bad s)])] none_ (callPost (Hint.call false Unit (fun x => True) [0, 1] false (fun x => u8 (↑n1 : Int)) (fun x => obsR rb fb s1) fun x => none_)) ∧ ∀ (a : Unit), True → TCalls Tryd.prog 40 [T.ptr 1 fb 0] [(rb, Ob.cells [str (RS.l s1), int (RS.e s1)]), (fb, Ob.cells [T.ptr 0 rb 0, bool (RS.bad s1)])] none_ (callPost (Hint.call false Unit (fun x => True) [0, 1] false (fun x => u8 (↑n2 : Int)) (fun x => obsR rb fb s2) fun x => none_)) ∧ ∀ (a : Unit), True → TCalls Tryd.prog 40 [T.ptr 1 fb 0] [(rb, Ob.cells [str (RS.l s2), int (RS.e s2)]), (fb, Ob.cells [T.ptr 0 rb 0, bool (RS.bad s2)])] none_ (callPost (Hint.call false Unit (fun x => True) [0, 1] false (fun x => u8 (↑n3 : Int)) (fun x => obsR rb fb s3) fun x => none_)) ∧ ∀ (a : Unit), True → TCalls Tryd.prog 69 [T.ptr 1 fb 0] [(rb, Ob.cells [str (RS.l s3), int (RS.e s3)]), (fb, Ob.cells [T.ptr 0 rb 0, bool (RS.bad s3)])] none_ (callPost (Hint.call false Unit (fun x => True) [0, 1] false (fun x => u32 (↑n4 : Int)) (fun x => obsR rb fb s4) fun x => none_)) ∧ ∀ (a : Unit), True → TCalls Tryd.prog 69 [T.ptr 1 fb 0] [(rb, Ob.cells [str (RS.l s4), int (RS.e s4)]), (fb, Ob.cells [T.ptr 0 rb 0, bool (RS.bad s4)])] none_ (callPost (Hint.call false Unit (fun x => True) [0, 1] false (fun x => u32 (↑n5 : Int)) (fun x => obsR rb fb s5) fun x => none_)) ∧ ∀ (a : Unit), True → (5 = nat_lit 5 ∧ List.all [u8 n1, u8 n2, u8 n3, u32 n4, u32 n5] T.one = true) ∧ b = b ∧ 0 + nat_lit 5 ≤ 5 ∧ b = b ∧ Q (T.agg [u8 n1, u8 n2, u8 n3, u32 n4, u32 n5]) [(rb, Ob.cells [str (RS.l s5), int (RS.e s5)]), (fb, Ob.cells [T.ptr 0 rb 0, bool (RS.bad s5)])] fun x => none) (by kernel_rfl) ?_
  repeat' (first | exact rfl | exact Nat.le_of_ble_eq_true rfl | refine And.intro ?_ ?_ | intro _ | refine bsplit_mk (fun _ => ?_) (fun _ => ?_))
  all_goals first
    | exact h1
    | exact h2
    | exact h3
    | exact h4
    | exact h5
    | exact hQ
    | trace_state
theorem rct_post (most : Nat) : TCalls Tryd.prog 88 [.ptr 1 fb 0, int most] (obsR rb fb s) none_ (callPost (told (int (cntN most s)) [0, 1] (obsR rb fb (cntS most s)))) := by
  have h1 := rsm_post rb fb s hs
  have h2 := rmu_post rb fb (rgo 1 s) (hs.go 1) (decide (rnum 1 s ≤ most))
  have h3 := rwr_post rb fb (cntS most s) (hs.cnt most)
  have hQ : ∀ y, y = int (cntN most s) → callPost (told (int (cntN most s)) [0, 1] (obsR rb fb (cntS most s))) y (obsR rb fb (cntS most s)) none_ := fun y h => rs_post h
  generalize callPost (told (int (cntN most s)) [0, 1] (obsR rb fb (cntS most s))) = Q at *
  have h2 : TCalls Tryd.prog 41 [.ptr 1 fb 0, bool (decide (rnum 1 s ≤ most))] (obsR rb fb (rgo 1 s)) none_ (callPost (told (.tup []) [0, 1] (obsR rb fb (cntS most s)))) := h2
  have q1 : wrong (cntS most s) = true → Q (int 0) (obsR rb fb (cntS most s)) none_ := fun h => hQ _ (by unfold Frm.cntN; rw [if_pos h]; rfl)
  have q2 : wrong (cntS most s) = false → Q (int (rnum 1 s)) (obsR rb fb (cntS most s)) none_ := fun h => hQ _ (by unfold Frm.cntN; rw [if_neg (by rw [h]; decide)])
  clear hQ
  have hlt := Frm.rnum1_lt s
  have e0 : T.v (.int .i64 (IntKind.wrap .i64 (rnum 1 s : Int))) = int (rnum 1 s) := congrArg int (wrap_i64 (by omega) (by omega))
  have e1 : bool (decide ((rnum 1 s : Int) ≤ most)) = bool (decide (rnum 1 s ≤ most)) := congrArg bool (by rw [Bool.eq_iff_iff, decide_eq_true_eq, decide_eq_true_eq]; omega)
  generalize wrong (cntS most s) = b at *
  generalize cntS most s = s2 at *
  generalize decide (rnum 1 s ≤ most) = c at *
  generalize rnum 1 s = n at *
  generalize rgo 1 s = s1 at *
  refine TCalls.of Tryd.func88 rfl (CanCall.of Tryd.func88 rfl (by decide)) [0, 1] fun Γ => ?_
  refine run_sound (⟨fun | 1, 1 => rsH 0 1 s1 (u8 n) | 1, 2 => .res (int n) | 2, 3 => .res (bool c) | 2, 4 => rsH 0 1 s2 (.tup []) | 3, 1 => rsH 0 1 s2 (bool b) | _, _ => .no, [], fun  | _ => none⟩) 400 (B := TCalls Tryd.prog 40 [T.ptr 1 fb 0] [(rb, Ob.cells [str (RS.l s), int (RS.e s)]), (fb, Ob.cells [T.ptr 0 rb 0, bool (RS.bad s)])] none_ (callPost (Hint.call false Unit (fun x => True) [0, 1] false (fun x => u8 (↑n : Int)) (fun x => obsR rb fb s1) fun x => none_)) ∧ ∀ (a : Unit), True → int (IntKind.wrap IntKind.i64 (↑n : Int)) = int n ∧ bool (decide ((↑n : Int) ≤ (↑most : Int))) = bool c ∧ TCalls Tryd.prog 41 [T.ptr 1 fb 0, bool c] [(rb, Ob.cells [str (RS.l s1), int (RS.e s1)]), (fb, Ob.cells [T.ptr 0 rb 0, bool (RS.bad s1)])] none_ (callPost (Hint.call false Unit (fun x => True) [0, 1] false (fun x => T.tup []) (fun x => obsR rb fb s2) fun x => none_)) ∧ ∀ (a : Unit), True → TCalls Tryd.prog 42 [T.ptr 1 fb 0] [(rb, Ob.cells [str (RS.l s2), int (RS.e s2)]), (fb, Ob.cells [T.ptr 0 rb 0, bool (RS.bad s2)])] none_ (callPost (Hint.call false Unit (fun x => True) [0, 1] false (fun x => bool b) (fun x => obsR rb fb s2) fun x => none_)) ∧ ∀ (a : Unit), True → bsplit b (Q (int 0) [(rb, Ob.cells [str (RS.l s2), int (RS.e s2)]), (fb, Ob.cells [T.ptr 0 rb 0, bool (RS.bad s2)])] fun x => none) (Q (int n) [(rb, Ob.cells [str (RS.l s2), int (RS.e s2)]), (fb, Ob.cells [T.ptr 0 rb 0, bool (RS.bad s2)])] fun x => none)) (by kernel_rfl) ?_
  repeat' (first | exact rfl | exact Nat.le_of_ble_eq_true rfl | refine And.intro ?_ ?_ | intro _ | refine bsplit_mk (fun _ => ?_) (fun _ => ?_))
  all_goals first
    | exact h1
    | exact h2
    | exact h3
    | exact e0
    | exact e1
    | exact q1 ‹_›
    | exact q2 ‹_›
    | trace_state
theorem rtx_post : TCalls Tryd.prog 87 [.ptr 0 rb 0] (obsD rb s.l s.e) none_ (callPost (told (str (txtX s)) [0] (obsD rb (txtS s).l (txtS s).e))) := by
  refine X1.text_any rb s.l hs.l s.e _ (fun h x hx => ?_) (fun c r h x hx => ?_)
  · have e : txtN s.l = (0, 1) := by rw [h]; rfl
    unfold Frm.txtX Frm.txtS
    rw [e]
    exact ⟨(), trivial, hx, rfl, Nat.le_of_ble_eq_true rfl, fun h => by cases h⟩
  · have e : txtN s.l = (1, c.toNat) := by rw [h]; rfl
    unfold Frm.txtX Frm.txtS
    rw [e]
    exact ⟨(), trivial, hx, rfl, Nat.le_of_ble_eq_true rfl, fun h => by cases h⟩
def valT (v : Bool × List UInt8) : T := .agg [bool v.1, str v.2]
theorem rvl_post : TCalls Tryd.prog 71 [.ptr 1 fb 0] (obsR rb fb s) none_ (callPost (told (valT (valR s).1) [0, 1] (obsR rb fb (valR s).2))) := by
  have h1 := rfl_post rb fb s hs
  have h2 := rwr_post rb fb (flagS s) hs.flag
  have h3 := rtx_post rb (flagS s) hs.flag
  have h4 := value_post (flagB s) (txtX (flagS s))
  have h5 := rmu_post rb fb (txtS (flagS s)) hs.flag.txt (Frm.valOk (flagB s) (txtX (flagS s)))
  have hb : (txtS (flagS s)).bad = (flagS s).bad := rfl
  have hQ : ∀ y s', y = valT (valR s).1 → s' = (valR s).2 → callPost (told (valT (valR s).1) [0, 1] (obsR rb fb (valR s).2)) y (obsR rb fb s') none_ := fun y s' h h' => by subst h'; exact rs_post h
  generalize callPost (told (valT (valR s).1) [0, 1] (obsR rb fb (valR s).2)) = Q at *
  have q1 : wrong (flagS s) = true → Q (.agg [bool false, str []]) (obsR rb fb (flagS s)) none_ := fun h => hQ _ _ (by unfold Frm.valR; rw [if_pos h]; rfl) (by unfold Frm.valR; rw [if_pos h])
  have q2 : wrong (flagS s) = false → Q (.agg [bool (flagB s), str (txtX (flagS s))]) (obsR rb fb (must (Frm.valOk (flagB s) (txtX (flagS s))) (txtS (flagS s)))) none_ := fun h => hQ _ _ (by unfold Frm.valR; rw [if_neg (by rw [h]; decide)]; rfl) (by unfold Frm.valR; rw [if_neg (by rw [h]; decide)])
  clear hQ
  generalize must (Frm.valOk (flagB s) (txtX (flagS s))) (txtS (flagS s)) = s4 at *
  generalize Frm.valOk (flagB s) (txtX (flagS s)) = c at *
  generalize txtX (flagS s) = x at *
  generalize txtS (flagS s) = s3 at *
  generalize flagB s = b at *
  generalize wrong (flagS s) = w at *
  generalize flagS s = s2 at *
  have h5 : TCalls Tryd.prog 41 [.ptr 1 fb 0, bool c] [(rb, .cells [str s3.l, int s3.e]), (fb, .cells [.ptr 0 rb 0, bool s2.bad])] none_ (callPost (told (.tup []) [0, 1] (obsR rb fb s4))) := by rw [← hb]; exact h5
  refine TCalls.of Tryd.func71 rfl (CanCall.of Tryd.func71 rfl (by decide)) [0, 1] fun Γ => ?_
  refine run_sound (⟨fun | 1, 1 => rsH 0 1 s2 (bool b) | 2, 1 => rsH 0 1 s2 (bool w) | 4, 5 => rdH 0 s3.l s3.e (str x) | 5, 2 => told (bool c) [] [] | 5, 3 => rsH 0 1 s4 (.tup []) | _, _ => .no, [], fun  | _ => none⟩) 400 (B := ∀ (b_1 : Nat), TCalls Tryd.prog 72 [T.ptr 1 fb 0] [(rb, Ob.cells [str (RS.l s), int (RS.e s)]), (fb, Ob.cells [T.ptr 0 rb 0, bool (RS.bad s)])] none_ (callPost (Hint.call false Unit (fun x => True) [0, 1] false (fun x => bool b) (fun x => obsR rb fb s2) fun x => none_)) ∧ ∀ (a : Unit), True → TCalls Tryd.prog 42 [T.ptr 1 fb 0] [(rb, Ob.cells [str (RS.l s2), int (RS.e s2)]), (fb, Ob.cells [T.ptr 0 rb 0, bool (RS.bad s2)])] none_ (callPost (Hint.call false Unit (fun x => True) [0, 1] false (fun x => bool w) (fun x => obsR rb fb s2) fun x => none_)) ∧ ∀ (a : Unit), True → bsplit w ((2 = nat_lit 2 ∧ List.all [bool false, str []] T.one = true) ∧ b_1 = b_1 ∧ 0 + nat_lit 2 ≤ 2 ∧ b_1 = b_1 ∧ Q (T.agg [bool false, str []]) [(rb, Ob.cells [str (RS.l s2), int (RS.e s2)]), (fb, Ob.cells [T.ptr 0 rb 0, bool (RS.bad s2)])] fun x => none) (fb = fb ∧ TCalls Tryd.prog 87 [T.ptr 0 rb 0] [(rb, Ob.cells [str (RS.l s2), int (RS.e s2)])] none_ (callPost (Hint.call false Unit (fun x => True) [0] false (fun x_3 => str x) (fun x => obsD rb (RS.l s3) (RS.e s3)) fun x => none_)) ∧ ∀ (a : Unit), True → ∀ (b_2 : Nat), (2 = nat_lit 2 ∧ List.all [bool b, str x] T.one = true) ∧ b_2 = b_2 ∧ 0 + nat_lit 2 ≤ 2 ∧ b_2 = b_2 ∧ TCalls Tryd.prog 57 [T.agg [bool b, str x]] [] none_ (callPost (Hint.call false Unit (fun x => True) [] false (fun x => bool c) (fun x => []) fun x => none_)) ∧ ∀ (a : Unit), True → TCalls Tryd.prog 41 [T.ptr 1 fb 0, bool c] [(rb, Ob.cells [str (RS.l s3), int (RS.e s3)]), (fb, Ob.cells [T.ptr 0 rb 0, bool (RS.bad s2)])] none_ (callPost (Hint.call false Unit (fun x => True) [0, 1] false (fun x => T.tup []) (fun x => obsR rb fb s4) fun x => none_)) ∧ ∀ (a : Unit), True → b_2 = b_2 ∧ (2 = nat_lit 2 ∧ List.all [bool b, str x] T.one = true) ∧ b_1 = b_1 ∧ 0 + nat_lit 2 ≤ 2 ∧ b_1 = b_1 ∧ Q (T.agg [bool b, str x]) [(rb, Ob.cells [str (RS.l s4), int (RS.e s4)]), (fb, Ob.cells [T.ptr 0 rb 0, bool (RS.bad s4)])] fun x => none)) (by kernel_rfl) ?_
  repeat' (first | exact rfl | exact Nat.le_of_ble_eq_true rfl | refine And.intro ?_ ?_ | intro _ | refine bsplit_mk (fun _ => ?_) (fun _ => ?_))
  all_goals first
    | exact h1
    | exact h2
    | exact h3
    | exact h4
    | exact h5
    | exact q1 ‹_›
    | exact q2 ‹_›
    | trace_state
end
end X6
end Go.Proofs.YtaepgceodcdnhaaDoor.Vm
/- Frames by the engine: a view and entries out of bytes. -/
namespace Go.Proofs.YtaepgceodcdnhaaDoor.Vm
open Go Go.RowKit
set_option maxRecDepth 100000
namespace X6
open Frm (Cmd Mem Ent Lvs Fm RS rnum rgo must wrong flagB flagS markS cmdR cmdS cntS cntN memR memS memsR viewR entR entS entsR lvsOf)
open Oct (getN takeL)
open X1 (obsD rdH rdC)
def rawX (s : RS) : List UInt8 := (takeL s.l s.e 0 8).1
def rawS (s : RS) : RS := ⟨(takeL s.l s.e 0 8).2.1, (takeL s.l s.e 0 8).2.2, s.bad⟩
theorem rw_post (rb : Nat) (s : RS) (hs : s.Ok) : TCalls Tryd.prog 89 [.ptr 0 rb 0, int 8] (obsD rb s.l s.e) none_ (callPost (told (str (rawX s)) [0] (obsD rb (rawS s).l (rawS s).e))) :=
  X1.raw_any rb s.l hs.l s.e 8 (by decide) _ fun x hx => ⟨(), trivial, hx, rfl, Nat.le_of_ble_eq_true rfl, fun h => by cases h⟩
theorem rawX_len (s : RS) : rawX s = [] ∨ ∃ c0 c1 c2 c3 c4 c5 c6 c7, rawX s = [c0, c1, c2, c3, c4, c5, c6, c7] := by
  unfold rawX Oct.takeL
  split
  · exact .inl rfl
  · split
    · exact .inl rfl
    · split
      · exact .inl rfl
      · rename_i h1 h2 h3
        right
        have hl : ((s.l.take ((0 : Int) + 8).toNat).drop (0 : Int).toNat).length = 8 := by
          rw [List.length_drop, List.length_take]
          show min 8 s.l.length - 0 = 8
          omega
        show ∃ c0 c1 c2 c3 c4 c5 c6 c7, (s.l.take ((0 : Int) + 8).toNat).drop (0 : Int).toNat = [c0, c1, c2, c3, c4, c5, c6, c7]
        generalize (s.l.take ((0 : Int) + 8).toNat).drop (0 : Int).toNat = t at *
        match t, hl with
        | [c0, c1, c2, c3, c4, c5, c6, c7], _ => exact ⟨c0, c1, c2, c3, c4, c5, c6, c7, rfl⟩
def lvC (lv : Lvs) : List T := [u8 lv.l0, u8 lv.l1, u8 lv.l2, u8 lv.l3, u8 lv.l4, u8 lv.l5, u8 lv.l6, u8 lv.l7]
def vw0 : List T := [u32 0, .v nilS, u8 0, u8 0, u8 0, u8 0, u8 0, u8 0, u8 0, u8 0]
def obsV (rb fb b2 b3 : Nat) (s : RS) (ve : Nat) (M : List T) (hd : Value) : Obs :=
  [(rb, .cells [str s.l, int s.e]), (fb, .cells [.ptr 0 rb 0, bool s.bad]), (b2, .cells vw0), (b3, .cells [u32 ve, .slx 3 4 M hd, u8 0, u8 0, u8 0, u8 0, u8 0, u8 0, u8 0, u8 0]), (0, .room 3 97 M.length hd)]
section
variable (Γ : Ctx) (rb fb b2 b3 : Nat)
theorem rvw_end (s : RS) (hs : s.Ok) (ve : Nat) (ms : List Mem) (hd : Value) (Q : T → Obs → Glb → Prop)
    (h1 : wrong s = true → Q (.agg (vwC ve ms (lvsOf []))) (obsR rb fb s) none_)
    (h2 : wrong s = false → Q (.agg (vwC ve ms (lvsOf (rawX s)))) (obsR rb fb (rawS s)) none_) :
    TWk Tryd.prog Γ (fin Tryd.prog Tryd.f74 [0, 1] Q) [.code (sub (bd Tryd.f74) [1, 1, 1])] ⟨frame 43 [(0, .ptr 1 fb 0), (2, .ptr 2 b2 0), (3, .ptr 3 b3 0)], obsV rb fb b2 b3 s ve (Row.aggs memC ms) hd, none_⟩ := by
  have hw := rwr_post rb fb s hs
  have hr := rw_post rb s hs
  have hb : (rawS s).bad = s.bad := rfl
  rcases rawX_len s with hx | ⟨c0, c1, c2, c3, c4, c5, c6, c7, hx⟩
  · rw [hx] at h2 hr
    unfold vwC at h1 h2
    have h2 : wrong s = false → Q (.agg [u32 ve, .sl 3 (Row.aggs memC ms), u8 0, u8 0, u8 0, u8 0, u8 0, u8 0, u8 0, u8 0]) [(rb, .cells [str (rawS s).l, int (rawS s).e]), (fb, .cells [.ptr 0 rb 0, bool s.bad])] none_ := h2
    have h1 : wrong s = true → Q (.agg [u32 ve, .sl 3 (Row.aggs memC ms), u8 0, u8 0, u8 0, u8 0, u8 0, u8 0, u8 0, u8 0]) (obsR rb fb s) none_ := h1
    generalize Row.aggs memC ms = MS at *
    generalize wrong s = w at *
    generalize (rawS s).l = l' at *
    generalize (rawS s).e = e' at *
    refine run_sound (⟨fun | 6, 1 => rsH 0 1 s (bool w) | 7, 6 => rdH 0 l' e' (str []) | _, _ => .no, [], fun | 5 => some ⟨[], [10, 12], .take true [0,1,2,4,6] (.one 3 (.one 5 (.one 7 (.take true [8] (.one 9 (.one 10 (.take false [11] (.one 12 .done))))))))⟩ | 7 => some ⟨[1], [6, 7], .take false [0,1,2,3,4] (.take true [5] (.one 6 (.one 7 .done)))⟩ | _ => none⟩) 400 (B := TCalls Tryd.prog 42 [T.ptr 1 fb 0] [(rb, Ob.cells [str (RS.l s), int (RS.e s)]), (fb, Ob.cells [T.ptr 0 rb 0, bool (RS.bad s)])] none_ (callPost (Hint.call false Unit (fun x => True) [0, 1] false (fun x => bool w) (fun x => obsR rb fb s) fun x => none_)) ∧ ∀ (a : Unit), True → bsplit (!w) (fb = fb ∧ TCalls Tryd.prog 89 [T.ptr 0 rb 0, int 8] [(rb, Ob.cells [str (RS.l s), int (RS.e s)])] none_ (callPost (Hint.call false Unit (fun x => True) [0] false (fun x => str []) (fun x => obsD rb l' e') fun x => none_)) ∧ ∀ (a : Unit), True → b3 = b3 ∧ (ByteArray.size (ByteArray.mk (#[])) ≤ 8 ∧ 2 + ByteArray.size (ByteArray.mk (#[])) ≤ 10) ∧ b3 = b3 ∧ (10 = nat_lit 10 ∧ List.all [u32 ve, T.slx 3 4 MS hd, u8 0, u8 0, u8 0, u8 0, u8 0, u8 0, u8 0, u8 0] T.one = true) ∧ b2 = b2 ∧ 0 + nat_lit 10 ≤ 10 ∧ b2 = b2 ∧ Q (T.agg [u32 ve, T.sl 3 MS, u8 0, u8 0, u8 0, u8 0, u8 0, u8 0, u8 0, u8 0]) [(rb, Ob.cells [str l', int e']), (fb, Ob.cells [T.ptr 0 rb 0, bool (RS.bad s)])] fun x => none) (b3 = b3 ∧ (10 = nat_lit 10 ∧ List.all [u32 ve, T.slx 3 4 MS hd, u8 0, u8 0, u8 0, u8 0, u8 0, u8 0, u8 0, u8 0] T.one = true) ∧ b2 = b2 ∧ 0 + nat_lit 10 ≤ 10 ∧ b2 = b2 ∧ Q (T.agg [u32 ve, T.sl 3 MS, u8 0, u8 0, u8 0, u8 0, u8 0, u8 0, u8 0, u8 0]) [(rb, Ob.cells [str (RS.l s), int (RS.e s)]), (fb, Ob.cells [T.ptr 0 rb 0, bool (RS.bad s)])] fun x => none)) (by kernel_rfl) ?_
    repeat' (first | exact rfl | exact Nat.le_of_ble_eq_true rfl | refine And.intro ?_ ?_ | intro _ | refine bsplit_mk (fun _ => ?_) (fun _ => ?_))
    all_goals first
      | exact hw
      | exact hr
      | exact h1 (bnF ‹_›)
      | exact h2 (bnT ‹_›)
      | trace_state
  · rw [hx] at h2 hr
    unfold vwC at h1 h2
    have h2 : wrong s = false → Q (.agg [u32 ve, .sl 3 (Row.aggs memC ms), u8 c0.toNat, u8 c1.toNat, u8 c2.toNat, u8 c3.toNat, u8 c4.toNat, u8 c5.toNat, u8 c6.toNat, u8 c7.toNat]) [(rb, .cells [str (rawS s).l, int (rawS s).e]), (fb, .cells [.ptr 0 rb 0, bool s.bad])] none_ := h2
    have h1 : wrong s = true → Q (.agg [u32 ve, .sl 3 (Row.aggs memC ms), u8 0, u8 0, u8 0, u8 0, u8 0, u8 0, u8 0, u8 0]) (obsR rb fb s) none_ := h1
    generalize Row.aggs memC ms = MS at *
    generalize wrong s = w at *
    generalize (rawS s).l = l' at *
    generalize (rawS s).e = e' at *
    refine run_sound (⟨fun | 6, 1 => rsH 0 1 s (bool w) | 7, 6 => rdH 0 l' e' (str [c0, c1, c2, c3, c4, c5, c6, c7]) | 7, 7 => .obj [u32 ve, .slx 3 4 MS hd, u8 c0.toNat, u8 c1.toNat, u8 c2.toNat, u8 c3.toNat, u8 c4.toNat, u8 c5.toNat, u8 c6.toNat, u8 c7.toNat] | _, _ => .no, [], fun | 5 => some ⟨[], [10, 12], .take true [0,1,2,4,6] (.one 3 (.one 5 (.one 7 (.take true [8] (.one 9 (.one 10 (.take false [11] (.one 12 .done))))))))⟩ | 7 => some ⟨[1], [6, 7], .take false [0,1,2,3,4] (.take true [5] (.one 6 (.one 7 .done)))⟩ | _ => none⟩) 400 (B := TCalls Tryd.prog 42 [T.ptr 1 fb 0] [(rb, Ob.cells [str (RS.l s), int (RS.e s)]), (fb, Ob.cells [T.ptr 0 rb 0, bool (RS.bad s)])] none_ (callPost (Hint.call false Unit (fun x => True) [0, 1] false (fun x => bool w) (fun x => obsR rb fb s) fun x => none_)) ∧ ∀ (a : Unit), True → bsplit (!w) (fb = fb ∧ TCalls Tryd.prog 89 [T.ptr 0 rb 0, int 8] [(rb, Ob.cells [str (RS.l s), int (RS.e s)])] none_ (callPost (Hint.call false Unit (fun x => True) [0] false (fun x => str [c0, c1, c2, c3, c4, c5, c6, c7]) (fun x => obsD rb l' e') fun x => none_)) ∧ ∀ (a : Unit), True → b3 = b3 ∧ (ByteArray.size (ByteArray.mk (#[c0, c1, c2, c3, c4, c5, c6, c7])) ≤ 8 ∧ 2 + ByteArray.size (ByteArray.mk (#[c0, c1, c2, c3, c4, c5, c6, c7])) ≤ 10) ∧ [u32 ve, T.slx 3 4 MS hd, u8 (UInt8.toNat c0), u8 (UInt8.toNat c1), u8 (UInt8.toNat c2), u8 (UInt8.toNat c3), u8 (UInt8.toNat c4), u8 (UInt8.toNat c5), u8 (UInt8.toNat c6), u8 (UInt8.toNat c7)] = [u32 ve, T.slx 3 4 MS hd, u8 (UInt8.toNat c0), u8 (UInt8.toNat c1), u8 (UInt8.toNat c2), u8 (UInt8.toNat c3), u8 (UInt8.toNat c4), u8 (UInt8.toNat c5), u8 (UInt8.toNat c6), u8 (UInt8.toNat c7)] ∧ b3 = b3 ∧ (10 = nat_lit 10 ∧ List.all [u32 ve, T.slx 3 4 MS hd, u8 (UInt8.toNat c0), u8 (UInt8.toNat c1), u8 (UInt8.toNat c2), u8 (UInt8.toNat c3), u8 (UInt8.toNat c4), u8 (UInt8.toNat c5), u8 (UInt8.toNat c6), u8 (UInt8.toNat c7)] T.one = true) ∧ b2 = b2 ∧ 0 + nat_lit 10 ≤ 10 ∧ b2 = b2 ∧ Q (T.agg [u32 ve, T.sl 3 MS, u8 (UInt8.toNat c0), u8 (UInt8.toNat c1), u8 (UInt8.toNat c2), u8 (UInt8.toNat c3), u8 (UInt8.toNat c4), u8 (UInt8.toNat c5), u8 (UInt8.toNat c6), u8 (UInt8.toNat c7)]) [(rb, Ob.cells [str l', int e']), (fb, Ob.cells [T.ptr 0 rb 0, bool (RS.bad s)])] fun x => none) (b3 = b3 ∧ (10 = nat_lit 10 ∧ List.all [u32 ve, T.slx 3 4 MS hd, u8 0, u8 0, u8 0, u8 0, u8 0, u8 0, u8 0, u8 0] T.one = true) ∧ b2 = b2 ∧ 0 + nat_lit 10 ≤ 10 ∧ b2 = b2 ∧ Q (T.agg [u32 ve, T.sl 3 MS, u8 0, u8 0, u8 0, u8 0, u8 0, u8 0, u8 0, u8 0]) [(rb, Ob.cells [str (RS.l s), int (RS.e s)]), (fb, Ob.cells [T.ptr 0 rb 0, bool (RS.bad s)])] fun x => none)) (by kernel_rfl) ?_
    repeat' (first | exact rfl | exact Nat.le_of_ble_eq_true rfl | refine And.intro ?_ ?_ | intro _ | refine bsplit_mk (fun _ => ?_) (fun _ => ?_))
    all_goals first
      | exact hw
      | exact hr
      | exact h1 (bnF ‹_›)
      | exact h2 (bnT ‹_›)
      | trace_state
theorem rvw_loop (ve : Nat) (Q : T → Obs → Glb → Prop) : ∀ (n : Nat) (s : RS) (d : List Mem) (hd : Value), s.Ok → n + d.length ≤ 1000 →
    (∀ hd, TWk Tryd.prog Γ (fin Tryd.prog Tryd.f74 [0, 1] Q) [.code (sub (bd Tryd.f74) [1, 1, 1])] ⟨frame 43 [(0, .ptr 1 fb 0), (2, .ptr 2 b2 0), (3, .ptr 3 b3 0)], obsV rb fb b2 b3 (memsR n s).2 ve (Row.aggs memC (d ++ (memsR n s).1)) hd, none_⟩) →
    TWk Tryd.prog Γ (fin Tryd.prog Tryd.f74 [0, 1] Q) [.code (sub (bd Tryd.f74) [1, 1, 0, 1, 0]), .blk 0, .code (sub (bd Tryd.f74) [1, 1, 1])] ⟨frame 43 [(0, .ptr 1 fb 0), (2, .ptr 2 b2 0), (3, .ptr 3 b3 0), (4, int n)], obsV rb fb b2 b3 s ve (Row.aggs memC d) hd, none_⟩ := by
  intro n
  induction n with
  | zero =>
    intro s d hd hs hn hQ
    have hQ := hQ hd
    have hQ : TWk Tryd.prog Γ (fin Tryd.prog Tryd.f74 [0, 1] Q) [.code (sub (bd Tryd.f74) [1, 1, 1])] ⟨frame 43 [(0, .ptr 1 fb 0), (2, .ptr 2 b2 0), (3, .ptr 3 b3 0)], obsV rb fb b2 b3 s ve (Row.aggs memC d) hd, none_⟩ := by
      have e : d ++ (memsR 0 s).1 = d := List.append_nil d
      rw [e] at hQ; exact hQ
    generalize Row.aggs memC d = MS at *
    refine run_sound (⟨fun  | _, _ => .no, [((2, 3), ([0, 2, 3, 4], 5)), ((0, 6), ([0, 2, 3], 5))], fun | 5 => some ⟨[], [10, 12], .take true [0,1,2,4,6] (.one 3 (.one 5 (.one 7 (.take true [8] (.one 9 (.one 10 (.take false [11] (.one 12 .done))))))))⟩ | 7 => some ⟨[], [6, 7], .take false [0,1,2,3,4] (.take true [5] (.one 6 (.one 7 .done)))⟩ | _ => none⟩) 400 (B := TWk Tryd.prog Γ (fin Tryd.prog Tryd.f74 [0, 1] Q) [It.code (sub (bd Tryd.f74) [1, 1, 1])] { fr := frame 43 [(0, T.ptr 1 fb 0), (2, T.ptr 2 b2 0), (3, T.ptr 3 b3 0)], ob := [(rb, Ob.cells [str (RS.l s), int (RS.e s)]), (fb, Ob.cells [T.ptr 0 rb 0, bool (RS.bad s)]), (b2, Ob.cells [u32 0, T.v nilS, u8 0, u8 0, u8 0, u8 0, u8 0, u8 0, u8 0, u8 0]), (b3, Ob.cells [u32 ve, T.slx 3 4 MS hd, u8 0, u8 0, u8 0, u8 0, u8 0, u8 0, u8 0, u8 0]), (0, Ob.room 3 97 (List.length MS) hd)], gl := fun x => none }) (by kernel_rfl) ?_
    repeat' (first | exact rfl | exact Nat.le_of_ble_eq_true rfl | refine And.intro ?_ ?_ | intro _ | refine bsplit_mk (fun _ => ?_) (fun _ => ?_))
    all_goals first
      | exact hQ
      | trace_state
  | succ n ih =>
    intro s d hd hs hn hQ
    have hw := rwr_post rb fb s hs
    have k1 := rsm_post rb fb s hs
    have k2 := rsm_post rb fb (rgo 1 s) (hs.go 1)
    have k3 := rfl_post rb fb (rgo 1 (rgo 1 s)) ((hs.go 1).go 1)
    have q1 : wrong s = true → TWk Tryd.prog Γ (fin Tryd.prog Tryd.f74 [0, 1] Q) [.code (sub (bd Tryd.f74) [1, 1, 1])] ⟨frame 43 [(0, .ptr 1 fb 0), (2, .ptr 2 b2 0), (3, .ptr 3 b3 0)], obsV rb fb b2 b3 s ve (Row.aggs memC d) hd, none_⟩ := fun h => by
      have hQ := hQ hd
      unfold Frm.memsR at hQ
      rw [if_pos h] at hQ
      have e : d ++ [] = d := List.append_nil d
      rw [e] at hQ; exact hQ
    have q2 : wrong s = false → ∀ hd, TWk Tryd.prog Γ (fin Tryd.prog Tryd.f74 [0, 1] Q) [.code (sub (bd Tryd.f74) [1, 1, 0, 1, 0]), .blk 0, .code (sub (bd Tryd.f74) [1, 1, 1])] ⟨frame 43 [(0, .ptr 1 fb 0), (2, .ptr 2 b2 0), (3, .ptr 3 b3 0), (4, int n)], obsV rb fb b2 b3 (memS s) ve (Row.aggs memC d ++ [.agg (memC (memR s))]) hd, none_⟩ := fun h hd => by
      rw [← Row.aggs_snoc]
      refine ih (memS s) (d ++ [memR s]) hd hs.mem (by simp; omega) (fun hd => ?_)
      have hQ := hQ hd
      unfold Frm.memsR at hQ
      rw [if_neg (by rw [h]; decide)] at hQ
      have e : d ++ (memR s :: (memsR n (memS s)).1) = d ++ [memR s] ++ (memsR n (memS s)).1 := by simp
      rw [e] at hQ; exact hQ
    have k3 : TCalls Tryd.prog 72 [.ptr 1 fb 0] (obsR rb fb (rgo 1 (rgo 1 s))) none_ (callPost (told (bool (flagB (rgo 1 (rgo 1 s)))) [0, 1] (obsR rb fb (memS s)))) := k3
    have hml : (Row.aggs memC d).length = d.length := Row.aggs_len d
    have hwn : T.v (.int .i64 (IntKind.wrap .i64 (((n + 1 : Nat) : Int) - 1))) = int n := congrArg int (by rw [wrap_i64 (by omega) (by omega)]; omega)
    have hm1 : (memR s).n = rnum 1 s := rfl
    have q2 : wrong s = false → ∀ hd, TWk Tryd.prog Γ (fin Tryd.prog Tryd.f74 [0, 1] Q) [.code (sub (bd Tryd.f74) [1, 1, 0, 1, 0]), .blk 0, .code (sub (bd Tryd.f74) [1, 1, 1])] ⟨frame 43 [(0, .ptr 1 fb 0), (2, .ptr 2 b2 0), (3, .ptr 3 b3 0), (4, int n)], obsV rb fb b2 b3 (memS s) ve (Row.aggs memC d ++ [.agg [u8 (rnum 1 s), u8 (rnum 1 (rgo 1 s)), bool (flagB (rgo 1 (rgo 1 s)))]]) hd, none_⟩ := q2
    clear ih hQ hm1
    generalize Row.aggs memC d = MS at *
    generalize memS s = s3 at *
    generalize flagB (rgo 1 (rgo 1 s)) = x3 at *
    generalize rgo 1 (rgo 1 s) = s2 at *
    generalize rnum 1 (rgo 1 s) = x2 at *
    generalize rgo 1 s = s1 at *
    generalize rnum 1 s = x1 at *
    generalize hwv : wrong s = w at *
    refine run_sound (⟨fun | 3, 4 => rsH 0 1 s (bool w) | 5, 3 => rsH 0 1 s1 (u8 x1) | 5, 5 => rsH 0 1 s2 (u8 x2) | 5, 7 => rsH 0 1 s3 (bool x3) | 4, 1 => .res (int n) | _, _ => .no, [((2, 3), ([0, 2, 3, 4], 5)), ((0, 6), ([0, 2, 3], 5))], fun | 5 => some ⟨[3], [10, 12], .take true [0,1,2,4,6] (.one 3 (.one 5 (.one 7 (.take true [8] (.one 9 (.one 10 (.take false [11] (.one 12 .done))))))))⟩ | 7 => some ⟨[], [6, 7], .take false [0,1,2,3,4] (.take true [5] (.one 6 (.one 7 .done)))⟩ | _ => none⟩) 400 (B := bsplit (decide ((↑(n + 1) : Int) > (0 : Int))) (TCalls Tryd.prog 42 [T.ptr 1 fb 0] [(rb, Ob.cells [str (RS.l s), int (RS.e s)]), (fb, Ob.cells [T.ptr 0 rb 0, bool (RS.bad s)])] none_ (callPost (Hint.call false Unit (fun x => True) [0, 1] false (fun x => bool w) (fun x => obsR rb fb s) fun x => none_)) ∧ ∀ (a : Unit), True → bsplit (!w) (b3 = b3 ∧ TCalls Tryd.prog 40 [T.ptr 1 fb 0] [(rb, Ob.cells [str (RS.l s), int (RS.e s)]), (fb, Ob.cells [T.ptr 0 rb 0, bool (RS.bad s)])] none_ (callPost (Hint.call false Unit (fun x => True) [0, 1] false (fun x => u8 (↑x1 : Int)) (fun x => obsR rb fb s1) fun x => none_)) ∧ ∀ (a : Unit), True → TCalls Tryd.prog 40 [T.ptr 1 fb 0] [(rb, Ob.cells [str (RS.l s1), int (RS.e s1)]), (fb, Ob.cells [T.ptr 0 rb 0, bool (RS.bad s1)])] none_ (callPost (Hint.call false Unit (fun x => True) [0, 1] false (fun x => u8 (↑x2 : Int)) (fun x => obsR rb fb s2) fun x => none_)) ∧ ∀ (a : Unit), True → TCalls Tryd.prog 72 [T.ptr 1 fb 0] [(rb, Ob.cells [str (RS.l s2), int (RS.e s2)]), (fb, Ob.cells [T.ptr 0 rb 0, bool (RS.bad s2)])] none_ (callPost (Hint.call false Unit (fun x => True) [0, 1] false (fun x => bool x3) (fun x => obsR rb fb s3) fun x => none_)) ∧ ∀ (a : Unit), True → (hd = hd ∧ List.length MS = List.length MS) ∧ Fits (List.length MS + 1) (nat_lit 3) ∧ ∀ (x : Value), (1 = nat_lit 1 ∧ List.all [T.slx 3 4 (MS ++ [T.agg [u8 x1, u8 x2, bool x3]]) x] T.one = true) ∧ b3 = b3 ∧ 1 + nat_lit 1 ≤ 10 ∧ int (IntKind.wrap IntKind.i64 ((↑(n + 1) : Int) - (1 : Int))) = int n ∧ TWk Tryd.prog Γ (fin Tryd.prog Tryd.f74 [0, 1] Q) [It.code (sub (bd Tryd.f74) [1, 1, 0, 1, 0]), It.blk 0, It.code (sub (bd Tryd.f74) [1, 1, 1])] { fr := frame 43 [(0, T.ptr 1 fb 0), (2, T.ptr 2 b2 0), (3, T.ptr 3 b3 0), (4, int n)], ob := [(rb, Ob.cells [str (RS.l s3), int (RS.e s3)]), (fb, Ob.cells [T.ptr 0 rb 0, bool (RS.bad s3)]), (b2, Ob.cells [u32 0, T.v nilS, u8 0, u8 0, u8 0, u8 0, u8 0, u8 0, u8 0, u8 0]), (b3, Ob.cells [u32 ve, T.slx 3 4 (MS ++ [T.agg [u8 x1, u8 x2, bool x3]]) x, u8 0, u8 0, u8 0, u8 0, u8 0, u8 0, u8 0, u8 0]), (0, Ob.room 3 97 (List.length (MS ++ [T.agg [u8 x1, u8 x2, bool x3]])) x)], gl := fun x => none }) (TWk Tryd.prog Γ (fin Tryd.prog Tryd.f74 [0, 1] Q) [It.code (sub (bd Tryd.f74) [1, 1, 1])] { fr := frame 43 [(0, T.ptr 1 fb 0), (2, T.ptr 2 b2 0), (3, T.ptr 3 b3 0)], ob := [(rb, Ob.cells [str (RS.l s), int (RS.e s)]), (fb, Ob.cells [T.ptr 0 rb 0, bool (RS.bad s)]), (b2, Ob.cells [u32 0, T.v nilS, u8 0, u8 0, u8 0, u8 0, u8 0, u8 0, u8 0, u8 0]), (b3, Ob.cells [u32 ve, T.slx 3 4 MS hd, u8 0, u8 0, u8 0, u8 0, u8 0, u8 0, u8 0, u8 0]), (0, Ob.room 3 97 (List.length MS) hd)], gl := fun x => none })) (TWk Tryd.prog Γ (fin Tryd.prog Tryd.f74 [0, 1] Q) [It.code (sub (bd Tryd.f74) [1, 1, 1])] { fr := frame 43 [(0, T.ptr 1 fb 0), (2, T.ptr 2 b2 0), (3, T.ptr 3 b3 0)], ob := [(rb, Ob.cells [str (RS.l s), int (RS.e s)]), (fb, Ob.cells [T.ptr 0 rb 0, bool (RS.bad s)]), (b2, Ob.cells [u32 0, T.v nilS, u8 0, u8 0, u8 0, u8 0, u8 0, u8 0, u8 0, u8 0]), (b3, Ob.cells [u32 ve, T.slx 3 4 MS hd, u8 0, u8 0, u8 0, u8 0, u8 0, u8 0, u8 0, u8 0]), (0, Ob.room 3 97 (List.length MS) hd)], gl := fun x => none })) (by kernel_rfl) ?_
    repeat' (first | exact rfl | exact Nat.le_of_ble_eq_true rfl | refine And.intro ?_ ?_ | intro _ | refine bsplit_mk (fun _ => ?_) (fun _ => ?_))
    all_goals first
      | exact hw
      | exact k1
      | exact k2
      | exact k3
      | exact hwn
      | exact q1 (bnF ‹_›)
      | exact q2 (bnT ‹_›) _
      | (exfalso; have := of_decide_eq_false ‹decide ((((n + 1 : Nat)) : Int) > 0) = false›; omega)
      | (simp [maxLen]; omega)
      | trace_state
end
section
variable (rb fb : Nat) (s : RS) (hs : s.Ok)
include hs
theorem rvw_post : TCalls Tryd.prog 74 [.ptr 1 fb 0] (obsR rb fb s) none_ (callPost (told (.agg (vwC (viewR s).1.1 (viewR s).1.2.1 (viewR s).1.2.2)) [0, 1] (obsR rb fb (viewR s).2))) := by
  have k1 := rwd_post rb fb s hs
  have k2 := rct_post rb fb (rgo 4 s) (hs.go 4) 8
  have hs2 := (hs.go 4).cnt 8
  have hQ : ∀ y s', y = .agg (vwC (viewR s).1.1 (viewR s).1.2.1 (viewR s).1.2.2) → s' = (viewR s).2 → callPost (told (.agg (vwC (viewR s).1.1 (viewR s).1.2.1 (viewR s).1.2.2)) [0, 1] (obsR rb fb (viewR s).2)) y (obsR rb fb s') none_ := fun y s' h h' => by subst h'; exact rs_post h
  generalize callPost (told (.agg (vwC (viewR s).1.1 (viewR s).1.2.1 (viewR s).1.2.2)) [0, 1] (obsR rb fb (viewR s).2)) = Q at *
  have hc8 : cntN 8 (rgo 4 s) ≤ 256 := by
    unfold Frm.cntN
    split
    · omega
    · have := Frm.rnum1_lt (rgo 4 s); omega
  have lp : ∀ Γ b2 b3, TWk Tryd.prog Γ (fin Tryd.prog Tryd.f74 [0, 1] Q) [.code (sub (bd Tryd.f74) [1, 1, 0, 1, 0]), .blk 0, .code (sub (bd Tryd.f74) [1, 1, 1])] ⟨frame 43 [(0, .ptr 1 fb 0), (2, .ptr 2 b2 0), (3, .ptr 3 b3 0), (4, int (cntN 8 (rgo 4 s)))], obsV rb fb b2 b3 (cntS 8 (rgo 4 s)) (rnum 4 s) [] nilS, none_⟩ := fun Γ b2 b3 =>
    rvw_loop Γ rb fb b2 b3 (rnum 4 s) Q (cntN 8 (rgo 4 s)) (cntS 8 (rgo 4 s)) [] nilS hs2 (by simp; omega) (fun hd => by
      have hq := Frm.RS.Ok.mems (cntN 8 (rgo 4 s)) hs2
      rw [List.nil_append]
      refine rvw_end Γ rb fb b2 b3 _ hq (rnum 4 s) _ hd Q (fun h => hQ _ _ ?_ ?_) (fun h => hQ _ _ ?_ ?_)
      · unfold Frm.viewR; dsimp only; rw [if_pos h]
      · unfold Frm.viewR; dsimp only; rw [if_pos h]
      · unfold Frm.viewR; dsimp only; rw [if_neg (by rw [h]; decide)]; rfl
      · unfold Frm.viewR; dsimp only; rw [if_neg (by rw [h]; decide)]; rfl)
  clear hQ
  generalize cntN 8 (rgo 4 s) = n at *
  generalize cntS 8 (rgo 4 s) = s2 at *
  generalize rgo 4 s = s1 at *
  generalize rnum 4 s = ve at *
  have lp := fun Γ b2 b3 => TWk.imp (s := ⟨frame 43 [(0, .ptr 1 fb 0), (2, .ptr 2 b2 0), (3, .ptr 3 b3 0), (4, int n)], [(rb, .cells [str s2.l, int s2.e]), (fb, .cells [.ptr 0 rb 0, bool s2.bad]), (b2, .cells vw0), (b3, .cells [u32 ve, .v nilS, u8 0, u8 0, u8 0, u8 0, u8 0, u8 0, u8 0, u8 0])], none_⟩) (lp Γ b2 b3)
    ((Imp.room 3 97).trans (Imp.cell 3 4 (i := 3) (j := 1) (b := b3) (cs := [u32 ve, .v nilS, u8 0, u8 0, u8 0, u8 0, u8 0, u8 0, u8 0, u8 0]) rfl rfl))
  refine TCalls.of Tryd.func74 rfl (CanCall.of Tryd.func74 rfl (by decide)) [0, 1] fun Γ => ?_
  refine run_sound (⟨fun | 1, 1 => rsH 0 1 s1 (u32 ve) | 2, 1 => rsH 0 1 s2 (int n) | _, _ => .no, [((2, 3), ([0, 2, 3, 4], 4))], fun | 5 => some ⟨[], [10, 12], .take true [0,1,2,4,6] (.one 3 (.one 5 (.one 7 (.take true [8] (.one 9 (.one 10 (.take false [11] (.one 12 .done))))))))⟩ | 7 => some ⟨[], [6, 7], .take false [0,1,2,3,4] (.take true [5] (.one 6 (.one 7 .done)))⟩ | _ => none⟩) 400 (B := ∀ (b : Nat), TCalls Tryd.prog 69 [T.ptr 1 fb 0] [(rb, Ob.cells [str (RS.l s), int (RS.e s)]), (fb, Ob.cells [T.ptr 0 rb 0, bool (RS.bad s)])] none_ (callPost (Hint.call false Unit (fun x => True) [0, 1] false (fun x => u32 (↑ve : Int)) (fun x => obsR rb fb s1) fun x => none_)) ∧ ∀ (a : Unit), True → ∀ (b_1 : Nat), (10 = nat_lit 10 ∧ List.all [u32 ve, T.v nilS, u8 0, u8 0, u8 0, u8 0, u8 0, u8 0, u8 0, u8 0] T.one = true) ∧ b_1 = b_1 ∧ 0 + nat_lit 10 ≤ 10 ∧ TCalls Tryd.prog 88 [T.ptr 1 fb 0, int 8] [(rb, Ob.cells [str (RS.l s1), int (RS.e s1)]), (fb, Ob.cells [T.ptr 0 rb 0, bool (RS.bad s1)])] none_ (callPost (Hint.call false Unit (fun x => True) [0, 1] false (fun x => int (↑n : Int)) (fun x => obsR rb fb s2) fun x => none_)) ∧ ∀ (a : Unit), True → TWk Tryd.prog Γ (fin Tryd.prog Tryd.f74 [0, 1] Q) [It.code (sub (bd Tryd.f74) [1, 1, 0, 1, 0]), It.blk 0, It.code (sub (bd Tryd.f74) [1, 1, 1])] { fr := frame 43 [(0, T.ptr 1 fb 0), (2, T.ptr 2 b 0), (3, T.ptr 3 b_1 0), (4, int n)], ob := [(rb, Ob.cells [str (RS.l s2), int (RS.e s2)]), (fb, Ob.cells [T.ptr 0 rb 0, bool (RS.bad s2)]), (b, Ob.cells [u32 0, T.v nilS, u8 0, u8 0, u8 0, u8 0, u8 0, u8 0, u8 0, u8 0]), (b_1, Ob.cells [u32 ve, T.v nilS, u8 0, u8 0, u8 0, u8 0, u8 0, u8 0, u8 0, u8 0])], gl := fun x => none }) (by kernel_rfl) ?_
  repeat' (first | exact rfl | exact Nat.le_of_ble_eq_true rfl | refine And.intro ?_ ?_ | intro _ | refine bsplit_mk (fun _ => ?_) (fun _ => ?_))
  all_goals first
    | exact k1
    | exact k2
    | exact lp _ _ _
    | trace_state
end
def obsE (rb fb : Nat) (s : RS) (M : List T) (hd : Value) : Obs := [(rb, .cells [str s.l, int s.e]), (fb, .cells [.ptr 0 rb 0, bool s.bad]), (0, .room 8 103 M.length hd)]
section
variable (Γ : Ctx) (rb fb : Nat)
theorem ren_loop (Q : T → Obs → Glb → Prop) : ∀ (n : Nat) (s : RS) (d : List Ent) (hd : Value), s.Ok → n + d.length ≤ 1000 →
    (Q (.sl 8 (Row.aggs entC (d ++ (entsR n s).1))) (obsR rb fb (entsR n s).2) none_) →
    TWk Tryd.prog Γ (fin Tryd.prog Tryd.f75 [0, 1] Q) [.code (sub (bd Tryd.f75) [1, 1, 0, 1, 0]), .blk 0, .code (sub (bd Tryd.f75) [1, 1, 1])] ⟨frame 28 [(0, .ptr 1 fb 0), (3, .slx 8 2 (Row.aggs entC d) hd), (4, int n)], obsE rb fb s (Row.aggs entC d) hd, none_⟩ := by
  intro n
  induction n with
  | zero =>
    intro s d hd hs hn hQ
    have hQ : Q (.sl 8 (Row.aggs entC d)) (obsR rb fb s) none_ := by
      have e : d ++ (entsR 0 s).1 = d := List.append_nil d
      rw [e] at hQ; exact hQ
    generalize Row.aggs entC d = MS at *
    refine run_sound (⟨fun _ _ => .no, [((2, 3), ([0, 3, 4], 3))], fun _ => none⟩) 400 (B := Q (T.sl (8 : Nat) MS) [(rb, Ob.cells [T.v (Value.string (ByteArray.mk (List.toArray (RS.l s)))), T.v (Value.int IntKind.i64 (RS.e s))]), (fb, Ob.cells [T.ptr (0 : Nat) rb (0 : Nat), T.v (Value.bool (RS.bad s))])] fun x => none) (by kernel_rfl) ?_
    repeat' (first | exact rfl | exact Nat.le_of_ble_eq_true rfl | refine And.intro ?_ ?_ | intro _ | refine bsplit_mk (fun _ => ?_) (fun _ => ?_))
    all_goals first
      | exact hQ
      | trace_state
  | succ n ih =>
    intro s d hd hs hn hQ
    have hw := rwr_post rb fb s hs
    have k1 := rwd_post rb fb s hs
    have k2 := rmk_post rb fb (rgo 4 s) (hs.go 4)
    have k3 := rcm_post rb fb (markS (rgo 4 s)) (hs.go 4).mark
    have q1 : wrong s = true → Q (.sl 8 (Row.aggs entC d)) (obsR rb fb s) none_ := fun h => by
      unfold Frm.entsR at hQ
      rw [if_pos h] at hQ
      have e : d ++ [] = d := List.append_nil d
      rw [e] at hQ; exact hQ
    have q2 : wrong s = false → ∀ hd, TWk Tryd.prog Γ (fin Tryd.prog Tryd.f75 [0, 1] Q) [.code (sub (bd Tryd.f75) [1, 1, 0, 1, 0]), .blk 0, .code (sub (bd Tryd.f75) [1, 1, 1])] ⟨frame 28 [(0, .ptr 1 fb 0), (3, .slx 8 2 (Row.aggs entC d ++ [.agg (entC (entR s))]) hd), (4, int n)], obsE rb fb (entS s) (Row.aggs entC d ++ [.agg (entC (entR s))]) hd, none_⟩ := fun h hd => by
      rw [← Row.aggs_snoc]
      refine ih (entS s) (d ++ [entR s]) hd hs.ent (by simp; omega) ?_
      unfold Frm.entsR at hQ
      rw [if_neg (by rw [h]; decide)] at hQ
      have e : d ++ (entR s :: (entsR n (entS s)).1) = d ++ [entR s] ++ (entsR n (entS s)).1 := by simp
      rw [e] at hQ; exact hQ
    have hml : (Row.aggs entC d).length = d.length := Row.aggs_len d
    have hwn : T.v (.int .i64 (IntKind.wrap .i64 (((n + 1 : Nat) : Int) - 1))) = int n := congrArg int (by rw [wrap_i64 (by omega) (by omega)]; omega)
    have q2 : wrong s = false → ∀ hd, TWk Tryd.prog Γ (fin Tryd.prog Tryd.f75 [0, 1] Q) [.code (sub (bd Tryd.f75) [1, 1, 0, 1, 0]), .blk 0, .code (sub (bd Tryd.f75) [1, 1, 1])] ⟨frame 28 [(0, .ptr 1 fb 0), (3, .slx 8 2 (Row.aggs entC d ++ [.agg [u32 (rnum 4 s), u32 (rnum 4 (rgo 4 s)), u8 (rnum 1 (rgo 4 (rgo 4 s))), u8 (cmdR (markS (rgo 4 s))).k, u8 (cmdR (markS (rgo 4 s))).n, u8 (cmdR (markS (rgo 4 s))).l, u32 (cmdR (markS (rgo 4 s))).e, u32 (cmdR (markS (rgo 4 s))).q]]) hd), (4, int n)], obsE rb fb (cmdS (markS (rgo 4 s))) (Row.aggs entC d ++ [.agg [u32 (rnum 4 s), u32 (rnum 4 (rgo 4 s)), u8 (rnum 1 (rgo 4 (rgo 4 s))), u8 (cmdR (markS (rgo 4 s))).k, u8 (cmdR (markS (rgo 4 s))).n, u8 (cmdR (markS (rgo 4 s))).l, u32 (cmdR (markS (rgo 4 s))).e, u32 (cmdR (markS (rgo 4 s))).q]]) hd, none_⟩ := q2
    clear ih hQ
    generalize Row.aggs entC d = MS at *
    generalize cmdR (markS (rgo 4 s)) = x4 at *
    generalize cmdS (markS (rgo 4 s)) = s3 at *
    generalize rnum 1 (rgo 4 (rgo 4 s)) = x3 at *
    generalize markS (rgo 4 s) = s2 at *
    generalize rnum 4 (rgo 4 s) = x2 at *
    generalize rgo 4 s = s1 at *
    generalize rnum 4 s = x1 at *
    generalize hwv : wrong s = w at *
    refine run_sound (⟨fun | 3, 4 => rsH 0 1 s (bool w) | 5, 2 => rsH 0 1 s1 (u32 x1) | 5, 4 => rsH 0 1 s2 (.agg (markC x2 x3)) | 5, 7 => rsH 0 1 s3 (.agg (cmdC x4)) | 4, 1 => .res (int n) | _, _ => .no, [((2, 3), ([0, 3, 4], 3))], fun  | _ => none⟩) 400 (B := bsplit (decide ((↑(n + 1) : Int) > (0 : Int))) (TCalls Tryd.prog 42 [T.ptr 1 fb 0] [(rb, Ob.cells [str (RS.l s), int (RS.e s)]), (fb, Ob.cells [T.ptr 0 rb 0, bool (RS.bad s)])] none_ (callPost (Hint.call false Unit (fun x => True) [0, 1] false (fun x => bool w) (fun x => obsR rb fb s) fun x => none_)) ∧ ∀ (a : Unit), True → bsplit (!w) (TCalls Tryd.prog 69 [T.ptr 1 fb 0] [(rb, Ob.cells [str (RS.l s), int (RS.e s)]), (fb, Ob.cells [T.ptr 0 rb 0, bool (RS.bad s)])] none_ (callPost (Hint.call false Unit (fun x => True) [0, 1] false (fun x => u32 (↑x1 : Int)) (fun x => obsR rb fb s1) fun x => none_)) ∧ ∀ (a : Unit), True → TCalls Tryd.prog 70 [T.ptr 1 fb 0] [(rb, Ob.cells [str (RS.l s1), int (RS.e s1)]), (fb, Ob.cells [T.ptr 0 rb 0, bool (RS.bad s1)])] none_ (callPost (Hint.call false Unit (fun x => True) [0, 1] false (fun x => T.agg (markC x2 x3)) (fun x => obsR rb fb s2) fun x => none_)) ∧ ∀ (a : Unit), True → TCalls Tryd.prog 73 [T.ptr 1 fb 0] [(rb, Ob.cells [str (RS.l s2), int (RS.e s2)]), (fb, Ob.cells [T.ptr 0 rb 0, bool (RS.bad s2)])] none_ (callPost (Hint.call false Unit (fun x => True) [0, 1] false (fun x => T.agg (cmdC x4)) (fun x => obsR rb fb s3) fun x => none_)) ∧ ∀ (a : Unit), True → (hd = hd ∧ List.length MS = List.length MS) ∧ Fits (List.length MS + 1) (nat_lit 24) ∧ ∀ (x : Value), int (IntKind.wrap IntKind.i64 ((↑(n + 1) : Int) - (1 : Int))) = int n ∧ TWk Tryd.prog Γ (fin Tryd.prog Tryd.f75 [0, 1] Q) [It.code (sub (bd Tryd.f75) [1, 1, 0, 1, 0]), It.blk 0, It.code (sub (bd Tryd.f75) [1, 1, 1])] { fr := frame 28 [(0, T.ptr 1 fb 0), (3, T.slx 8 2 (MS ++ [T.agg [u32 x1, u32 x2, u8 x3, u8 (Cmd.k x4), u8 (Cmd.n x4), u8 (Cmd.l x4), u32 (Cmd.e x4), u32 (Cmd.q x4)]]) x), (4, int n)], ob := [(rb, Ob.cells [str (RS.l s3), int (RS.e s3)]), (fb, Ob.cells [T.ptr 0 rb 0, bool (RS.bad s3)]), (0, Ob.room 8 103 (List.length (MS ++ [T.agg [u32 x1, u32 x2, u8 x3, u8 (Cmd.k x4), u8 (Cmd.n x4), u8 (Cmd.l x4), u32 (Cmd.e x4), u32 (Cmd.q x4)]])) x)], gl := fun x => none }) (Q (T.sl 8 MS) [(rb, Ob.cells [str (RS.l s), int (RS.e s)]), (fb, Ob.cells [T.ptr 0 rb 0, bool (RS.bad s)])] fun x => none)) (Q (T.sl 8 MS) [(rb, Ob.cells [str (RS.l s), int (RS.e s)]), (fb, Ob.cells [T.ptr 0 rb 0, bool (RS.bad s)])] fun x => none)) (by kernel_rfl) ?_
    repeat' (first | exact rfl | exact Nat.le_of_ble_eq_true rfl | refine And.intro ?_ ?_ | intro _ | refine bsplit_mk (fun _ => ?_) (fun _ => ?_))
    all_goals first
      | exact hw
      | exact k1
      | exact k2
      | exact k3
      | exact hwn
      | exact q1 (bnF ‹_›)
      | exact q2 (bnT ‹_›) _
      | (exfalso; have := of_decide_eq_false ‹decide ((((n + 1 : Nat)) : Int) > 0) = false›; omega)
      | (simp [maxLen]; omega)
      | trace_state
end
section
variable (rb fb : Nat) (s : RS) (hs : s.Ok)
include hs
theorem ren_post : TCalls Tryd.prog 75 [.ptr 1 fb 0] (obsR rb fb s) none_ (callPost (told (.sl 8 (Row.aggs entC (entsR (cntN 16 s) (cntS 16 s)).1)) [0, 1] (obsR rb fb (entsR (cntN 16 s) (cntS 16 s)).2))) := by
  have k2 := rct_post rb fb s hs 16
  have hs2 := hs.cnt 16
  have hQ : callPost (told (.sl 8 (Row.aggs entC (entsR (cntN 16 s) (cntS 16 s)).1)) [0, 1] (obsR rb fb (entsR (cntN 16 s) (cntS 16 s)).2)) (.sl 8 (Row.aggs entC (entsR (cntN 16 s) (cntS 16 s)).1)) (obsR rb fb (entsR (cntN 16 s) (cntS 16 s)).2) none_ := rs_post rfl
  generalize callPost (told (.sl 8 (Row.aggs entC (entsR (cntN 16 s) (cntS 16 s)).1)) [0, 1] (obsR rb fb (entsR (cntN 16 s) (cntS 16 s)).2)) = Q at *
  have hc8 : cntN 16 s ≤ 256 := by
    unfold Frm.cntN
    split
    · omega
    · have := Frm.rnum1_lt s; omega
  have lp : ∀ Γ, TWk Tryd.prog Γ (fin Tryd.prog Tryd.f75 [0, 1] Q) [.code (sub (bd Tryd.f75) [1, 1, 0, 1, 0]), .blk 0, .code (sub (bd Tryd.f75) [1, 1, 1])] ⟨frame 28 [(0, .ptr 1 fb 0), (3, .slx 8 2 [] nilS), (4, int (cntN 16 s))], obsE rb fb (cntS 16 s) [] nilS, none_⟩ := fun Γ =>
    ren_loop Γ rb fb Q (cntN 16 s) (cntS 16 s) [] nilS hs2 (by simp; omega) (by rw [List.nil_append]; exact hQ)
  clear hQ
  generalize cntN 16 s = n at *
  generalize cntS 16 s = s2 at *
  have lp := fun Γ => TWk.imp (s := ⟨frame 28 [(0, .ptr 1 fb 0), (3, .v nilS), (4, int n)], [(rb, .cells [str s2.l, int s2.e]), (fb, .cells [.ptr 0 rb 0, bool s2.bad])], none_⟩) (lp Γ)
    ((Imp.room 8 103).trans (Imp.slot 8 2 3 rfl))
  refine TCalls.of Tryd.func75 rfl (CanCall.of Tryd.func75 rfl (by decide)) [0, 1] fun Γ => ?_
  refine run_sound (⟨fun | 2, 1 => rsH 0 1 s2 (int n) | _, _ => .no, [((2, 3), ([0, 3, 4], 2))], fun  | _ => none⟩) 400 (B := TCalls Tryd.prog 88 [T.ptr 1 fb 0, int 16] [(rb, Ob.cells [str (RS.l s), int (RS.e s)]), (fb, Ob.cells [T.ptr 0 rb 0, bool (RS.bad s)])] none_ (callPost (Hint.call false Unit (fun x => True) [0, 1] false (fun x => int (↑n : Int)) (fun x => obsR rb fb s2) fun x => none_)) ∧ ∀ (a : Unit), True → TWk Tryd.prog Γ (fin Tryd.prog Tryd.f75 [0, 1] Q) [It.code (sub (bd Tryd.f75) [1, 1, 0, 1, 0]), It.blk 0, It.code (sub (bd Tryd.f75) [1, 1, 1])] { fr := frame 28 [(0, T.ptr 1 fb 0), (3, T.v nilS), (4, int n)], ob := [(rb, Ob.cells [str (RS.l s2), int (RS.e s2)]), (fb, Ob.cells [T.ptr 0 rb 0, bool (RS.bad s2)])], gl := fun x => none }) (by kernel_rfl) ?_
  repeat' (first | exact rfl | exact Nat.le_of_ble_eq_true rfl | refine And.intro ?_ ?_ | intro _ | refine bsplit_mk (fun _ => ?_) (fun _ => ?_))
  all_goals first
    | exact k2
    | exact lp _
    | trace_state
end
end X6
end Go.Proofs.YtaepgceodcdnhaaDoor.Vm
/- Frames by the engine: a field out of bytes, letter by letter. -/
namespace Go.Proofs.YtaepgceodcdnhaaDoor.Vm
open Go Go.RowKit
set_option maxRecDepth 100000
namespace X6
open Frm (Cmd Mem Ent Lvs Fm RS rnum rgo must wrong flagB flagS markS cmdR cmdS cntS cntN valR viewR entsR fldR)
def obsG (rb fb b : Nat) (s : RS) (f : Fm) : Obs := [(rb, .cells [str s.l, int s.e]), (fb, .cells [.ptr 0 rb 0, bool s.bad]), (b, .cells (frC f))]
/-- a field's reading, as a call tells it -/
def fdH (i j k : Nat) (s : RS) (f : Fm) (x : T) : Hint := .withB fun B => told x [i, j, k] (obsG (B.getD i 0) (B.getD j 0) (B.getD k 0) s f)
section
variable (rb fb b : Nat) (s : RS) (hs : s.Ok) (f : Fm)
include hs
theorem fld_e : TCalls Tryd.prog 43 [.ptr 1 fb 0, .ptr 2 b 0, .v (.int .i32 101)] (obsG rb fb b s f) none_ (callPost (told (.tup []) [0, 1, 2] (obsG rb fb b (fldR 101 s f).2 (fldR 101 s f).1))) := by
  have k0 := rwd_post rb fb s hs
  have hQ : callPost (told (.tup []) [0, 1, 2] (obsG rb fb b (fldR 101 s f).2 (fldR 101 s f).1)) (.tup []) (obsG rb fb b (rgo 4 s) { f with ep := rnum 4 s }) none_ := ⟨(), trivial, rfl, rfl, Nat.le_of_ble_eq_true rfl, fun h => by cases h⟩
  generalize callPost (told (.tup []) [0, 1, 2] (obsG rb fb b (fldR 101 s f).2 (fldR 101 s f).1)) = Q at *
  generalize rgo 4 s = s1 at *
  generalize rnum 4 s = x1 at *
  refine TCalls.of Tryd.func43 rfl (CanCall.of Tryd.func43 rfl (by decide)) [0, 1, 2] fun Γ => ?_
  refine run_sound (⟨fun | 2, 2 => rsH 0 1 s1 (u32 x1) | _, _ => .no, [], fun  | _ => none⟩) 400 (B := TCalls Tryd.prog 69 [T.ptr 1 fb 0] [(rb, Ob.cells [str (RS.l s), int (RS.e s)]), (fb, Ob.cells [T.ptr 0 rb 0, bool (RS.bad s)])] none_ (callPost (Hint.call false Unit (fun x => True) [0, 1] false (fun x => u32 (↑x1 : Int)) (fun x => obsR rb fb s1) fun x => none_)) ∧ ∀ (a : Unit), True → (1 = nat_lit 1 ∧ List.all (List.map T.v (Array.toList #[Value.int IntKind.u32 (↑x1 : Int)])) T.one = true) ∧ b = b ∧ 3 + nat_lit 1 ≤ 34 ∧ Q (T.tup []) [(rb, Ob.cells [str (RS.l s1), int (RS.e s1)]), (fb, Ob.cells [T.ptr 0 rb 0, bool (RS.bad s1)]), (b, Ob.cells [u8 (Fm.kind f), u8 (Fm.frm f), u8 (Fm.to f), u32 x1, u8 (Fm.key f), u32 (Fm.sn f), u8 (Fm.sb f), u8 (Fm.sl f), bool (Fm.has f), str (Fm.x f), bool (Fm.rmw f), bool (Fm.flag f), u8 (Fm.dir f), u8 (Fm.life f), u32 (Fm.req f), u32 (Fm.bn f), u8 (Fm.bb f), u32 (Fm.slot f), u8 (Cmd.k (Fm.c f)), u8 (Cmd.n (Fm.c f)), u8 (Cmd.l (Fm.c f)), u32 (Cmd.e (Fm.c f)), u32 (Cmd.q (Fm.c f)), u32 (Fm.ve f), T.sl 3 (List.map (fun x => T.agg (memC x)) (Fm.ms f)), u8 (Lvs.l0 (Fm.lv f)), u8 (Lvs.l1 (Fm.lv f)), u8 (Lvs.l2 (Fm.lv f)), u8 (Lvs.l3 (Fm.lv f)), u8 (Lvs.l4 (Fm.lv f)), u8 (Lvs.l5 (Fm.lv f)), u8 (Lvs.l6 (Fm.lv f)), u8 (Lvs.l7 (Fm.lv f)), T.sl 8 (List.map (fun x => T.agg (entC x)) (Fm.es f))])] fun x => none) (by kernel_rfl) ?_
  repeat' (first | exact rfl | exact Nat.le_of_ble_eq_true rfl | refine And.intro ?_ ?_ | intro _ | refine bsplit_mk (fun _ => ?_) (fun _ => ?_))
  all_goals first
    | exact k0
    | exact hQ
    | trace_state
theorem fld_s : TCalls Tryd.prog 43 [.ptr 1 fb 0, .ptr 2 b 0, .v (.int .i32 115)] (obsG rb fb b s f) none_ (callPost (told (.tup []) [0, 1, 2] (obsG rb fb b (fldR 115 s f).2 (fldR 115 s f).1))) := by
  have k0 := rmk_post rb fb s hs
  have k1 := rsm_post rb fb (markS s) hs.mark
  have hQ : callPost (told (.tup []) [0, 1, 2] (obsG rb fb b (fldR 115 s f).2 (fldR 115 s f).1)) (.tup []) (obsG rb fb b (rgo 1 (markS s)) { f with sn := rnum 4 s, sb := rnum 1 (rgo 4 s), sl := rnum 1 (markS s) }) none_ := ⟨(), trivial, rfl, rfl, Nat.le_of_ble_eq_true rfl, fun h => by cases h⟩
  generalize callPost (told (.tup []) [0, 1, 2] (obsG rb fb b (fldR 115 s f).2 (fldR 115 s f).1)) = Q at *
  generalize rgo 1 (markS s) = s2 at *
  generalize rnum 1 (markS s) = x3 at *
  generalize markS s = s1 at *
  generalize rnum 1 (rgo 4 s) = x2 at *
  generalize rnum 4 s = x1 at *
  refine TCalls.of Tryd.func43 rfl (CanCall.of Tryd.func43 rfl (by decide)) [0, 1, 2] fun Γ => ?_
  refine run_sound (⟨fun | 7, 2 => rsH 0 1 s1 (.agg (markC x1 x2)) | 7, 4 => rsH 0 1 s2 (u8 x3) | _, _ => .no, [], fun  | _ => none⟩) 400 (B := TCalls Tryd.prog 70 [T.ptr 1 fb 0] [(rb, Ob.cells [str (RS.l s), int (RS.e s)]), (fb, Ob.cells [T.ptr 0 rb 0, bool (RS.bad s)])] none_ (callPost (Hint.call false Unit (fun x => True) [0, 1] false (fun x => T.agg (markC x1 x2)) (fun x => obsR rb fb s1) fun x => none_)) ∧ ∀ (a : Unit), True → TCalls Tryd.prog 40 [T.ptr 1 fb 0] [(rb, Ob.cells [str (RS.l s1), int (RS.e s1)]), (fb, Ob.cells [T.ptr 0 rb 0, bool (RS.bad s1)])] none_ (callPost (Hint.call false Unit (fun x => True) [0, 1] false (fun x => u8 (↑x3 : Int)) (fun x => obsR rb fb s2) fun x => none_)) ∧ ∀ (a : Unit), True → (3 = nat_lit 3 ∧ List.all [u32 x1, u8 x2, u8 x3] T.one = true) ∧ b = b ∧ 5 + nat_lit 3 ≤ 34 ∧ Q (T.tup []) [(rb, Ob.cells [str (RS.l s2), int (RS.e s2)]), (fb, Ob.cells [T.ptr 0 rb 0, bool (RS.bad s2)]), (b, Ob.cells [u8 (Fm.kind f), u8 (Fm.frm f), u8 (Fm.to f), u32 (Fm.ep f), u8 (Fm.key f), u32 x1, u8 x2, u8 x3, bool (Fm.has f), str (Fm.x f), bool (Fm.rmw f), bool (Fm.flag f), u8 (Fm.dir f), u8 (Fm.life f), u32 (Fm.req f), u32 (Fm.bn f), u8 (Fm.bb f), u32 (Fm.slot f), u8 (Cmd.k (Fm.c f)), u8 (Cmd.n (Fm.c f)), u8 (Cmd.l (Fm.c f)), u32 (Cmd.e (Fm.c f)), u32 (Cmd.q (Fm.c f)), u32 (Fm.ve f), T.sl 3 (List.map (fun x => T.agg (memC x)) (Fm.ms f)), u8 (Lvs.l0 (Fm.lv f)), u8 (Lvs.l1 (Fm.lv f)), u8 (Lvs.l2 (Fm.lv f)), u8 (Lvs.l3 (Fm.lv f)), u8 (Lvs.l4 (Fm.lv f)), u8 (Lvs.l5 (Fm.lv f)), u8 (Lvs.l6 (Fm.lv f)), u8 (Lvs.l7 (Fm.lv f)), T.sl 8 (List.map (fun x => T.agg (entC x)) (Fm.es f))])] fun x => none) (by kernel_rfl) ?_
  repeat' (first | exact rfl | exact Nat.le_of_ble_eq_true rfl | refine And.intro ?_ ?_ | intro _ | refine bsplit_mk (fun _ => ?_) (fun _ => ?_))
  all_goals first
    | exact k0
    | exact k1
    | exact hQ
    | trace_state
theorem fld_v : TCalls Tryd.prog 43 [.ptr 1 fb 0, .ptr 2 b 0, .v (.int .i32 118)] (obsG rb fb b s f) none_ (callPost (told (.tup []) [0, 1, 2] (obsG rb fb b (fldR 118 s f).2 (fldR 118 s f).1))) := by
  have k0 := rvl_post rb fb s hs
  have hQ : callPost (told (.tup []) [0, 1, 2] (obsG rb fb b (fldR 118 s f).2 (fldR 118 s f).1)) (.tup []) (obsG rb fb b ((valR s).2) { f with has := (valR s).1.1, x := (valR s).1.2 }) none_ := ⟨(), trivial, rfl, rfl, Nat.le_of_ble_eq_true rfl, fun h => by cases h⟩
  generalize callPost (told (.tup []) [0, 1, 2] (obsG rb fb b (fldR 118 s f).2 (fldR 118 s f).1)) = Q at *
  generalize (valR s).2 = s1 at *
  generalize (valR s).1 = x1 at *
  obtain ⟨x1a, x1b⟩ := x1
  refine TCalls.of Tryd.func43 rfl (CanCall.of Tryd.func43 rfl (by decide)) [0, 1, 2] fun Γ => ?_
  refine run_sound (⟨fun | 9, 2 => rsH 0 1 s1 (valT (x1a, x1b)) | _, _ => .no, [], fun  | _ => none⟩) 400 (B := TCalls Tryd.prog 71 [T.ptr 1 fb 0] [(rb, Ob.cells [str (RS.l s), int (RS.e s)]), (fb, Ob.cells [T.ptr 0 rb 0, bool (RS.bad s)])] none_ (callPost (Hint.call false Unit (fun x => True) [0, 1] false (fun x => valT (x1a, x1b)) (fun x => obsR rb fb s1) fun x => none_)) ∧ ∀ (a : Unit), True → (2 = nat_lit 2 ∧ List.all [bool (Prod.fst (x1a, x1b)), str (Prod.snd (x1a, x1b))] T.one = true) ∧ b = b ∧ 8 + nat_lit 2 ≤ 34 ∧ Q (T.tup []) [(rb, Ob.cells [str (RS.l s1), int (RS.e s1)]), (fb, Ob.cells [T.ptr 0 rb 0, bool (RS.bad s1)]), (b, Ob.cells [u8 (Fm.kind f), u8 (Fm.frm f), u8 (Fm.to f), u32 (Fm.ep f), u8 (Fm.key f), u32 (Fm.sn f), u8 (Fm.sb f), u8 (Fm.sl f), bool (Prod.fst (x1a, x1b)), str (Prod.snd (x1a, x1b)), bool (Fm.rmw f), bool (Fm.flag f), u8 (Fm.dir f), u8 (Fm.life f), u32 (Fm.req f), u32 (Fm.bn f), u8 (Fm.bb f), u32 (Fm.slot f), u8 (Cmd.k (Fm.c f)), u8 (Cmd.n (Fm.c f)), u8 (Cmd.l (Fm.c f)), u32 (Cmd.e (Fm.c f)), u32 (Cmd.q (Fm.c f)), u32 (Fm.ve f), T.sl 3 (List.map (fun x => T.agg (memC x)) (Fm.ms f)), u8 (Lvs.l0 (Fm.lv f)), u8 (Lvs.l1 (Fm.lv f)), u8 (Lvs.l2 (Fm.lv f)), u8 (Lvs.l3 (Fm.lv f)), u8 (Lvs.l4 (Fm.lv f)), u8 (Lvs.l5 (Fm.lv f)), u8 (Lvs.l6 (Fm.lv f)), u8 (Lvs.l7 (Fm.lv f)), T.sl 8 (List.map (fun x => T.agg (entC x)) (Fm.es f))])] fun x => none) (by kernel_rfl) ?_
  repeat' (first | exact rfl | exact Nat.le_of_ble_eq_true rfl | refine And.intro ?_ ?_ | intro _ | refine bsplit_mk (fun _ => ?_) (fun _ => ?_))
  all_goals first
    | exact k0
    | exact hQ
    | trace_state
theorem fld_r : TCalls Tryd.prog 43 [.ptr 1 fb 0, .ptr 2 b 0, .v (.int .i32 114)] (obsG rb fb b s f) none_ (callPost (told (.tup []) [0, 1, 2] (obsG rb fb b (fldR 114 s f).2 (fldR 114 s f).1))) := by
  have k0 := rfl_post rb fb s hs
  have hQ : callPost (told (.tup []) [0, 1, 2] (obsG rb fb b (fldR 114 s f).2 (fldR 114 s f).1)) (.tup []) (obsG rb fb b (flagS s) { f with rmw := flagB s }) none_ := ⟨(), trivial, rfl, rfl, Nat.le_of_ble_eq_true rfl, fun h => by cases h⟩
  generalize callPost (told (.tup []) [0, 1, 2] (obsG rb fb b (fldR 114 s f).2 (fldR 114 s f).1)) = Q at *
  generalize flagS s = s1 at *
  generalize flagB s = x1 at *
  refine TCalls.of Tryd.func43 rfl (CanCall.of Tryd.func43 rfl (by decide)) [0, 1, 2] fun Γ => ?_
  refine run_sound (⟨fun | 11, 2 => rsH 0 1 s1 (bool x1) | _, _ => .no, [], fun  | _ => none⟩) 400 (B := TCalls Tryd.prog 72 [T.ptr 1 fb 0] [(rb, Ob.cells [str (RS.l s), int (RS.e s)]), (fb, Ob.cells [T.ptr 0 rb 0, bool (RS.bad s)])] none_ (callPost (Hint.call false Unit (fun x => True) [0, 1] false (fun x => bool x1) (fun x => obsR rb fb s1) fun x => none_)) ∧ ∀ (a : Unit), True → (1 = nat_lit 1 ∧ List.all (List.map T.v (Array.toList #[Value.bool x1])) T.one = true) ∧ b = b ∧ 10 + nat_lit 1 ≤ 34 ∧ Q (T.tup []) [(rb, Ob.cells [str (RS.l s1), int (RS.e s1)]), (fb, Ob.cells [T.ptr 0 rb 0, bool (RS.bad s1)]), (b, Ob.cells [u8 (Fm.kind f), u8 (Fm.frm f), u8 (Fm.to f), u32 (Fm.ep f), u8 (Fm.key f), u32 (Fm.sn f), u8 (Fm.sb f), u8 (Fm.sl f), bool (Fm.has f), str (Fm.x f), bool x1, bool (Fm.flag f), u8 (Fm.dir f), u8 (Fm.life f), u32 (Fm.req f), u32 (Fm.bn f), u8 (Fm.bb f), u32 (Fm.slot f), u8 (Cmd.k (Fm.c f)), u8 (Cmd.n (Fm.c f)), u8 (Cmd.l (Fm.c f)), u32 (Cmd.e (Fm.c f)), u32 (Cmd.q (Fm.c f)), u32 (Fm.ve f), T.sl 3 (List.map (fun x => T.agg (memC x)) (Fm.ms f)), u8 (Lvs.l0 (Fm.lv f)), u8 (Lvs.l1 (Fm.lv f)), u8 (Lvs.l2 (Fm.lv f)), u8 (Lvs.l3 (Fm.lv f)), u8 (Lvs.l4 (Fm.lv f)), u8 (Lvs.l5 (Fm.lv f)), u8 (Lvs.l6 (Fm.lv f)), u8 (Lvs.l7 (Fm.lv f)), T.sl 8 (List.map (fun x => T.agg (entC x)) (Fm.es f))])] fun x => none) (by kernel_rfl) ?_
  repeat' (first | exact rfl | exact Nat.le_of_ble_eq_true rfl | refine And.intro ?_ ?_ | intro _ | refine bsplit_mk (fun _ => ?_) (fun _ => ?_))
  all_goals first
    | exact k0
    | exact hQ
    | trace_state
theorem fld_f : TCalls Tryd.prog 43 [.ptr 1 fb 0, .ptr 2 b 0, .v (.int .i32 102)] (obsG rb fb b s f) none_ (callPost (told (.tup []) [0, 1, 2] (obsG rb fb b (fldR 102 s f).2 (fldR 102 s f).1))) := by
  have k0 := rfl_post rb fb s hs
  have hQ : callPost (told (.tup []) [0, 1, 2] (obsG rb fb b (fldR 102 s f).2 (fldR 102 s f).1)) (.tup []) (obsG rb fb b (flagS s) { f with flag := flagB s }) none_ := ⟨(), trivial, rfl, rfl, Nat.le_of_ble_eq_true rfl, fun h => by cases h⟩
  generalize callPost (told (.tup []) [0, 1, 2] (obsG rb fb b (fldR 102 s f).2 (fldR 102 s f).1)) = Q at *
  generalize flagS s = s1 at *
  generalize flagB s = x1 at *
  refine TCalls.of Tryd.func43 rfl (CanCall.of Tryd.func43 rfl (by decide)) [0, 1, 2] fun Γ => ?_
  refine run_sound (⟨fun | 13, 2 => rsH 0 1 s1 (bool x1) | _, _ => .no, [], fun  | _ => none⟩) 400 (B := TCalls Tryd.prog 72 [T.ptr 1 fb 0] [(rb, Ob.cells [str (RS.l s), int (RS.e s)]), (fb, Ob.cells [T.ptr 0 rb 0, bool (RS.bad s)])] none_ (callPost (Hint.call false Unit (fun x => True) [0, 1] false (fun x => bool x1) (fun x => obsR rb fb s1) fun x => none_)) ∧ ∀ (a : Unit), True → (1 = nat_lit 1 ∧ List.all (List.map T.v (Array.toList #[Value.bool x1])) T.one = true) ∧ b = b ∧ 11 + nat_lit 1 ≤ 34 ∧ Q (T.tup []) [(rb, Ob.cells [str (RS.l s1), int (RS.e s1)]), (fb, Ob.cells [T.ptr 0 rb 0, bool (RS.bad s1)]), (b, Ob.cells [u8 (Fm.kind f), u8 (Fm.frm f), u8 (Fm.to f), u32 (Fm.ep f), u8 (Fm.key f), u32 (Fm.sn f), u8 (Fm.sb f), u8 (Fm.sl f), bool (Fm.has f), str (Fm.x f), bool (Fm.rmw f), bool x1, u8 (Fm.dir f), u8 (Fm.life f), u32 (Fm.req f), u32 (Fm.bn f), u8 (Fm.bb f), u32 (Fm.slot f), u8 (Cmd.k (Fm.c f)), u8 (Cmd.n (Fm.c f)), u8 (Cmd.l (Fm.c f)), u32 (Cmd.e (Fm.c f)), u32 (Cmd.q (Fm.c f)), u32 (Fm.ve f), T.sl 3 (List.map (fun x => T.agg (memC x)) (Fm.ms f)), u8 (Lvs.l0 (Fm.lv f)), u8 (Lvs.l1 (Fm.lv f)), u8 (Lvs.l2 (Fm.lv f)), u8 (Lvs.l3 (Fm.lv f)), u8 (Lvs.l4 (Fm.lv f)), u8 (Lvs.l5 (Fm.lv f)), u8 (Lvs.l6 (Fm.lv f)), u8 (Lvs.l7 (Fm.lv f)), T.sl 8 (List.map (fun x => T.agg (entC x)) (Fm.es f))])] fun x => none) (by kernel_rfl) ?_
  repeat' (first | exact rfl | exact Nat.le_of_ble_eq_true rfl | refine And.intro ?_ ?_ | intro _ | refine bsplit_mk (fun _ => ?_) (fun _ => ?_))
  all_goals first
    | exact k0
    | exact hQ
    | trace_state
theorem fld_d : TCalls Tryd.prog 43 [.ptr 1 fb 0, .ptr 2 b 0, .v (.int .i32 100)] (obsG rb fb b s f) none_ (callPost (told (.tup []) [0, 1, 2] (obsG rb fb b (fldR 100 s f).2 (fldR 100 s f).1))) := by
  have k0 := rsm_post rb fb s hs
  have hQ : callPost (told (.tup []) [0, 1, 2] (obsG rb fb b (fldR 100 s f).2 (fldR 100 s f).1)) (.tup []) (obsG rb fb b (rgo 1 s) { f with dir := rnum 1 s }) none_ := ⟨(), trivial, rfl, rfl, Nat.le_of_ble_eq_true rfl, fun h => by cases h⟩
  generalize callPost (told (.tup []) [0, 1, 2] (obsG rb fb b (fldR 100 s f).2 (fldR 100 s f).1)) = Q at *
  generalize rgo 1 s = s1 at *
  generalize rnum 1 s = x1 at *
  refine TCalls.of Tryd.func43 rfl (CanCall.of Tryd.func43 rfl (by decide)) [0, 1, 2] fun Γ => ?_
  refine run_sound (⟨fun | 15, 2 => rsH 0 1 s1 (u8 x1) | _, _ => .no, [], fun  | _ => none⟩) 400 (B := TCalls Tryd.prog 40 [T.ptr 1 fb 0] [(rb, Ob.cells [str (RS.l s), int (RS.e s)]), (fb, Ob.cells [T.ptr 0 rb 0, bool (RS.bad s)])] none_ (callPost (Hint.call false Unit (fun x => True) [0, 1] false (fun x => u8 (↑x1 : Int)) (fun x => obsR rb fb s1) fun x => none_)) ∧ ∀ (a : Unit), True → (1 = nat_lit 1 ∧ List.all (List.map T.v (Array.toList #[Value.int IntKind.u8 (↑x1 : Int)])) T.one = true) ∧ b = b ∧ 12 + nat_lit 1 ≤ 34 ∧ Q (T.tup []) [(rb, Ob.cells [str (RS.l s1), int (RS.e s1)]), (fb, Ob.cells [T.ptr 0 rb 0, bool (RS.bad s1)]), (b, Ob.cells [u8 (Fm.kind f), u8 (Fm.frm f), u8 (Fm.to f), u32 (Fm.ep f), u8 (Fm.key f), u32 (Fm.sn f), u8 (Fm.sb f), u8 (Fm.sl f), bool (Fm.has f), str (Fm.x f), bool (Fm.rmw f), bool (Fm.flag f), u8 x1, u8 (Fm.life f), u32 (Fm.req f), u32 (Fm.bn f), u8 (Fm.bb f), u32 (Fm.slot f), u8 (Cmd.k (Fm.c f)), u8 (Cmd.n (Fm.c f)), u8 (Cmd.l (Fm.c f)), u32 (Cmd.e (Fm.c f)), u32 (Cmd.q (Fm.c f)), u32 (Fm.ve f), T.sl 3 (List.map (fun x => T.agg (memC x)) (Fm.ms f)), u8 (Lvs.l0 (Fm.lv f)), u8 (Lvs.l1 (Fm.lv f)), u8 (Lvs.l2 (Fm.lv f)), u8 (Lvs.l3 (Fm.lv f)), u8 (Lvs.l4 (Fm.lv f)), u8 (Lvs.l5 (Fm.lv f)), u8 (Lvs.l6 (Fm.lv f)), u8 (Lvs.l7 (Fm.lv f)), T.sl 8 (List.map (fun x => T.agg (entC x)) (Fm.es f))])] fun x => none) (by kernel_rfl) ?_
  repeat' (first | exact rfl | exact Nat.le_of_ble_eq_true rfl | refine And.intro ?_ ?_ | intro _ | refine bsplit_mk (fun _ => ?_) (fun _ => ?_))
  all_goals first
    | exact k0
    | exact hQ
    | trace_state
theorem fld_l : TCalls Tryd.prog 43 [.ptr 1 fb 0, .ptr 2 b 0, .v (.int .i32 108)] (obsG rb fb b s f) none_ (callPost (told (.tup []) [0, 1, 2] (obsG rb fb b (fldR 108 s f).2 (fldR 108 s f).1))) := by
  have k0 := rsm_post rb fb s hs
  have hQ : callPost (told (.tup []) [0, 1, 2] (obsG rb fb b (fldR 108 s f).2 (fldR 108 s f).1)) (.tup []) (obsG rb fb b (rgo 1 s) { f with life := rnum 1 s }) none_ := ⟨(), trivial, rfl, rfl, Nat.le_of_ble_eq_true rfl, fun h => by cases h⟩
  generalize callPost (told (.tup []) [0, 1, 2] (obsG rb fb b (fldR 108 s f).2 (fldR 108 s f).1)) = Q at *
  generalize rgo 1 s = s1 at *
  generalize rnum 1 s = x1 at *
  refine TCalls.of Tryd.func43 rfl (CanCall.of Tryd.func43 rfl (by decide)) [0, 1, 2] fun Γ => ?_
  refine run_sound (⟨fun | 17, 2 => rsH 0 1 s1 (u8 x1) | _, _ => .no, [], fun  | _ => none⟩) 400 (B := TCalls Tryd.prog 40 [T.ptr 1 fb 0] [(rb, Ob.cells [str (RS.l s), int (RS.e s)]), (fb, Ob.cells [T.ptr 0 rb 0, bool (RS.bad s)])] none_ (callPost (Hint.call false Unit (fun x => True) [0, 1] false (fun x => u8 (↑x1 : Int)) (fun x => obsR rb fb s1) fun x => none_)) ∧ ∀ (a : Unit), True → (1 = nat_lit 1 ∧ List.all (List.map T.v (Array.toList #[Value.int IntKind.u8 (↑x1 : Int)])) T.one = true) ∧ b = b ∧ 13 + nat_lit 1 ≤ 34 ∧ Q (T.tup []) [(rb, Ob.cells [str (RS.l s1), int (RS.e s1)]), (fb, Ob.cells [T.ptr 0 rb 0, bool (RS.bad s1)]), (b, Ob.cells [u8 (Fm.kind f), u8 (Fm.frm f), u8 (Fm.to f), u32 (Fm.ep f), u8 (Fm.key f), u32 (Fm.sn f), u8 (Fm.sb f), u8 (Fm.sl f), bool (Fm.has f), str (Fm.x f), bool (Fm.rmw f), bool (Fm.flag f), u8 (Fm.dir f), u8 x1, u32 (Fm.req f), u32 (Fm.bn f), u8 (Fm.bb f), u32 (Fm.slot f), u8 (Cmd.k (Fm.c f)), u8 (Cmd.n (Fm.c f)), u8 (Cmd.l (Fm.c f)), u32 (Cmd.e (Fm.c f)), u32 (Cmd.q (Fm.c f)), u32 (Fm.ve f), T.sl 3 (List.map (fun x => T.agg (memC x)) (Fm.ms f)), u8 (Lvs.l0 (Fm.lv f)), u8 (Lvs.l1 (Fm.lv f)), u8 (Lvs.l2 (Fm.lv f)), u8 (Lvs.l3 (Fm.lv f)), u8 (Lvs.l4 (Fm.lv f)), u8 (Lvs.l5 (Fm.lv f)), u8 (Lvs.l6 (Fm.lv f)), u8 (Lvs.l7 (Fm.lv f)), T.sl 8 (List.map (fun x => T.agg (entC x)) (Fm.es f))])] fun x => none) (by kernel_rfl) ?_
  repeat' (first | exact rfl | exact Nat.le_of_ble_eq_true rfl | refine And.intro ?_ ?_ | intro _ | refine bsplit_mk (fun _ => ?_) (fun _ => ?_))
  all_goals first
    | exact k0
    | exact hQ
    | trace_state
theorem fld_q : TCalls Tryd.prog 43 [.ptr 1 fb 0, .ptr 2 b 0, .v (.int .i32 113)] (obsG rb fb b s f) none_ (callPost (told (.tup []) [0, 1, 2] (obsG rb fb b (fldR 113 s f).2 (fldR 113 s f).1))) := by
  have k0 := rwd_post rb fb s hs
  have hQ : callPost (told (.tup []) [0, 1, 2] (obsG rb fb b (fldR 113 s f).2 (fldR 113 s f).1)) (.tup []) (obsG rb fb b (rgo 4 s) { f with req := rnum 4 s }) none_ := ⟨(), trivial, rfl, rfl, Nat.le_of_ble_eq_true rfl, fun h => by cases h⟩
  generalize callPost (told (.tup []) [0, 1, 2] (obsG rb fb b (fldR 113 s f).2 (fldR 113 s f).1)) = Q at *
  generalize rgo 4 s = s1 at *
  generalize rnum 4 s = x1 at *
  refine TCalls.of Tryd.func43 rfl (CanCall.of Tryd.func43 rfl (by decide)) [0, 1, 2] fun Γ => ?_
  refine run_sound (⟨fun | 19, 2 => rsH 0 1 s1 (u32 x1) | _, _ => .no, [], fun  | _ => none⟩) 400 (B := TCalls Tryd.prog 69 [T.ptr 1 fb 0] [(rb, Ob.cells [str (RS.l s), int (RS.e s)]), (fb, Ob.cells [T.ptr 0 rb 0, bool (RS.bad s)])] none_ (callPost (Hint.call false Unit (fun x => True) [0, 1] false (fun x => u32 (↑x1 : Int)) (fun x => obsR rb fb s1) fun x => none_)) ∧ ∀ (a : Unit), True → (1 = nat_lit 1 ∧ List.all (List.map T.v (Array.toList #[Value.int IntKind.u32 (↑x1 : Int)])) T.one = true) ∧ b = b ∧ 14 + nat_lit 1 ≤ 34 ∧ Q (T.tup []) [(rb, Ob.cells [str (RS.l s1), int (RS.e s1)]), (fb, Ob.cells [T.ptr 0 rb 0, bool (RS.bad s1)]), (b, Ob.cells [u8 (Fm.kind f), u8 (Fm.frm f), u8 (Fm.to f), u32 (Fm.ep f), u8 (Fm.key f), u32 (Fm.sn f), u8 (Fm.sb f), u8 (Fm.sl f), bool (Fm.has f), str (Fm.x f), bool (Fm.rmw f), bool (Fm.flag f), u8 (Fm.dir f), u8 (Fm.life f), u32 x1, u32 (Fm.bn f), u8 (Fm.bb f), u32 (Fm.slot f), u8 (Cmd.k (Fm.c f)), u8 (Cmd.n (Fm.c f)), u8 (Cmd.l (Fm.c f)), u32 (Cmd.e (Fm.c f)), u32 (Cmd.q (Fm.c f)), u32 (Fm.ve f), T.sl 3 (List.map (fun x => T.agg (memC x)) (Fm.ms f)), u8 (Lvs.l0 (Fm.lv f)), u8 (Lvs.l1 (Fm.lv f)), u8 (Lvs.l2 (Fm.lv f)), u8 (Lvs.l3 (Fm.lv f)), u8 (Lvs.l4 (Fm.lv f)), u8 (Lvs.l5 (Fm.lv f)), u8 (Lvs.l6 (Fm.lv f)), u8 (Lvs.l7 (Fm.lv f)), T.sl 8 (List.map (fun x => T.agg (entC x)) (Fm.es f))])] fun x => none) (by kernel_rfl) ?_
  repeat' (first | exact rfl | exact Nat.le_of_ble_eq_true rfl | refine And.intro ?_ ?_ | intro _ | refine bsplit_mk (fun _ => ?_) (fun _ => ?_))
  all_goals first
    | exact k0
    | exact hQ
    | trace_state
theorem fld_b : TCalls Tryd.prog 43 [.ptr 1 fb 0, .ptr 2 b 0, .v (.int .i32 98)] (obsG rb fb b s f) none_ (callPost (told (.tup []) [0, 1, 2] (obsG rb fb b (fldR 98 s f).2 (fldR 98 s f).1))) := by
  have k0 := rmk_post rb fb s hs
  have hQ : callPost (told (.tup []) [0, 1, 2] (obsG rb fb b (fldR 98 s f).2 (fldR 98 s f).1)) (.tup []) (obsG rb fb b (markS s) { f with bn := rnum 4 s, bb := rnum 1 (rgo 4 s) }) none_ := ⟨(), trivial, rfl, rfl, Nat.le_of_ble_eq_true rfl, fun h => by cases h⟩
  generalize callPost (told (.tup []) [0, 1, 2] (obsG rb fb b (fldR 98 s f).2 (fldR 98 s f).1)) = Q at *
  generalize markS s = s1 at *
  generalize rnum 1 (rgo 4 s) = x2 at *
  generalize rnum 4 s = x1 at *
  refine TCalls.of Tryd.func43 rfl (CanCall.of Tryd.func43 rfl (by decide)) [0, 1, 2] fun Γ => ?_
  refine run_sound (⟨fun | 21, 2 => rsH 0 1 s1 (.agg (markC x1 x2)) | _, _ => .no, [], fun  | _ => none⟩) 400 (B := TCalls Tryd.prog 70 [T.ptr 1 fb 0] [(rb, Ob.cells [str (RS.l s), int (RS.e s)]), (fb, Ob.cells [T.ptr 0 rb 0, bool (RS.bad s)])] none_ (callPost (Hint.call false Unit (fun x => True) [0, 1] false (fun x => T.agg (markC x1 x2)) (fun x => obsR rb fb s1) fun x => none_)) ∧ ∀ (a : Unit), True → (2 = nat_lit 2 ∧ List.all [u32 x1, u8 x2] T.one = true) ∧ b = b ∧ 15 + nat_lit 2 ≤ 34 ∧ Q (T.tup []) [(rb, Ob.cells [str (RS.l s1), int (RS.e s1)]), (fb, Ob.cells [T.ptr 0 rb 0, bool (RS.bad s1)]), (b, Ob.cells [u8 (Fm.kind f), u8 (Fm.frm f), u8 (Fm.to f), u32 (Fm.ep f), u8 (Fm.key f), u32 (Fm.sn f), u8 (Fm.sb f), u8 (Fm.sl f), bool (Fm.has f), str (Fm.x f), bool (Fm.rmw f), bool (Fm.flag f), u8 (Fm.dir f), u8 (Fm.life f), u32 (Fm.req f), u32 x1, u8 x2, u32 (Fm.slot f), u8 (Cmd.k (Fm.c f)), u8 (Cmd.n (Fm.c f)), u8 (Cmd.l (Fm.c f)), u32 (Cmd.e (Fm.c f)), u32 (Cmd.q (Fm.c f)), u32 (Fm.ve f), T.sl 3 (List.map (fun x => T.agg (memC x)) (Fm.ms f)), u8 (Lvs.l0 (Fm.lv f)), u8 (Lvs.l1 (Fm.lv f)), u8 (Lvs.l2 (Fm.lv f)), u8 (Lvs.l3 (Fm.lv f)), u8 (Lvs.l4 (Fm.lv f)), u8 (Lvs.l5 (Fm.lv f)), u8 (Lvs.l6 (Fm.lv f)), u8 (Lvs.l7 (Fm.lv f)), T.sl 8 (List.map (fun x => T.agg (entC x)) (Fm.es f))])] fun x => none) (by kernel_rfl) ?_
  repeat' (first | exact rfl | exact Nat.le_of_ble_eq_true rfl | refine And.intro ?_ ?_ | intro _ | refine bsplit_mk (fun _ => ?_) (fun _ => ?_))
  all_goals first
    | exact k0
    | exact hQ
    | trace_state
theorem fld_n : TCalls Tryd.prog 43 [.ptr 1 fb 0, .ptr 2 b 0, .v (.int .i32 110)] (obsG rb fb b s f) none_ (callPost (told (.tup []) [0, 1, 2] (obsG rb fb b (fldR 110 s f).2 (fldR 110 s f).1))) := by
  have k0 := rwd_post rb fb s hs
  have hQ : callPost (told (.tup []) [0, 1, 2] (obsG rb fb b (fldR 110 s f).2 (fldR 110 s f).1)) (.tup []) (obsG rb fb b (rgo 4 s) { f with slot := rnum 4 s }) none_ := ⟨(), trivial, rfl, rfl, Nat.le_of_ble_eq_true rfl, fun h => by cases h⟩
  generalize callPost (told (.tup []) [0, 1, 2] (obsG rb fb b (fldR 110 s f).2 (fldR 110 s f).1)) = Q at *
  generalize rgo 4 s = s1 at *
  generalize rnum 4 s = x1 at *
  refine TCalls.of Tryd.func43 rfl (CanCall.of Tryd.func43 rfl (by decide)) [0, 1, 2] fun Γ => ?_
  refine run_sound (⟨fun | 23, 2 => rsH 0 1 s1 (u32 x1) | _, _ => .no, [], fun  | _ => none⟩) 400 (B := TCalls Tryd.prog 69 [T.ptr 1 fb 0] [(rb, Ob.cells [str (RS.l s), int (RS.e s)]), (fb, Ob.cells [T.ptr 0 rb 0, bool (RS.bad s)])] none_ (callPost (Hint.call false Unit (fun x => True) [0, 1] false (fun x => u32 (↑x1 : Int)) (fun x => obsR rb fb s1) fun x => none_)) ∧ ∀ (a : Unit), True → (1 = nat_lit 1 ∧ List.all (List.map T.v (Array.toList #[Value.int IntKind.u32 (↑x1 : Int)])) T.one = true) ∧ b = b ∧ 17 + nat_lit 1 ≤ 34 ∧ Q (T.tup []) [(rb, Ob.cells [str (RS.l s1), int (RS.e s1)]), (fb, Ob.cells [T.ptr 0 rb 0, bool (RS.bad s1)]), (b, Ob.cells [u8 (Fm.kind f), u8 (Fm.frm f), u8 (Fm.to f), u32 (Fm.ep f), u8 (Fm.key f), u32 (Fm.sn f), u8 (Fm.sb f), u8 (Fm.sl f), bool (Fm.has f), str (Fm.x f), bool (Fm.rmw f), bool (Fm.flag f), u8 (Fm.dir f), u8 (Fm.life f), u32 (Fm.req f), u32 (Fm.bn f), u8 (Fm.bb f), u32 x1, u8 (Cmd.k (Fm.c f)), u8 (Cmd.n (Fm.c f)), u8 (Cmd.l (Fm.c f)), u32 (Cmd.e (Fm.c f)), u32 (Cmd.q (Fm.c f)), u32 (Fm.ve f), T.sl 3 (List.map (fun x => T.agg (memC x)) (Fm.ms f)), u8 (Lvs.l0 (Fm.lv f)), u8 (Lvs.l1 (Fm.lv f)), u8 (Lvs.l2 (Fm.lv f)), u8 (Lvs.l3 (Fm.lv f)), u8 (Lvs.l4 (Fm.lv f)), u8 (Lvs.l5 (Fm.lv f)), u8 (Lvs.l6 (Fm.lv f)), u8 (Lvs.l7 (Fm.lv f)), T.sl 8 (List.map (fun x => T.agg (entC x)) (Fm.es f))])] fun x => none) (by kernel_rfl) ?_
  repeat' (first | exact rfl | exact Nat.le_of_ble_eq_true rfl | refine And.intro ?_ ?_ | intro _ | refine bsplit_mk (fun _ => ?_) (fun _ => ?_))
  all_goals first
    | exact k0
    | exact hQ
    | trace_state
theorem fld_c : TCalls Tryd.prog 43 [.ptr 1 fb 0, .ptr 2 b 0, .v (.int .i32 99)] (obsG rb fb b s f) none_ (callPost (told (.tup []) [0, 1, 2] (obsG rb fb b (fldR 99 s f).2 (fldR 99 s f).1))) := by
  have k0 := rcm_post rb fb s hs
  have hQ : callPost (told (.tup []) [0, 1, 2] (obsG rb fb b (fldR 99 s f).2 (fldR 99 s f).1)) (.tup []) (obsG rb fb b (cmdS s) { f with c := cmdR s }) none_ := ⟨(), trivial, rfl, rfl, Nat.le_of_ble_eq_true rfl, fun h => by cases h⟩
  generalize callPost (told (.tup []) [0, 1, 2] (obsG rb fb b (fldR 99 s f).2 (fldR 99 s f).1)) = Q at *
  generalize cmdS s = s1 at *
  generalize cmdR s = x1 at *
  refine TCalls.of Tryd.func43 rfl (CanCall.of Tryd.func43 rfl (by decide)) [0, 1, 2] fun Γ => ?_
  refine run_sound (⟨fun | 25, 2 => rsH 0 1 s1 (.agg (cmdC x1)) | _, _ => .no, [], fun  | _ => none⟩) 400 (B := TCalls Tryd.prog 73 [T.ptr 1 fb 0] [(rb, Ob.cells [str (RS.l s), int (RS.e s)]), (fb, Ob.cells [T.ptr 0 rb 0, bool (RS.bad s)])] none_ (callPost (Hint.call false Unit (fun x => True) [0, 1] false (fun x => T.agg (cmdC x1)) (fun x => obsR rb fb s1) fun x => none_)) ∧ ∀ (a : Unit), True → (5 = nat_lit 5 ∧ List.all [u8 (Cmd.k x1), u8 (Cmd.n x1), u8 (Cmd.l x1), u32 (Cmd.e x1), u32 (Cmd.q x1)] T.one = true) ∧ b = b ∧ 18 + nat_lit 5 ≤ 34 ∧ Q (T.tup []) [(rb, Ob.cells [str (RS.l s1), int (RS.e s1)]), (fb, Ob.cells [T.ptr 0 rb 0, bool (RS.bad s1)]), (b, Ob.cells [u8 (Fm.kind f), u8 (Fm.frm f), u8 (Fm.to f), u32 (Fm.ep f), u8 (Fm.key f), u32 (Fm.sn f), u8 (Fm.sb f), u8 (Fm.sl f), bool (Fm.has f), str (Fm.x f), bool (Fm.rmw f), bool (Fm.flag f), u8 (Fm.dir f), u8 (Fm.life f), u32 (Fm.req f), u32 (Fm.bn f), u8 (Fm.bb f), u32 (Fm.slot f), u8 (Cmd.k x1), u8 (Cmd.n x1), u8 (Cmd.l x1), u32 (Cmd.e x1), u32 (Cmd.q x1), u32 (Fm.ve f), T.sl 3 (List.map (fun x => T.agg (memC x)) (Fm.ms f)), u8 (Lvs.l0 (Fm.lv f)), u8 (Lvs.l1 (Fm.lv f)), u8 (Lvs.l2 (Fm.lv f)), u8 (Lvs.l3 (Fm.lv f)), u8 (Lvs.l4 (Fm.lv f)), u8 (Lvs.l5 (Fm.lv f)), u8 (Lvs.l6 (Fm.lv f)), u8 (Lvs.l7 (Fm.lv f)), T.sl 8 (List.map (fun x => T.agg (entC x)) (Fm.es f))])] fun x => none) (by kernel_rfl) ?_
  repeat' (first | exact rfl | exact Nat.le_of_ble_eq_true rfl | refine And.intro ?_ ?_ | intro _ | refine bsplit_mk (fun _ => ?_) (fun _ => ?_))
  all_goals first
    | exact k0
    | exact hQ
    | trace_state
theorem fld_w : TCalls Tryd.prog 43 [.ptr 1 fb 0, .ptr 2 b 0, .v (.int .i32 119)] (obsG rb fb b s f) none_ (callPost (told (.tup []) [0, 1, 2] (obsG rb fb b (fldR 119 s f).2 (fldR 119 s f).1))) := by
  have k0 := rvw_post rb fb s hs
  have hQ : callPost (told (.tup []) [0, 1, 2] (obsG rb fb b (fldR 119 s f).2 (fldR 119 s f).1)) (.tup []) (obsG rb fb b ((viewR s).2) { f with ve := (viewR s).1.1, ms := (viewR s).1.2.1, lv := (viewR s).1.2.2 }) none_ := ⟨(), trivial, rfl, rfl, Nat.le_of_ble_eq_true rfl, fun h => by cases h⟩
  generalize callPost (told (.tup []) [0, 1, 2] (obsG rb fb b (fldR 119 s f).2 (fldR 119 s f).1)) = Q at *
  generalize (viewR s).2 = s1 at *
  generalize (viewR s).1.1 = x1 at *
  generalize (viewR s).1.2.1 = x2 at *
  generalize (viewR s).1.2.2 = x3 at *
  refine TCalls.of Tryd.func43 rfl (CanCall.of Tryd.func43 rfl (by decide)) [0, 1, 2] fun Γ => ?_
  refine run_sound (⟨fun | 27, 2 => rsH 0 1 s1 (.agg (vwC x1 x2 x3)) | _, _ => .no, [], fun  | _ => none⟩) 400 (B := TCalls Tryd.prog 74 [T.ptr 1 fb 0] [(rb, Ob.cells [str (RS.l s), int (RS.e s)]), (fb, Ob.cells [T.ptr 0 rb 0, bool (RS.bad s)])] none_ (callPost (Hint.call false Unit (fun x => True) [0, 1] false (fun x => T.agg (vwC x1 x2 x3)) (fun x => obsR rb fb s1) fun x => none_)) ∧ ∀ (a : Unit), True → (10 = nat_lit 10 ∧ List.all [u32 x1, T.sl 3 (List.map (fun x => T.agg (memC x)) x2), u8 (Lvs.l0 x3), u8 (Lvs.l1 x3), u8 (Lvs.l2 x3), u8 (Lvs.l3 x3), u8 (Lvs.l4 x3), u8 (Lvs.l5 x3), u8 (Lvs.l6 x3), u8 (Lvs.l7 x3)] T.one = true) ∧ b = b ∧ 23 + nat_lit 10 ≤ 34 ∧ Q (T.tup []) [(rb, Ob.cells [str (RS.l s1), int (RS.e s1)]), (fb, Ob.cells [T.ptr 0 rb 0, bool (RS.bad s1)]), (b, Ob.cells [u8 (Fm.kind f), u8 (Fm.frm f), u8 (Fm.to f), u32 (Fm.ep f), u8 (Fm.key f), u32 (Fm.sn f), u8 (Fm.sb f), u8 (Fm.sl f), bool (Fm.has f), str (Fm.x f), bool (Fm.rmw f), bool (Fm.flag f), u8 (Fm.dir f), u8 (Fm.life f), u32 (Fm.req f), u32 (Fm.bn f), u8 (Fm.bb f), u32 (Fm.slot f), u8 (Cmd.k (Fm.c f)), u8 (Cmd.n (Fm.c f)), u8 (Cmd.l (Fm.c f)), u32 (Cmd.e (Fm.c f)), u32 (Cmd.q (Fm.c f)), u32 x1, T.sl 3 (List.map (fun x => T.agg (memC x)) x2), u8 (Lvs.l0 x3), u8 (Lvs.l1 x3), u8 (Lvs.l2 x3), u8 (Lvs.l3 x3), u8 (Lvs.l4 x3), u8 (Lvs.l5 x3), u8 (Lvs.l6 x3), u8 (Lvs.l7 x3), T.sl 8 (List.map (fun x => T.agg (entC x)) (Fm.es f))])] fun x => none) (by kernel_rfl) ?_
  repeat' (first | exact rfl | exact Nat.le_of_ble_eq_true rfl | refine And.intro ?_ ?_ | intro _ | refine bsplit_mk (fun _ => ?_) (fun _ => ?_))
  all_goals first
    | exact k0
    | exact hQ
    | trace_state
theorem fld_t : TCalls Tryd.prog 43 [.ptr 1 fb 0, .ptr 2 b 0, .v (.int .i32 116)] (obsG rb fb b s f) none_ (callPost (told (.tup []) [0, 1, 2] (obsG rb fb b (fldR 116 s f).2 (fldR 116 s f).1))) := by
  have k0 := ren_post rb fb s hs
  have hQ : callPost (told (.tup []) [0, 1, 2] (obsG rb fb b (fldR 116 s f).2 (fldR 116 s f).1)) (.tup []) (obsG rb fb b ((entsR (cntN 16 s) (cntS 16 s)).2) { f with es := (entsR (cntN 16 s) (cntS 16 s)).1 }) none_ := ⟨(), trivial, rfl, rfl, Nat.le_of_ble_eq_true rfl, fun h => by cases h⟩
  generalize callPost (told (.tup []) [0, 1, 2] (obsG rb fb b (fldR 116 s f).2 (fldR 116 s f).1)) = Q at *
  generalize (entsR (cntN 16 s) (cntS 16 s)).2 = s1 at *
  generalize (entsR (cntN 16 s) (cntS 16 s)).1 = x1 at *
  refine TCalls.of Tryd.func43 rfl (CanCall.of Tryd.func43 rfl (by decide)) [0, 1, 2] fun Γ => ?_
  refine run_sound (⟨fun | 29, 2 => rsH 0 1 s1 (.sl 8 (Row.aggs entC x1)) | _, _ => .no, [], fun  | _ => none⟩) 400 (B := TCalls Tryd.prog 75 [T.ptr 1 fb 0] [(rb, Ob.cells [str (RS.l s), int (RS.e s)]), (fb, Ob.cells [T.ptr 0 rb 0, bool (RS.bad s)])] none_ (callPost (Hint.call false Unit (fun x => True) [0, 1] false (fun x => T.sl 8 (Row.aggs entC x1)) (fun x => obsR rb fb s1) fun x => none_)) ∧ ∀ (a : Unit), True → (1 = nat_lit 1 ∧ List.all [T.sl 8 (List.map (fun x => T.agg (entC x)) x1)] T.one = true) ∧ b = b ∧ 33 + nat_lit 1 ≤ 34 ∧ Q (T.tup []) [(rb, Ob.cells [str (RS.l s1), int (RS.e s1)]), (fb, Ob.cells [T.ptr 0 rb 0, bool (RS.bad s1)]), (b, Ob.cells [u8 (Fm.kind f), u8 (Fm.frm f), u8 (Fm.to f), u32 (Fm.ep f), u8 (Fm.key f), u32 (Fm.sn f), u8 (Fm.sb f), u8 (Fm.sl f), bool (Fm.has f), str (Fm.x f), bool (Fm.rmw f), bool (Fm.flag f), u8 (Fm.dir f), u8 (Fm.life f), u32 (Fm.req f), u32 (Fm.bn f), u8 (Fm.bb f), u32 (Fm.slot f), u8 (Cmd.k (Fm.c f)), u8 (Cmd.n (Fm.c f)), u8 (Cmd.l (Fm.c f)), u32 (Cmd.e (Fm.c f)), u32 (Cmd.q (Fm.c f)), u32 (Fm.ve f), T.sl 3 (List.map (fun x => T.agg (memC x)) (Fm.ms f)), u8 (Lvs.l0 (Fm.lv f)), u8 (Lvs.l1 (Fm.lv f)), u8 (Lvs.l2 (Fm.lv f)), u8 (Lvs.l3 (Fm.lv f)), u8 (Lvs.l4 (Fm.lv f)), u8 (Lvs.l5 (Fm.lv f)), u8 (Lvs.l6 (Fm.lv f)), u8 (Lvs.l7 (Fm.lv f)), T.sl 8 (List.map (fun x => T.agg (entC x)) x1)])] fun x => none) (by kernel_rfl) ?_
  repeat' (first | exact rfl | exact Nat.le_of_ble_eq_true rfl | refine And.intro ?_ ?_ | intro _ | refine bsplit_mk (fun _ => ?_) (fun _ => ?_))
  all_goals first
    | exact k0
    | exact hQ
    | trace_state
theorem fld_k : TCalls Tryd.prog 43 [.ptr 1 fb 0, .ptr 2 b 0, .v (.int .i32 107)] (obsG rb fb b s f) none_ (callPost (told (.tup []) [0, 1, 2] (obsG rb fb b (fldR 107 s f).2 (fldR 107 s f).1))) := by
  have k0 := rsm_post rb fb s hs
  have k1 := rmu_post rb fb (rgo 1 s) (hs.go 1) (decide (rnum 1 s < 6))
  have hQ : callPost (told (.tup []) [0, 1, 2] (obsG rb fb b (fldR 107 s f).2 (fldR 107 s f).1)) (.tup []) (obsG rb fb b (must (decide (rnum 1 s < 6)) (rgo 1 s)) { f with key := rnum 1 s }) none_ := ⟨(), trivial, rfl, rfl, Nat.le_of_ble_eq_true rfl, fun h => by cases h⟩
  generalize callPost (told (.tup []) [0, 1, 2] (obsG rb fb b (fldR 107 s f).2 (fldR 107 s f).1)) = Q at *
  have e1 : bool (decide ((rnum 1 s : Int) < 6)) = bool (decide (rnum 1 s < 6)) := congrArg bool (by rw [Bool.eq_iff_iff, decide_eq_true_eq, decide_eq_true_eq]; omega)
  generalize must (decide (rnum 1 s < 6)) (rgo 1 s) = s2 at *
  generalize decide (rnum 1 s < 6) = c at *
  generalize rnum 1 s = x1 at *
  generalize rgo 1 s = s1 at *
  refine TCalls.of Tryd.func43 rfl (CanCall.of Tryd.func43 rfl (by decide)) [0, 1, 2] fun Γ => ?_
  refine run_sound (⟨fun | 4, 2 => rsH 0 1 s1 (u8 x1) | 5, 5 => .res (bool c) | 5, 6 => rsH 0 1 s2 (.tup []) | _, _ => .no, [], fun  | _ => none⟩) 400 (B := TCalls Tryd.prog 40 [T.ptr 1 fb 0] [(rb, Ob.cells [str (RS.l s), int (RS.e s)]), (fb, Ob.cells [T.ptr 0 rb 0, bool (RS.bad s)])] none_ (callPost (Hint.call false Unit (fun x => True) [0, 1] false (fun x => u8 (↑x1 : Int)) (fun x => obsR rb fb s1) fun x => none_)) ∧ ∀ (a : Unit), True → (1 = nat_lit 1 ∧ List.all (List.map T.v (Array.toList #[Value.int IntKind.u8 (↑x1 : Int)])) T.one = true) ∧ b = b ∧ 4 + nat_lit 1 ≤ 34 ∧ b = b ∧ bool (decide ((↑x1 : Int) < (6 : Int))) = bool c ∧ TCalls Tryd.prog 41 [T.ptr 1 fb 0, bool c] [(rb, Ob.cells [str (RS.l s1), int (RS.e s1)]), (fb, Ob.cells [T.ptr 0 rb 0, bool (RS.bad s1)])] none_ (callPost (Hint.call false Unit (fun x => True) [0, 1] false (fun x => T.tup []) (fun x => obsR rb fb s2) fun x => none_)) ∧ ∀ (a : Unit), True → Q (T.tup []) [(rb, Ob.cells [str (RS.l s2), int (RS.e s2)]), (fb, Ob.cells [T.ptr 0 rb 0, bool (RS.bad s2)]), (b, Ob.cells [u8 (Fm.kind f), u8 (Fm.frm f), u8 (Fm.to f), u32 (Fm.ep f), u8 x1, u32 (Fm.sn f), u8 (Fm.sb f), u8 (Fm.sl f), bool (Fm.has f), str (Fm.x f), bool (Fm.rmw f), bool (Fm.flag f), u8 (Fm.dir f), u8 (Fm.life f), u32 (Fm.req f), u32 (Fm.bn f), u8 (Fm.bb f), u32 (Fm.slot f), u8 (Cmd.k (Fm.c f)), u8 (Cmd.n (Fm.c f)), u8 (Cmd.l (Fm.c f)), u32 (Cmd.e (Fm.c f)), u32 (Cmd.q (Fm.c f)), u32 (Fm.ve f), T.sl 3 (List.map (fun x => T.agg (memC x)) (Fm.ms f)), u8 (Lvs.l0 (Fm.lv f)), u8 (Lvs.l1 (Fm.lv f)), u8 (Lvs.l2 (Fm.lv f)), u8 (Lvs.l3 (Fm.lv f)), u8 (Lvs.l4 (Fm.lv f)), u8 (Lvs.l5 (Fm.lv f)), u8 (Lvs.l6 (Fm.lv f)), u8 (Lvs.l7 (Fm.lv f)), T.sl 8 (List.map (fun x => T.agg (entC x)) (Fm.es f))])] fun x => none) (by kernel_rfl) ?_
  repeat' (first | exact rfl | exact Nat.le_of_ble_eq_true rfl | refine And.intro ?_ ?_ | intro _ | refine bsplit_mk (fun _ => ?_) (fun _ => ?_))
  all_goals first
    | exact k0
    | exact k1
    | exact e1
    | exact hQ
    | trace_state
theorem fld_post (c : Nat) (hc : Frm.isLet c = true) : TCalls Tryd.prog 43 [.ptr 1 fb 0, .ptr 2 b 0, .v (.int .i32 c)] (obsG rb fb b s f) none_ (callPost (told (.tup []) [0, 1, 2] (obsG rb fb b (fldR c s f).2 (fldR c s f).1))) := by
  have : c = 107 ∨ c = 101 ∨ c = 115 ∨ c = 118 ∨ c = 114 ∨ c = 102 ∨ c = 100 ∨ c = 108 ∨ c = 113 ∨ c = 98 ∨ c = 110 ∨ c = 99 ∨ c = 119 ∨ c = 116 := by
    unfold Frm.isLet at hc
    simp at hc
    omega
  rcases this with rfl | rfl | rfl | rfl | rfl | rfl | rfl | rfl | rfl | rfl | rfl | rfl | rfl | rfl
  · exact fld_k rb fb b s hs f
  · exact fld_e rb fb b s hs f
  · exact fld_s rb fb b s hs f
  · exact fld_v rb fb b s hs f
  · exact fld_r rb fb b s hs f
  · exact fld_f rb fb b s hs f
  · exact fld_d rb fb b s hs f
  · exact fld_l rb fb b s hs f
  · exact fld_q rb fb b s hs f
  · exact fld_b rb fb b s hs f
  · exact fld_n rb fb b s hs f
  · exact fld_c rb fb b s hs f
  · exact fld_w rb fb b s hs f
  · exact fld_t rb fb b s hs f
end
end X6
end Go.Proofs.YtaepgceodcdnhaaDoor.Vm
