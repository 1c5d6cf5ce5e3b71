/- Replicas by the engine: no replica; one that is in no view; the law's first words. -/
import Derived.Test.YtafcbipmmjegcaaRpN
namespace Go.Proofs.Ytafcbipmmjegcaa.Vm
open Go Go.RowKit
set_option maxRecDepth 100000
namespace X20
open Rep (Stp Wrd Cel Drv Plc RS Fm Ev setP setC)
open View (Mem VS)
open X5 (viewC lim mems othV hasV firstM firstL first_any)
def nilP : T := .v (.pointer none)
def nilO : T := .agg [.v nilS, .v nilS]
theorem in_nil (Q : T → Obs → Glb → Prop) (hQ : Q (bool false) [] none_) : TCalls Try.prog 33 [nilP] [] none_ Q := by
  refine TCalls.of Try.func33 rfl (CanCall.of Try.func33 rfl (by decide)) [] fun Γ => ?_
  refine run_sound (⟨fun  | _, _ => .no, [], fun | 1 => some ⟨[], [15], .take true [0,1,2,3,4,5,6,7,8,9,10,11,12,13,14] (.one 15 (.take false [16,17] .done))⟩ | _ => none⟩) 400 (B := Q (T.v (Value.bool false)) [] fun x => none) (by kernel_rfl) ?_
  repeat' (first | exact rfl | exact Nat.le_of_ble_eq_true rfl | refine And.intro ?_ ?_ | intro _ | refine bsplit_mk (fun _ => ?_) (fun _ => ?_))
  exact hQ
theorem free_nil (k : Nat) (Q : T → Obs → Glb → Prop) (hQ : Q (bool false) [] none_) : TCalls Try.prog 43 [nilP, u8 k] [] none_ Q := by
  refine TCalls.of Try.func43 rfl (CanCall.of Try.func43 rfl (by decide)) [] fun Γ => ?_
  refine run_sound (⟨fun | 1, 1 => told (bool false) [] [] | _, _ => .no, [], fun  | _ => none⟩) 400 (B := TCalls Try.prog (33 : Nat) [T.v (Value.pointer none)] [] (fun x => none) (callPost (Hint.call false Unit (fun x => True) [] false (fun x => bool false) (fun x => []) fun x => none_)) ∧ ∀ (a : Unit), True → Q (T.v (Value.bool false)) [] fun x => none) (by kernel_rfl) ?_
  repeat' (first | exact rfl | exact Nat.le_of_ble_eq_true rfl | refine And.intro ?_ ?_ | intro _ | refine bsplit_mk (fun _ => ?_) (fun _ => ?_))
  all_goals first
    | exact in_nil _ (told_post rfl)
    | exact hQ
    | trace_state
theorem write_nil (k : Nat) (h : Bool) (t : ByteArray) (w : Bool) (Q : T → Obs → Glb → Prop) (hQ : Q (.tup [nilO, .agg [u32 0, u8 0, u8 0], bool false]) [] none_) : TCalls Try.prog 14 [nilP, u8 k, .agg [bool h, txt t], bool w] [] none_ Q := by
  refine TCalls.of Try.func14 rfl (CanCall.of Try.func14 rfl (by decide)) [] fun Γ => ?_
  refine run_sound (⟨fun | 2, 2 => told (bool false) [] [] | _, _ => .no, [], fun | 8 => some ⟨[], [15, 20], .take true [0,1,2,3,4,5,6,7,8,9,10,11,12,13,14] (.two 15 19 (.take false [16,17,18] (.one 19 (.one 20 (.take false [21] .done)))) (.one 15 (.take false [16,17,18] (.one 20 (.take false [21] .done)))))⟩ | 12 => some ⟨[], [6, 12], .take false [0,1,2,3] (.take true [4,5] (.one 6 (.take false [7,8,9,10,11] (.one 12 .done))))⟩ | 16 => some ⟨[], [3], .take true [0,1] (.one 2 (.one 3 (.take false [4] .done)))⟩ | _ => none⟩) 400 (B := ∀ (b b b_1 b_2 : Nat), TCalls Try.prog 43 [T.v (Value.pointer none), u8 k] [] (fun x => none) (callPost (Hint.call false Unit (fun x => True) [] false (fun x => bool false) (fun x => []) fun x => none_)) ∧ ∀ (a : Unit), True → b_2 = b_2 ∧ (2 = nat_lit 2 ∧ List.all [T.v (Value.slice none 0 0), T.v (Value.slice none 0 0)] T.one = true) ∧ b = b ∧ 0 + nat_lit 2 ≤ 2 ∧ (3 = nat_lit 3 ∧ List.all [u32 (0 : Int), u8 (0 : Int), u8 (0 : Int)] T.one = true) ∧ b_1 = b_1 ∧ 0 + nat_lit 3 ≤ 3 ∧ b = b ∧ b_1 = b_1 ∧ Q (T.tup [T.agg [T.v (Value.slice none 0 0), T.v (Value.slice none 0 0)], T.agg [u32 (0 : Int), u8 (0 : Int), u8 (0 : Int)], bool false]) [] fun x => none) (by kernel_rfl) ?_
  repeat' (first | exact rfl | exact Nat.le_of_ble_eq_true rfl | refine And.intro ?_ ?_ | intro _ | refine bsplit_mk (fun _ => ?_) (fun _ => ?_))
  all_goals first
    | exact free_nil k _ (told_post rfl)
    | exact hQ
    | trace_state
theorem driving_nil (k : Nat) (Q : T → Obs → Glb → Prop) (hQ : Q (.tup [.agg [u32 0, u8 0, u8 0], bool false, bool false]) [] none_) : TCalls Try.prog 18 [nilP, u8 k] [] none_ Q := by
  refine TCalls.of Try.func18 rfl (CanCall.of Try.func18 rfl (by decide)) [] fun Γ => ?_
  refine run_sound (⟨fun _ _ => .no, [], fun _ => none⟩) 400 (B := ∀ (b : Nat), ((3 : Nat) = nat_lit 3 ∧ List.all [T.v (Value.int IntKind.u32 (0 : Int)), T.v (Value.int IntKind.u8 (0 : Int)), T.v (Value.int IntKind.u8 (0 : Int))] T.one = true) ∧ b = b ∧ (0 : Nat) + nat_lit 3 ≤ (3 : Nat) ∧ b = b ∧ Q (T.tup [T.agg [T.v (Value.int IntKind.u32 (0 : Int)), T.v (Value.int IntKind.u8 (0 : Int)), T.v (Value.int IntKind.u8 (0 : Int))], T.v (Value.bool false), T.v (Value.bool false)]) [] fun x => none) (by kernel_rfl) ?_
  repeat' (first | exact rfl | exact Nat.le_of_ble_eq_true rfl | refine And.intro ?_ ?_ | intro _ | refine bsplit_mk (fun _ => ?_) (fun _ => ?_))
  exact hQ
theorem cell_nil (k : Nat) (Q : T → Obs → Glb → Prop) (hQ : Q (.tup [.agg (clC zC), bool false]) [] none_) : TCalls Try.prog 13 [nilP, u8 k] [] none_ Q := by
  refine TCalls.of Try.func13 rfl (CanCall.of Try.func13 rfl (by decide)) [] fun Γ => ?_
  refine run_sound (⟨fun  | _, _ => .no, [], fun | 3 => some ⟨[], [13], .take true [0,1,2,3,4,5,6,7,8,9,10,11] (.one 12 (.one 13 (.take false [14] .done)))⟩ | _ => none⟩) 400 (B := ∀ (b : Nat), (7 = nat_lit 7 ∧ List.all [u32 (0 : Int), u8 (0 : Int), u8 (0 : Int), bool false, T.v (Value.string (ByteArray.mk (#[]))), bool false, int (0 : Int)] T.one = true) ∧ b = b ∧ 0 + nat_lit 7 ≤ 7 ∧ b = b ∧ Q (T.tup [T.agg [u32 (0 : Int), u8 (0 : Int), u8 (0 : Int), bool false, T.v (Value.string (ByteArray.mk (#[]))), bool false, int (0 : Int)], bool false]) [] fun x => none) (by kernel_rfl) ?_
  repeat' (first | exact rfl | exact Nat.le_of_ble_eq_true rfl | refine And.intro ?_ ?_ | intro _ | refine bsplit_mk (fun _ => ?_) (fun _ => ?_))
  exact hQ
theorem complete_nil (Q : T → Obs → Glb → Prop) (hQ : Q (bool false) [] none_) : TCalls Try.prog 19 [nilP] [] none_ Q := by
  refine TCalls.of Try.func19 rfl (CanCall.of Try.func19 rfl (by decide)) [] fun Γ => ?_
  refine run_sound (⟨fun _ _ => .no, [], fun _ => none⟩) 400 (B := Q (T.v (Value.bool false)) [] fun x => none) (by kernel_rfl) ?_
  repeat' (first | exact rfl | exact Nat.le_of_ble_eq_true rfl | refine And.intro ?_ ?_ | intro _ | refine bsplit_mk (fun _ => ?_) (fun _ => ?_))
  exact hQ
theorem view_nil (Q : T → Obs → Glb → Prop) (hQ : Q (.agg [u32 0, .v nilS, u8 0, u8 0, u8 0, u8 0, u8 0, u8 0, u8 0, u8 0]) [] none_) : TCalls Try.prog 20 [nilP] [] none_ Q := by
  refine TCalls.of Try.func20 rfl (CanCall.of Try.func20 rfl (by decide)) [] fun Γ => ?_
  refine run_sound (⟨fun _ _ => .no, [], fun _ => none⟩) 400 (B := ∀ (b : Nat), (10 = nat_lit 10 ∧ List.all [u32 (0 : Int), T.v (Value.slice none 0 0), u8 (0 : Int), u8 (0 : Int), u8 (0 : Int), u8 (0 : Int), u8 (0 : Int), u8 (0 : Int), u8 (0 : Int), u8 (0 : Int)] T.one = true) ∧ b = b ∧ 0 + nat_lit 10 ≤ 10 ∧ b = b ∧ Q (T.agg [u32 (0 : Int), T.v (Value.slice none 0 0), u8 (0 : Int), u8 (0 : Int), u8 (0 : Int), u8 (0 : Int), u8 (0 : Int), u8 (0 : Int), u8 (0 : Int), u8 (0 : Int)]) [] fun x => none) (by kernel_rfl) ?_
  repeat' (first | exact rfl | exact Nat.le_of_ble_eq_true rfl | refine And.intro ?_ ?_ | intro _ | refine bsplit_mk (fun _ => ?_) (fun _ => ?_))
  exact hQ
theorem tick_nil (a c : Int) (l : Bool) (Q : T → Obs → Glb → Prop) (hQ : Q nilO [] none_) : TCalls Try.prog 12 [nilP, int a, int c, bool l] [] none_ Q := by
  refine TCalls.of Try.func12 rfl (CanCall.of Try.func12 rfl (by decide)) [] fun Γ => ?_
  refine run_sound (⟨fun | 2, 1 => told (bool false) [] [] | _, _ => .no, [], fun | 5 => some ⟨[], [6], .take true [0,1,2,3,4] (.take false [8] (.one 5 (.one 6 (.take false [7] .done))))⟩ | _ => none⟩) 400 (B := ∀ (b b_1 : Nat), TCalls Try.prog 33 [T.v (Value.pointer none)] [] (fun x => none) (callPost (Hint.call false Unit (fun x => True) [] false (fun x => bool false) (fun x => []) fun x => none_)) ∧ ∀ (a : Unit), True → b_1 = b_1 ∧ (2 = nat_lit 2 ∧ List.all [T.v (Value.slice none 0 0), T.v (Value.slice none 0 0)] T.one = true) ∧ b = b ∧ 0 + nat_lit 2 ≤ 2 ∧ b = b ∧ Q (T.agg [T.v (Value.slice none 0 0), T.v (Value.slice none 0 0)]) [] fun x => none) (by kernel_rfl) ?_
  repeat' (first | exact rfl | exact Nat.le_of_ble_eq_true rfl | refine And.intro ?_ ?_ | intro _ | refine bsplit_mk (fun _ => ?_) (fun _ => ?_))
  all_goals first
    | exact in_nil _ (told_post rfl)
    | exact hQ
    | trace_state
theorem enter_nil (v : VS) (Q : T → Obs → Glb → Prop) (hQ : Q nilO [] none_) : TCalls Try.prog 10 [nilP, .agg (viewC v)] [] none_ Q := by
  refine TCalls.of Try.func10 rfl (CanCall.of Try.func10 rfl (by decide)) [] fun Γ => ?_
  refine run_sound (⟨fun _ _ => .no, [], fun _ => none⟩) 400 (B := ∀ (b b b_1 : Nat), b_1 = b_1 ∧ ((2 : Nat) = nat_lit 2 ∧ List.all [T.v (Value.slice none (0 : Nat) (0 : Nat)), T.v (Value.slice none (0 : Nat) (0 : Nat))] T.one = true) ∧ b = b ∧ (0 : Nat) + nat_lit 2 ≤ (2 : Nat) ∧ b = b ∧ Q (T.agg [T.v (Value.slice none (0 : Nat) (0 : Nat)), T.v (Value.slice none (0 : Nat) (0 : Nat))]) [] fun x => none) (by kernel_rfl) ?_
  repeat' (first | exact rfl | exact Nat.le_of_ble_eq_true rfl | refine And.intro ?_ ?_ | intro _ | refine bsplit_mk (fun _ => ?_) (fun _ => ?_))
  exact hQ
theorem sender_nil (f : Fm) (Q : T → Obs → Glb → Prop) (hQ : Q (.tup [u8 0, bool false]) [] none_) : TCalls Try.prog 48 [nilP, .agg (frC f)] [] none_ Q := by
  refine TCalls.of Try.func48 rfl (CanCall.of Try.func48 rfl (by decide)) [] fun Γ => ?_
  refine run_sound (⟨fun | 1, 1 => told (bool false) [] [] | _, _ => .no, [], fun | 1 => some ⟨[], [1], .take true [0] (.one 1 (.take false [2,3,4,5,7,8,9] (.two 6 10 (.one 10 (.take false [11,12,13,14,15,17,18,19,20] (.two 16 21 (.one 21 (.take false [22,23,24,25] (.one 26 (.take false [27,28] .done)))) (.one 16 (.take false [22,23,24,25] (.one 26 (.take false [27,28] .done))))))) (.take false [11] (.one 6 (.take false [12,13,14,15,17,18,19,20] (.two 16 21 (.one 21 (.take false [22,23,24,25] (.one 26 (.take false [27,28] .done)))) (.one 16 (.take false [22,23,24,25] (.one 26 (.take false [27,28] .done)))))))))))⟩ | _ => none⟩) 400 (B := ∀ (b : Nat), TCalls Try.prog 33 [T.v (Value.pointer none)] [] (fun x => none) (callPost (Hint.call false Unit (fun x => True) [] false (fun x => bool false) (fun x => []) fun x => none_)) ∧ ∀ (a : Unit), True → ((Q (T.tup [u8 (0 : Int), bool false]) [] fun x => none) ∧ Q (T.tup [u8 (0 : Int), bool false]) [] fun x => none) ∧ (Q (T.tup [u8 (0 : Int), bool false]) [] fun x => none) ∧ Q (T.tup [u8 (0 : Int), bool false]) [] fun x => none) (by kernel_rfl) ?_
  repeat' (first | exact rfl | exact Nat.le_of_ble_eq_true rfl | refine And.intro ?_ ?_ | intro _ | refine bsplit_mk (fun _ => ?_) (fun _ => ?_))
  all_goals first
    | exact in_nil _ (told_post rfl)
    | exact hQ
    | trace_state
theorem on_nil (f : Fm) (l : Bool) (Q : T → Obs → Glb → Prop) (hQ : Q nilO [] none_) : TCalls Try.prog 15 [nilP, .agg (frC f), bool l] [] none_ Q := by
  refine TCalls.of Try.func15 rfl (CanCall.of Try.func15 rfl (by decide)) [] fun Γ => ?_
  refine run_sound (⟨fun | 2, 2 => told (.tup [u8 0, bool false]) [] [] | _, _ => .no, [], fun  | _ => none⟩) 400 (B := ∀ (b b_1 b_2 : Nat), b = b ∧ TCalls Try.prog 48 [T.v (Value.pointer none), T.agg [u8 (Fm.kind f), u8 (Fm.frm f), u8 (Fm.to f), u32 (Fm.epoch f), u8 (Fm.key f), u32 (Stp.n (Wrd.s (Fm.w f))), u8 (Stp.b (Wrd.s (Fm.w f))), u8 (Stp.l (Wrd.s (Fm.w f))), bool (Wrd.h (Fm.w f)), T.v (Value.string (Wrd.t (Fm.w f))), bool (Wrd.r (Fm.w f)), bool (Fm.flag f), u8 (Fm.dir f), u8 (0 : Int), u32 (0 : Int), u32 (0 : Int), u8 (0 : Int), u32 (0 : Int), u8 (0 : Int), u8 (0 : Int), u8 (0 : Int), u32 (0 : Int), u32 (0 : Int), u32 (0 : Int), T.v (Value.slice none 0 0), u8 (0 : Int), u8 (0 : Int), u8 (0 : Int), u8 (0 : Int), u8 (0 : Int), u8 (0 : Int), u8 (0 : Int), u8 (0 : Int), T.v (Value.slice none 0 0)]] [] (fun x => none) (callPost (Hint.call false Unit (fun x => True) [] false (fun x => T.tup [u8 (0 : Int), bool false]) (fun x => []) fun x => none_)) ∧ ∀ (a : Unit), True → b_2 = b_2 ∧ (2 = nat_lit 2 ∧ List.all [T.v (Value.slice none 0 0), T.v (Value.slice none 0 0)] T.one = true) ∧ b_1 = b_1 ∧ 0 + nat_lit 2 ≤ 2 ∧ b_1 = b_1 ∧ Q (T.agg [T.v (Value.slice none 0 0), T.v (Value.slice none 0 0)]) [] fun x => none) (by kernel_rfl) ?_
  repeat' (first | exact rfl | exact Nat.le_of_ble_eq_true rfl | refine And.intro ?_ ?_ | intro _ | refine bsplit_mk (fun _ => ?_) (fun _ => ?_))
  all_goals first
    | exact sender_nil f _ (told_post rfl)
    | exact hQ
    | trace_state
/-! a replica that is in no view -/
theorem tick_out (b : Nat) (every replay : Nat) (lease : Bool) (Q : T → Obs → Glb → Prop) (r : RS) (D : Dr) (gl : Glb) (hl : lim r.v.ms) (hi : Rep.inR r = false) (hQ : Q nilO (obsR b r D) gl) :
    TCalls Try.prog 12 [.ptr 0 b 0, int every, int replay, bool lease] (obsR b r D) gl Q := by
  have hin := in_any b r D hl
  rw [hi] at hin
  refine TCalls.of Try.func12 rfl (CanCall.of Try.func12 rfl (by decide)) [0] fun Γ => ?_
  refine run_sound (⟨fun | 2, 1 => .plainAt [0] (told (bool false) [0] (obsR b r D)) | _, _ => .no, [], fun | 5 => some ⟨[], [6], .take true [0,1,2,3,4] (.take false [8] (.one 5 (.one 6 (.take false [7] .done))))⟩ | _ => none⟩) 400 (B := ∀ (b_1 b_2 : Nat), (List.all (repC r D) noIx = true ∧ True) ∧ TCalls Try.prog 33 [T.ptr 0 b 0] [(b, Ob.cells (repC r D))] (fun x => none) (callPost (Hint.call false Unit (fun x => True) [0] false (fun x => bool false) (fun x => obsR b r D) fun x => none_)) ∧ ∀ (a : Unit), True → (List.all (repC r D) noIx = true ∧ True) ∧ b_2 = b_2 ∧ (2 = nat_lit 2 ∧ List.all [T.v (Value.slice none 0 0), T.v (Value.slice none 0 0)] T.one = true) ∧ b_1 = b_1 ∧ 0 + nat_lit 2 ≤ 2 ∧ b_1 = b_1 ∧ Q (T.agg [T.v (Value.slice none 0 0), T.v (Value.slice none 0 0)]) [(b, Ob.cells (repC r D))] gl) (by kernel_rfl) ?_
  repeat' (first | exact rfl | exact Nat.le_of_ble_eq_true rfl | refine And.intro ?_ ?_ | intro _ | refine bsplit_mk (fun _ => ?_) (fun _ => ?_))
  all_goals first
    | exact hin _ (told_post rfl)
    | exact repC_plain _ _
    | exact True.intro
    | exact hQ
    | trace_state
theorem on_out (b : Nat) (f : Fm) (lease : Bool) (Q : T → Obs → Glb → Prop) (r : RS) (D : Dr) (gl : Glb) (hl : lim r.v.ms) (hi : Rep.inR r = false) (hQ : Q nilO (obsR b r D) gl) :
    TCalls Try.prog 15 [.ptr 0 b 0, .agg (frC f), bool lease] (obsR b r D) gl Q := by
  have hsn := sender_any b r D f hl
  rw [show Rep.sender r f = none by unfold Rep.sender; rw [hi]; simp] at hsn
  refine TCalls.of Try.func15 rfl (CanCall.of Try.func15 rfl (by decide)) [0] fun Γ => ?_
  refine run_sound (⟨fun | 2, 2 => .plainAt [0] (told (.tup [u8 0, bool false]) [0] (obsR b r D)) | _, _ => .no, [], fun  | _ => none⟩) 400 (B := ∀ (b_1 b_2 b_3 : Nat), b_1 = b_1 ∧ (List.all (repC r D) noIx = true ∧ True) ∧ TCalls Try.prog 48 [T.ptr 0 b 0, T.agg [u8 (Fm.kind f), u8 (Fm.frm f), u8 (Fm.to f), u32 (Fm.epoch f), u8 (Fm.key f), u32 (Stp.n (Wrd.s (Fm.w f))), u8 (Stp.b (Wrd.s (Fm.w f))), u8 (Stp.l (Wrd.s (Fm.w f))), bool (Wrd.h (Fm.w f)), T.v (Value.string (Wrd.t (Fm.w f))), bool (Wrd.r (Fm.w f)), bool (Fm.flag f), u8 (Fm.dir f), u8 (0 : Int), u32 (0 : Int), u32 (0 : Int), u8 (0 : Int), u32 (0 : Int), u8 (0 : Int), u8 (0 : Int), u8 (0 : Int), u32 (0 : Int), u32 (0 : Int), u32 (0 : Int), T.v (Value.slice none 0 0), u8 (0 : Int), u8 (0 : Int), u8 (0 : Int), u8 (0 : Int), u8 (0 : Int), u8 (0 : Int), u8 (0 : Int), u8 (0 : Int), T.v (Value.slice none 0 0)]] [(b, Ob.cells (repC r D))] (fun x => none) (callPost (Hint.call false Unit (fun x => True) [0] false (fun x => T.tup [u8 (0 : Int), bool false]) (fun x => obsR b r D) fun x => none_)) ∧ ∀ (a : Unit), True → (List.all (repC r D) noIx = true ∧ True) ∧ b_3 = b_3 ∧ (2 = nat_lit 2 ∧ List.all [T.v (Value.slice none 0 0), T.v (Value.slice none 0 0)] T.one = true) ∧ b_2 = b_2 ∧ 0 + nat_lit 2 ≤ 2 ∧ b_2 = b_2 ∧ Q (T.agg [T.v (Value.slice none 0 0), T.v (Value.slice none 0 0)]) [(b, Ob.cells (repC r D))] gl) (by kernel_rfl) ?_
  repeat' (first | exact rfl | exact Nat.le_of_ble_eq_true rfl | refine And.intro ?_ ?_ | intro _ | refine bsplit_mk (fun _ => ?_) (fun _ => ?_))
  all_goals first
    | exact hsn _ (told_post rfl)
    | exact repC_plain _ D
    | exact True.intro
    | exact hQ
    | trace_state
theorem write_out (b : Nat) (r : RS) (D : Dr) (k : Nat) (h : Bool) (t : ByteArray) (rmw : Bool) (gl : Glb) (ho : Own D r gl) (hl : lim r.v.ms) (hf : Rep.free r k = false) (Q : T → Obs → Glb → Prop) (hQ : Q (.tup [nilO, .agg [u32 0, u8 0, u8 0], bool false]) (obsR b r D) gl) :
    TCalls Try.prog 14 [.ptr 0 b 0, u8 k, .agg [bool h, txt t], bool rmw] (obsR b r D) gl Q := by
  have hfr := free_any b r D k gl ho hl
  rw [hf] at hfr
  refine TCalls.of Try.func14 rfl (CanCall.of Try.func14 rfl (by decide)) [0] fun Γ => ?_
  refine run_sound (⟨fun | 2, 2 => .plainAt [0] (toldG (bool false) [0] (obsR b r D) gl) | _, _ => .no, [], fun | 8 => some ⟨[], [15, 20], .take true [0,1,2,3,4,5,6,7,8,9,10,11,12,13,14] (.two 15 19 (.take false [16,17,18] (.one 19 (.one 20 (.take false [21] .done)))) (.one 15 (.take false [16,17,18] (.one 20 (.take false [21] .done)))))⟩ | 12 => some ⟨[], [6, 12], .take false [0,1,2,3] (.take true [4,5] (.one 6 (.take false [7,8,9,10,11] (.one 12 .done))))⟩ | 16 => some ⟨[], [3], .take true [0,1] (.one 2 (.one 3 (.take false [4] .done)))⟩ | _ => none⟩) 400 (B := ∀ (b_1 b_2 b_3 b_4 : Nat), (List.all (repC r D) noIx = true ∧ True) ∧ TCalls Try.prog 43 [T.ptr 0 b 0, u8 k] [(b, Ob.cells (repC r D))] gl (callPost (Hint.call false Unit (fun x => True) [0] true (fun x => bool false) (fun x => obsR b r D) fun x => gl)) ∧ ∀ (a : Unit), True → (List.all (repC r D) noIx = true ∧ True) ∧ b_4 = b_4 ∧ (2 = nat_lit 2 ∧ List.all [T.v (Value.slice none 0 0), T.v (Value.slice none 0 0)] T.one = true) ∧ b_2 = b_2 ∧ 0 + nat_lit 2 ≤ 2 ∧ (3 = nat_lit 3 ∧ List.all [u32 (0 : Int), u8 (0 : Int), u8 (0 : Int)] T.one = true) ∧ b_3 = b_3 ∧ 0 + nat_lit 3 ≤ 3 ∧ b_2 = b_2 ∧ b_3 = b_3 ∧ Q (T.tup [T.agg [T.v (Value.slice none 0 0), T.v (Value.slice none 0 0)], T.agg [u32 (0 : Int), u8 (0 : Int), u8 (0 : Int)], bool false]) [(b, Ob.cells (repC r D))] gl) (by kernel_rfl) ?_
  repeat' (first | exact rfl | exact Nat.le_of_ble_eq_true rfl | refine And.intro ?_ ?_ | intro _ | refine bsplit_mk (fun _ => ?_) (fun _ => ?_))
  all_goals first
    | exact hfr _ (toldG_post rfl)
    | exact repC_plain _ D
    | exact True.intro
    | exact hQ
    | trace_state
/-! the law's words -/
def vf (n : Nat) : VS := ⟨1, firstM n, firstL n⟩
theorem lfirst_any (n : Nat) (h1 : 1 ≤ n) (h2 : n ≤ 8) (Q : T → Obs → Glb → Prop) (hQ : Q (.agg (viewC (vf n))) [] none_) : TCalls Try.prog 11 [int n] [] none_ Q := by
  refine TCalls.of Try.func11 rfl (CanCall.of Try.func11 rfl (by decide)) [] fun Γ => ?_
  refine run_sound (⟨fun | 1, 1 => told (.tup [.agg (viewC (vf n)), int 0]) [] [] | _, _ => .no, [], fun  | _ => none⟩) 400 (B := ∀ (b : Nat), TCalls Try.prog 36 [int n] [] (fun x => none) (callPost (Hint.call false Unit (fun x => True) [] false (fun x => T.tup [T.agg (viewC (vf n)), int (0 : Int)]) (fun x => []) fun x => none_)) ∧ ∀ (a : Unit), True → ∀ (b_1 : Nat), (10 = nat_lit 10 ∧ List.all [u32 (VS.e (vf n)), T.sl 3 (mems (VS.ms (vf n))), u8 (VS.L (vf n) 0), u8 (VS.L (vf n) 1), u8 (VS.L (vf n) 2), u8 (VS.L (vf n) 3), u8 (VS.L (vf n) 4), u8 (VS.L (vf n) 5), u8 (VS.L (vf n) 6), u8 (VS.L (vf n) 7)] T.one = true) ∧ b_1 = b_1 ∧ 0 + nat_lit 10 ≤ 10 ∧ b_1 = b_1 ∧ (10 = nat_lit 10 ∧ List.all [u32 (VS.e (vf n)), T.sl 3 (mems (VS.ms (vf n))), u8 (VS.L (vf n) 0), u8 (VS.L (vf n) 1), u8 (VS.L (vf n) 2), u8 (VS.L (vf n) 3), u8 (VS.L (vf n) 4), u8 (VS.L (vf n) 5), u8 (VS.L (vf n) 6), u8 (VS.L (vf n) 7)] T.one = true) ∧ b = b ∧ 0 + nat_lit 10 ≤ 10 ∧ b = b ∧ Q (T.agg [u32 (VS.e (vf n)), T.sl 3 (mems (VS.ms (vf n))), u8 (VS.L (vf n) 0), u8 (VS.L (vf n) 1), u8 (VS.L (vf n) 2), u8 (VS.L (vf n) 3), u8 (VS.L (vf n) 4), u8 (VS.L (vf n) 5), u8 (VS.L (vf n) 6), u8 (VS.L (vf n) 7)]) [] fun x => none) (by kernel_rfl) ?_
  repeat' (first | exact rfl | exact Nat.le_of_ble_eq_true rfl | refine And.intro ?_ ?_ | intro _ | refine bsplit_mk (fun _ => ?_) (fun _ => ?_))
  all_goals first
    | exact first_any n _ (fun h => by omega) fun k hk _ _ => told_post (by rw [show k = n by omega]; rfl)
    | exact hQ
    | trace_state
structure Act where
  what : Nat
  kind : Nat
  frm : Nat
  key : Nat
  n : Nat
  b : Nat
  l : Nat
  dir : Nat
  t : ByteArray
  rmw : Bool
  flag : Bool
  lease : Bool
  other : Bool
def acC (x : Act) : List T := [u8 x.what, u8 x.kind, u8 x.frm, u8 x.key, u32 x.n, u8 x.b, u8 x.l, u8 x.dir, txt x.t, bool x.rmw, bool x.flag, bool x.lease, bool x.other]
def frameOf (x : Act) (to : Nat) (epoch : Nat) : Fm := ⟨1 + x.kind % 5, Rep.ad x.frm, Rep.ad to, ((if x.other then (epoch + 1) % 4294967296 else epoch : Nat) : Int), x.key, ⟨⟨x.n, x.b, x.l⟩, true, x.t, x.rmw⟩, x.flag, x.dir⟩
theorem frameOf_any (x : Act) (to epoch : Nat) (he : epoch ≤ 4294967295) (Q : T → Obs → Glb → Prop) (hQ : Q (.agg (frC (frameOf x to epoch))) [] none_) : TCalls Try.prog 21 [.agg (acC x), u8 to, u32 epoch] [] none_ Q := by
  have e1 : IntKind.wrap .u8 (1 + Int.tmod (x.kind : Int) 5) = ((1 + x.kind % 5 : Nat) : Int) := by
    rw [show Int.tmod (x.kind : Int) 5 = ((x.kind % 5 : Nat) : Int) from IntWalk.up_tmod rfl rfl, IntWalk.u8_in _ (by omega)]; omega
  have e2 : IntKind.wrap .u32 ((epoch : Int) + 1) = (((epoch + 1) % 4294967296 : Nat) : Int) := by rw [IntKind.wrap_u32]; omega
  have e3 := ad_w x.frm
  have e4 := ad_w to
  cases ho : x.other with
  | false =>
    unfold frameOf at hQ
    rw [ho] at hQ
    refine TCalls.of Try.func21 rfl (CanCall.of Try.func21 rfl (by decide)) [] fun Γ => ?_
    refine run_sound (⟨fun | 2, 1 => .res (bool false) | _, _ => .no, [], fun  | _ => none⟩) 400 (B := ∀ (b b_1 : Nat), b = b ∧ b = b ∧ b = b ∧ b = b ∧ b = b ∧ b = b ∧ b = b ∧ b = b ∧ b = b ∧ b = b ∧ ∀ (b_2 : Nat), (34 = nat_lit 34 ∧ List.all [u8 (IntKind.wrap IntKind.u8 ((1 : Int) + Int.tmod (↑(Act.kind x) : Int) (5 : Int))), u8 (IntKind.wrap IntKind.u8 ((16 : Int) + (↑(Act.frm x) : Int))), u8 (IntKind.wrap IntKind.u8 ((16 : Int) + (↑to : Int))), u32 epoch, u8 (Act.key x), u32 (Act.n x), u8 (Act.b x), u8 (Act.l x), bool true, T.v (Value.string (Act.t x)), bool (Act.rmw x), bool (Act.flag x), u8 (Act.dir x), u8 (0 : Int), u32 (0 : Int), u32 (0 : Int), u8 (0 : Int), u32 (0 : Int), u8 (0 : Int), u8 (0 : Int), u8 (0 : Int), u32 (0 : Int), u32 (0 : Int), u32 (0 : Int), T.v (Value.slice none 0 0), u8 (0 : Int), u8 (0 : Int), u8 (0 : Int), u8 (0 : Int), u8 (0 : Int), u8 (0 : Int), u8 (0 : Int), u8 (0 : Int), T.v (Value.slice none 0 0)] T.one = true) ∧ b_2 = b_2 ∧ 0 + nat_lit 34 ≤ 34 ∧ b = b ∧ some (bool (Act.other x)) = some (bool false) ∧ b_2 = b_2 ∧ (34 = nat_lit 34 ∧ List.all [u8 (IntKind.wrap IntKind.u8 ((1 : Int) + Int.tmod (↑(Act.kind x) : Int) (5 : Int))), u8 (IntKind.wrap IntKind.u8 ((16 : Int) + (↑(Act.frm x) : Int))), u8 (IntKind.wrap IntKind.u8 ((16 : Int) + (↑to : Int))), u32 epoch, u8 (Act.key x), u32 (Act.n x), u8 (Act.b x), u8 (Act.l x), bool true, T.v (Value.string (Act.t x)), bool (Act.rmw x), bool (Act.flag x), u8 (Act.dir x), u8 (0 : Int), u32 (0 : Int), u32 (0 : Int), u8 (0 : Int), u32 (0 : Int), u8 (0 : Int), u8 (0 : Int), u8 (0 : Int), u32 (0 : Int), u32 (0 : Int), u32 (0 : Int), T.v (Value.slice none 0 0), u8 (0 : Int), u8 (0 : Int), u8 (0 : Int), u8 (0 : Int), u8 (0 : Int), u8 (0 : Int), u8 (0 : Int), u8 (0 : Int), T.v (Value.slice none 0 0)] T.one = true) ∧ b_1 = b_1 ∧ 0 + nat_lit 34 ≤ 34 ∧ b_1 = b_1 ∧ Q (T.agg [u8 (IntKind.wrap IntKind.u8 ((1 : Int) + Int.tmod (↑(Act.kind x) : Int) (5 : Int))), u8 (IntKind.wrap IntKind.u8 ((16 : Int) + (↑(Act.frm x) : Int))), u8 (IntKind.wrap IntKind.u8 ((16 : Int) + (↑to : Int))), u32 epoch, u8 (Act.key x), u32 (Act.n x), u8 (Act.b x), u8 (Act.l x), bool true, T.v (Value.string (Act.t x)), bool (Act.rmw x), bool (Act.flag x), u8 (Act.dir x), u8 (0 : Int), u32 (0 : Int), u32 (0 : Int), u8 (0 : Int), u32 (0 : Int), u8 (0 : Int), u8 (0 : Int), u8 (0 : Int), u32 (0 : Int), u32 (0 : Int), u32 (0 : Int), T.v (Value.slice none 0 0), u8 (0 : Int), u8 (0 : Int), u8 (0 : Int), u8 (0 : Int), u8 (0 : Int), u8 (0 : Int), u8 (0 : Int), u8 (0 : Int), T.v (Value.slice none 0 0)]) [] fun x => none) (by kernel_rfl) ?_
    rw [e1, e3, e4]
    repeat' (first | exact rfl | exact Nat.le_of_ble_eq_true rfl | refine And.intro ?_ ?_ | intro _ | refine bsplit_mk (fun _ => ?_) (fun _ => ?_))
    all_goals first
      | exact congrArg (fun b => some (bool b)) ho
      | exact hQ
      | trace_state
  | true =>
    unfold frameOf at hQ
    rw [ho] at hQ
    refine TCalls.of Try.func21 rfl (CanCall.of Try.func21 rfl (by decide)) [] fun Γ => ?_
    refine run_sound (⟨fun | 2, 1 => .res (bool true) | _, _ => .no, [], fun  | _ => none⟩) 400 (B := ∀ (b b_1 : Nat), b = b ∧ b = b ∧ b = b ∧ b = b ∧ b = b ∧ b = b ∧ b = b ∧ b = b ∧ b = b ∧ b = b ∧ ∀ (b_2 : Nat), (34 = nat_lit 34 ∧ List.all [u8 (IntKind.wrap IntKind.u8 ((1 : Int) + Int.tmod (↑(Act.kind x) : Int) (5 : Int))), u8 (IntKind.wrap IntKind.u8 ((16 : Int) + (↑(Act.frm x) : Int))), u8 (IntKind.wrap IntKind.u8 ((16 : Int) + (↑to : Int))), u32 epoch, u8 (Act.key x), u32 (Act.n x), u8 (Act.b x), u8 (Act.l x), bool true, T.v (Value.string (Act.t x)), bool (Act.rmw x), bool (Act.flag x), u8 (Act.dir x), u8 (0 : Int), u32 (0 : Int), u32 (0 : Int), u8 (0 : Int), u32 (0 : Int), u8 (0 : Int), u8 (0 : Int), u8 (0 : Int), u32 (0 : Int), u32 (0 : Int), u32 (0 : Int), T.v (Value.slice none 0 0), u8 (0 : Int), u8 (0 : Int), u8 (0 : Int), u8 (0 : Int), u8 (0 : Int), u8 (0 : Int), u8 (0 : Int), u8 (0 : Int), T.v (Value.slice none 0 0)] T.one = true) ∧ b_2 = b_2 ∧ 0 + nat_lit 34 ≤ 34 ∧ b = b ∧ some (bool (Act.other x)) = some (bool true) ∧ b_2 = b_2 ∧ (1 = nat_lit 1 ∧ List.all (List.map T.v (Array.toList #[Value.int IntKind.u32 (IntKind.wrap IntKind.u32 ((↑epoch : Int) + (1 : Int)))])) T.one = true) ∧ b_2 = b_2 ∧ 3 + nat_lit 1 ≤ 34 ∧ b_2 = b_2 ∧ (34 = nat_lit 34 ∧ List.all [u8 (IntKind.wrap IntKind.u8 ((1 : Int) + Int.tmod (↑(Act.kind x) : Int) (5 : Int))), u8 (IntKind.wrap IntKind.u8 ((16 : Int) + (↑(Act.frm x) : Int))), u8 (IntKind.wrap IntKind.u8 ((16 : Int) + (↑to : Int))), u32 (IntKind.wrap IntKind.u32 ((↑epoch : Int) + (1 : Int))), u8 (Act.key x), u32 (Act.n x), u8 (Act.b x), u8 (Act.l x), bool true, T.v (Value.string (Act.t x)), bool (Act.rmw x), bool (Act.flag x), u8 (Act.dir x), u8 (0 : Int), u32 (0 : Int), u32 (0 : Int), u8 (0 : Int), u32 (0 : Int), u8 (0 : Int), u8 (0 : Int), u8 (0 : Int), u32 (0 : Int), u32 (0 : Int), u32 (0 : Int), T.v (Value.slice none 0 0), u8 (0 : Int), u8 (0 : Int), u8 (0 : Int), u8 (0 : Int), u8 (0 : Int), u8 (0 : Int), u8 (0 : Int), u8 (0 : Int), T.v (Value.slice none 0 0)] T.one = true) ∧ b_1 = b_1 ∧ 0 + nat_lit 34 ≤ 34 ∧ b_1 = b_1 ∧ Q (T.agg [u8 (IntKind.wrap IntKind.u8 ((1 : Int) + Int.tmod (↑(Act.kind x) : Int) (5 : Int))), u8 (IntKind.wrap IntKind.u8 ((16 : Int) + (↑(Act.frm x) : Int))), u8 (IntKind.wrap IntKind.u8 ((16 : Int) + (↑to : Int))), u32 (IntKind.wrap IntKind.u32 ((↑epoch : Int) + (1 : Int))), u8 (Act.key x), u32 (Act.n x), u8 (Act.b x), u8 (Act.l x), bool true, T.v (Value.string (Act.t x)), bool (Act.rmw x), bool (Act.flag x), u8 (Act.dir x), u8 (0 : Int), u32 (0 : Int), u32 (0 : Int), u8 (0 : Int), u32 (0 : Int), u8 (0 : Int), u8 (0 : Int), u8 (0 : Int), u32 (0 : Int), u32 (0 : Int), u32 (0 : Int), T.v (Value.slice none 0 0), u8 (0 : Int), u8 (0 : Int), u8 (0 : Int), u8 (0 : Int), u8 (0 : Int), u8 (0 : Int), u8 (0 : Int), u8 (0 : Int), T.v (Value.slice none 0 0)]) [] fun x => none) (by kernel_rfl) ?_
    rw [e1, e2, e3, e4]
    repeat' (first | exact rfl | exact Nat.le_of_ble_eq_true rfl | refine And.intro ?_ ?_ | intro _ | refine bsplit_mk (fun _ => ?_) (fun _ => ?_))
    all_goals first
      | exact congrArg (fun b => some (bool b)) ho
      | exact hQ
      | trace_state
end X20
end Go.Proofs.Ytafcbipmmjegcaa.Vm
