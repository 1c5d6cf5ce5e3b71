/- Texts of this claim: AcR, AcT, Srt. -/
import Derived.Test.YtcmcmafeaabjmaaMg15
import Derived.Test.YtcmcmafeaabjmaaMg23
import Derived.Shelf.SlSortCmp.WholeK
import Derived.Test.YtcmcmafeaabjmaaProg
import Derived.KernelRfl
namespace Go.Proofs.Ytcmcmafeaabjmaa.Vm
open Go Go.RowKit
set_option maxRecDepth 100000
noncomputable abbrev kAcR0 (l : List Nat) : It := .code (sub (bd Try.f28) l)
noncomputable abbrev wAcR1 (Γ : Ctx) (Q : T → Obs → Glb → Prop) : List It → S → Prop := TWk Try.prog Γ (fin Try.prog Try.f28 [] Q)
namespace X11
open Acp (En AS Rc blw VOk IsE XOk RE RA fromR insR)
open View (VS Mem)
def raZ : List T := [u32 0, u8 0, u8 0, u32 0, .v nilS]
section
variable (Γ : Ctx) (b4 b5 b8 low : Nat) (E : List T) (n b slot c : Nat) (Q : T → Obs → Glb → Prop)
theorem ra1 (k : Nat) (hk : k < E.length) (hm : E.length ≤ 1000) (r : RE) (hat : E[((k : Nat) : Int).toNat]? = some (.agg (reC r))) (h : slot < r.slot) (D : List T) (hD : D.length ≤ 10000) (hd : Value) (nx : ∀ hd, wAcR1 Γ Q [kAcR0 [1,1,1,1,1,1,1,0,1,0], .blk 0, kAcR0 [1,1,1,1,1,1,1,1]] ⟨frame 81 [(2, u32 slot), (3, u32 c), (4, .ptr 0 b4 0), (5, .ptr 1 b5 0), (8, .ptr 2 b8 0), (10, .slx 5 3 (D ++ [T.agg [u32 slot, u32 n, u8 b, u8 0, u32 c]] ++ [T.agg [u32 r.slot, u32 r.n, u8 r.b, u8 0, u32 r.c]]) hd), (11, bool true), (12, int (k + 1 : Nat))], [(b4, .cells (raT n b low E)), (b5, .cells [u32 n, u8 b, u8 0]), (b8, .cells raZ), (0, .room 5 113 (D ++ [T.agg [u32 slot, u32 n, u8 b, u8 0, u32 c]] ++ [T.agg [u32 r.slot, u32 r.n, u8 r.b, u8 0, u32 r.c]]).length hd)], none_⟩) : wAcR1 Γ Q [kAcR0 [1,1,1,1,1,1,1,0,1,0], .blk 0, kAcR0 [1,1,1,1,1,1,1,1]] ⟨frame 81 [(2, u32 slot), (3, u32 c), (4, .ptr 0 b4 0), (5, .ptr 1 b5 0), (8, .ptr 2 b8 0), (10, .slx 5 3 (D) hd), (11, bool false), (12, int k)], [(b4, .cells (raT n b low E)), (b5, .cells [u32 n, u8 b, u8 0]), (b8, .cells raZ), (0, .room 5 113 (D).length hd)], none_⟩ := by
  have hw : T.v (.int .i64 (IntKind.wrap .i64 ((k : Int) + 1))) = int (k + 1 : Nat) := congrArg int (by rw [wrap_i64 (by omega) (by omega)]; omega)
  have nx := fun (b13 : Nat) hd => TWk.imp (s := ⟨frame 81 [(2, u32 slot), (3, u32 c), (4, .ptr 0 b4 0), (5, .ptr 1 b5 0), (8, .ptr 2 b8 0), (10, .slx 5 3 (D ++ [T.agg [u32 slot, u32 n, u8 b, u8 0, u32 c]] ++ [T.agg [u32 r.slot, u32 r.n, u8 r.b, u8 0, u32 r.c]]) hd), (11, bool true), (12, int (k + 1 : Nat))], [(b4, .cells (raT n b low E)), (b5, .cells [u32 n, u8 b, u8 0]), (b8, .cells raZ), (0, .room 5 113 (D ++ [T.agg [u32 slot, u32 n, u8 b, u8 0, u32 c]] ++ [T.agg [u32 r.slot, u32 r.n, u8 r.b, u8 0, u32 r.c]]).length hd)] ++ [(b13, .cells [u32 r.slot, u32 r.n, u8 r.b, u8 0, u32 r.c])], none_⟩) (nx hd) (Imp.take 4)
  let HH : Nat → Nat → Hint := fun | 13, 3 => .res (.agg (reC r)) | 12, 1 => .res (int (k + 1 : Nat)) | _, _ => .no
  let z0 := (b8, Ob.cells [u32 (0 : Int), u8 (0 : Int), u8 (0 : Int), u32 (0 : Int), T.v (Value.slice none 0 0)])
  let z7 := sub (bd Try.f28) [1,1,1,1,1,1,1,1]
  let z1 := [kAcR0 [1,1,1,1,1,1,1,0,1,0], It.blk 0, It.code z7]
  let z2 := [u32 r.slot, u32 r.n, u8 r.b, u8 (0 : Int), u32 r.c]
  let z3 := (b4, Ob.cells [u32 n, u8 b, u8 (0 : Int), u32 low, T.sl 5 E])
  let z4 := (b5, Ob.cells [u32 n, u8 b, u8 (0 : Int)])
  let z5 := D ++ [T.agg [u32 slot, u32 n, u8 b, u8 (0 : Int), u32 c]]
  let z6 := fin Try.prog Try.f28 [] Q
  exact run_sound ⟨HH, [((2, 11), ([2,3,4,5,8,10,11,12], 5)), ((0, 19), ([2,3,4,5,8,10,11], 4))], fun  | _ => none⟩ 400 (by kernel_rfl) (Yb b4 (Ys (decide ((↑k : Int) < (↑(List.length E) : Int))) (fun Z0 => (Yb b4 (Ya (show (0 : Int) ≤ (↑k : Int) by omega) (Ya hat (fun (Z1 : Nat) => (Yk 5 Z1 (Yb Z1 (Ys (decide ((↑r.slot : Int) ≥ (↑slot : Int))) (fun Z2 => (Yb b5 (Ya (Yb hd (Ye (List.length D))) (Ya (Ya (show (List.length D + 1) * nat_lit 16 ≤ 140737488355328 by simp only [maxLen, List.length_append, List.length_cons, List.length_nil]; omega) (show List.length D + 1 ≤ maxLen by simp only [maxLen, List.length_append, List.length_cons, List.length_nil]; omega)) (fun (Z3 : Value) => (Yb Z1 (Ys ((↑r.slot : Int) != (↑slot : Int)) (fun Z4 => (Yb Z1 (Ya (Yb Z3 (Ye (List.length z5))) (Ya (Ya (show (List.length (D ++ [T.agg [u32 slot, u32 n, u8 b, u8 (0 : Int), u32 c]]) + 1) * nat_lit 16 ≤ 140737488355328 by simp only [maxLen, List.length_append, List.length_cons, List.length_nil]; omega) (show List.length (D ++ [T.agg [u32 slot, u32 n, u8 b, u8 (0 : Int), u32 c]]) + 1 ≤ maxLen by simp only [maxLen, List.length_append, List.length_cons, List.length_nil]; omega)) (fun (Z5 : Value) => (Ya hw (nx Z1 Z5))))))) (fun Z6 => (Ya hw (show TWk Try.prog Γ z6 z1 (S.mk (frame 81 [(2, u32 slot), (3, u32 c), (4, T.ptr 0 b4 0), (5, T.ptr 1 b5 0), (8, T.ptr 2 b8 0), (10, T.slx 5 3 z5 Z3), (11, bool true), (12, int (k + 1))]) [z3, z4, z0, (0, Ob.room 5 113 (List.length z5) Z3), (Z1, Ob.cells z2)] fun x => none) by exfalso; simp at *; omega)))))))))) (fun Z7 => (Yb Z1 (Ys ((↑r.slot : Int) != (↑slot : Int)) (fun Z8 => (Yb Z1 (Ya (Yb hd (Ye (List.length D))) (Ya (show Fits (List.length D + 1) (nat_lit 16) by exfalso; simp at *; omega) (fun (Z9 : Value) => (Ya hw (show TWk Try.prog Γ z6 z1 (S.mk (frame 81 [(2, u32 slot), (3, u32 c), (4, T.ptr 0 b4 0), (5, T.ptr 1 b5 0), (8, T.ptr 2 b8 0), (10, T.slx 5 3 (D ++ [T.agg z2]) Z9), (11, bool false), (12, int (k + 1))]) [z3, z4, z0, (0, Ob.room 5 113 (List.length (D ++ [T.agg z2])) Z9), (Z1, Ob.cells z2)] fun x => none) by exfalso; simp at *; omega))))))) (fun Z10 => (Ya hw (show TWk Try.prog Γ z6 z1 (S.mk (frame 81 [(2, u32 slot), (3, u32 c), (4, T.ptr 0 b4 0), (5, T.ptr 1 b5 0), (8, T.ptr 2 b8 0), (10, T.slx 5 3 D hd), (11, bool false), (12, int (k + 1))]) [z3, z4, z0, (0, Ob.room 5 113 (List.length D) hd), (Z1, Ob.cells z2)] fun x => none) by exfalso; simp at *; omega)))))))))))))) (fun Z11 => (show TWk Try.prog Γ z6 [It.code z7] (S.mk (frame 81 [(2, u32 slot), (3, u32 c), (4, T.ptr 0 b4 0), (5, T.ptr 1 b5 0), (8, T.ptr 2 b8 0), (10, T.slx 5 3 D hd), (11, bool false)]) [z3, z4, z0, (0, Ob.room 5 113 (List.length D) hd)] fun x => none) by exfalso; have := of_decide_eq_false Z11; omega))))
theorem ra2 (k : Nat) (hk : k < E.length) (hm : E.length ≤ 1000) (r : RE) (hat : E[((k : Nat) : Int).toNat]? = some (.agg (reC r))) (h : slot = r.slot) (D : List T) (hD : D.length ≤ 10000) (hd : Value) (nx : ∀ hd, wAcR1 Γ Q [kAcR0 [1,1,1,1,1,1,1,0,1,0], .blk 0, kAcR0 [1,1,1,1,1,1,1,1]] ⟨frame 81 [(2, u32 slot), (3, u32 c), (4, .ptr 0 b4 0), (5, .ptr 1 b5 0), (8, .ptr 2 b8 0), (10, .slx 5 3 (D ++ [T.agg [u32 slot, u32 n, u8 b, u8 0, u32 c]]) hd), (11, bool true), (12, int (k + 1 : Nat))], [(b4, .cells (raT n b low E)), (b5, .cells [u32 n, u8 b, u8 0]), (b8, .cells raZ), (0, .room 5 113 (D ++ [T.agg [u32 slot, u32 n, u8 b, u8 0, u32 c]]).length hd)], none_⟩) : wAcR1 Γ Q [kAcR0 [1,1,1,1,1,1,1,0,1,0], .blk 0, kAcR0 [1,1,1,1,1,1,1,1]] ⟨frame 81 [(2, u32 slot), (3, u32 c), (4, .ptr 0 b4 0), (5, .ptr 1 b5 0), (8, .ptr 2 b8 0), (10, .slx 5 3 (D) hd), (11, bool false), (12, int k)], [(b4, .cells (raT n b low E)), (b5, .cells [u32 n, u8 b, u8 0]), (b8, .cells raZ), (0, .room 5 113 (D).length hd)], none_⟩ := by
  have hw : T.v (.int .i64 (IntKind.wrap .i64 ((k : Int) + 1))) = int (k + 1 : Nat) := congrArg int (by rw [wrap_i64 (by omega) (by omega)]; omega)
  have nx := fun (b13 : Nat) hd => TWk.imp (s := ⟨frame 81 [(2, u32 slot), (3, u32 c), (4, .ptr 0 b4 0), (5, .ptr 1 b5 0), (8, .ptr 2 b8 0), (10, .slx 5 3 (D ++ [T.agg [u32 slot, u32 n, u8 b, u8 0, u32 c]]) hd), (11, bool true), (12, int (k + 1 : Nat))], [(b4, .cells (raT n b low E)), (b5, .cells [u32 n, u8 b, u8 0]), (b8, .cells raZ), (0, .room 5 113 (D ++ [T.agg [u32 slot, u32 n, u8 b, u8 0, u32 c]]).length hd)] ++ [(b13, .cells [u32 r.slot, u32 r.n, u8 r.b, u8 0, u32 r.c])], none_⟩) (nx hd) (Imp.take 4)
  let HH : Nat → Nat → Hint := fun | 13, 3 => .res (.agg (reC r)) | 12, 1 => .res (int (k + 1 : Nat)) | _, _ => .no
  let z0 := (b8, Ob.cells [u32 (0 : Int), u8 (0 : Int), u8 (0 : Int), u32 (0 : Int), T.v (Value.slice none 0 0)])
  let z1 := [u32 r.slot, u32 r.n, u8 r.b, u8 (0 : Int), u32 r.c]
  let z7 := sub (bd Try.f28) [1,1,1,1,1,1,1,1]
  let z2 := [kAcR0 [1,1,1,1,1,1,1,0,1,0], It.blk 0, It.code z7]
  let z3 := (b4, Ob.cells [u32 n, u8 b, u8 (0 : Int), u32 low, T.sl 5 E])
  let z4 := [T.agg [u32 slot, u32 n, u8 b, u8 (0 : Int), u32 c]]
  let z5 := (b5, Ob.cells [u32 n, u8 b, u8 (0 : Int)])
  let z6 := fin Try.prog Try.f28 [] Q
  exact run_sound ⟨HH, [((2, 11), ([2,3,4,5,8,10,11,12], 5)), ((0, 19), ([2,3,4,5,8,10,11], 4))], fun  | _ => none⟩ 400 (by kernel_rfl) (Yb b4 (Ys (decide ((↑k : Int) < (↑(List.length E) : Int))) (fun Z0 => (Yb b4 (Ya (show (0 : Int) ≤ (↑k : Int) by omega) (Ya hat (fun (Z1 : Nat) => (Yk 5 Z1 (Yb Z1 (Ys (decide ((↑r.slot : Int) ≥ (↑slot : Int))) (fun Z2 => (Yb b5 (Ya (Yb hd (Ye (List.length D))) (Ya (Ya (show (List.length D + 1) * nat_lit 16 ≤ 140737488355328 by simp only [maxLen, List.length_append, List.length_cons, List.length_nil]; omega) (show List.length D + 1 ≤ maxLen by simp only [maxLen, List.length_append, List.length_cons, List.length_nil]; omega)) (fun (Z3 : Value) => (Yb Z1 (Ys ((↑r.slot : Int) != (↑slot : Int)) (fun Z4 => (Yb Z1 (Ya (Yb Z3 (Ye (List.length (D ++ z4)))) (Ya (show Fits (List.length (D ++ z4) + 1) (nat_lit 16) by exfalso; simp at *; omega) (fun (Z5 : Value) => (Ya hw (show TWk Try.prog Γ z6 z2 (S.mk (frame 81 [(2, u32 slot), (3, u32 c), (4, T.ptr 0 b4 0), (5, T.ptr 1 b5 0), (8, T.ptr 2 b8 0), (10, T.slx 5 3 (D ++ z4 ++ [T.agg z1]) Z5), (11, bool true), (12, int (k + 1))]) [z3, z5, z0, (0, Ob.room 5 113 (List.length (D ++ z4 ++ [T.agg z1])) Z5), (Z1, Ob.cells z1)] fun x => none) by exfalso; simp at *; omega))))))) (fun Z6 => (Ya hw (nx Z1 Z3)))))))))) (fun Z7 => (Yb Z1 (Ys ((↑r.slot : Int) != (↑slot : Int)) (fun Z8 => (Yb Z1 (Ya (Yb hd (Ye (List.length D))) (Ya (show Fits (List.length D + 1) (nat_lit 16) by exfalso; simp at *; omega) (fun (Z9 : Value) => (Ya hw (show TWk Try.prog Γ z6 z2 (S.mk (frame 81 [(2, u32 slot), (3, u32 c), (4, T.ptr 0 b4 0), (5, T.ptr 1 b5 0), (8, T.ptr 2 b8 0), (10, T.slx 5 3 (D ++ [T.agg z1]) Z9), (11, bool false), (12, int (k + 1))]) [z3, z5, z0, (0, Ob.room 5 113 (List.length (D ++ [T.agg z1])) Z9), (Z1, Ob.cells z1)] fun x => none) by exfalso; simp at *; omega))))))) (fun Z10 => (Ya hw (show TWk Try.prog Γ z6 z2 (S.mk (frame 81 [(2, u32 slot), (3, u32 c), (4, T.ptr 0 b4 0), (5, T.ptr 1 b5 0), (8, T.ptr 2 b8 0), (10, T.slx 5 3 D hd), (11, bool false), (12, int (k + 1))]) [z3, z5, z0, (0, Ob.room 5 113 (List.length D) hd), (Z1, Ob.cells z1)] fun x => none) by exfalso; simp at *; omega)))))))))))))) (fun Z11 => (show TWk Try.prog Γ z6 [It.code z7] (S.mk (frame 81 [(2, u32 slot), (3, u32 c), (4, T.ptr 0 b4 0), (5, T.ptr 1 b5 0), (8, T.ptr 2 b8 0), (10, T.slx 5 3 D hd), (11, bool false)]) [z3, z5, z0, (0, Ob.room 5 113 (List.length D) hd)] fun x => none) by exfalso; have := of_decide_eq_false Z11; omega))))
theorem ra3 (k : Nat) (hk : k < E.length) (hm : E.length ≤ 1000) (r : RE) (hat : E[((k : Nat) : Int).toNat]? = some (.agg (reC r))) (h : r.slot < slot) (D : List T) (hD : D.length ≤ 10000) (hd : Value) (nx : ∀ hd, wAcR1 Γ Q [kAcR0 [1,1,1,1,1,1,1,0,1,0], .blk 0, kAcR0 [1,1,1,1,1,1,1,1]] ⟨frame 81 [(2, u32 slot), (3, u32 c), (4, .ptr 0 b4 0), (5, .ptr 1 b5 0), (8, .ptr 2 b8 0), (10, .slx 5 3 (D ++ [T.agg [u32 r.slot, u32 r.n, u8 r.b, u8 0, u32 r.c]]) hd), (11, bool false), (12, int (k + 1 : Nat))], [(b4, .cells (raT n b low E)), (b5, .cells [u32 n, u8 b, u8 0]), (b8, .cells raZ), (0, .room 5 113 (D ++ [T.agg [u32 r.slot, u32 r.n, u8 r.b, u8 0, u32 r.c]]).length hd)], none_⟩) : wAcR1 Γ Q [kAcR0 [1,1,1,1,1,1,1,0,1,0], .blk 0, kAcR0 [1,1,1,1,1,1,1,1]] ⟨frame 81 [(2, u32 slot), (3, u32 c), (4, .ptr 0 b4 0), (5, .ptr 1 b5 0), (8, .ptr 2 b8 0), (10, .slx 5 3 (D) hd), (11, bool false), (12, int k)], [(b4, .cells (raT n b low E)), (b5, .cells [u32 n, u8 b, u8 0]), (b8, .cells raZ), (0, .room 5 113 (D).length hd)], none_⟩ := by
  have hw : T.v (.int .i64 (IntKind.wrap .i64 ((k : Int) + 1))) = int (k + 1 : Nat) := congrArg int (by rw [wrap_i64 (by omega) (by omega)]; omega)
  have nx := fun (b13 : Nat) hd => TWk.imp (s := ⟨frame 81 [(2, u32 slot), (3, u32 c), (4, .ptr 0 b4 0), (5, .ptr 1 b5 0), (8, .ptr 2 b8 0), (10, .slx 5 3 (D ++ [T.agg [u32 r.slot, u32 r.n, u8 r.b, u8 0, u32 r.c]]) hd), (11, bool false), (12, int (k + 1 : Nat))], [(b4, .cells (raT n b low E)), (b5, .cells [u32 n, u8 b, u8 0]), (b8, .cells raZ), (0, .room 5 113 (D ++ [T.agg [u32 r.slot, u32 r.n, u8 r.b, u8 0, u32 r.c]]).length hd)] ++ [(b13, .cells [u32 r.slot, u32 r.n, u8 r.b, u8 0, u32 r.c])], none_⟩) (nx hd) (Imp.take 4)
  let HH : Nat → Nat → Hint := fun | 13, 3 => .res (.agg (reC r)) | 12, 1 => .res (int (k + 1 : Nat)) | _, _ => .no
  let z3 := (b4, Ob.cells [u32 n, u8 b, u8 (0 : Int), u32 low, T.sl 5 E])
  let z1 := (b8, Ob.cells [u32 (0 : Int), u8 (0 : Int), u8 (0 : Int), u32 (0 : Int), T.v (Value.slice none 0 0)])
  let z0 := fun (Z1 : Nat) => [z3, (b5, Ob.cells [u32 n, u8 b, u8 (0 : Int)]), z1, (0, Ob.room 5 113 (List.length D) hd), (Z1, Ob.cells [u32 r.slot, u32 r.n, u8 r.b, u8 (0 : Int), u32 r.c])]
  let z2 := sub (bd Try.f28) [1,1,1,1,1,1,1,1]
  let z4 := fin Try.prog Try.f28 [] Q
  let z5 := sub (bd Try.f28) [1,1,1,1,1,1,1,0,1,0]
  exact run_sound ⟨HH, [((2, 11), ([2,3,4,5,8,10,11,12], 5)), ((0, 19), ([2,3,4,5,8,10,11], 4)), ((0, 15), ([2,3,4,5,8,10,12,13], 5))], fun  | _ => none⟩ 400 (by kernel_rfl) (Yb b4 (Ys (decide ((↑k : Int) < (↑(List.length E) : Int))) (fun Z0 => (Yb b4 (Ya (show (0 : Int) ≤ (↑k : Int) by omega) (Ya hat (fun (Z1 : Nat) => (Yk 5 Z1 (Yb Z1 (Ys (decide ((↑r.slot : Int) ≥ (↑slot : Int))) (fun Z2 => (show TWk Try.prog Γ z4 [kAcR0 [1,1,1,1,1,1,1,0,1,0,0,1,0,0,1,0,1,0], kAcR0 [1,1,1,1,1,1,1,0,1,0,0,1,0,0,1,1], It.blk 1, kAcR0 [1,1,1,1,1,1,1,0,1,0,0,1,1], It.code z5, It.blk 0, It.code z2] (S.mk (frame 81 [(2, u32 slot), (3, u32 c), (4, T.ptr 0 b4 0), (5, T.ptr 1 b5 0), (8, T.ptr 2 b8 0), (10, T.slx 5 3 D hd), (12, int k), (13, T.ptr 4 Z1 0)]) (z0 Z1) fun x => none) by exfalso; simp at *; omega)) (fun Z3 => (Yb Z1 (Ys ((↑r.slot : Int) != (↑slot : Int)) (fun Z4 => (Yb Z1 (Ya (Yb hd (Ye (List.length D))) (Ya (Ya (show (List.length D + 1) * nat_lit 16 ≤ 140737488355328 by simp only [maxLen, List.length_append, List.length_cons, List.length_nil]; omega) (show List.length D + 1 ≤ maxLen by simp only [maxLen, List.length_append, List.length_cons, List.length_nil]; omega)) (fun (Z5 : Value) => (Ya hw (nx Z1 Z5))))))) (fun Z6 => (Ya hw (show TWk Try.prog Γ z4 [It.code z5, It.blk 0, It.code z2] (S.mk (frame 81 [(2, u32 slot), (3, u32 c), (4, T.ptr 0 b4 0), (5, T.ptr 1 b5 0), (8, T.ptr 2 b8 0), (10, T.slx 5 3 D hd), (11, bool false), (12, int (k + 1))]) (z0 Z1) fun x => none) by exfalso; simp at *; omega)))))))))))))) (fun Z7 => (show TWk Try.prog Γ z4 [It.code z2] (S.mk (frame 81 [(2, u32 slot), (3, u32 c), (4, T.ptr 0 b4 0), (5, T.ptr 1 b5 0), (8, T.ptr 2 b8 0), (10, T.slx 5 3 D hd), (11, bool false)]) [z3, (b5, Ob.cells [u32 n, u8 b, u8 (0 : Int)]), z1, (0, Ob.room 5 113 (List.length D) hd)] fun x => none) by exfalso; have := of_decide_eq_false Z7; omega))))
theorem ra4 (k : Nat) (hk : k < E.length) (hm : E.length ≤ 1000) (r : RE) (hat : E[((k : Nat) : Int).toNat]? = some (.agg (reC r))) (h : r.slot ≠ slot) (D : List T) (hD : D.length ≤ 10000) (hd : Value) (nx : ∀ hd, wAcR1 Γ Q [kAcR0 [1,1,1,1,1,1,1,0,1,0], .blk 0, kAcR0 [1,1,1,1,1,1,1,1]] ⟨frame 81 [(2, u32 slot), (3, u32 c), (4, .ptr 0 b4 0), (5, .ptr 1 b5 0), (8, .ptr 2 b8 0), (10, .slx 5 3 (D ++ [T.agg [u32 r.slot, u32 r.n, u8 r.b, u8 0, u32 r.c]]) hd), (11, bool true), (12, int (k + 1 : Nat))], [(b4, .cells (raT n b low E)), (b5, .cells [u32 n, u8 b, u8 0]), (b8, .cells raZ), (0, .room 5 113 (D ++ [T.agg [u32 r.slot, u32 r.n, u8 r.b, u8 0, u32 r.c]]).length hd)], none_⟩) : wAcR1 Γ Q [kAcR0 [1,1,1,1,1,1,1,0,1,0], .blk 0, kAcR0 [1,1,1,1,1,1,1,1]] ⟨frame 81 [(2, u32 slot), (3, u32 c), (4, .ptr 0 b4 0), (5, .ptr 1 b5 0), (8, .ptr 2 b8 0), (10, .slx 5 3 (D) hd), (11, bool true), (12, int k)], [(b4, .cells (raT n b low E)), (b5, .cells [u32 n, u8 b, u8 0]), (b8, .cells raZ), (0, .room 5 113 (D).length hd)], none_⟩ := by
  have hw : T.v (.int .i64 (IntKind.wrap .i64 ((k : Int) + 1))) = int (k + 1 : Nat) := congrArg int (by rw [wrap_i64 (by omega) (by omega)]; omega)
  have nx := fun (b13 : Nat) hd => TWk.imp (s := ⟨frame 81 [(2, u32 slot), (3, u32 c), (4, .ptr 0 b4 0), (5, .ptr 1 b5 0), (8, .ptr 2 b8 0), (10, .slx 5 3 (D ++ [T.agg [u32 r.slot, u32 r.n, u8 r.b, u8 0, u32 r.c]]) hd), (11, bool true), (12, int (k + 1 : Nat))], [(b4, .cells (raT n b low E)), (b5, .cells [u32 n, u8 b, u8 0]), (b8, .cells raZ), (0, .room 5 113 (D ++ [T.agg [u32 r.slot, u32 r.n, u8 r.b, u8 0, u32 r.c]]).length hd)] ++ [(b13, .cells [u32 r.slot, u32 r.n, u8 r.b, u8 0, u32 r.c])], none_⟩) (nx hd) (Imp.take 4)
  let HH : Nat → Nat → Hint := fun | 13, 3 => .res (.agg (reC r)) | 12, 1 => .res (int (k + 1 : Nat)) | _, _ => .no
  let z0 := (b8, Ob.cells [u32 (0 : Int), u8 (0 : Int), u8 (0 : Int), u32 (0 : Int), T.v (Value.slice none 0 0)])
  let z1 := (b4, Ob.cells [u32 n, u8 b, u8 (0 : Int), u32 low, T.sl 5 E])
  let z2 := sub (bd Try.f28) [1,1,1,1,1,1,1,1]
  exact run_sound ⟨HH, [((2, 11), ([2,3,4,5,8,10,11,12], 5)), ((0, 19), ([2,3,4,5,8,10,11], 4))], fun  | _ => none⟩ 400 (by kernel_rfl) (Yb b4 (Ys (decide ((↑k : Int) < (↑(List.length E) : Int))) (fun Z0 => (Yb b4 (Ya (show (0 : Int) ≤ (↑k : Int) by omega) (Ya hat (fun (Z1 : Nat) => (Yk 5 Z1 (Yb Z1 (Ys ((↑r.slot : Int) != (↑slot : Int)) (fun Z2 => (Yb Z1 (Ya (Yb hd (Ye (List.length D))) (Ya (Ya (show (List.length D + 1) * nat_lit 16 ≤ 140737488355328 by simp only [maxLen, List.length_append, List.length_cons, List.length_nil]; omega) (show List.length D + 1 ≤ maxLen by simp only [maxLen, List.length_append, List.length_cons, List.length_nil]; omega)) (fun (Z3 : Value) => (Ya hw (nx Z1 Z3))))))) (fun Z4 => (Ya hw (show wAcR1 Γ Q [kAcR0 [1,1,1,1,1,1,1,0,1,0], It.blk 0, It.code z2] (S.mk (frame 81 [(2, u32 slot), (3, u32 c), (4, T.ptr 0 b4 0), (5, T.ptr 1 b5 0), (8, T.ptr 2 b8 0), (10, T.slx 5 3 D hd), (11, bool true), (12, int (k + 1))]) [z1, (b5, Ob.cells [u32 n, u8 b, u8 (0 : Int)]), z0, (0, Ob.room 5 113 (List.length D) hd), (Z1, Ob.cells [u32 r.slot, u32 r.n, u8 r.b, u8 (0 : Int), u32 r.c])] fun x => none) by exfalso; simp at *; omega))))))))))) (fun Z5 => (show wAcR1 Γ Q [It.code z2] (S.mk (frame 81 [(2, u32 slot), (3, u32 c), (4, T.ptr 0 b4 0), (5, T.ptr 1 b5 0), (8, T.ptr 2 b8 0), (10, T.slx 5 3 D hd), (11, bool true)]) [z1, (b5, Ob.cells [u32 n, u8 b, u8 (0 : Int)]), z0, (0, Ob.room 5 113 (List.length D) hd)] fun x => none) by exfalso; have := of_decide_eq_false Z5; omega))))
theorem ra5 (k : Nat) (hk : k < E.length) (hm : E.length ≤ 1000) (r : RE) (hat : E[((k : Nat) : Int).toNat]? = some (.agg (reC r))) (h : r.slot = slot) (D : List T) (hD : D.length ≤ 10000) (hd : Value) (nx : ∀ hd, wAcR1 Γ Q [kAcR0 [1,1,1,1,1,1,1,0,1,0], .blk 0, kAcR0 [1,1,1,1,1,1,1,1]] ⟨frame 81 [(2, u32 slot), (3, u32 c), (4, .ptr 0 b4 0), (5, .ptr 1 b5 0), (8, .ptr 2 b8 0), (10, .slx 5 3 (D) hd), (11, bool true), (12, int (k + 1 : Nat))], [(b4, .cells (raT n b low E)), (b5, .cells [u32 n, u8 b, u8 0]), (b8, .cells raZ), (0, .room 5 113 (D).length hd)], none_⟩) : wAcR1 Γ Q [kAcR0 [1,1,1,1,1,1,1,0,1,0], .blk 0, kAcR0 [1,1,1,1,1,1,1,1]] ⟨frame 81 [(2, u32 slot), (3, u32 c), (4, .ptr 0 b4 0), (5, .ptr 1 b5 0), (8, .ptr 2 b8 0), (10, .slx 5 3 (D) hd), (11, bool true), (12, int k)], [(b4, .cells (raT n b low E)), (b5, .cells [u32 n, u8 b, u8 0]), (b8, .cells raZ), (0, .room 5 113 (D).length hd)], none_⟩ := by
  have hw : T.v (.int .i64 (IntKind.wrap .i64 ((k : Int) + 1))) = int (k + 1 : Nat) := congrArg int (by rw [wrap_i64 (by omega) (by omega)]; omega)
  have nx := fun (b13 : Nat) hd => TWk.imp (s := ⟨frame 81 [(2, u32 slot), (3, u32 c), (4, .ptr 0 b4 0), (5, .ptr 1 b5 0), (8, .ptr 2 b8 0), (10, .slx 5 3 (D) hd), (11, bool true), (12, int (k + 1 : Nat))], [(b4, .cells (raT n b low E)), (b5, .cells [u32 n, u8 b, u8 0]), (b8, .cells raZ), (0, .room 5 113 (D).length hd)] ++ [(b13, .cells [u32 r.slot, u32 r.n, u8 r.b, u8 0, u32 r.c])], none_⟩) (nx hd) (Imp.take 4)
  let HH : Nat → Nat → Hint := fun | 13, 3 => .res (.agg (reC r)) | 12, 1 => .res (int (k + 1 : Nat)) | _, _ => .no
  let z0 := (b8, Ob.cells [u32 (0 : Int), u8 (0 : Int), u8 (0 : Int), u32 (0 : Int), T.v (Value.slice none 0 0)])
  let z1 := (b4, Ob.cells [u32 n, u8 b, u8 (0 : Int), u32 low, T.sl 5 E])
  let z2 := sub (bd Try.f28) [1,1,1,1,1,1,1,1]
  exact run_sound ⟨HH, [((2, 11), ([2,3,4,5,8,10,11,12], 5)), ((0, 19), ([2,3,4,5,8,10,11], 4)), ((0, 18), ([2,3,4,5,8,10,11,12,13], 5))], fun  | _ => none⟩ 400 (by kernel_rfl) (Yb b4 (Ys (decide ((↑k : Int) < (↑(List.length E) : Int))) (fun Z0 => (Yb b4 (Ya (show (0 : Int) ≤ (↑k : Int) by omega) (Ya hat (fun (Z1 : Nat) => (Yk 5 Z1 (Yb Z1 (Ys ((↑r.slot : Int) != (↑slot : Int)) (fun Z2 => (show wAcR1 Γ Q [kAcR0 [1,1,1,1,1,1,1,0,1,0,0,1,0,0,1,1,1,0], It.blk 1, kAcR0 [1,1,1,1,1,1,1,0,1,0,0,1,1], kAcR0 [1,1,1,1,1,1,1,0,1,0], It.blk 0, It.code z2] (S.mk (frame 81 [(2, u32 slot), (3, u32 c), (4, T.ptr 0 b4 0), (5, T.ptr 1 b5 0), (8, T.ptr 2 b8 0), (10, T.slx 5 3 D hd), (11, bool true), (12, int k), (13, T.ptr 4 Z1 0)]) [z1, (b5, Ob.cells [u32 n, u8 b, u8 (0 : Int)]), z0, (0, Ob.room 5 113 (List.length D) hd), (Z1, Ob.cells [u32 r.slot, u32 r.n, u8 r.b, u8 (0 : Int), u32 r.c])] fun x => none) by exfalso; simp at *; omega)) (fun Z3 => (Ya hw (nx Z1 hd))))))))))) (fun Z4 => (show wAcR1 Γ Q [It.code z2] (S.mk (frame 81 [(2, u32 slot), (3, u32 c), (4, T.ptr 0 b4 0), (5, T.ptr 1 b5 0), (8, T.ptr 2 b8 0), (10, T.slx 5 3 D hd), (11, bool true)]) [z1, (b5, Ob.cells [u32 n, u8 b, u8 (0 : Int)]), z0, (0, Ob.room 5 113 (List.length D) hd)] fun x => none) by exfalso; have := of_decide_eq_false Z4; omega))))
theorem ra_end0 (k : Nat) (hk : E.length ≤ k) (D : List T) (hD : D.length ≤ 10000) (hd : Value) (hQ : Q (.tup [.agg (raT n b low (D ++ [T.agg [u32 slot, u32 n, u8 b, u8 0, u32 c]])), int 0]) [] none_) : wAcR1 Γ Q [kAcR0 [1,1,1,1,1,1,1,0,1,0], .blk 0, kAcR0 [1,1,1,1,1,1,1,1]] ⟨frame 81 [(2, u32 slot), (3, u32 c), (4, .ptr 0 b4 0), (5, .ptr 1 b5 0), (8, .ptr 2 b8 0), (10, .slx 5 3 (D) hd), (11, bool false), (12, int k)], [(b4, .cells (raT n b low E)), (b5, .cells [u32 n, u8 b, u8 0]), (b8, .cells raZ), (0, .room 5 113 (D).length hd)], none_⟩ := by
  let HH : Nat → Nat → Hint := fun _ _ => .no
  exact run_sound ⟨HH, [((0, 13), ([2,3,4,5,8,10,11,12], 4))], fun _ => none⟩ 400 (by kernel_rfl) (Yb b4 (Ys (decide ((↑k : Int) < (↑(List.length E) : Int))) (fun Z0 => (show wAcR1 Γ Q [kAcR0 [1,1,1,1,1,1,1,0,1,0,0,1,0,0], It.blk 1, kAcR0 [1,1,1,1,1,1,1,0,1,0,0,1,1], kAcR0 [1,1,1,1,1,1,1,0,1,0], It.blk 0, kAcR0 [1,1,1,1,1,1,1,1]] (S.mk (frame 81 [(2, u32 slot), (3, u32 c), (4, T.ptr 0 b4 0), (5, T.ptr 1 b5 0), (8, T.ptr 2 b8 0), (10, T.slx 5 3 D hd), (11, bool false), (12, int k)]) [(b4, Ob.cells [u32 n, u8 b, u8 (0 : Int), u32 low, T.sl 5 E]), (b5, Ob.cells [u32 n, u8 b, u8 (0 : Int)]), (b8, Ob.cells [u32 (0 : Int), u8 (0 : Int), u8 (0 : Int), u32 (0 : Int), T.v (Value.slice none 0 0)]), (0, Ob.room 5 113 (List.length D) hd)] fun x => none) by exfalso; have := of_decide_eq_true Z0; omega)) (fun Z1 => (Yb b5 (Ya (Yb hd (Ye (List.length D))) (Ya (Ya (show (List.length D + 1) * nat_lit 16 ≤ 140737488355328 by simp only [maxLen]; omega) (show List.length D + 1 ≤ maxLen by simp only [maxLen]; omega)) (fun (Z2 : Value) => (Yl 1 (Yb b4 (Ya (Yn (5) (5) rfl) (Yb b4 (Yk 5 b8 (Yb b8 hQ)))))))))))))
theorem ra_end1 (k : Nat) (hk : E.length ≤ k) (D : List T) (hd : Value) (hQ : Q (.tup [.agg (raT n b low D), int 0]) [] none_) : wAcR1 Γ Q [kAcR0 [1,1,1,1,1,1,1,0,1,0], .blk 0, kAcR0 [1,1,1,1,1,1,1,1]] ⟨frame 81 [(2, u32 slot), (3, u32 c), (4, .ptr 0 b4 0), (5, .ptr 1 b5 0), (8, .ptr 2 b8 0), (10, .slx 5 3 (D) hd), (11, bool true), (12, int k)], [(b4, .cells (raT n b low E)), (b5, .cells [u32 n, u8 b, u8 0]), (b8, .cells raZ), (0, .room 5 113 (D).length hd)], none_⟩ := by
  let HH : Nat → Nat → Hint := fun _ _ => .no
  exact run_sound ⟨HH, [((0, 13), ([2,3,4,5,8,10,11,12], 4))], fun _ => none⟩ 400 (by kernel_rfl) (Yb b4 (Ys (decide ((↑k : Int) < (↑(List.length E) : Int))) (fun Z0 => (show wAcR1 Γ Q [kAcR0 [1,1,1,1,1,1,1,0,1,0,0,1,0,0], It.blk 1, kAcR0 [1,1,1,1,1,1,1,0,1,0,0,1,1], kAcR0 [1,1,1,1,1,1,1,0,1,0], It.blk 0, kAcR0 [1,1,1,1,1,1,1,1]] (S.mk (frame 81 [(2, u32 slot), (3, u32 c), (4, T.ptr 0 b4 0), (5, T.ptr 1 b5 0), (8, T.ptr 2 b8 0), (10, T.slx 5 3 D hd), (11, bool true), (12, int k)]) [(b4, Ob.cells [u32 n, u8 b, u8 (0 : Int), u32 low, T.sl 5 E]), (b5, Ob.cells [u32 n, u8 b, u8 (0 : Int)]), (b8, Ob.cells [u32 (0 : Int), u8 (0 : Int), u8 (0 : Int), u32 (0 : Int), T.v (Value.slice none 0 0)]), (0, Ob.room 5 113 (List.length D) hd)] fun x => none) by exfalso; have := of_decide_eq_true Z0; omega)) (fun Z1 => (Yl 1 (Yb b4 (Ya (Yn (5) (5) rfl) (Yb b4 (Yk 5 b8 (Yb b8 hQ)))))))))
end
theorem ra_loop (Γ : Ctx) (b4 b5 b8 low n b slot c : Nat) (Q : T → Obs → Glb → Prop) (l : List RE) (hm : l.length ≤ 1000) (E : List T) (hE : E = Row.aggs reC l) : ∀ (m k : Nat) (D0 : List RE) (D : List T) (put : Bool) (hd : Value), k + m = l.length → D0.length ≤ 2 * k → D = Row.aggs reC D0 →
    (Q (.tup [.agg (raT n b low (Row.aggs reC (D0 ++ insR ⟨slot, n, b, c⟩ put (l.drop k)))), int 0]) [] none_) → wAcR1 Γ Q [kAcR0 [1,1,1,1,1,1,1,0,1,0], .blk 0, kAcR0 [1,1,1,1,1,1,1,1]] ⟨frame 81 [(2, u32 slot), (3, u32 c), (4, .ptr 0 b4 0), (5, .ptr 1 b5 0), (8, .ptr 2 b8 0), (10, .slx 5 3 (D) hd), (11, bool put), (12, int k)], [(b4, .cells (raT n b low E)), (b5, .cells [u32 n, u8 b, u8 0]), (b8, .cells raZ), (0, .room 5 113 (D).length hd)], none_⟩ := by
  have hl : E.length = l.length := by rw [hE, Row.aggs_len]
  intro m
  induction m with
  | zero =>
    intro k D0 D put hd hk h2 hD hQ
    have hDl : D.length = D0.length := by rw [hD, Row.aggs_len]
    rw [List.drop_eq_nil_of_le (by omega)] at hQ
    cases put with
    | true =>
      refine ra_end1 Γ b4 b5 b8 low E n b slot c Q k (by omega) D hd ?_
      rw [hD]
      simpa only [insR, if_true, List.append_nil] using hQ
    | false =>
      refine ra_end0 Γ b4 b5 b8 low E n b slot c Q k (by omega) D (by omega) hd ?_
      rw [hD]
      have e : Row.aggs reC (D0 ++ insR ⟨slot, n, b, c⟩ false []) = Row.aggs reC D0 ++ [T.agg [u32 slot, u32 n, u8 b, u8 0, u32 c]] := Row.aggs_snoc ..
      rw [← e]; exact hQ
  | succ m ih =>
    intro k D0 D put hd hk h2 hD hQ
    have hlt : k < l.length := by omega
    have hDl : D.length = D0.length := by rw [hD, Row.aggs_len]
    have hat : E[((k : Nat) : Int).toNat]? = some (.agg (reC l[k])) := by rw [hE, Int.toNat_natCast]; exact Row.aggs_at (List.getElem?_eq_getElem hlt)
    rw [List.drop_eq_getElem_cons hlt] at hQ
    generalize l[k] = r at *
    have sn : ∀ (D1 : List RE) (z : RE), Row.aggs reC (D1 ++ [z]) = Row.aggs reC D1 ++ [.agg (reC z)] := fun D1 z => Row.aggs_snoc ..
    unfold insR at hQ
    cases put with
    | false =>
      rcases Nat.lt_trichotomy slot r.slot with h | h | h
      · refine ra1 Γ b4 b5 b8 low E n b slot c Q k (by omega) (by omega) r hat h D (by omega) hd fun hd => ?_
        refine ih (k + 1) (D0 ++ [⟨slot, n, b, c⟩] ++ [r]) _ true hd (by omega) (by simp only [List.length_append, List.length_cons, List.length_nil]; omega) (by rw [sn, sn, hD]; rfl) ?_
        rw [if_pos ⟨rfl, Nat.le_of_lt h⟩, if_neg (by dsimp only; omega), decide_eq_true (by dsimp only; omega)] at hQ
        simpa only [List.append_assoc, List.singleton_append, Bool.or_true, List.cons_append, List.nil_append] using hQ
      · refine ra2 Γ b4 b5 b8 low E n b slot c Q k (by omega) (by omega) r hat h D (by omega) hd fun hd => ?_
        refine ih (k + 1) (D0 ++ [⟨slot, n, b, c⟩]) _ true hd (by omega) (by simp only [List.length_append, List.length_cons, List.length_nil]; omega) (by rw [sn, hD]; rfl) ?_
        rw [if_pos ⟨rfl, Nat.le_of_eq h⟩, if_pos h.symm, decide_eq_true (by dsimp only; omega)] at hQ
        simpa only [List.append_assoc, List.singleton_append, Bool.or_true, List.cons_append, List.nil_append] using hQ
      · refine ra3 Γ b4 b5 b8 low E n b slot c Q k (by omega) (by omega) r hat h D (by omega) hd fun hd => ?_
        refine ih (k + 1) (D0 ++ [r]) _ false hd (by omega) (by simp only [List.length_append, List.length_cons, List.length_nil]; omega) (by rw [sn, hD]; rfl) ?_
        rw [if_neg (by dsimp only; omega), if_neg (by dsimp only; omega), decide_eq_false (by dsimp only; omega)] at hQ
        simpa only [List.append_assoc, List.singleton_append, Bool.or_false, List.cons_append, List.nil_append] using hQ
    | true =>
      by_cases h : r.slot = slot
      · refine ra5 Γ b4 b5 b8 low E n b slot c Q k (by omega) (by omega) r hat h D (by omega) hd fun hd => ?_
        refine ih (k + 1) D0 _ true hd (by omega) (by omega) hD ?_
        rw [if_neg (by simp), if_pos h] at hQ
        simpa only [Bool.true_or, List.nil_append] using hQ
      · refine ra4 Γ b4 b5 b8 low E n b slot c Q k (by omega) (by omega) r hat h D (by omega) hd fun hd => ?_
        refine ih (k + 1) (D0 ++ [r]) _ true hd (by omega) (by simp only [List.length_append, List.length_cons, List.length_nil]; omega) (by rw [sn, hD]; rfl) ?_
        rw [if_neg (by simp), if_neg h] at hQ
        simpa only [List.append_assoc, List.singleton_append, Bool.true_or, List.cons_append, List.nil_append] using hQ
end X11
end Go.Proofs.Ytcmcmafeaabjmaa.Vm
namespace Go.Proofs.Ytcmcmafeaabjmaa.Vm
open Go Go.RowKit
set_option maxRecDepth 100000
noncomputable abbrev kAcT0 (l : List Nat) : It := .code (sub (bd Try.f25) l)
noncomputable abbrev kAcT1 (l : List Nat) : It := .code (sub (bd Try.f28) l)
noncomputable abbrev wAcT2 (Γ : Ctx) (Q : T → Obs → Glb → Prop) : List It → S → Prop := TWk Try.prog Γ (fin Try.prog Try.f25 [] Q)
def plAcT0 : Nat → Option RPlan := fun | 6 => some ⟨[], [], .take true [0,1,2,3,4,5,6,7,8,9,10,11,12,13,14,15,16,17,18,19,20,22,23,24,25,26] (.one 21 (.one 27 (.take true [28,29] .done)))⟩ | _ => none
namespace X11
open Acp (En AS Rc blw VOk IsE XOk RE RA fromR insR toE)
open View (VS Mem)
open X5 (viewC mems memC)
theorem racc_new (m : RA) (hm : m.l.length ≤ 1000) (n b slot c : Nat) (h : ¬ slot < m.low) (h2 : slot < m.low + 16) (hs : slot < 4294967296) (hl : ∀ Q' : T → Obs → Glb → Prop, Q' (bool false) [] none_ → TCalls Try.prog 50 [.agg [u32 n, u8 b, u8 0], .agg [u32 m.n, u8 m.b, u8 0]] [] none_ Q') (Q : T → Obs → Glb → Prop) (hQ : Q (.tup [.agg (raT n b m.low (Row.aggs reC (insR ⟨slot, n, b, c⟩ false m.l))), int 0]) [] none_) : TCalls Try.prog 28 [.agg (raC m), .agg [u32 n, u8 b, u8 0], u32 slot, u32 c] [] none_ Q := by
  have t1 := to64 (a := slot) (by omega)
  have t2 := to64 (a := m.low) (by omega)
  have a1 := add64 (a := m.low) (b := 16) rfl (by omega)
  have lp := fun Γ b4 b5 b8 => TWk.imp (s := ⟨frame 81 [(2, u32 slot), (3, u32 c), (4, .ptr 0 b4 0), (5, .ptr 1 b5 0), (8, .ptr 2 b8 0), (10, .v nilS), (11, bool false), (12, int 0)], [(b4, .cells (raT n b m.low (Row.aggs reC m.l))), (b5, .cells [u32 n, u8 b, u8 0]), (b8, .cells raZ)], none_⟩) (ra_loop Γ b4 b5 b8 m.low n b slot c Q m.l hm (Row.aggs reC m.l) rfl m.l.length 0 [] [] false nilS (by omega) (by decide) rfl hQ) ((Imp.room 5 113).trans (Imp.slot 5 3 10 rfl))
  clear hQ
  unfold raC
  generalize Row.aggs reC m.l = E at *
  refine TCalls.of Try.func28 rfl (CanCall.of Try.func28 rfl (by decide)) [] fun Γ => ?_
  let HH : Nat → Nat → Hint := fun | 3, 1 => .res (u64 slot) | 3, 4 => .res (u64 m.low) | 3, 5 => .res (u64 (m.low + 16 : Nat)) | 5, 3 => told (bool false) [] [] | _, _ => .no
  let z0 := fun (Z0 : Nat) (Z1 : Nat) (Z2 : Nat) => S.mk (frame 81 [(4, T.ptr 0 Z0 0), (8, T.ptr 2 Z2 0)]) [(Z0, Ob.cells [u32 m.n, u8 m.b, u8 (0 : Int), u32 m.low, T.sl 5 E]), (Z1, Ob.cells [u32 n, u8 b, u8 (0 : Int)]), (Z2, Ob.cells [u32 (0 : Int), u8 (0 : Int), u8 (0 : Int), u32 (0 : Int), T.v (Value.slice none 0 0)])] fun x => none
  exact run_sound ⟨HH, [((0, 2), ([4,8], 3)), ((0, 4), ([4,8], 3)), ((0, 6), ([4,8], 3)), ((2, 11), ([2,3,4,5,8,10,11,12], 3))], fun  | _ => none⟩ 400 (by kernel_rfl) (fun (Z0 : Nat) => (fun (Z1 : Nat) => (fun (Z2 : Nat) => (Yb Z0 (Ys (decide ((↑slot : Int) < (↑m.low : Int))) (fun Z3 => (show TWk Try.prog Γ (fin Try.prog Try.f28 [] Q) [kAcT1 [1,0,1,0], kAcT1 [1,1]] (z0 Z0 Z1 Z2) by exfalso; simp only [decide_eq_true_eq] at *; omega)) (fun Z4 => (Ya t1 (Yb Z0 (Ya t2 (Ya a1 (Ys (decide ((↑slot : Int) ≥ (↑(m.low + 16) : Int))) (fun Z5 => (show TWk Try.prog Γ (fin Try.prog Try.f28 [] Q) [kAcT1 [1,1,0,1,0], kAcT1 [1,1,1]] (z0 Z0 Z1 Z2) by exfalso; simp only [decide_eq_true_eq] at *; omega)) (fun Z6 => (Yb Z1 (Yb Z0 (Ya (hl (HH 5 3).P (told_post rfl)) (Yu (Yb Z1 (Yl 3 (Yb Z0 (Ya (Yn (3) (5) rfl) (lp Γ Z0 Z1 Z2)))))))))))))))))))))
section
variable (Γ : Ctx) (Q : T → Obs → Glb → Prop) (A B : List T)
theorem same_end (k : Nat) (hk : B.length ≤ k) (hQ : Q (bool true) [] none_) : wAcT2 Γ Q [kAcT0 [1,1,0,1,0], .blk 0, kAcT0 [1,1,1]] ⟨frame 47 [(0, .sl 8 A), (1, .sl 5 B), (5, int k)], [], none_⟩ := by
  let HH : Nat → Nat → Hint := fun  | _, _ => .no
  exact run_sound ⟨HH, [((0, 6), ([0,1,5], 0))], plAcT0⟩ 400 (by kernel_rfl) (Ys (decide ((↑k : Int) < (↑(List.length B) : Int))) (fun Z0 => (show wAcT2 Γ Q [kAcT0 [1,1,0,1,0,0,1,0,0], It.blk 1, kAcT0 [1,1,0,1,0,0,1,1], kAcT0 [1,1,0,1,0], It.blk 0, kAcT0 [1,1,1]] (S.mk (frame 47 [(0, T.sl 8 A), (1, T.sl 5 B), (5, int k)]) [] fun x => none) by exfalso; have := of_decide_eq_true Z0; omega)) (fun Z1 => hQ))
theorem same_next (k : Nat) (hk : k < B.length) (hm : B.length ≤ 1000) (r : RE) (hB : B[((k : Nat) : Int).toNat]? = some (.agg (reC r))) (hA : A[((k : Nat) : Int).toNat]? = some (.agg (enC (toE r)))) (nx : wAcT2 Γ Q [kAcT0 [1,1,0,1,0], .blk 0, kAcT0 [1,1,1]] ⟨frame 47 [(0, .sl 8 A), (1, .sl 5 B), (5, int (k + 1 : Nat))], [], none_⟩) : wAcT2 Γ Q [kAcT0 [1,1,0,1,0], .blk 0, kAcT0 [1,1,1]] ⟨frame 47 [(0, .sl 8 A), (1, .sl 5 B), (5, int k)], [], none_⟩ := by
  have hw : T.v (.int .i64 (IntKind.wrap .i64 ((k : Int) + 1))) = int (k + 1 : Nat) := congrArg int (by rw [wrap_i64 (by omega) (by omega)]; omega)
  have bl := fun Q' hq => lballot_any r.n r.b Q' hq
  have cm := fun Q' hq => lcommand_any r.c Q' hq
  let HH : Nat → Nat → Hint := fun | 6, 2 => .res (.agg [u32 r.slot, u32 r.n, u8 r.b, u8 (r.c % 256 : Nat), u8 (r.c / 8 % 256 : Nat), u8 (r.c / 64 % 256 : Nat), u32 r.c, u32 (r.c / 2 : Nat)]) | 6, 6 => .res (.agg [u32 r.slot, u32 r.n, u8 r.b, u8 0, u32 r.c]) | 6, 11 => .res (.agg [u32 r.slot, u32 r.n, u8 r.b, u8 0, u32 r.c]) | 6, 17 => .res (.agg [u32 r.slot, u32 r.n, u8 r.b, u8 0, u32 r.c]) | 6, 24 => .res (.agg [u32 r.slot, u32 r.n, u8 r.b, u8 0, u32 r.c]) | 6, 21 => told (.agg [u32 r.n, u8 r.b]) [] [] | 6, 27 => told (cmd r.c) [] [] | 6, 29 => .res (bool false) | 5, 1 => .res (int (k + 1 : Nat)) | _, _ => .no
  exact run_sound ⟨HH, [((2, 4), ([0,1,5], 0)), ((0, 8), ([], 0))], plAcT0⟩ 400 (by kernel_rfl) (Ys (decide ((↑k : Int) < (↑(List.length B) : Int))) (fun Z0 => (Ya (show (0 : Int) ≤ (↑k : Int) by omega) (Ya hA (Ya (show (0 : Int) ≤ (↑k : Int) by omega) (Ya hB (Ya (show (0 : Int) ≤ (↑k : Int) by omega) (Ya hB (Ya (show (0 : Int) ≤ (↑k : Int) by omega) (Ya hB (Ya (show (0 : Int) ≤ (↑k : Int) by omega) (Ya hB (Ya (bl (HH 6 21).P (told_post rfl)) (Yu (Ya (cm (HH 6 27).P (told_post rfl)) (Yu (Ya (show bool (!((↑r.slot : Int) == (↑r.slot : Int) && ((↑r.n : Int) == (↑r.n : Int) && ((↑r.b : Int) == (↑r.b : Int) && true) && true && ((↑(r.c % 256) : Int) == (↑(r.c % 256) : Int) && ((↑(r.c / 8 % 256) : Int) == (↑(r.c / 8 % 256) : Int) && ((↑(r.c / 64 % 256) : Int) == (↑(r.c / 64 % 256) : Int) && ((↑r.c : Int) == (↑r.c : Int) && ((↑(r.c / 2) : Int) == (↑(r.c / 2) : Int) && true)))) && true)))) = bool false from congrArg bool (by simp)) (Ya hw nx))))))))))))))))) (fun Z1 => (show wAcT2 Γ Q [kAcT0 [1,1,1]] (S.mk (frame 47 []) [] fun x => none) by exfalso; have := of_decide_eq_false Z1; omega)))
end
theorem same_loop (Γ : Ctx) (Q : T → Obs → Glb → Prop) (L : List RE) (hm : L.length ≤ 1000) (hQ : Q (bool true) [] none_) : ∀ (c k : Nat), k + c = L.length →
    wAcT2 Γ Q [kAcT0 [1,1,0,1,0], .blk 0, kAcT0 [1,1,1]] ⟨frame 47 [(0, .sl 8 (Row.aggs enC (L.map toE))), (1, .sl 5 (Row.aggs reC L)), (5, int k)], [], none_⟩ := by
  have h1 := Row.aggs_len (C := reC) L
  intro c
  induction c with
  | zero => intro k hk; exact same_end Γ Q _ _ k (by omega) hQ
  | succ c ih =>
    intro k hk
    have hlt : k < L.length := by omega
    refine same_next Γ Q _ _ k (by omega) (by omega) L[k] ?_ ?_ (ih (k + 1) (by omega))
    · rw [Int.toNat_natCast]; exact Row.aggs_at (List.getElem?_eq_getElem hlt)
    · rw [Int.toNat_natCast]
      exact Row.aggs_at (by rw [List.getElem?_map, List.getElem?_eq_getElem hlt]; rfl)
theorem same_any (L : List RE) (hm : L.length ≤ 1000) (Q : T → Obs → Glb → Prop) (hQ : Q (bool true) [] none_) : TCalls Try.prog 25 [.sl 8 (Row.aggs enC (L.map toE)), .sl 5 (Row.aggs reC L)] [] none_ Q := by
  have lp := fun Γ => same_loop Γ Q L hm hQ L.length 0 (by omega)
  have h1 := Row.aggs_len (C := reC) L
  have h2 : (Row.aggs enC (L.map toE)).length = L.length := by rw [Row.aggs_len, List.length_map]
  have hn : T.v (.bool (!(((Row.aggs enC (L.map toE)).length : Int) == ((Row.aggs reC L).length : Int)))) = bool false := congrArg bool (by rw [h1, h2]; simp)
  clear hQ h1 h2
  generalize Row.aggs enC (L.map toE) = A at *
  generalize Row.aggs reC L = B at *
  refine TCalls.of Try.func25 rfl (CanCall.of Try.func25 rfl (by decide)) [] fun Γ => ?_
  let HH : Nat → Nat → Hint := fun | 1, 4 => .res (bool false) | _, _ => .no
  exact run_sound ⟨HH, [((2, 4), ([0,1,5], 0))], plAcT0⟩ 400 (by kernel_rfl) (Ya hn (lp Γ))
theorem same_nil (Q : T → Obs → Glb → Prop) (hQ : Q (bool true) [] none_) : TCalls Try.prog 25 [.v nilS, .v nilS] [] none_ Q :=
  (same_any [] (by decide) Q hQ).pre ((Imp.slotR (ts := [.v nilS, .v nilS]) (j := 0) (t' := .sl 8 []) rfl (fun M v h => rel_nil0 h)).trans (Imp.slotR (ts := [.sl 8 [], .v nilS]) (j := 1) (t' := .sl 5 []) rfl (fun M v h => rel_nil0 h)))
theorem vsame_any (v : VS) (hv : v.ms.length ≤ 1000000) (Q : T → Obs → Glb → Prop) (hQ : Q (bool true) [] none_) : TCalls Try.prog 29 [.agg (viewC v), .agg (viewC v)] [] none_ Q :=
  X5.same_any v v hv hv Q fun r hr => by
    rw [hr, show X5.sameB v v = true from by unfold X5.sameB X5.livesB; simp]
    exact hQ
end X11
end Go.Proofs.Ytcmcmafeaabjmaa.Vm
namespace Go.Proofs.Ytcmcmafeaabjmaa.Srt
open Go Go.Shelf Go.Proofs
def ren : Go.Shelf.Ren := ⟨fun | 6 => 41 | 15 => 72 | 14 => 71 | 28 => 92 | 29 => 93 | 20 => 84 | 21 => 85 | 22 => 86 | 23 => 87 | 24 => 88 | 25 => 89 | 26 => 90 | 27 => 91 | 46 => 96 | 47 => 97 | 48 => 98 | 49 => 99 | 50 => 100 | 57 => 102 | n => n, fun | 22 => 45 | 24 => 58 | 25 => 105 | 3 => 3 | 39 => 109 | 0 => 0 | 53 => 28 | 55 => 90 | 4 => 4 | 46 => 154 | 45 => 153 | 50 => 158 | 5 => 5 | 9 => 9 | 66 => 165 | 70 => 169 | 76 => 172 | 77 => 173 | n => n, fun n => n⟩
theorem lays : Go.Proofs.SlLaysF0.n6 Try.prog ren := {
  mixed := by kernel_rfl,
  f6 := ⟨ "slices.SortFunc[[]talaria/frame.Entry,talaria/frame.Entry]", by decide, Try.func41.trans (congrArg some (by kernel_rfl))⟩,
  f14 := ⟨ "slices.pdqsortCmpFunc[talaria/frame.Entry]", by decide, Try.func71.trans (congrArg some (by kernel_rfl))⟩,
  f15 := Try.func72.trans (congrArg some (by kernel_rfl)),
  f20 := ⟨ "slices.insertionSortCmpFunc[talaria/frame.Entry]", by decide, Try.func84.trans (congrArg some (by kernel_rfl))⟩,
  f21 := ⟨ "slices.heapSortCmpFunc[talaria/frame.Entry]", by decide, Try.func85.trans (congrArg some (by kernel_rfl))⟩,
  f22 := ⟨ "slices.breakPatternsCmpFunc[talaria/frame.Entry]", by decide, Try.func86.trans (congrArg some (by kernel_rfl))⟩,
  f23 := ⟨ "slices.choosePivotCmpFunc[talaria/frame.Entry]", by decide, Try.func87.trans (congrArg some (by kernel_rfl))⟩,
  f24 := ⟨ "slices.reverseRangeCmpFunc[talaria/frame.Entry]", by decide, Try.func88.trans (congrArg some (by kernel_rfl))⟩,
  f25 := ⟨ "slices.partialInsertionSortCmpFunc[talaria/frame.Entry]", by decide, Try.func89.trans (congrArg some (by kernel_rfl))⟩,
  f26 := ⟨ "slices.partitionEqualCmpFunc[talaria/frame.Entry]", by decide, Try.func90.trans (congrArg some (by kernel_rfl))⟩,
  f27 := ⟨ "slices.partitionCmpFunc[talaria/frame.Entry]", by decide, Try.func91.trans (congrArg some (by kernel_rfl))⟩,
  f28 := Try.func92.trans (congrArg some (by kernel_rfl)),
  f29 := Try.func93.trans (congrArg some (by kernel_rfl)),
  f46 := ⟨ "slices.siftDownCmpFunc[talaria/frame.Entry]", by decide, Try.func96.trans (congrArg some (by kernel_rfl))⟩,
  f47 := Try.func97.trans (congrArg some (by kernel_rfl)),
  f48 := Try.func98.trans (congrArg some (by kernel_rfl)),
  f49 := ⟨ "slices.medianAdjacentCmpFunc[talaria/frame.Entry]", by decide, Try.func99.trans (congrArg some (by kernel_rfl))⟩,
  f50 := ⟨ "slices.medianCmpFunc[talaria/frame.Entry]", by decide, Try.func100.trans (congrArg some (by kernel_rfl))⟩,
  f57 := ⟨ "slices.order2CmpFunc[talaria/frame.Entry]", by decide, Try.func102.trans (congrArg some (by kernel_rfl))⟩,
  t0 := Try.underlying0,
  a0 := Try.isAgg0,
  z0 := Try.sizeOf0,
  v0 := Try.zeroValue0,
  t3 := Try.underlying3,
  a3 := Try.isAgg3,
  z3 := Try.sizeOf3,
  v3 := Try.zeroValue3,
  t4 := Try.underlying4,
  a4 := Try.isAgg4,
  z4 := Try.sizeOf4,
  v4 := Try.zeroValue4,
  t5 := Try.underlying5,
  a5 := Try.isAgg5,
  z5 := Try.sizeOf5,
  v5 := Try.zeroValue5,
  t9 := Try.underlying9,
  a9 := Try.isAgg9,
  z9 := Try.sizeOf9,
  v9 := Try.zeroValue9,
  t22 := Try.underlying45,
  a22 := Try.isAgg45,
  z22 := Try.sizeOf45,
  v22 := Try.zeroValue45,
  t25 := Try.underlying105,
  a25 := Try.isAgg105,
  z25 := Try.sizeOf105,
  v25 := Try.zeroValue105,
  t39 := Try.underlying109,
  a39 := Try.isAgg109,
  z39 := Try.sizeOf109,
  v39 := Try.zeroValue109,
  t45 := Try.underlying153,
  a45 := Try.isAgg153,
  z45 := Try.sizeOf153,
  v45 := Try.zeroValue153,
  t46 := Try.underlying154,
  a46 := Try.isAgg154,
  z46 := Try.sizeOf154,
  v46 := Try.zeroValue154,
  t50 := Try.underlying158,
  a50 := Try.isAgg158,
  z50 := Try.sizeOf158,
  v50 := Try.zeroValue158,
  t53 := Try.underlying28,
  a53 := Try.isAgg28,
  z53 := Try.sizeOf28,
  v53 := Try.zeroValue28,
  t55 := Try.underlying90,
  a55 := Try.isAgg90,
  z55 := Try.sizeOf90,
  v55 := Try.zeroValue90,
  t66 := Try.underlying165,
  a66 := Try.isAgg165,
  z66 := Try.sizeOf165,
  v66 := Try.zeroValue165,
  t70 := Try.underlying169,
  a70 := Try.isAgg169,
  z70 := Try.sizeOf169,
  v70 := Try.zeroValue169,
  t76 := Try.underlying172,
  a76 := Try.isAgg172,
  z76 := Try.sizeOf172,
  v76 := Try.zeroValue172,
  t77 := Try.underlying173,
  a77 := Try.isAgg173,
  z77 := Try.sizeOf173,
  v77 := Try.zeroValue173 }
end Go.Proofs.Ytcmcmafeaabjmaa.Srt
