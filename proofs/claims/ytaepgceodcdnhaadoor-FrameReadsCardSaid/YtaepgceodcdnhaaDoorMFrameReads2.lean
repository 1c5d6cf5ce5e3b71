/- Texts of this claim, one behind the other: FT, FU, FR, Frm4, FV. -/
import Derived.Test.YtaepgceodcdnhaaDoorMFrameReads1
/- Frames by the engine: the document's field of a frame. -/
namespace Go.Proofs.YtaepgceodcdnhaaDoor.Vm
open Go Go.RowKit
set_option maxRecDepth 100000
namespace X6
open Frm (Cmd Mem Ent Lvs Fm Z zgo znum zmust zbitB zbitZ zcmd zcmdZ zval zvz zvn zmem zmemZ zmems zcnt zgos zent zentZ zents)
open Oct (getN)
def mustH (z : Z) : Hint := .withA fun _ args => match args with
  | [_, .v (.bool w)] => told (.agg [str (zmust w z).s, int ((zmust w z).a : Nat), int (zmust w z).e]) [] []
  | _ => .no
theorem rfld_e (z : Z) (hz : z.Ok) (f : Fm) : TCalls Tryd.prog 47 [.agg (stC z), .agg (frS f (.v nilS) (.v nilS)), u8 101] [] none_ (callPost (told (.tup [.agg (stC (zgo 4 z)), .agg (frS { f with ep := znum 4 z } (.v nilS) (.v nilS))]) [] [])) := by
  have hQ : ∀ y, y = .tup [.agg (stC (zgo 4 z)), .agg (frS { f with ep := znum 4 z } (.v nilS) (.v nilS))] → callPost (told (.tup [.agg (stC (zgo 4 z)), .agg (frS { f with ep := znum 4 z } (.v nilS) (.v nilS))]) [] []) y [] none_ := fun y h => told_post h
  generalize callPost (told (.tup [.agg (stC (zgo 4 z)), .agg (frS { f with ep := znum 4 z } (.v nilS) (.v nilS))]) [] []) = Q at *
  have s0 := rnum_post z hz 4 (by decide)
  clear hz
  generalize zgo 4 z = z0 at *
  generalize znum 4 z = n0 at *
  unfold stC frS at *
  refine TCalls.of Tryd.func47 rfl (CanCall.of Tryd.func47 rfl (by decide)) [] fun Γ => ?_
  refine run_sound (⟨fun | 17, 1 => told (.tup [.agg [str z0.s, int (z0.a : Nat), int z0.e], u32 n0]) [] [] | _, _ => .no, [], fun | 76 => some ⟨[0, 1], [3], .take true [0,1] (.one 2 (.one 3 .done))⟩ | _ => none⟩) 400 (B := ∀ (b b_1 b_2 b_3 : Nat), b = b ∧ TCalls Tryd.prog 45 [T.agg (stC z), int 4] [] none_ (callPost (Hint.call false Unit (fun x => True) [] false (fun x => T.tup [T.agg [str (Z.s z0), int (↑(Z.a z0) : Int), int (Z.e z0)], u32 (↑n0 : Int)]) (fun x => []) fun x => none_)) ∧ ∀ (a : Unit), True → (3 = nat_lit 3 ∧ List.all (stC z0) T.one = true) ∧ b = b ∧ 0 + nat_lit 3 ≤ 3 ∧ (1 = nat_lit 1 ∧ List.all (List.map T.v (Array.toList #[Value.int IntKind.u32 (↑n0 : Int)])) T.one = true) ∧ b_1 = b_1 ∧ 3 + nat_lit 1 ≤ 34 ∧ b = b ∧ b_1 = b_1 ∧ (3 = nat_lit 3 ∧ List.all (stC z0) T.one = true) ∧ b_2 = b_2 ∧ 0 + nat_lit 3 ≤ 3 ∧ (34 = nat_lit 34 ∧ List.all (List.set (frS f (T.v nilS) (T.v nilS)) 3 (u32 n0)) T.one = true) ∧ b_3 = b_3 ∧ 0 + nat_lit 34 ≤ 34 ∧ b_2 = b_2 ∧ b_3 = b_3 ∧ Q (T.tup [T.agg (stC z0), T.agg (List.set (frS f (T.v nilS) (T.v nilS)) 3 (u32 n0))]) [] fun x => none) (by kernel_rfl) ?_
  repeat' (first | exact rfl | exact Nat.le_of_ble_eq_true rfl | refine And.intro ?_ ?_ | intro _ | refine bsplit_mk (fun _ => ?_) (fun _ => ?_))
  all_goals first
    | exact s0
    | exact hQ _ rfl
    | trace_state
theorem rfld_s (z : Z) (hz : z.Ok) (f : Fm) : TCalls Tryd.prog 47 [.agg (stC z), .agg (frS f (.v nilS) (.v nilS)), u8 115] [] none_ (callPost (told (.tup [.agg (stC (zgo 1 (zgo 1 (zgo 4 z)))), .agg (frS { f with sn := znum 4 z, sb := znum 1 (zgo 4 z), sl := znum 1 (zgo 1 (zgo 4 z)) } (.v nilS) (.v nilS))]) [] [])) := by
  have hQ : ∀ y, y = .tup [.agg (stC (zgo 1 (zgo 1 (zgo 4 z)))), .agg (frS { f with sn := znum 4 z, sb := znum 1 (zgo 4 z), sl := znum 1 (zgo 1 (zgo 4 z)) } (.v nilS) (.v nilS))] → callPost (told (.tup [.agg (stC (zgo 1 (zgo 1 (zgo 4 z)))), .agg (frS { f with sn := znum 4 z, sb := znum 1 (zgo 4 z), sl := znum 1 (zgo 1 (zgo 4 z)) } (.v nilS) (.v nilS))]) [] []) y [] none_ := fun y h => told_post h
  generalize callPost (told (.tup [.agg (stC (zgo 1 (zgo 1 (zgo 4 z)))), .agg (frS { f with sn := znum 4 z, sb := znum 1 (zgo 4 z), sl := znum 1 (zgo 1 (zgo 4 z)) } (.v nilS) (.v nilS))]) [] []) = Q at *
  have s0 := rnum_post z hz 4 (by decide)
  have s1 := rnum_post (zgo 4 z) (hz.go 4) 1 (by decide)
  have k1 := w8 (Frm.znum1_lt (zgo 4 z))
  have s2 := rnum_post (zgo 1 (zgo 4 z)) ((hz.go 4).go 1) 1 (by decide)
  have k2 := w8 (Frm.znum1_lt (zgo 1 (zgo 4 z)))
  clear hz
  generalize zgo 1 (zgo 1 (zgo 4 z)) = z2 at *
  generalize znum 1 (zgo 1 (zgo 4 z)) = n2 at *
  generalize zgo 1 (zgo 4 z) = z1 at *
  generalize znum 1 (zgo 4 z) = n1 at *
  generalize zgo 4 z = z0 at *
  generalize znum 4 z = n0 at *
  unfold stC frS at *
  refine TCalls.of Tryd.func47 rfl (CanCall.of Tryd.func47 rfl (by decide)) [] fun Γ => ?_
  refine run_sound (⟨fun | 22, 1 => told (.tup [.agg [str z0.s, int (z0.a : Nat), int z0.e], u32 n0]) [] [] | 24, 1 => .res (u8 n1) | 23, 1 => told (.tup [.agg [str z1.s, int (z1.a : Nat), int z1.e], u32 n1]) [] [] | 26, 1 => .res (u8 n2) | 25, 1 => told (.tup [.agg [str z2.s, int (z2.a : Nat), int z2.e], u32 n2]) [] [] | _, _ => .no, [], fun | 76 => some ⟨[0, 1], [3], .take true [0,1] (.one 2 (.one 3 .done))⟩ | _ => none⟩) 400 (B := ∀ (b b_1 b_2 b_3 : Nat), b = b ∧ TCalls Tryd.prog 45 [T.agg (stC z), int 4] [] none_ (callPost (Hint.call false Unit (fun x => True) [] false (fun x => T.tup [T.agg [str (Z.s z0), int (↑(Z.a z0) : Int), int (Z.e z0)], u32 (↑n0 : Int)]) (fun x => []) fun x => none_)) ∧ ∀ (a : Unit), True → (3 = nat_lit 3 ∧ List.all (stC z0) T.one = true) ∧ b = b ∧ 0 + nat_lit 3 ≤ 3 ∧ (1 = nat_lit 1 ∧ List.all (List.map T.v (Array.toList #[Value.int IntKind.u32 (↑n0 : Int)])) T.one = true) ∧ b_1 = b_1 ∧ 5 + nat_lit 1 ≤ 34 ∧ b = b ∧ TCalls Tryd.prog 45 [T.agg (stC z0), int 1] [] none_ (callPost (Hint.call false Unit (fun x => True) [] false (fun x => T.tup [T.agg [str (Z.s z1), int (↑(Z.a z1) : Int), int (Z.e z1)], u32 (↑n1 : Int)]) (fun x => []) fun x => none_)) ∧ ∀ (a : Unit), True → (3 = nat_lit 3 ∧ List.all (stC z1) T.one = true) ∧ b = b ∧ 0 + nat_lit 3 ≤ 3 ∧ u8 (IntKind.wrap IntKind.u8 (↑n1 : Int)) = u8 n1 ∧ (1 = nat_lit 1 ∧ List.all (List.map T.v (Array.toList #[Value.int IntKind.u8 (↑n1 : Int)])) T.one = true) ∧ b_1 = b_1 ∧ 6 + nat_lit 1 ≤ 34 ∧ b = b ∧ TCalls Tryd.prog 45 [T.agg (stC z1), int 1] [] none_ (callPost (Hint.call false Unit (fun x => True) [] false (fun x => T.tup [T.agg [str (Z.s z2), int (↑(Z.a z2) : Int), int (Z.e z2)], u32 (↑n2 : Int)]) (fun x => []) fun x => none_)) ∧ ∀ (a : Unit), True → (3 = nat_lit 3 ∧ List.all (stC z2) T.one = true) ∧ b = b ∧ 0 + nat_lit 3 ≤ 3 ∧ u8 (IntKind.wrap IntKind.u8 (↑n2 : Int)) = u8 n2 ∧ (1 = nat_lit 1 ∧ List.all (List.map T.v (Array.toList #[Value.int IntKind.u8 (↑n2 : Int)])) T.one = true) ∧ b_1 = b_1 ∧ 7 + nat_lit 1 ≤ 34 ∧ b = b ∧ b_1 = b_1 ∧ (3 = nat_lit 3 ∧ List.all (stC z2) T.one = true) ∧ b_2 = b_2 ∧ 0 + nat_lit 3 ≤ 3 ∧ (34 = nat_lit 34 ∧ List.all (List.set (List.set (List.set (frS f (T.v nilS) (T.v nilS)) 5 (u32 n0)) 6 (u8 n1)) 7 (u8 n2)) T.one = true) ∧ b_3 = b_3 ∧ 0 + nat_lit 34 ≤ 34 ∧ b_2 = b_2 ∧ b_3 = b_3 ∧ Q (T.tup [T.agg (stC z2), T.agg (List.set (List.set (List.set (frS f (T.v nilS) (T.v nilS)) 5 (u32 n0)) 6 (u8 n1)) 7 (u8 n2))]) [] fun x => none) (by kernel_rfl) ?_
  repeat' (first | exact rfl | exact Nat.le_of_ble_eq_true rfl | refine And.intro ?_ ?_ | intro _ | refine bsplit_mk (fun _ => ?_) (fun _ => ?_))
  all_goals first
    | exact s0
    | exact k1
    | exact s1
    | exact k2
    | exact s2
    | exact hQ _ rfl
    | trace_state
theorem rfld_r (z : Z) (hz : z.Ok) (f : Fm) : TCalls Tryd.prog 47 [.agg (stC z), .agg (frS f (.v nilS) (.v nilS)), u8 114] [] none_ (callPost (told (.tup [.agg (stC (zbitZ z)), .agg (frS { f with rmw := zbitB z } (.v nilS) (.v nilS))]) [] [])) := by
  have hQ : ∀ y, y = .tup [.agg (stC (zbitZ z)), .agg (frS { f with rmw := zbitB z } (.v nilS) (.v nilS))] → callPost (told (.tup [.agg (stC (zbitZ z)), .agg (frS { f with rmw := zbitB z } (.v nilS) (.v nilS))]) [] []) y [] none_ := fun y h => told_post h
  generalize callPost (told (.tup [.agg (stC (zbitZ z)), .agg (frS { f with rmw := zbitB z } (.v nilS) (.v nilS))]) [] []) = Q at *
  have s0 := rbit_post z hz
  clear hz
  generalize zbitZ z = z0 at *
  generalize zbitB z = n0 at *
  unfold stC frS at *
  refine TCalls.of Tryd.func47 rfl (CanCall.of Tryd.func47 rfl (by decide)) [] fun Γ => ?_
  refine run_sound (⟨fun | 37, 1 => told (.tup [.agg [str z0.s, int (z0.a : Nat), int z0.e], bool n0]) [] [] | _, _ => .no, [], fun | 76 => some ⟨[0, 1], [3], .take true [0,1] (.one 2 (.one 3 .done))⟩ | _ => none⟩) 400 (B := ∀ (b b_1 b_2 b_3 : Nat), b = b ∧ TCalls Tryd.prog 77 [T.agg (stC z)] [] none_ (callPost (Hint.call false Unit (fun x => True) [] false (fun x => T.tup [T.agg [str (Z.s z0), int (↑(Z.a z0) : Int), int (Z.e z0)], bool n0]) (fun x => []) fun x => none_)) ∧ ∀ (a : Unit), True → (3 = nat_lit 3 ∧ List.all (stC z0) T.one = true) ∧ b = b ∧ 0 + nat_lit 3 ≤ 3 ∧ (1 = nat_lit 1 ∧ List.all (List.map T.v (Array.toList #[Value.bool n0])) T.one = true) ∧ b_1 = b_1 ∧ 10 + nat_lit 1 ≤ 34 ∧ b = b ∧ b_1 = b_1 ∧ (3 = nat_lit 3 ∧ List.all (stC z0) T.one = true) ∧ b_2 = b_2 ∧ 0 + nat_lit 3 ≤ 3 ∧ (34 = nat_lit 34 ∧ List.all (List.set (frS f (T.v nilS) (T.v nilS)) 10 (bool n0)) T.one = true) ∧ b_3 = b_3 ∧ 0 + nat_lit 34 ≤ 34 ∧ b_2 = b_2 ∧ b_3 = b_3 ∧ Q (T.tup [T.agg (stC z0), T.agg (List.set (frS f (T.v nilS) (T.v nilS)) 10 (bool n0))]) [] fun x => none) (by kernel_rfl) ?_
  repeat' (first | exact rfl | exact Nat.le_of_ble_eq_true rfl | refine And.intro ?_ ?_ | intro _ | refine bsplit_mk (fun _ => ?_) (fun _ => ?_))
  all_goals first
    | exact s0
    | exact hQ _ rfl
    | trace_state
theorem rfld_f (z : Z) (hz : z.Ok) (f : Fm) : TCalls Tryd.prog 47 [.agg (stC z), .agg (frS f (.v nilS) (.v nilS)), u8 102] [] none_ (callPost (told (.tup [.agg (stC (zbitZ z)), .agg (frS { f with flag := zbitB z } (.v nilS) (.v nilS))]) [] [])) := by
  have hQ : ∀ y, y = .tup [.agg (stC (zbitZ z)), .agg (frS { f with flag := zbitB z } (.v nilS) (.v nilS))] → callPost (told (.tup [.agg (stC (zbitZ z)), .agg (frS { f with flag := zbitB z } (.v nilS) (.v nilS))]) [] []) y [] none_ := fun y h => told_post h
  generalize callPost (told (.tup [.agg (stC (zbitZ z)), .agg (frS { f with flag := zbitB z } (.v nilS) (.v nilS))]) [] []) = Q at *
  have s0 := rbit_post z hz
  clear hz
  generalize zbitZ z = z0 at *
  generalize zbitB z = n0 at *
  unfold stC frS at *
  refine TCalls.of Tryd.func47 rfl (CanCall.of Tryd.func47 rfl (by decide)) [] fun Γ => ?_
  refine run_sound (⟨fun | 39, 1 => told (.tup [.agg [str z0.s, int (z0.a : Nat), int z0.e], bool n0]) [] [] | _, _ => .no, [], fun | 76 => some ⟨[0, 1], [3], .take true [0,1] (.one 2 (.one 3 .done))⟩ | _ => none⟩) 400 (B := ∀ (b b_1 b_2 b_3 : Nat), b = b ∧ TCalls Tryd.prog 77 [T.agg (stC z)] [] none_ (callPost (Hint.call false Unit (fun x => True) [] false (fun x => T.tup [T.agg [str (Z.s z0), int (↑(Z.a z0) : Int), int (Z.e z0)], bool n0]) (fun x => []) fun x => none_)) ∧ ∀ (a : Unit), True → (3 = nat_lit 3 ∧ List.all (stC z0) T.one = true) ∧ b = b ∧ 0 + nat_lit 3 ≤ 3 ∧ (1 = nat_lit 1 ∧ List.all (List.map T.v (Array.toList #[Value.bool n0])) T.one = true) ∧ b_1 = b_1 ∧ 11 + nat_lit 1 ≤ 34 ∧ b = b ∧ b_1 = b_1 ∧ (3 = nat_lit 3 ∧ List.all (stC z0) T.one = true) ∧ b_2 = b_2 ∧ 0 + nat_lit 3 ≤ 3 ∧ (34 = nat_lit 34 ∧ List.all (List.set (frS f (T.v nilS) (T.v nilS)) 11 (bool n0)) T.one = true) ∧ b_3 = b_3 ∧ 0 + nat_lit 34 ≤ 34 ∧ b_2 = b_2 ∧ b_3 = b_3 ∧ Q (T.tup [T.agg (stC z0), T.agg (List.set (frS f (T.v nilS) (T.v nilS)) 11 (bool n0))]) [] fun x => none) (by kernel_rfl) ?_
  repeat' (first | exact rfl | exact Nat.le_of_ble_eq_true rfl | refine And.intro ?_ ?_ | intro _ | refine bsplit_mk (fun _ => ?_) (fun _ => ?_))
  all_goals first
    | exact s0
    | exact hQ _ rfl
    | trace_state
theorem rfld_d (z : Z) (hz : z.Ok) (f : Fm) : TCalls Tryd.prog 47 [.agg (stC z), .agg (frS f (.v nilS) (.v nilS)), u8 100] [] none_ (callPost (told (.tup [.agg (stC (zgo 1 z)), .agg (frS { f with dir := znum 1 z } (.v nilS) (.v nilS))]) [] [])) := by
  have hQ : ∀ y, y = .tup [.agg (stC (zgo 1 z)), .agg (frS { f with dir := znum 1 z } (.v nilS) (.v nilS))] → callPost (told (.tup [.agg (stC (zgo 1 z)), .agg (frS { f with dir := znum 1 z } (.v nilS) (.v nilS))]) [] []) y [] none_ := fun y h => told_post h
  generalize callPost (told (.tup [.agg (stC (zgo 1 z)), .agg (frS { f with dir := znum 1 z } (.v nilS) (.v nilS))]) [] []) = Q at *
  have s0 := rnum_post z hz 1 (by decide)
  have k0 := w8 (Frm.znum1_lt z)
  clear hz
  generalize zgo 1 z = z0 at *
  generalize znum 1 z = n0 at *
  unfold stC frS at *
  refine TCalls.of Tryd.func47 rfl (CanCall.of Tryd.func47 rfl (by decide)) [] fun Γ => ?_
  refine run_sound (⟨fun | 42, 1 => .res (u8 n0) | 41, 1 => told (.tup [.agg [str z0.s, int (z0.a : Nat), int z0.e], u32 n0]) [] [] | _, _ => .no, [], fun | 76 => some ⟨[0, 1], [3], .take true [0,1] (.one 2 (.one 3 .done))⟩ | _ => none⟩) 400 (B := ∀ (b b_1 b_2 b_3 : Nat), b = b ∧ TCalls Tryd.prog 45 [T.agg (stC z), int 1] [] none_ (callPost (Hint.call false Unit (fun x => True) [] false (fun x => T.tup [T.agg [str (Z.s z0), int (↑(Z.a z0) : Int), int (Z.e z0)], u32 (↑n0 : Int)]) (fun x => []) fun x => none_)) ∧ ∀ (a : Unit), True → (3 = nat_lit 3 ∧ List.all (stC z0) T.one = true) ∧ b = b ∧ 0 + nat_lit 3 ≤ 3 ∧ u8 (IntKind.wrap IntKind.u8 (↑n0 : Int)) = u8 n0 ∧ (1 = nat_lit 1 ∧ List.all (List.map T.v (Array.toList #[Value.int IntKind.u8 (↑n0 : Int)])) T.one = true) ∧ b_1 = b_1 ∧ 12 + nat_lit 1 ≤ 34 ∧ b = b ∧ b_1 = b_1 ∧ (3 = nat_lit 3 ∧ List.all (stC z0) T.one = true) ∧ b_2 = b_2 ∧ 0 + nat_lit 3 ≤ 3 ∧ (34 = nat_lit 34 ∧ List.all (List.set (frS f (T.v nilS) (T.v nilS)) 12 (u8 n0)) T.one = true) ∧ b_3 = b_3 ∧ 0 + nat_lit 34 ≤ 34 ∧ b_2 = b_2 ∧ b_3 = b_3 ∧ Q (T.tup [T.agg (stC z0), T.agg (List.set (frS f (T.v nilS) (T.v nilS)) 12 (u8 n0))]) [] fun x => none) (by kernel_rfl) ?_
  repeat' (first | exact rfl | exact Nat.le_of_ble_eq_true rfl | refine And.intro ?_ ?_ | intro _ | refine bsplit_mk (fun _ => ?_) (fun _ => ?_))
  all_goals first
    | exact k0
    | exact s0
    | exact hQ _ rfl
    | trace_state
theorem rfld_l (z : Z) (hz : z.Ok) (f : Fm) : TCalls Tryd.prog 47 [.agg (stC z), .agg (frS f (.v nilS) (.v nilS)), u8 108] [] none_ (callPost (told (.tup [.agg (stC (zgo 1 z)), .agg (frS { f with life := znum 1 z } (.v nilS) (.v nilS))]) [] [])) := by
  have hQ : ∀ y, y = .tup [.agg (stC (zgo 1 z)), .agg (frS { f with life := znum 1 z } (.v nilS) (.v nilS))] → callPost (told (.tup [.agg (stC (zgo 1 z)), .agg (frS { f with life := znum 1 z } (.v nilS) (.v nilS))]) [] []) y [] none_ := fun y h => told_post h
  generalize callPost (told (.tup [.agg (stC (zgo 1 z)), .agg (frS { f with life := znum 1 z } (.v nilS) (.v nilS))]) [] []) = Q at *
  have s0 := rnum_post z hz 1 (by decide)
  have k0 := w8 (Frm.znum1_lt z)
  clear hz
  generalize zgo 1 z = z0 at *
  generalize znum 1 z = n0 at *
  unfold stC frS at *
  refine TCalls.of Tryd.func47 rfl (CanCall.of Tryd.func47 rfl (by decide)) [] fun Γ => ?_
  refine run_sound (⟨fun | 45, 1 => .res (u8 n0) | 44, 1 => told (.tup [.agg [str z0.s, int (z0.a : Nat), int z0.e], u32 n0]) [] [] | _, _ => .no, [], fun | 76 => some ⟨[0, 1], [3], .take true [0,1] (.one 2 (.one 3 .done))⟩ | _ => none⟩) 400 (B := ∀ (b b_1 b_2 b_3 : Nat), b = b ∧ TCalls Tryd.prog 45 [T.agg (stC z), int 1] [] none_ (callPost (Hint.call false Unit (fun x => True) [] false (fun x => T.tup [T.agg [str (Z.s z0), int (↑(Z.a z0) : Int), int (Z.e z0)], u32 (↑n0 : Int)]) (fun x => []) fun x => none_)) ∧ ∀ (a : Unit), True → (3 = nat_lit 3 ∧ List.all (stC z0) T.one = true) ∧ b = b ∧ 0 + nat_lit 3 ≤ 3 ∧ u8 (IntKind.wrap IntKind.u8 (↑n0 : Int)) = u8 n0 ∧ (1 = nat_lit 1 ∧ List.all (List.map T.v (Array.toList #[Value.int IntKind.u8 (↑n0 : Int)])) T.one = true) ∧ b_1 = b_1 ∧ 13 + nat_lit 1 ≤ 34 ∧ b = b ∧ b_1 = b_1 ∧ (3 = nat_lit 3 ∧ List.all (stC z0) T.one = true) ∧ b_2 = b_2 ∧ 0 + nat_lit 3 ≤ 3 ∧ (34 = nat_lit 34 ∧ List.all (List.set (frS f (T.v nilS) (T.v nilS)) 13 (u8 n0)) T.one = true) ∧ b_3 = b_3 ∧ 0 + nat_lit 34 ≤ 34 ∧ b_2 = b_2 ∧ b_3 = b_3 ∧ Q (T.tup [T.agg (stC z0), T.agg (List.set (frS f (T.v nilS) (T.v nilS)) 13 (u8 n0))]) [] fun x => none) (by kernel_rfl) ?_
  repeat' (first | exact rfl | exact Nat.le_of_ble_eq_true rfl | refine And.intro ?_ ?_ | intro _ | refine bsplit_mk (fun _ => ?_) (fun _ => ?_))
  all_goals first
    | exact k0
    | exact s0
    | exact hQ _ rfl
    | trace_state
theorem rfld_q (z : Z) (hz : z.Ok) (f : Fm) : TCalls Tryd.prog 47 [.agg (stC z), .agg (frS f (.v nilS) (.v nilS)), u8 113] [] none_ (callPost (told (.tup [.agg (stC (zgo 4 z)), .agg (frS { f with req := znum 4 z } (.v nilS) (.v nilS))]) [] [])) := by
  have hQ : ∀ y, y = .tup [.agg (stC (zgo 4 z)), .agg (frS { f with req := znum 4 z } (.v nilS) (.v nilS))] → callPost (told (.tup [.agg (stC (zgo 4 z)), .agg (frS { f with req := znum 4 z } (.v nilS) (.v nilS))]) [] []) y [] none_ := fun y h => told_post h
  generalize callPost (told (.tup [.agg (stC (zgo 4 z)), .agg (frS { f with req := znum 4 z } (.v nilS) (.v nilS))]) [] []) = Q at *
  have s0 := rnum_post z hz 4 (by decide)
  clear hz
  generalize zgo 4 z = z0 at *
  generalize znum 4 z = n0 at *
  unfold stC frS at *
  refine TCalls.of Tryd.func47 rfl (CanCall.of Tryd.func47 rfl (by decide)) [] fun Γ => ?_
  refine run_sound (⟨fun | 47, 1 => told (.tup [.agg [str z0.s, int (z0.a : Nat), int z0.e], u32 n0]) [] [] | _, _ => .no, [], fun | 76 => some ⟨[0, 1], [3], .take true [0,1] (.one 2 (.one 3 .done))⟩ | _ => none⟩) 400 (B := ∀ (b b_1 b_2 b_3 : Nat), b = b ∧ TCalls Tryd.prog 45 [T.agg (stC z), int 4] [] none_ (callPost (Hint.call false Unit (fun x => True) [] false (fun x => T.tup [T.agg [str (Z.s z0), int (↑(Z.a z0) : Int), int (Z.e z0)], u32 (↑n0 : Int)]) (fun x => []) fun x => none_)) ∧ ∀ (a : Unit), True → (3 = nat_lit 3 ∧ List.all (stC z0) T.one = true) ∧ b = b ∧ 0 + nat_lit 3 ≤ 3 ∧ (1 = nat_lit 1 ∧ List.all (List.map T.v (Array.toList #[Value.int IntKind.u32 (↑n0 : Int)])) T.one = true) ∧ b_1 = b_1 ∧ 14 + nat_lit 1 ≤ 34 ∧ b = b ∧ b_1 = b_1 ∧ (3 = nat_lit 3 ∧ List.all (stC z0) T.one = true) ∧ b_2 = b_2 ∧ 0 + nat_lit 3 ≤ 3 ∧ (34 = nat_lit 34 ∧ List.all (List.set (frS f (T.v nilS) (T.v nilS)) 14 (u32 n0)) T.one = true) ∧ b_3 = b_3 ∧ 0 + nat_lit 34 ≤ 34 ∧ b_2 = b_2 ∧ b_3 = b_3 ∧ Q (T.tup [T.agg (stC z0), T.agg (List.set (frS f (T.v nilS) (T.v nilS)) 14 (u32 n0))]) [] fun x => none) (by kernel_rfl) ?_
  repeat' (first | exact rfl | exact Nat.le_of_ble_eq_true rfl | refine And.intro ?_ ?_ | intro _ | refine bsplit_mk (fun _ => ?_) (fun _ => ?_))
  all_goals first
    | exact s0
    | exact hQ _ rfl
    | trace_state
theorem rfld_b (z : Z) (hz : z.Ok) (f : Fm) : TCalls Tryd.prog 47 [.agg (stC z), .agg (frS f (.v nilS) (.v nilS)), u8 98] [] none_ (callPost (told (.tup [.agg (stC (zgo 1 (zgo 4 z))), .agg (frS { f with bn := znum 4 z, bb := znum 1 (zgo 4 z) } (.v nilS) (.v nilS))]) [] [])) := by
  have hQ : ∀ y, y = .tup [.agg (stC (zgo 1 (zgo 4 z))), .agg (frS { f with bn := znum 4 z, bb := znum 1 (zgo 4 z) } (.v nilS) (.v nilS))] → callPost (told (.tup [.agg (stC (zgo 1 (zgo 4 z))), .agg (frS { f with bn := znum 4 z, bb := znum 1 (zgo 4 z) } (.v nilS) (.v nilS))]) [] []) y [] none_ := fun y h => told_post h
  generalize callPost (told (.tup [.agg (stC (zgo 1 (zgo 4 z))), .agg (frS { f with bn := znum 4 z, bb := znum 1 (zgo 4 z) } (.v nilS) (.v nilS))]) [] []) = Q at *
  have s0 := rnum_post z hz 4 (by decide)
  have s1 := rnum_post (zgo 4 z) (hz.go 4) 1 (by decide)
  have k1 := w8 (Frm.znum1_lt (zgo 4 z))
  clear hz
  generalize zgo 1 (zgo 4 z) = z1 at *
  generalize znum 1 (zgo 4 z) = n1 at *
  generalize zgo 4 z = z0 at *
  generalize znum 4 z = n0 at *
  unfold stC frS at *
  refine TCalls.of Tryd.func47 rfl (CanCall.of Tryd.func47 rfl (by decide)) [] fun Γ => ?_
  refine run_sound (⟨fun | 49, 1 => told (.tup [.agg [str z0.s, int (z0.a : Nat), int z0.e], u32 n0]) [] [] | 51, 1 => .res (u8 n1) | 50, 1 => told (.tup [.agg [str z1.s, int (z1.a : Nat), int z1.e], u32 n1]) [] [] | _, _ => .no, [], fun | 76 => some ⟨[0, 1], [3], .take true [0,1] (.one 2 (.one 3 .done))⟩ | _ => none⟩) 400 (B := ∀ (b b_1 b_2 b_3 : Nat), b = b ∧ TCalls Tryd.prog 45 [T.agg (stC z), int 4] [] none_ (callPost (Hint.call false Unit (fun x => True) [] false (fun x => T.tup [T.agg [str (Z.s z0), int (↑(Z.a z0) : Int), int (Z.e z0)], u32 (↑n0 : Int)]) (fun x => []) fun x => none_)) ∧ ∀ (a : Unit), True → (3 = nat_lit 3 ∧ List.all (stC z0) T.one = true) ∧ b = b ∧ 0 + nat_lit 3 ≤ 3 ∧ (1 = nat_lit 1 ∧ List.all (List.map T.v (Array.toList #[Value.int IntKind.u32 (↑n0 : Int)])) T.one = true) ∧ b_1 = b_1 ∧ 15 + nat_lit 1 ≤ 34 ∧ b = b ∧ TCalls Tryd.prog 45 [T.agg (stC z0), int 1] [] none_ (callPost (Hint.call false Unit (fun x => True) [] false (fun x => T.tup [T.agg [str (Z.s z1), int (↑(Z.a z1) : Int), int (Z.e z1)], u32 (↑n1 : Int)]) (fun x => []) fun x => none_)) ∧ ∀ (a : Unit), True → (3 = nat_lit 3 ∧ List.all (stC z1) T.one = true) ∧ b = b ∧ 0 + nat_lit 3 ≤ 3 ∧ u8 (IntKind.wrap IntKind.u8 (↑n1 : Int)) = u8 n1 ∧ (1 = nat_lit 1 ∧ List.all (List.map T.v (Array.toList #[Value.int IntKind.u8 (↑n1 : Int)])) T.one = true) ∧ b_1 = b_1 ∧ 16 + nat_lit 1 ≤ 34 ∧ b = b ∧ b_1 = b_1 ∧ (3 = nat_lit 3 ∧ List.all (stC z1) T.one = true) ∧ b_2 = b_2 ∧ 0 + nat_lit 3 ≤ 3 ∧ (34 = nat_lit 34 ∧ List.all (List.set (List.set (frS f (T.v nilS) (T.v nilS)) 15 (u32 n0)) 16 (u8 n1)) T.one = true) ∧ b_3 = b_3 ∧ 0 + nat_lit 34 ≤ 34 ∧ b_2 = b_2 ∧ b_3 = b_3 ∧ Q (T.tup [T.agg (stC z1), T.agg (List.set (List.set (frS f (T.v nilS) (T.v nilS)) 15 (u32 n0)) 16 (u8 n1))]) [] fun x => none) (by kernel_rfl) ?_
  repeat' (first | exact rfl | exact Nat.le_of_ble_eq_true rfl | refine And.intro ?_ ?_ | intro _ | refine bsplit_mk (fun _ => ?_) (fun _ => ?_))
  all_goals first
    | exact s0
    | exact k1
    | exact s1
    | exact hQ _ rfl
    | trace_state
theorem rfld_n (z : Z) (hz : z.Ok) (f : Fm) : TCalls Tryd.prog 47 [.agg (stC z), .agg (frS f (.v nilS) (.v nilS)), u8 110] [] none_ (callPost (told (.tup [.agg (stC (zgo 4 z)), .agg (frS { f with slot := znum 4 z } (.v nilS) (.v nilS))]) [] [])) := by
  have hQ : ∀ y, y = .tup [.agg (stC (zgo 4 z)), .agg (frS { f with slot := znum 4 z } (.v nilS) (.v nilS))] → callPost (told (.tup [.agg (stC (zgo 4 z)), .agg (frS { f with slot := znum 4 z } (.v nilS) (.v nilS))]) [] []) y [] none_ := fun y h => told_post h
  generalize callPost (told (.tup [.agg (stC (zgo 4 z)), .agg (frS { f with slot := znum 4 z } (.v nilS) (.v nilS))]) [] []) = Q at *
  have s0 := rnum_post z hz 4 (by decide)
  clear hz
  generalize zgo 4 z = z0 at *
  generalize znum 4 z = n0 at *
  unfold stC frS at *
  refine TCalls.of Tryd.func47 rfl (CanCall.of Tryd.func47 rfl (by decide)) [] fun Γ => ?_
  refine run_sound (⟨fun | 53, 1 => told (.tup [.agg [str z0.s, int (z0.a : Nat), int z0.e], u32 n0]) [] [] | _, _ => .no, [], fun | 76 => some ⟨[0, 1], [3], .take true [0,1] (.one 2 (.one 3 .done))⟩ | _ => none⟩) 400 (B := ∀ (b b_1 b_2 b_3 : Nat), b = b ∧ TCalls Tryd.prog 45 [T.agg (stC z), int 4] [] none_ (callPost (Hint.call false Unit (fun x => True) [] false (fun x => T.tup [T.agg [str (Z.s z0), int (↑(Z.a z0) : Int), int (Z.e z0)], u32 (↑n0 : Int)]) (fun x => []) fun x => none_)) ∧ ∀ (a : Unit), True → (3 = nat_lit 3 ∧ List.all (stC z0) T.one = true) ∧ b = b ∧ 0 + nat_lit 3 ≤ 3 ∧ (1 = nat_lit 1 ∧ List.all (List.map T.v (Array.toList #[Value.int IntKind.u32 (↑n0 : Int)])) T.one = true) ∧ b_1 = b_1 ∧ 17 + nat_lit 1 ≤ 34 ∧ b = b ∧ b_1 = b_1 ∧ (3 = nat_lit 3 ∧ List.all (stC z0) T.one = true) ∧ b_2 = b_2 ∧ 0 + nat_lit 3 ≤ 3 ∧ (34 = nat_lit 34 ∧ List.all (List.set (frS f (T.v nilS) (T.v nilS)) 17 (u32 n0)) T.one = true) ∧ b_3 = b_3 ∧ 0 + nat_lit 34 ≤ 34 ∧ b_2 = b_2 ∧ b_3 = b_3 ∧ Q (T.tup [T.agg (stC z0), T.agg (List.set (frS f (T.v nilS) (T.v nilS)) 17 (u32 n0))]) [] fun x => none) (by kernel_rfl) ?_
  repeat' (first | exact rfl | exact Nat.le_of_ble_eq_true rfl | refine And.intro ?_ ?_ | intro _ | refine bsplit_mk (fun _ => ?_) (fun _ => ?_))
  all_goals first
    | exact s0
    | exact hQ _ rfl
    | trace_state
theorem rfld_c (z : Z) (hz : z.Ok) (f : Fm) : TCalls Tryd.prog 47 [.agg (stC z), .agg (frS f (.v nilS) (.v nilS)), u8 99] [] none_ (callPost (told (.tup [.agg (stC (zcmdZ z)), .agg (frS { f with c := zcmd z } (.v nilS) (.v nilS))]) [] [])) := by
  have hQ : ∀ y, y = .tup [.agg (stC (zcmdZ z)), .agg (frS { f with c := zcmd z } (.v nilS) (.v nilS))] → callPost (told (.tup [.agg (stC (zcmdZ z)), .agg (frS { f with c := zcmd z } (.v nilS) (.v nilS))]) [] []) y [] none_ := fun y h => told_post h
  generalize callPost (told (.tup [.agg (stC (zcmdZ z)), .agg (frS { f with c := zcmd z } (.v nilS) (.v nilS))]) [] []) = Q at *
  have s0 := rrcmd_post z hz
  clear hz
  generalize zcmdZ z = z0 at *
  generalize zcmd z = n0 at *
  unfold stC frS cmdC at *
  refine TCalls.of Tryd.func47 rfl (CanCall.of Tryd.func47 rfl (by decide)) [] fun Γ => ?_
  refine run_sound (⟨fun | 55, 1 => told (.tup [.agg [str z0.s, int (z0.a : Nat), int z0.e], .agg [u8 n0.k, u8 n0.n, u8 n0.l, u32 n0.e, u32 n0.q]]) [] [] | _, _ => .no, [], fun | 76 => some ⟨[0, 1], [3], .take true [0,1] (.one 2 (.one 3 .done))⟩ | _ => none⟩) 400 (B := ∀ (b b_1 b_2 b_3 : Nat), b = b ∧ TCalls Tryd.prog 78 [T.agg (stC z)] [] none_ (callPost (Hint.call false Unit (fun x => True) [] false (fun x => T.tup [T.agg [str (Z.s z0), int (↑(Z.a z0) : Int), int (Z.e z0)], T.agg [u8 (↑(Cmd.k n0) : Int), u8 (↑(Cmd.n n0) : Int), u8 (↑(Cmd.l n0) : Int), u32 (↑(Cmd.e n0) : Int), u32 (↑(Cmd.q n0) : Int)]]) (fun x => []) fun x => none_)) ∧ ∀ (a : Unit), True → (3 = nat_lit 3 ∧ List.all (stC z0) T.one = true) ∧ b = b ∧ 0 + nat_lit 3 ≤ 3 ∧ (5 = nat_lit 5 ∧ List.all [u8 (Cmd.k n0), u8 (Cmd.n n0), u8 (Cmd.l n0), u32 (Cmd.e n0), u32 (Cmd.q n0)] T.one = true) ∧ b_1 = b_1 ∧ 18 + nat_lit 5 ≤ 34 ∧ b = b ∧ b_1 = b_1 ∧ (3 = nat_lit 3 ∧ List.all (stC z0) T.one = true) ∧ b_2 = b_2 ∧ 0 + nat_lit 3 ≤ 3 ∧ (34 = nat_lit 34 ∧ List.all (List.set (List.set (List.set (List.set (List.set (frS f (T.v nilS) (T.v nilS)) 18 (u8 (Cmd.k n0))) 19 (u8 (Cmd.n n0))) 20 (u8 (Cmd.l n0))) 21 (u32 (Cmd.e n0))) 22 (u32 (Cmd.q n0))) T.one = true) ∧ b_3 = b_3 ∧ 0 + nat_lit 34 ≤ 34 ∧ b_2 = b_2 ∧ b_3 = b_3 ∧ Q (T.tup [T.agg (stC z0), T.agg (List.set (List.set (List.set (List.set (List.set (frS f (T.v nilS) (T.v nilS)) 18 (u8 (Cmd.k n0))) 19 (u8 (Cmd.n n0))) 20 (u8 (Cmd.l n0))) 21 (u32 (Cmd.e n0))) 22 (u32 (Cmd.q n0)))]) [] fun x => none) (by kernel_rfl) ?_
  repeat' (first | exact rfl | exact Nat.le_of_ble_eq_true rfl | refine And.intro ?_ ?_ | intro _ | refine bsplit_mk (fun _ => ?_) (fun _ => ?_))
  all_goals first
    | exact s0
    | exact hQ _ rfl
    | trace_state
theorem rfld_k (z : Z) (hz : z.Ok) (f : Fm) : TCalls Tryd.prog 47 [.agg (stC z), .agg (frS f (.v nilS) (.v nilS)), u8 107] [] none_ (callPost (told (.tup [.agg (stC (zmust (decide (znum 1 z < 6)) (zgo 1 z))), .agg (frS { f with key := znum 1 z } (.v nilS) (.v nilS))]) [] [])) := by
  have hQ : ∀ y, y = .tup [.agg (stC (zmust (decide (znum 1 z < 6)) (zgo 1 z))), .agg (frS { f with key := znum 1 z } (.v nilS) (.v nilS))] → callPost (told (.tup [.agg (stC (zmust (decide (znum 1 z < 6)) (zgo 1 z))), .agg (frS { f with key := znum 1 z } (.v nilS) (.v nilS))]) [] []) y [] none_ := fun y h => told_post h
  generalize callPost (told (.tup [.agg (stC (zmust (decide (znum 1 z < 6)) (zgo 1 z))), .agg (frS { f with key := znum 1 z } (.v nilS) (.v nilS))]) [] []) = Q at *
  have s0 := rnum_post z hz 1 (by decide)
  have k0 := w8 (Frm.znum1_lt z)
  have s1 := rmst_post (zgo 1 z) (decide ((znum 1 z : Int) < ((6 : Nat) : Int)))
  rw [show zmust (decide ((znum 1 z : Int) < ((6 : Nat) : Int))) (zgo 1 z) = zmust (decide (znum 1 z < 6)) (zgo 1 z) by rw [lt1T]] at s1
  generalize zmust (decide (znum 1 z < 6)) (zgo 1 z) = z1 at *
  generalize zgo 1 z = z0 at *
  generalize znum 1 z = n0 at *
  unfold stC frS at *
  refine TCalls.of Tryd.func47 rfl (CanCall.of Tryd.func47 rfl (by decide)) [] fun Γ => ?_
  refine run_sound (⟨fun | 19, 1 => told (.tup [.agg [str z0.s, int (z0.a : Nat), int z0.e], u32 n0]) [] [] | 20, 3 => told (.agg [str z1.s, int (z1.a : Nat), int z1.e]) [] [] | 20, 5 => .res (u8 n0) | _, _ => .no, [], fun | 76 => some ⟨[0, 1], [3], .take true [0,1] (.one 2 (.one 3 .done))⟩ | _ => none⟩) 400 (B := ∀ (b b_1 b_2 b_3 : Nat), b = b ∧ TCalls Tryd.prog 45 [T.agg (stC z), int 1] [] none_ (callPost (Hint.call false Unit (fun x => True) [] false (fun x => T.tup [T.agg [str (Z.s z0), int (↑(Z.a z0) : Int), int (Z.e z0)], u32 (↑n0 : Int)]) (fun x => []) fun x => none_)) ∧ ∀ (a : Unit), True → (3 = nat_lit 3 ∧ List.all (stC z0) T.one = true) ∧ b = b ∧ 0 + nat_lit 3 ≤ 3 ∧ b = b ∧ TCalls Tryd.prog 46 [T.agg (stC z0), bool (decide ((↑n0 : Int) < (6 : Int)))] [] none_ (callPost (Hint.call false Unit (fun x => True) [] false (fun x => T.agg [str (Z.s z1), int (↑(Z.a z1) : Int), int (Z.e z1)]) (fun x => []) fun x => none_)) ∧ ∀ (a : Unit), True → u8 (IntKind.wrap IntKind.u8 (↑n0 : Int)) = u8 n0 ∧ (3 = nat_lit 3 ∧ List.all (stC z1) T.one = true) ∧ b = b ∧ 0 + nat_lit 3 ≤ 3 ∧ (1 = nat_lit 1 ∧ List.all (List.map T.v (Array.toList #[Value.int IntKind.u8 (↑n0 : Int)])) T.one = true) ∧ b_1 = b_1 ∧ 4 + nat_lit 1 ≤ 34 ∧ b = b ∧ b_1 = b_1 ∧ (3 = nat_lit 3 ∧ List.all (stC z1) T.one = true) ∧ b_2 = b_2 ∧ 0 + nat_lit 3 ≤ 3 ∧ (34 = nat_lit 34 ∧ List.all (List.set (frS f (T.v nilS) (T.v nilS)) 4 (u8 n0)) T.one = true) ∧ b_3 = b_3 ∧ 0 + nat_lit 34 ≤ 34 ∧ b_2 = b_2 ∧ b_3 = b_3 ∧ Q (T.tup [T.agg (stC z1), T.agg (List.set (frS f (T.v nilS) (T.v nilS)) 4 (u8 n0))]) [] fun x => none) (by kernel_rfl) ?_
  repeat' (first | exact rfl | exact Nat.le_of_ble_eq_true rfl | refine And.intro ?_ ?_ | intro _ | refine bsplit_mk (fun _ => ?_) (fun _ => ?_))
  all_goals first
    | exact s0
    | exact k0
    | exact s1
    | exact hQ _ rfl
    | trace_state
theorem rfld_v (z : Z) (hz : z.Ok) (f : Fm) : TCalls Tryd.prog 47 [.agg (stC z), .agg (frS f (.v nilS) (.v nilS)), u8 118] [] none_ (callPost (told (.tup [.agg (stC (zval f.x z).2), .agg (frS { f with has := (zval f.x z).1.1, x := (zval f.x z).1.2 } (.v nilS) (.v nilS))]) [] [])) := by
  have hQ : ∀ y, y = .tup [.agg (stC (zval f.x z).2), .agg (frS { f with has := (zval f.x z).1.1, x := (zval f.x z).1.2 } (.v nilS) (.v nilS))] → callPost (told (.tup [.agg (stC (zval f.x z).2), .agg (frS { f with has := (zval f.x z).1.1, x := (zval f.x z).1.2 } (.v nilS) (.v nilS))]) [] []) y [] none_ := fun y h => told_post h
  generalize callPost (told (.tup [.agg (stC (zval f.x z).2), .agg (frS { f with has := (zval f.x z).1.1, x := (zval f.x z).1.2 } (.v nilS) (.v nilS))]) [] []) = Q at *
  have s0 := rbit_post z hz
  have o1 := hz.bit
  have s1 := rnum_post (zbitZ z) o1 1 (by decide)
  have o2 := o1.go 1
  have hn := Frm.znum1_lt (zbitZ z)
  unfold Frm.zval Frm.zvz Frm.zvn at hQ
  clear hz o1
  generalize zgo 1 (zbitZ z) = z1 at *
  generalize znum 1 (zbitZ z) = n at *
  generalize zbitZ z = z0 at *
  generalize zbitB z = b at *
  have hs2 := o2.s
  have ha2 := o2.a
  clear o2
  obtain ⟨s, a, e⟩ := z1
  simp only at hs2 ha2
  have hsz : (⟨s.toArray⟩ : ByteArray).size = s.length := by show s.toArray.size = _; simp
  have hw : T.v (.int .i64 (IntKind.wrap .i64 (((⟨s.toArray⟩ : ByteArray).size : Int) - (a : Int)))) = int ((s.length : Int) - (a : Int)) := congrArg int (by rw [hsz, wrap_i64 (by omega) (by omega)])
  have hwn : T.v (.int .i64 (IntKind.wrap .i64 (n : Int))) = int (n : Nat) := congrArg int (wrap_i64 (by omega) (by omega))
  have hw2 : T.v (.int .i64 (IntKind.wrap .i64 ((a : Int) + (n : Int)))) = int (a + n : Nat) := congrArg int (by rw [wrap_i64 (by omega) (by omega)]; omega)
  by_cases h0 : e = 0
  · subst h0
    rw [if_neg (show ¬ (0 : Int) ≠ 0 by decide)] at hQ
    by_cases h1 : s.length < a + n
    · rw [if_pos h1] at hQ
      have hQ := hQ _ rfl
      unfold stC frS at *
      refine TCalls.of Tryd.func47 rfl (CanCall.of Tryd.func47 rfl (by decide)) [] fun Γ => ?_
      refine run_sound (⟨fun | 28, 1 => told (.tup [.agg [str z0.s, int (z0.a : Nat), int z0.e], bool b]) [] [] | 29, 1 => told (.tup [.agg [str s, int (a : Nat), int 0], u32 n]) [] [] | 30, 9 => .res (int ((s.length : Int) - (a : Int))) | 30, 11 => .res (int (n : Nat)) | _, _ => .no, [((0, 33), ([3, 4, 6, 7, 8], 4))], fun | 76 => some ⟨[0, 1], [3], .take true [0,1] (.one 2 (.one 3 .done))⟩ | _ => none⟩) 400 (B := ∀ (b_1 b_2 b_3 b_4 : Nat), b_1 = b_1 ∧ TCalls Tryd.prog 77 [T.agg (stC z)] [] none_ (callPost (Hint.call false Unit (fun x => True) [] false (fun x => T.tup [T.agg [str (Z.s z0), int (↑(Z.a z0) : Int), int (Z.e z0)], bool b]) (fun x => []) fun x => none_)) ∧ ∀ (a_1 : Unit), True → (3 = nat_lit 3 ∧ List.all (stC z0) T.one = true) ∧ b_1 = b_1 ∧ 0 + nat_lit 3 ≤ 3 ∧ (1 = nat_lit 1 ∧ List.all (List.map T.v (Array.toList #[Value.bool b])) T.one = true) ∧ b_2 = b_2 ∧ 8 + nat_lit 1 ≤ 34 ∧ b_1 = b_1 ∧ TCalls Tryd.prog 45 [T.agg (stC z0), int 1] [] none_ (callPost (Hint.call false Unit (fun x => True) [] false (fun x => T.tup [T.agg [str s, int (↑a : Int), int 0], u32 (↑n : Int)]) (fun x => []) fun x => none_)) ∧ ∀ (a_2 : Unit), True → (3 = nat_lit 3 ∧ List.all [str s, int a, int 0] T.one = true) ∧ b_1 = b_1 ∧ 0 + nat_lit 3 ≤ 3 ∧ b_1 = b_1 ∧ b_1 = b_1 ∧ b_1 = b_1 ∧ int (IntKind.wrap IntKind.i64 ((↑(ByteArray.size (ByteArray.mk (List.toArray s))) : Int) - (↑a : Int))) = int ((↑(List.length s) : Int) - (↑a : Int)) ∧ int (IntKind.wrap IntKind.i64 (↑n : Int)) = int n ∧ bsplit (decide ((↑(List.length s) : Int) - (↑a : Int) < (↑n : Int))) ((1 = nat_lit 1 ∧ List.all (List.map T.v (Array.toList #[Value.int IntKind.i64 (2 : Int)])) T.one = true) ∧ b_1 = b_1 ∧ 2 + nat_lit 1 ≤ 3 ∧ b_1 = b_1 ∧ b_1 = b_1 ∧ b_2 = b_2 ∧ (3 = nat_lit 3 ∧ List.all [str s, int a, int 2] T.one = true) ∧ b_3 = b_3 ∧ 0 + nat_lit 3 ≤ 3 ∧ (34 = nat_lit 34 ∧ List.all (List.set (frS f (T.v nilS) (T.v nilS)) 8 (bool b)) T.one = true) ∧ b_4 = b_4 ∧ 0 + nat_lit 34 ≤ 34 ∧ b_3 = b_3 ∧ b_4 = b_4 ∧ Q (T.tup [T.agg [str s, int a, int 2], T.agg (List.set (frS f (T.v nilS) (T.v nilS)) 8 (bool b))]) [] fun x => none) (b_1 = b_1 ∧ TWk Tryd.prog Γ (fin Tryd.prog Tryd.f47 [] Q) [It.code (sub (bd Tryd.f47) [1, 1, 0, 1, 0, 1, 1, 1, 1, 1, 1, 1, 0, 1, 1, 1, 1, 0]), It.blk 0, It.code (sub (bd Tryd.f47) [1, 1, 1])] { fr := frame 321 [(3, T.ptr 0 b_1 0), (4, T.ptr 1 b_2 0), (6, T.ptr 2 b_3 0), (7, T.ptr 3 b_4 0), (8, u32 n)], ob := [(b_1, Ob.cells [str s, int a, int 0]), (b_2, Ob.cells (List.set (frS f (T.v nilS) (T.v nilS)) 8 (bool b))), (b_3, Ob.cells [str [], int 0, int 0]), (b_4, Ob.cells zC)], gl := fun x => none })) (by kernel_rfl) ?_
      repeat' (first | exact rfl | exact Nat.le_of_ble_eq_true rfl | refine And.intro ?_ ?_ | intro _ | refine bsplit_mk (fun _ => ?_) (fun _ => ?_))
      all_goals first
        | exact s0
        | exact s1
        | exact hw
        | exact hwn
        | exact hQ
        | (exfalso; rename_i h; simp at h; done)
        | (exfalso; simp only [decide_eq_true_eq, decide_eq_false_iff_not] at *; omega)
        | trace_state
    · rw [if_neg h1] at hQ
      have hcut : T.v (.string ((⟨s.toArray⟩ : ByteArray).extract (a : Int).toNat ((a + n : Nat) : Int).toNat)) = str ((s.take (a + n)).drop a) := by rw [X1.str_cut, Int.toNat_natCast, Int.toNat_natCast]
      have s2 := fun w => rmst_post ⟨s, a + n, 0⟩ w
      have hQ : ∀ w, w = (decide (n ≤ 32) && (b || decide (n = 0))) → Q (.tup [.agg [str (zmust w ⟨s, a + n, 0⟩).s, int ((zmust w ⟨s, a + n, 0⟩).a : Nat), int (zmust w ⟨s, a + n, 0⟩).e], .agg ((frS { f with has := b } (.v nilS) (.v nilS)).set 9 (T.v (.string ((⟨s.toArray⟩ : ByteArray).extract (a : Int).toNat ((a + n : Nat) : Int).toNat))))]) [] none_ := fun w h => by rw [hcut]; exact hQ _ (by rw [h]; rfl)
      unfold stC frS at *
      refine TCalls.of Tryd.func47 rfl (CanCall.of Tryd.func47 rfl (by decide)) [] fun Γ => ?_
      refine run_sound (⟨fun | 28, 1 => told (.tup [.agg [str z0.s, int (z0.a : Nat), int z0.e], bool b]) [] [] | 29, 1 => told (.tup [.agg [str s, int (a : Nat), int 0], u32 n]) [] [] | 30, 9 => .res (int ((s.length : Int) - (a : Int))) | 30, 11 => .res (int (n : Nat)) | 33, 7 => .res (int (n : Nat)) | 33, 8 => .res (int (a + n : Nat)) | 34, 3 => .res (int (n : Nat)) | 34, 4 => .res (int (a + n : Nat)) | 35, 11 => mustH ⟨s, a + n, 0⟩ | _, _ => .no, [((0, 31), ([3, 4, 6, 7, 8], 4))], fun | 76 => some ⟨[0, 1], [3], .take true [0,1] (.one 2 (.one 3 .done))⟩ | _ => none⟩) 400 (B := ∀ (b_1 b_2 b_3 b_4 : Nat), b_1 = b_1 ∧ TCalls Tryd.prog 77 [T.agg (stC z)] [] none_ (callPost (Hint.call false Unit (fun x => True) [] false (fun x => T.tup [T.agg [str (Z.s z0), int (↑(Z.a z0) : Int), int (Z.e z0)], bool b]) (fun x => []) fun x => none_)) ∧ ∀ (a_1 : Unit), True → (3 = nat_lit 3 ∧ List.all (stC z0) T.one = true) ∧ b_1 = b_1 ∧ 0 + nat_lit 3 ≤ 3 ∧ (1 = nat_lit 1 ∧ List.all (List.map T.v (Array.toList #[Value.bool b])) T.one = true) ∧ b_2 = b_2 ∧ 8 + nat_lit 1 ≤ 34 ∧ b_1 = b_1 ∧ TCalls Tryd.prog 45 [T.agg (stC z0), int 1] [] none_ (callPost (Hint.call false Unit (fun x => True) [] false (fun x => T.tup [T.agg [str s, int (↑a : Int), int 0], u32 (↑n : Int)]) (fun x => []) fun x => none_)) ∧ ∀ (a_2 : Unit), True → (3 = nat_lit 3 ∧ List.all [str s, int a, int 0] T.one = true) ∧ b_1 = b_1 ∧ 0 + nat_lit 3 ≤ 3 ∧ b_1 = b_1 ∧ b_1 = b_1 ∧ b_1 = b_1 ∧ int (IntKind.wrap IntKind.i64 ((↑(ByteArray.size (ByteArray.mk (List.toArray s))) : Int) - (↑a : Int))) = int ((↑(List.length s) : Int) - (↑a : Int)) ∧ int (IntKind.wrap IntKind.i64 (↑n : Int)) = int n ∧ bsplit (decide ((↑(List.length s) : Int) - (↑a : Int) < (↑n : Int))) (TWk Tryd.prog Γ (fin Tryd.prog Tryd.f47 [] Q) [It.code (sub (bd Tryd.f47) [1, 1, 0, 1, 0, 1, 1, 1, 1, 1, 1, 1, 0, 1, 1, 0, 1, 0]), It.code (sub (bd Tryd.f47) [1, 1, 0, 1, 0, 1, 1, 1, 1, 1, 1, 1, 0, 1, 1, 1]), It.blk 0, It.code (sub (bd Tryd.f47) [1, 1, 1])] { fr := frame 321 [(3, T.ptr 0 b_1 0), (4, T.ptr 1 b_2 0), (6, T.ptr 2 b_3 0), (7, T.ptr 3 b_4 0), (8, u32 n)], ob := [(b_1, Ob.cells [str s, int a, int 0]), (b_2, Ob.cells (List.set (frS f (T.v nilS) (T.v nilS)) 8 (bool b))), (b_3, Ob.cells [str [], int 0, int 0]), (b_4, Ob.cells zC)], gl := fun x => none }) (b_1 = b_1 ∧ b_1 = b_1 ∧ b_1 = b_1 ∧ b_1 = b_1 ∧ int (IntKind.wrap IntKind.i64 (↑n : Int)) = int n ∧ int (IntKind.wrap IntKind.i64 ((↑a : Int) + (↑n : Int))) = int (a + n) ∧ ((0 : Int) ≤ Prod.snd (IntKind.i64, (↑a : Int)) ∧ Prod.snd (IntKind.i64, (↑a : Int)) ≤ Prod.snd (IntKind.i64, (↑(a + n) : Int)) ∧ Prod.snd (IntKind.i64, (↑(a + n) : Int)) ≤ (↑(ByteArray.size (ByteArray.mk (List.toArray s))) : Int)) ∧ (1 = nat_lit 1 ∧ List.all (List.map T.v (Array.toList #[Value.string (ByteArray.extract (ByteArray.mk (List.toArray s)) (Int.toNat (Prod.snd (IntKind.i64, (↑a : Int)))) (Int.toNat (Prod.snd (IntKind.i64, (↑(a + n) : Int)))))])) T.one = true) ∧ b_2 = b_2 ∧ 9 + nat_lit 1 ≤ 34 ∧ b_1 = b_1 ∧ int (IntKind.wrap IntKind.i64 (↑n : Int)) = int n ∧ int (IntKind.wrap IntKind.i64 ((↑a : Int) + (↑n : Int))) = int (a + n) ∧ (1 = nat_lit 1 ∧ List.all (List.map T.v (Array.toList #[Value.int IntKind.i64 (↑(a + n) : Int)])) T.one = true) ∧ b_1 = b_1 ∧ 1 + nat_lit 1 ≤ 3 ∧ b_1 = b_1 ∧ bsplit (decide ((↑n : Int) ≤ (32 : Int))) (b_2 = b_2 ∧ bsplit b (TCalls Tryd.prog 46 [T.agg [str s, int (a + n), int 0], bool true] [] none_ (callPost (Hint.call false Unit (fun x => True) [] false (fun x => T.agg [str (Z.s (zmust true { s := s, a := a + n, e := (0 : Int) })), int (↑(Z.a (zmust true { s := s, a := a + n, e := (0 : Int) })) : Int), int (Z.e (zmust true { s := s, a := a + n, e := (0 : Int) }))]) (fun x => []) fun x => none_)) ∧ ∀ (a_3 : Unit), True → (3 = nat_lit 3 ∧ List.all [str (Z.s (zmust true { s := s, a := a + n, e := (0 : Int) })), int (Z.a (zmust true { s := s, a := a + n, e := (0 : Int) })), int (Z.e (zmust true { s := s, a := a + n, e := (0 : Int) }))] T.one = true) ∧ b_1 = b_1 ∧ 0 + nat_lit 3 ≤ 3 ∧ b_1 = b_1 ∧ b_2 = b_2 ∧ (3 = nat_lit 3 ∧ List.all [str (Z.s (zmust true { s := s, a := a + n, e := (0 : Int) })), int (Z.a (zmust true { s := s, a := a + n, e := (0 : Int) })), int (Z.e (zmust true { s := s, a := a + n, e := (0 : Int) }))] T.one = true) ∧ b_3 = b_3 ∧ 0 + nat_lit 3 ≤ 3 ∧ (34 = nat_lit 34 ∧ List.all (List.set (List.set (frS f (T.v nilS) (T.v nilS)) 8 (bool b)) 9 (T.v (Value.string (ByteArray.extract (ByteArray.mk (List.toArray s)) (Int.toNat (Prod.snd (IntKind.i64, (↑a : Int)))) (Int.toNat (Prod.snd (IntKind.i64, (↑(a + n) : Int)))))))) T.one = true) ∧ b_4 = b_4 ∧ 0 + nat_lit 34 ≤ 34 ∧ b_3 = b_3 ∧ b_4 = b_4 ∧ Q (T.tup [T.agg [str (Z.s (zmust true { s := s, a := a + n, e := (0 : Int) })), int (Z.a (zmust true { s := s, a := a + n, e := (0 : Int) })), int (Z.e (zmust true { s := s, a := a + n, e := (0 : Int) }))], T.agg (List.set (List.set (frS f (T.v nilS) (T.v nilS)) 8 (bool b)) 9 (T.v (Value.string (ByteArray.extract (ByteArray.mk (List.toArray s)) (Int.toNat (Prod.snd (IntKind.i64, (↑a : Int)))) (Int.toNat (Prod.snd (IntKind.i64, (↑(a + n) : Int))))))))]) [] fun x => none) (TCalls Tryd.prog 46 [T.agg [str s, int (a + n), int 0], bool ((↑n : Int) == (0 : Int))] [] none_ (callPost (Hint.call false Unit (fun x => True) [] false (fun x => T.agg [str (Z.s (zmust ((↑n : Int) == (0 : Int)) { s := s, a := a + n, e := (0 : Int) })), int (↑(Z.a (zmust ((↑n : Int) == (0 : Int)) { s := s, a := a + n, e := (0 : Int) })) : Int), int (Z.e (zmust ((↑n : Int) == (0 : Int)) { s := s, a := a + n, e := (0 : Int) }))]) (fun x => []) fun x => none_)) ∧ ∀ (a_3 : Unit), True → (3 = nat_lit 3 ∧ List.all [str (Z.s (zmust ((↑n : Int) == (0 : Int)) { s := s, a := a + n, e := (0 : Int) })), int (Z.a (zmust ((↑n : Int) == (0 : Int)) { s := s, a := a + n, e := (0 : Int) })), int (Z.e (zmust ((↑n : Int) == (0 : Int)) { s := s, a := a + n, e := (0 : Int) }))] T.one = true) ∧ b_1 = b_1 ∧ 0 + nat_lit 3 ≤ 3 ∧ b_1 = b_1 ∧ b_2 = b_2 ∧ (3 = nat_lit 3 ∧ List.all [str (Z.s (zmust ((↑n : Int) == (0 : Int)) { s := s, a := a + n, e := (0 : Int) })), int (Z.a (zmust ((↑n : Int) == (0 : Int)) { s := s, a := a + n, e := (0 : Int) })), int (Z.e (zmust ((↑n : Int) == (0 : Int)) { s := s, a := a + n, e := (0 : Int) }))] T.one = true) ∧ b_3 = b_3 ∧ 0 + nat_lit 3 ≤ 3 ∧ (34 = nat_lit 34 ∧ List.all (List.set (List.set (frS f (T.v nilS) (T.v nilS)) 8 (bool b)) 9 (T.v (Value.string (ByteArray.extract (ByteArray.mk (List.toArray s)) (Int.toNat (Prod.snd (IntKind.i64, (↑a : Int)))) (Int.toNat (Prod.snd (IntKind.i64, (↑(a + n) : Int)))))))) T.one = true) ∧ b_4 = b_4 ∧ 0 + nat_lit 34 ≤ 34 ∧ b_3 = b_3 ∧ b_4 = b_4 ∧ Q (T.tup [T.agg [str (Z.s (zmust ((↑n : Int) == (0 : Int)) { s := s, a := a + n, e := (0 : Int) })), int (Z.a (zmust ((↑n : Int) == (0 : Int)) { s := s, a := a + n, e := (0 : Int) })), int (Z.e (zmust ((↑n : Int) == (0 : Int)) { s := s, a := a + n, e := (0 : Int) }))], T.agg (List.set (List.set (frS f (T.v nilS) (T.v nilS)) 8 (bool b)) 9 (T.v (Value.string (ByteArray.extract (ByteArray.mk (List.toArray s)) (Int.toNat (Prod.snd (IntKind.i64, (↑a : Int)))) (Int.toNat (Prod.snd (IntKind.i64, (↑(a + n) : Int))))))))]) [] fun x => none)) (TCalls Tryd.prog 46 [T.agg [str s, int (a + n), int 0], bool false] [] none_ (callPost (Hint.call false Unit (fun x => True) [] false (fun x => T.agg [str (Z.s (zmust false { s := s, a := a + n, e := (0 : Int) })), int (↑(Z.a (zmust false { s := s, a := a + n, e := (0 : Int) })) : Int), int (Z.e (zmust false { s := s, a := a + n, e := (0 : Int) }))]) (fun x => []) fun x => none_)) ∧ ∀ (a_3 : Unit), True → (3 = nat_lit 3 ∧ List.all [str (Z.s (zmust false { s := s, a := a + n, e := (0 : Int) })), int (Z.a (zmust false { s := s, a := a + n, e := (0 : Int) })), int (Z.e (zmust false { s := s, a := a + n, e := (0 : Int) }))] T.one = true) ∧ b_1 = b_1 ∧ 0 + nat_lit 3 ≤ 3 ∧ b_1 = b_1 ∧ b_2 = b_2 ∧ (3 = nat_lit 3 ∧ List.all [str (Z.s (zmust false { s := s, a := a + n, e := (0 : Int) })), int (Z.a (zmust false { s := s, a := a + n, e := (0 : Int) })), int (Z.e (zmust false { s := s, a := a + n, e := (0 : Int) }))] T.one = true) ∧ b_3 = b_3 ∧ 0 + nat_lit 3 ≤ 3 ∧ (34 = nat_lit 34 ∧ List.all (List.set (List.set (frS f (T.v nilS) (T.v nilS)) 8 (bool b)) 9 (T.v (Value.string (ByteArray.extract (ByteArray.mk (List.toArray s)) (Int.toNat (Prod.snd (IntKind.i64, (↑a : Int)))) (Int.toNat (Prod.snd (IntKind.i64, (↑(a + n) : Int)))))))) T.one = true) ∧ b_4 = b_4 ∧ 0 + nat_lit 34 ≤ 34 ∧ b_3 = b_3 ∧ b_4 = b_4 ∧ Q (T.tup [T.agg [str (Z.s (zmust false { s := s, a := a + n, e := (0 : Int) })), int (Z.a (zmust false { s := s, a := a + n, e := (0 : Int) })), int (Z.e (zmust false { s := s, a := a + n, e := (0 : Int) }))], T.agg (List.set (List.set (frS f (T.v nilS) (T.v nilS)) 8 (bool b)) 9 (T.v (Value.string (ByteArray.extract (ByteArray.mk (List.toArray s)) (Int.toNat (Prod.snd (IntKind.i64, (↑a : Int)))) (Int.toNat (Prod.snd (IntKind.i64, (↑(a + n) : Int))))))))]) [] fun x => none))) (by kernel_rfl) ?_
      repeat' (first | exact rfl | exact Nat.le_of_ble_eq_true rfl | refine And.intro ?_ ?_ | intro _ | refine bsplit_mk (fun _ => ?_) (fun _ => ?_))
      all_goals first
        | exact s0
        | exact s1
        | exact s2 _
        | exact hw
        | exact hwn
        | exact hw2
        | exact hcut
        | exact congrArg some hcut
        | (exfalso; clear hQ s0 s1 s2 hcut; simp only [decide_eq_true_eq, decide_eq_false_iff_not] at *; omega)
        | omega
        | (show ((a : Nat) : Int) ≤ ((a + n : Nat) : Int); omega)
        | (show ((a + n : Nat) : Int) ≤ (((⟨s.toArray⟩ : ByteArray).size : Nat) : Int); rw [hsz]; omega)
        | (refine hQ _ ?_; rw [← le1T, ← eq1T]; simp_all; done)
        | (refine hQ _ ?_; rw [← le1T, show decide ((n : Int) ≤ ((32 : Nat) : Int)) = false from ‹decide ((n : Int) ≤ 32) = false›]; rfl)
        | (clear s0 s1; trace_state)
  · have hr : ∀ q : (Bool × List UInt8) × Z, (if e ≠ 0 then ((b, f.x), Z.mk s a e) else q) = ((b, f.x), Z.mk s a e) := fun q => if_pos h0
    simp only at hQ
    rw [hr] at hQ
    have hQ := hQ _ rfl
    have hne : (e == 0) = false := by simpa using h0
    unfold stC frS at *
    refine TCalls.of Tryd.func47 rfl (CanCall.of Tryd.func47 rfl (by decide)) [] fun Γ => ?_
    refine run_sound (⟨fun | 28, 1 => told (.tup [.agg [str z0.s, int (z0.a : Nat), int z0.e], bool b]) [] [] | 29, 1 => told (.tup [.agg [str s, int (a : Nat), int e], u32 n]) [] [] | 30, 9 => .res (int ((s.length : Int) - (a : Int))) | 30, 11 => .res (int (n : Nat)) | _, _ => .no, [((0, 31), ([3, 4, 6, 7, 8], 4)), ((0, 33), ([3, 4, 6, 7, 8], 4))], fun | 76 => some ⟨[0, 1], [3], .take true [0,1] (.one 2 (.one 3 .done))⟩ | _ => none⟩) 400 (B := ∀ (b_1 b_2 b_3 b_4 : Nat), b_1 = b_1 ∧ TCalls Tryd.prog 77 [T.agg (stC z)] [] none_ (callPost (Hint.call false Unit (fun x => True) [] false (fun x => T.tup [T.agg [str (Z.s z0), int (↑(Z.a z0) : Int), int (Z.e z0)], bool b]) (fun x => []) fun x => none_)) ∧ ∀ (a_1 : Unit), True → (3 = nat_lit 3 ∧ List.all (stC z0) T.one = true) ∧ b_1 = b_1 ∧ 0 + nat_lit 3 ≤ 3 ∧ (1 = nat_lit 1 ∧ List.all (List.map T.v (Array.toList #[Value.bool b])) T.one = true) ∧ b_2 = b_2 ∧ 8 + nat_lit 1 ≤ 34 ∧ b_1 = b_1 ∧ TCalls Tryd.prog 45 [T.agg (stC z0), int 1] [] none_ (callPost (Hint.call false Unit (fun x => True) [] false (fun x => T.tup [T.agg [str s, int (↑a : Int), int e], u32 (↑n : Int)]) (fun x => []) fun x => none_)) ∧ ∀ (a_2 : Unit), True → (3 = nat_lit 3 ∧ List.all [str s, int a, int e] T.one = true) ∧ b_1 = b_1 ∧ 0 + nat_lit 3 ≤ 3 ∧ b_1 = b_1 ∧ bsplit (e == (0 : Int)) (b_1 = b_1 ∧ b_1 = b_1 ∧ int (IntKind.wrap IntKind.i64 ((↑(ByteArray.size (ByteArray.mk (List.toArray s))) : Int) - (↑a : Int))) = int ((↑(List.length s) : Int) - (↑a : Int)) ∧ int (IntKind.wrap IntKind.i64 (↑n : Int)) = int n ∧ bsplit (decide ((↑(List.length s) : Int) - (↑a : Int) < (↑n : Int))) (TWk Tryd.prog Γ (fin Tryd.prog Tryd.f47 [] Q) [It.code (sub (bd Tryd.f47) [1, 1, 0, 1, 0, 1, 1, 1, 1, 1, 1, 1, 0, 1, 1, 0, 1, 0]), It.code (sub (bd Tryd.f47) [1, 1, 0, 1, 0, 1, 1, 1, 1, 1, 1, 1, 0, 1, 1, 1]), It.blk 0, It.code (sub (bd Tryd.f47) [1, 1, 1])] { fr := frame 321 [(3, T.ptr 0 b_1 0), (4, T.ptr 1 b_2 0), (6, T.ptr 2 b_3 0), (7, T.ptr 3 b_4 0), (8, u32 n)], ob := [(b_1, Ob.cells [str s, int a, int e]), (b_2, Ob.cells (List.set (frS f (T.v nilS) (T.v nilS)) 8 (bool b))), (b_3, Ob.cells [str [], int 0, int 0]), (b_4, Ob.cells zC)], gl := fun x => none }) (b_1 = b_1 ∧ bsplit (e == (0 : Int)) (TWk Tryd.prog Γ (fin Tryd.prog Tryd.f47 [] Q) [It.code (sub (bd Tryd.f47) [1, 1, 0, 1, 0, 1, 1, 1, 1, 1, 1, 1, 0, 1, 1, 1, 1, 0]), It.blk 0, It.code (sub (bd Tryd.f47) [1, 1, 1])] { fr := frame 321 [(3, T.ptr 0 b_1 0), (4, T.ptr 1 b_2 0), (6, T.ptr 2 b_3 0), (7, T.ptr 3 b_4 0), (8, u32 n)], ob := [(b_1, Ob.cells [str s, int a, int e]), (b_2, Ob.cells (List.set (frS f (T.v nilS) (T.v nilS)) 8 (bool b))), (b_3, Ob.cells [str [], int 0, int 0]), (b_4, Ob.cells zC)], gl := fun x => none }) (b_1 = b_1 ∧ b_2 = b_2 ∧ (3 = nat_lit 3 ∧ List.all [str s, int a, int e] T.one = true) ∧ b_3 = b_3 ∧ 0 + nat_lit 3 ≤ 3 ∧ (34 = nat_lit 34 ∧ List.all (List.set (frS f (T.v nilS) (T.v nilS)) 8 (bool b)) T.one = true) ∧ b_4 = b_4 ∧ 0 + nat_lit 34 ≤ 34 ∧ b_3 = b_3 ∧ b_4 = b_4 ∧ Q (T.tup [T.agg [str s, int a, int e], T.agg (List.set (frS f (T.v nilS) (T.v nilS)) 8 (bool b))]) [] fun x => none))) (b_1 = b_1 ∧ bsplit (e == (0 : Int)) (TWk Tryd.prog Γ (fin Tryd.prog Tryd.f47 [] Q) [It.code (sub (bd Tryd.f47) [1, 1, 0, 1, 0, 1, 1, 1, 1, 1, 1, 1, 0, 1, 1, 1, 1, 0]), It.blk 0, It.code (sub (bd Tryd.f47) [1, 1, 1])] { fr := frame 321 [(3, T.ptr 0 b_1 0), (4, T.ptr 1 b_2 0), (6, T.ptr 2 b_3 0), (7, T.ptr 3 b_4 0), (8, u32 n)], ob := [(b_1, Ob.cells [str s, int a, int e]), (b_2, Ob.cells (List.set (frS f (T.v nilS) (T.v nilS)) 8 (bool b))), (b_3, Ob.cells [str [], int 0, int 0]), (b_4, Ob.cells zC)], gl := fun x => none }) (b_1 = b_1 ∧ b_2 = b_2 ∧ (3 = nat_lit 3 ∧ List.all [str s, int a, int e] T.one = true) ∧ b_3 = b_3 ∧ 0 + nat_lit 3 ≤ 3 ∧ (34 = nat_lit 34 ∧ List.all (List.set (frS f (T.v nilS) (T.v nilS)) 8 (bool b)) T.one = true) ∧ b_4 = b_4 ∧ 0 + nat_lit 34 ≤ 34 ∧ b_3 = b_3 ∧ b_4 = b_4 ∧ Q (T.tup [T.agg [str s, int a, int e], T.agg (List.set (frS f (T.v nilS) (T.v nilS)) 8 (bool b))]) [] fun x => none))) (by kernel_rfl) ?_
    repeat' (first | exact rfl | exact Nat.le_of_ble_eq_true rfl | refine And.intro ?_ ?_ | intro _ | refine bsplit_mk (fun _ => ?_) (fun _ => ?_))
    all_goals first
      | exact s0
      | exact s1
      | exact hQ
      | (exfalso; rename_i h; rw [hne] at h; cases h)
      | (exfalso; simp_all; done)
      | trace_state
end X6
end Go.Proofs.YtaepgceodcdnhaaDoor.Vm
/- Frames by the engine: the document's field of a frame, views and entries. -/
namespace Go.Proofs.YtaepgceodcdnhaaDoor.Vm
open Go Go.RowKit
set_option maxRecDepth 100000
namespace X6
def ptFU1 : List Nat := [1, 1, 0, 1, 0, 1, 1, 1, 1, 1, 1, 1, 1, 1, 1, 1, 1, 1, 1, 1, 1, 1, 1, 1, 1, 1, 1, 1, 1, 1, 0, 1, 1, 1, 1, 1, 0]
def ptFU2 : List Nat := [1, 1, 0, 1, 0, 1, 1, 1, 1, 1, 1, 1, 1, 1, 1, 1, 1, 1, 1, 1, 1, 1, 1, 1, 1, 1, 1, 1, 1, 1, 0, 1, 1, 1, 0, 1, 0]
def ptFU3 : List Nat := [1, 1, 0, 1, 0, 1, 1, 1, 1, 1, 1, 1, 1, 1, 1, 1, 1, 1, 1, 1, 1, 1, 1, 1, 1, 1, 1, 1, 1, 1, 0, 1, 1, 1, 1]
def ptFU4 : List Nat := [1, 1, 0, 1, 0, 1, 1, 1, 1, 1, 1, 1, 1, 1, 1, 1, 1, 1, 1, 1, 1, 1, 1, 1, 1, 1, 1, 1, 1, 1, 1, 1, 1, 1, 0]
open Frm (Cmd Mem Ent Lvs Fm Z zgo znum zmust zbitB zbitZ zcmd zcmdZ zval zvz zvn zmem zmemZ zmems zcnt zgos zent zentZ zents zlv zview)
open Oct (getN)
def rmW (M : List T) (h : Value) : Nat × Ob := (0, .room 3 99 M.length h)
def rmE (E : List T) (h : Value) : Nat × Ob := (0, .room 8 105 E.length h)
def st0 : List T := [str [], int 0, int 0]
/-- while a view is read -/
def obsW (b0 b1 b2 b3 : Nat) (z : Z) (f : Fm) (M : List T) (hd : Value) : Obs := [(b0, .cells (stC z)), (b1, .cells (frS f (.slx 3 4 M hd) (.v nilS))), (b2, .cells st0), (b3, .cells zC), rmW M hd]
def obsJ (b0 b1 b2 b3 : Nat) (z : Z) (f : Fm) (E : List T) (hd : Value) : Obs := [(b0, .cells (stC z)), (b1, .cells (frS f (.v nilS) (.slx 8 4 E hd))), (b2, .cells st0), (b3, .cells zC), rmE E hd]
section
variable (Γ : Ctx) (b0 b1 b2 b3 : Nat) (Q : T → Obs → Glb → Prop)
theorem rw_end (z : Z) (f : Fm) (M : List T) (hd : Value) (hQ : Q (.tup [.agg (stC z), .agg (frS f (.sl 3 M) (.v nilS))]) [] none_) : TWk Tryd.prog Γ (fin Tryd.prog Tryd.f47 [] Q) [.code (sub (bd Tryd.f47) ptFU1), .blk 5, .blk 0, .code (sub (bd Tryd.f47) [1, 1, 1])] ⟨frame 321 [(3, .ptr 0 b0 0), (4, .ptr 1 b1 0), (6, .ptr 2 b2 0), (7, .ptr 3 b3 0), (12, int 8)], obsW b0 b1 b2 b3 z f M hd, none_⟩ := by
  unfold obsW stC frS rmW at *
  refine run_sound (⟨fun | 74, 1 => .no | _, _ => .no, [((0, 74), ([3, 4, 6, 7, 12], 5))], fun | 76 => some ⟨[0, 1], [3], .take true [0,1] (.one 2 (.one 3 .done))⟩ | _ => none⟩) 400 (B := b0 = b0 ∧ b1 = b1 ∧ (3 = nat_lit 3 ∧ List.all (stC z) T.one = true) ∧ b2 = b2 ∧ 0 + nat_lit 3 ≤ 3 ∧ (34 = nat_lit 34 ∧ List.all (frS f (T.slx 3 4 M hd) (T.v nilS)) T.one = true) ∧ b3 = b3 ∧ 0 + nat_lit 34 ≤ 34 ∧ b2 = b2 ∧ b3 = b3 ∧ Q (T.tup [T.agg (stC z), T.agg (frS f (T.sl 3 M) (T.v nilS))]) [] fun x => none) (by kernel_rfl) ?_
  repeat' (first | exact rfl | exact Nat.le_of_ble_eq_true rfl | refine And.intro ?_ ?_ | intro _ | refine bsplit_mk (fun _ => ?_) (fun _ => ?_))
  all_goals first
    | exact hQ
    | (exfalso; rename_i h; simp at h; done)
    | trace_state
theorem rw_l7 (z : Z) (hz : z.Ok) (f : Fm) (M : List T) (hd : Value) (nx : TWk Tryd.prog Γ (fin Tryd.prog Tryd.f47 [] Q) [.code (sub (bd Tryd.f47) ptFU1), .blk 5, .blk 0, .code (sub (bd Tryd.f47) [1, 1, 1])] ⟨frame 321 [(3, .ptr 0 b0 0), (4, .ptr 1 b1 0), (6, .ptr 2 b2 0), (7, .ptr 3 b3 0), (12, int 8)], obsW b0 b1 b2 b3 (zgo 1 z) { f with lv := { f.lv with l7 := znum 1 z } } M hd, none_⟩) : TWk Tryd.prog Γ (fin Tryd.prog Tryd.f47 [] Q) [.code (sub (bd Tryd.f47) ptFU1), .blk 5, .blk 0, .code (sub (bd Tryd.f47) [1, 1, 1])] ⟨frame 321 [(3, .ptr 0 b0 0), (4, .ptr 1 b1 0), (6, .ptr 2 b2 0), (7, .ptr 3 b3 0), (12, int 7)], obsW b0 b1 b2 b3 z f M hd, none_⟩ := by
  have s0 := rnum_post z hz 1 (by decide)
  have k0 := w8 (Frm.znum1_lt z)
  clear hz
  generalize zgo 1 z = z0 at *
  generalize znum 1 z = n0 at *
  unfold obsW stC frS rmW at *
  refine run_sound (⟨fun | 74, 1 => told (.tup [.agg [str z0.s, int (z0.a : Nat), int z0.e], u32 n0]) [] [] | 75, 2 => .res (u8 n0) | _, _ => .no, [((2, 72), ([3, 4, 6, 7, 12], 5)), ((0, 76), ([3, 4, 6, 7], 5))], fun | 76 => some ⟨[0, 1], [3], .take true [0,1] (.one 2 (.one 3 .done))⟩ | _ => none⟩) 400 (B := b0 = b0 ∧ TCalls Tryd.prog 45 [T.agg (stC z), int 1] [] none_ (callPost (Hint.call false Unit (fun x => True) [] false (fun x => T.tup [T.agg [str (Z.s z0), int (↑(Z.a z0) : Int), int (Z.e z0)], u32 (↑n0 : Int)]) (fun x => []) fun x => none_)) ∧ ∀ (a : Unit), True → (3 = nat_lit 3 ∧ List.all (stC z0) T.one = true) ∧ b0 = b0 ∧ 0 + nat_lit 3 ≤ 3 ∧ u8 (IntKind.wrap IntKind.u8 (↑n0 : Int)) = u8 n0 ∧ ((0 : Int) ≤ (7 : Int) ∧ (7 : Int) < (↑(8 : Nat) : Int)) ∧ (1 = nat_lit 1 ∧ List.all (List.map T.v (Array.toList #[Value.int IntKind.u8 (↑n0 : Int)])) T.one = true) ∧ b1 = b1 ∧ 32 + nat_lit 1 ≤ 34 ∧ TWk Tryd.prog Γ (fin Tryd.prog Tryd.f47 [] Q) [It.code (sub (bd Tryd.f47) ptFU1), It.blk 5, It.blk 0, It.code (sub (bd Tryd.f47) [1, 1, 1])] { fr := frame 321 [(3, T.ptr 0 b0 0), (4, T.ptr 1 b1 0), (6, T.ptr 2 b2 0), (7, T.ptr 3 b3 0), (12, int (IntKind.wrap IntKind.i64 ((7 : Int) + (1 : Int))))], ob := [(b0, Ob.cells (stC z0)), (b1, Ob.cells (List.set (frS f (T.slx 3 4 M hd) (T.v nilS)) 32 (u8 n0))), (b2, Ob.cells [str [], int 0, int 0]), (b3, Ob.cells zC), (0, Ob.room 3 99 (List.length M) hd)], gl := fun x => none }) (by kernel_rfl) ?_
  repeat' (first | exact rfl | exact Nat.le_of_ble_eq_true rfl | refine And.intro ?_ ?_ | intro _ | refine bsplit_mk (fun _ => ?_) (fun _ => ?_))
  all_goals first
    | exact s0
    | exact k0
    | exact nx
    | (show (0 : Int) ≤ 7; decide)
    | (show (7 : Int) < ((8 : Nat) : Int); decide)
    | (exfalso; rename_i h; simp at h; done)
    | (clear nx; trace_state)
theorem rw_l6 (z : Z) (hz : z.Ok) (f : Fm) (M : List T) (hd : Value) (nx : TWk Tryd.prog Γ (fin Tryd.prog Tryd.f47 [] Q) [.code (sub (bd Tryd.f47) ptFU1), .blk 5, .blk 0, .code (sub (bd Tryd.f47) [1, 1, 1])] ⟨frame 321 [(3, .ptr 0 b0 0), (4, .ptr 1 b1 0), (6, .ptr 2 b2 0), (7, .ptr 3 b3 0), (12, int 7)], obsW b0 b1 b2 b3 (zgo 1 z) { f with lv := { f.lv with l6 := znum 1 z } } M hd, none_⟩) : TWk Tryd.prog Γ (fin Tryd.prog Tryd.f47 [] Q) [.code (sub (bd Tryd.f47) ptFU1), .blk 5, .blk 0, .code (sub (bd Tryd.f47) [1, 1, 1])] ⟨frame 321 [(3, .ptr 0 b0 0), (4, .ptr 1 b1 0), (6, .ptr 2 b2 0), (7, .ptr 3 b3 0), (12, int 6)], obsW b0 b1 b2 b3 z f M hd, none_⟩ := by
  have s0 := rnum_post z hz 1 (by decide)
  have k0 := w8 (Frm.znum1_lt z)
  clear hz
  generalize zgo 1 z = z0 at *
  generalize znum 1 z = n0 at *
  unfold obsW stC frS rmW at *
  refine run_sound (⟨fun | 74, 1 => told (.tup [.agg [str z0.s, int (z0.a : Nat), int z0.e], u32 n0]) [] [] | 75, 2 => .res (u8 n0) | _, _ => .no, [((2, 72), ([3, 4, 6, 7, 12], 5)), ((0, 76), ([3, 4, 6, 7], 5))], fun | 76 => some ⟨[0, 1], [3], .take true [0,1] (.one 2 (.one 3 .done))⟩ | _ => none⟩) 400 (B := b0 = b0 ∧ TCalls Tryd.prog 45 [T.agg (stC z), int 1] [] none_ (callPost (Hint.call false Unit (fun x => True) [] false (fun x => T.tup [T.agg [str (Z.s z0), int (↑(Z.a z0) : Int), int (Z.e z0)], u32 (↑n0 : Int)]) (fun x => []) fun x => none_)) ∧ ∀ (a : Unit), True → (3 = nat_lit 3 ∧ List.all (stC z0) T.one = true) ∧ b0 = b0 ∧ 0 + nat_lit 3 ≤ 3 ∧ u8 (IntKind.wrap IntKind.u8 (↑n0 : Int)) = u8 n0 ∧ ((0 : Int) ≤ (6 : Int) ∧ (6 : Int) < (↑(8 : Nat) : Int)) ∧ (1 = nat_lit 1 ∧ List.all (List.map T.v (Array.toList #[Value.int IntKind.u8 (↑n0 : Int)])) T.one = true) ∧ b1 = b1 ∧ 31 + nat_lit 1 ≤ 34 ∧ TWk Tryd.prog Γ (fin Tryd.prog Tryd.f47 [] Q) [It.code (sub (bd Tryd.f47) ptFU1), It.blk 5, It.blk 0, It.code (sub (bd Tryd.f47) [1, 1, 1])] { fr := frame 321 [(3, T.ptr 0 b0 0), (4, T.ptr 1 b1 0), (6, T.ptr 2 b2 0), (7, T.ptr 3 b3 0), (12, int (IntKind.wrap IntKind.i64 ((6 : Int) + (1 : Int))))], ob := [(b0, Ob.cells (stC z0)), (b1, Ob.cells (List.set (frS f (T.slx 3 4 M hd) (T.v nilS)) 31 (u8 n0))), (b2, Ob.cells [str [], int 0, int 0]), (b3, Ob.cells zC), (0, Ob.room 3 99 (List.length M) hd)], gl := fun x => none }) (by kernel_rfl) ?_
  repeat' (first | exact rfl | exact Nat.le_of_ble_eq_true rfl | refine And.intro ?_ ?_ | intro _ | refine bsplit_mk (fun _ => ?_) (fun _ => ?_))
  all_goals first
    | exact s0
    | exact k0
    | exact nx
    | (show (0 : Int) ≤ 6; decide)
    | (show (6 : Int) < ((8 : Nat) : Int); decide)
    | (exfalso; rename_i h; simp at h; done)
    | (clear nx; trace_state)
theorem rw_l5 (z : Z) (hz : z.Ok) (f : Fm) (M : List T) (hd : Value) (nx : TWk Tryd.prog Γ (fin Tryd.prog Tryd.f47 [] Q) [.code (sub (bd Tryd.f47) ptFU1), .blk 5, .blk 0, .code (sub (bd Tryd.f47) [1, 1, 1])] ⟨frame 321 [(3, .ptr 0 b0 0), (4, .ptr 1 b1 0), (6, .ptr 2 b2 0), (7, .ptr 3 b3 0), (12, int 6)], obsW b0 b1 b2 b3 (zgo 1 z) { f with lv := { f.lv with l5 := znum 1 z } } M hd, none_⟩) : TWk Tryd.prog Γ (fin Tryd.prog Tryd.f47 [] Q) [.code (sub (bd Tryd.f47) ptFU1), .blk 5, .blk 0, .code (sub (bd Tryd.f47) [1, 1, 1])] ⟨frame 321 [(3, .ptr 0 b0 0), (4, .ptr 1 b1 0), (6, .ptr 2 b2 0), (7, .ptr 3 b3 0), (12, int 5)], obsW b0 b1 b2 b3 z f M hd, none_⟩ := by
  have s0 := rnum_post z hz 1 (by decide)
  have k0 := w8 (Frm.znum1_lt z)
  clear hz
  generalize zgo 1 z = z0 at *
  generalize znum 1 z = n0 at *
  unfold obsW stC frS rmW at *
  refine run_sound (⟨fun | 74, 1 => told (.tup [.agg [str z0.s, int (z0.a : Nat), int z0.e], u32 n0]) [] [] | 75, 2 => .res (u8 n0) | _, _ => .no, [((2, 72), ([3, 4, 6, 7, 12], 5)), ((0, 76), ([3, 4, 6, 7], 5))], fun | 76 => some ⟨[0, 1], [3], .take true [0,1] (.one 2 (.one 3 .done))⟩ | _ => none⟩) 400 (B := b0 = b0 ∧ TCalls Tryd.prog 45 [T.agg (stC z), int 1] [] none_ (callPost (Hint.call false Unit (fun x => True) [] false (fun x => T.tup [T.agg [str (Z.s z0), int (↑(Z.a z0) : Int), int (Z.e z0)], u32 (↑n0 : Int)]) (fun x => []) fun x => none_)) ∧ ∀ (a : Unit), True → (3 = nat_lit 3 ∧ List.all (stC z0) T.one = true) ∧ b0 = b0 ∧ 0 + nat_lit 3 ≤ 3 ∧ u8 (IntKind.wrap IntKind.u8 (↑n0 : Int)) = u8 n0 ∧ ((0 : Int) ≤ (5 : Int) ∧ (5 : Int) < (↑(8 : Nat) : Int)) ∧ (1 = nat_lit 1 ∧ List.all (List.map T.v (Array.toList #[Value.int IntKind.u8 (↑n0 : Int)])) T.one = true) ∧ b1 = b1 ∧ 30 + nat_lit 1 ≤ 34 ∧ TWk Tryd.prog Γ (fin Tryd.prog Tryd.f47 [] Q) [It.code (sub (bd Tryd.f47) ptFU1), It.blk 5, It.blk 0, It.code (sub (bd Tryd.f47) [1, 1, 1])] { fr := frame 321 [(3, T.ptr 0 b0 0), (4, T.ptr 1 b1 0), (6, T.ptr 2 b2 0), (7, T.ptr 3 b3 0), (12, int (IntKind.wrap IntKind.i64 ((5 : Int) + (1 : Int))))], ob := [(b0, Ob.cells (stC z0)), (b1, Ob.cells (List.set (frS f (T.slx 3 4 M hd) (T.v nilS)) 30 (u8 n0))), (b2, Ob.cells [str [], int 0, int 0]), (b3, Ob.cells zC), (0, Ob.room 3 99 (List.length M) hd)], gl := fun x => none }) (by kernel_rfl) ?_
  repeat' (first | exact rfl | exact Nat.le_of_ble_eq_true rfl | refine And.intro ?_ ?_ | intro _ | refine bsplit_mk (fun _ => ?_) (fun _ => ?_))
  all_goals first
    | exact s0
    | exact k0
    | exact nx
    | (show (0 : Int) ≤ 5; decide)
    | (show (5 : Int) < ((8 : Nat) : Int); decide)
    | (exfalso; rename_i h; simp at h; done)
    | (clear nx; trace_state)
theorem rw_l4 (z : Z) (hz : z.Ok) (f : Fm) (M : List T) (hd : Value) (nx : TWk Tryd.prog Γ (fin Tryd.prog Tryd.f47 [] Q) [.code (sub (bd Tryd.f47) ptFU1), .blk 5, .blk 0, .code (sub (bd Tryd.f47) [1, 1, 1])] ⟨frame 321 [(3, .ptr 0 b0 0), (4, .ptr 1 b1 0), (6, .ptr 2 b2 0), (7, .ptr 3 b3 0), (12, int 5)], obsW b0 b1 b2 b3 (zgo 1 z) { f with lv := { f.lv with l4 := znum 1 z } } M hd, none_⟩) : TWk Tryd.prog Γ (fin Tryd.prog Tryd.f47 [] Q) [.code (sub (bd Tryd.f47) ptFU1), .blk 5, .blk 0, .code (sub (bd Tryd.f47) [1, 1, 1])] ⟨frame 321 [(3, .ptr 0 b0 0), (4, .ptr 1 b1 0), (6, .ptr 2 b2 0), (7, .ptr 3 b3 0), (12, int 4)], obsW b0 b1 b2 b3 z f M hd, none_⟩ := by
  have s0 := rnum_post z hz 1 (by decide)
  have k0 := w8 (Frm.znum1_lt z)
  clear hz
  generalize zgo 1 z = z0 at *
  generalize znum 1 z = n0 at *
  unfold obsW stC frS rmW at *
  refine run_sound (⟨fun | 74, 1 => told (.tup [.agg [str z0.s, int (z0.a : Nat), int z0.e], u32 n0]) [] [] | 75, 2 => .res (u8 n0) | _, _ => .no, [((2, 72), ([3, 4, 6, 7, 12], 5)), ((0, 76), ([3, 4, 6, 7], 5))], fun | 76 => some ⟨[0, 1], [3], .take true [0,1] (.one 2 (.one 3 .done))⟩ | _ => none⟩) 400 (B := b0 = b0 ∧ TCalls Tryd.prog 45 [T.agg (stC z), int 1] [] none_ (callPost (Hint.call false Unit (fun x => True) [] false (fun x => T.tup [T.agg [str (Z.s z0), int (↑(Z.a z0) : Int), int (Z.e z0)], u32 (↑n0 : Int)]) (fun x => []) fun x => none_)) ∧ ∀ (a : Unit), True → (3 = nat_lit 3 ∧ List.all (stC z0) T.one = true) ∧ b0 = b0 ∧ 0 + nat_lit 3 ≤ 3 ∧ u8 (IntKind.wrap IntKind.u8 (↑n0 : Int)) = u8 n0 ∧ ((0 : Int) ≤ (4 : Int) ∧ (4 : Int) < (↑(8 : Nat) : Int)) ∧ (1 = nat_lit 1 ∧ List.all (List.map T.v (Array.toList #[Value.int IntKind.u8 (↑n0 : Int)])) T.one = true) ∧ b1 = b1 ∧ 29 + nat_lit 1 ≤ 34 ∧ TWk Tryd.prog Γ (fin Tryd.prog Tryd.f47 [] Q) [It.code (sub (bd Tryd.f47) ptFU1), It.blk 5, It.blk 0, It.code (sub (bd Tryd.f47) [1, 1, 1])] { fr := frame 321 [(3, T.ptr 0 b0 0), (4, T.ptr 1 b1 0), (6, T.ptr 2 b2 0), (7, T.ptr 3 b3 0), (12, int (IntKind.wrap IntKind.i64 ((4 : Int) + (1 : Int))))], ob := [(b0, Ob.cells (stC z0)), (b1, Ob.cells (List.set (frS f (T.slx 3 4 M hd) (T.v nilS)) 29 (u8 n0))), (b2, Ob.cells [str [], int 0, int 0]), (b3, Ob.cells zC), (0, Ob.room 3 99 (List.length M) hd)], gl := fun x => none }) (by kernel_rfl) ?_
  repeat' (first | exact rfl | exact Nat.le_of_ble_eq_true rfl | refine And.intro ?_ ?_ | intro _ | refine bsplit_mk (fun _ => ?_) (fun _ => ?_))
  all_goals first
    | exact s0
    | exact k0
    | exact nx
    | (show (0 : Int) ≤ 4; decide)
    | (show (4 : Int) < ((8 : Nat) : Int); decide)
    | (exfalso; rename_i h; simp at h; done)
    | (clear nx; trace_state)
theorem rw_l3 (z : Z) (hz : z.Ok) (f : Fm) (M : List T) (hd : Value) (nx : TWk Tryd.prog Γ (fin Tryd.prog Tryd.f47 [] Q) [.code (sub (bd Tryd.f47) ptFU1), .blk 5, .blk 0, .code (sub (bd Tryd.f47) [1, 1, 1])] ⟨frame 321 [(3, .ptr 0 b0 0), (4, .ptr 1 b1 0), (6, .ptr 2 b2 0), (7, .ptr 3 b3 0), (12, int 4)], obsW b0 b1 b2 b3 (zgo 1 z) { f with lv := { f.lv with l3 := znum 1 z } } M hd, none_⟩) : TWk Tryd.prog Γ (fin Tryd.prog Tryd.f47 [] Q) [.code (sub (bd Tryd.f47) ptFU1), .blk 5, .blk 0, .code (sub (bd Tryd.f47) [1, 1, 1])] ⟨frame 321 [(3, .ptr 0 b0 0), (4, .ptr 1 b1 0), (6, .ptr 2 b2 0), (7, .ptr 3 b3 0), (12, int 3)], obsW b0 b1 b2 b3 z f M hd, none_⟩ := by
  have s0 := rnum_post z hz 1 (by decide)
  have k0 := w8 (Frm.znum1_lt z)
  clear hz
  generalize zgo 1 z = z0 at *
  generalize znum 1 z = n0 at *
  unfold obsW stC frS rmW at *
  refine run_sound (⟨fun | 74, 1 => told (.tup [.agg [str z0.s, int (z0.a : Nat), int z0.e], u32 n0]) [] [] | 75, 2 => .res (u8 n0) | _, _ => .no, [((2, 72), ([3, 4, 6, 7, 12], 5)), ((0, 76), ([3, 4, 6, 7], 5))], fun | 76 => some ⟨[0, 1], [3], .take true [0,1] (.one 2 (.one 3 .done))⟩ | _ => none⟩) 400 (B := b0 = b0 ∧ TCalls Tryd.prog 45 [T.agg (stC z), int 1] [] none_ (callPost (Hint.call false Unit (fun x => True) [] false (fun x => T.tup [T.agg [str (Z.s z0), int (↑(Z.a z0) : Int), int (Z.e z0)], u32 (↑n0 : Int)]) (fun x => []) fun x => none_)) ∧ ∀ (a : Unit), True → (3 = nat_lit 3 ∧ List.all (stC z0) T.one = true) ∧ b0 = b0 ∧ 0 + nat_lit 3 ≤ 3 ∧ u8 (IntKind.wrap IntKind.u8 (↑n0 : Int)) = u8 n0 ∧ ((0 : Int) ≤ (3 : Int) ∧ (3 : Int) < (↑(8 : Nat) : Int)) ∧ (1 = nat_lit 1 ∧ List.all (List.map T.v (Array.toList #[Value.int IntKind.u8 (↑n0 : Int)])) T.one = true) ∧ b1 = b1 ∧ 28 + nat_lit 1 ≤ 34 ∧ TWk Tryd.prog Γ (fin Tryd.prog Tryd.f47 [] Q) [It.code (sub (bd Tryd.f47) ptFU1), It.blk 5, It.blk 0, It.code (sub (bd Tryd.f47) [1, 1, 1])] { fr := frame 321 [(3, T.ptr 0 b0 0), (4, T.ptr 1 b1 0), (6, T.ptr 2 b2 0), (7, T.ptr 3 b3 0), (12, int (IntKind.wrap IntKind.i64 ((3 : Int) + (1 : Int))))], ob := [(b0, Ob.cells (stC z0)), (b1, Ob.cells (List.set (frS f (T.slx 3 4 M hd) (T.v nilS)) 28 (u8 n0))), (b2, Ob.cells [str [], int 0, int 0]), (b3, Ob.cells zC), (0, Ob.room 3 99 (List.length M) hd)], gl := fun x => none }) (by kernel_rfl) ?_
  repeat' (first | exact rfl | exact Nat.le_of_ble_eq_true rfl | refine And.intro ?_ ?_ | intro _ | refine bsplit_mk (fun _ => ?_) (fun _ => ?_))
  all_goals first
    | exact s0
    | exact k0
    | exact nx
    | (show (0 : Int) ≤ 3; decide)
    | (show (3 : Int) < ((8 : Nat) : Int); decide)
    | (exfalso; rename_i h; simp at h; done)
    | (clear nx; trace_state)
theorem rw_l2 (z : Z) (hz : z.Ok) (f : Fm) (M : List T) (hd : Value) (nx : TWk Tryd.prog Γ (fin Tryd.prog Tryd.f47 [] Q) [.code (sub (bd Tryd.f47) ptFU1), .blk 5, .blk 0, .code (sub (bd Tryd.f47) [1, 1, 1])] ⟨frame 321 [(3, .ptr 0 b0 0), (4, .ptr 1 b1 0), (6, .ptr 2 b2 0), (7, .ptr 3 b3 0), (12, int 3)], obsW b0 b1 b2 b3 (zgo 1 z) { f with lv := { f.lv with l2 := znum 1 z } } M hd, none_⟩) : TWk Tryd.prog Γ (fin Tryd.prog Tryd.f47 [] Q) [.code (sub (bd Tryd.f47) ptFU1), .blk 5, .blk 0, .code (sub (bd Tryd.f47) [1, 1, 1])] ⟨frame 321 [(3, .ptr 0 b0 0), (4, .ptr 1 b1 0), (6, .ptr 2 b2 0), (7, .ptr 3 b3 0), (12, int 2)], obsW b0 b1 b2 b3 z f M hd, none_⟩ := by
  have s0 := rnum_post z hz 1 (by decide)
  have k0 := w8 (Frm.znum1_lt z)
  clear hz
  generalize zgo 1 z = z0 at *
  generalize znum 1 z = n0 at *
  unfold obsW stC frS rmW at *
  refine run_sound (⟨fun | 74, 1 => told (.tup [.agg [str z0.s, int (z0.a : Nat), int z0.e], u32 n0]) [] [] | 75, 2 => .res (u8 n0) | _, _ => .no, [((2, 72), ([3, 4, 6, 7, 12], 5)), ((0, 76), ([3, 4, 6, 7], 5))], fun | 76 => some ⟨[0, 1], [3], .take true [0,1] (.one 2 (.one 3 .done))⟩ | _ => none⟩) 400 (B := b0 = b0 ∧ TCalls Tryd.prog 45 [T.agg (stC z), int 1] [] none_ (callPost (Hint.call false Unit (fun x => True) [] false (fun x => T.tup [T.agg [str (Z.s z0), int (↑(Z.a z0) : Int), int (Z.e z0)], u32 (↑n0 : Int)]) (fun x => []) fun x => none_)) ∧ ∀ (a : Unit), True → (3 = nat_lit 3 ∧ List.all (stC z0) T.one = true) ∧ b0 = b0 ∧ 0 + nat_lit 3 ≤ 3 ∧ u8 (IntKind.wrap IntKind.u8 (↑n0 : Int)) = u8 n0 ∧ ((0 : Int) ≤ (2 : Int) ∧ (2 : Int) < (↑(8 : Nat) : Int)) ∧ (1 = nat_lit 1 ∧ List.all (List.map T.v (Array.toList #[Value.int IntKind.u8 (↑n0 : Int)])) T.one = true) ∧ b1 = b1 ∧ 27 + nat_lit 1 ≤ 34 ∧ TWk Tryd.prog Γ (fin Tryd.prog Tryd.f47 [] Q) [It.code (sub (bd Tryd.f47) ptFU1), It.blk 5, It.blk 0, It.code (sub (bd Tryd.f47) [1, 1, 1])] { fr := frame 321 [(3, T.ptr 0 b0 0), (4, T.ptr 1 b1 0), (6, T.ptr 2 b2 0), (7, T.ptr 3 b3 0), (12, int (IntKind.wrap IntKind.i64 ((2 : Int) + (1 : Int))))], ob := [(b0, Ob.cells (stC z0)), (b1, Ob.cells (List.set (frS f (T.slx 3 4 M hd) (T.v nilS)) 27 (u8 n0))), (b2, Ob.cells [str [], int 0, int 0]), (b3, Ob.cells zC), (0, Ob.room 3 99 (List.length M) hd)], gl := fun x => none }) (by kernel_rfl) ?_
  repeat' (first | exact rfl | exact Nat.le_of_ble_eq_true rfl | refine And.intro ?_ ?_ | intro _ | refine bsplit_mk (fun _ => ?_) (fun _ => ?_))
  all_goals first
    | exact s0
    | exact k0
    | exact nx
    | (show (0 : Int) ≤ 2; decide)
    | (show (2 : Int) < ((8 : Nat) : Int); decide)
    | (exfalso; rename_i h; simp at h; done)
    | (clear nx; trace_state)
theorem rw_l1 (z : Z) (hz : z.Ok) (f : Fm) (M : List T) (hd : Value) (nx : TWk Tryd.prog Γ (fin Tryd.prog Tryd.f47 [] Q) [.code (sub (bd Tryd.f47) ptFU1), .blk 5, .blk 0, .code (sub (bd Tryd.f47) [1, 1, 1])] ⟨frame 321 [(3, .ptr 0 b0 0), (4, .ptr 1 b1 0), (6, .ptr 2 b2 0), (7, .ptr 3 b3 0), (12, int 2)], obsW b0 b1 b2 b3 (zgo 1 z) { f with lv := { f.lv with l1 := znum 1 z } } M hd, none_⟩) : TWk Tryd.prog Γ (fin Tryd.prog Tryd.f47 [] Q) [.code (sub (bd Tryd.f47) ptFU1), .blk 5, .blk 0, .code (sub (bd Tryd.f47) [1, 1, 1])] ⟨frame 321 [(3, .ptr 0 b0 0), (4, .ptr 1 b1 0), (6, .ptr 2 b2 0), (7, .ptr 3 b3 0), (12, int 1)], obsW b0 b1 b2 b3 z f M hd, none_⟩ := by
  have s0 := rnum_post z hz 1 (by decide)
  have k0 := w8 (Frm.znum1_lt z)
  clear hz
  generalize zgo 1 z = z0 at *
  generalize znum 1 z = n0 at *
  unfold obsW stC frS rmW at *
  refine run_sound (⟨fun | 74, 1 => told (.tup [.agg [str z0.s, int (z0.a : Nat), int z0.e], u32 n0]) [] [] | 75, 2 => .res (u8 n0) | _, _ => .no, [((2, 72), ([3, 4, 6, 7, 12], 5)), ((0, 76), ([3, 4, 6, 7], 5))], fun | 76 => some ⟨[0, 1], [3], .take true [0,1] (.one 2 (.one 3 .done))⟩ | _ => none⟩) 400 (B := b0 = b0 ∧ TCalls Tryd.prog 45 [T.agg (stC z), int 1] [] none_ (callPost (Hint.call false Unit (fun x => True) [] false (fun x => T.tup [T.agg [str (Z.s z0), int (↑(Z.a z0) : Int), int (Z.e z0)], u32 (↑n0 : Int)]) (fun x => []) fun x => none_)) ∧ ∀ (a : Unit), True → (3 = nat_lit 3 ∧ List.all (stC z0) T.one = true) ∧ b0 = b0 ∧ 0 + nat_lit 3 ≤ 3 ∧ u8 (IntKind.wrap IntKind.u8 (↑n0 : Int)) = u8 n0 ∧ ((0 : Int) ≤ (1 : Int) ∧ (1 : Int) < (↑(8 : Nat) : Int)) ∧ (1 = nat_lit 1 ∧ List.all (List.map T.v (Array.toList #[Value.int IntKind.u8 (↑n0 : Int)])) T.one = true) ∧ b1 = b1 ∧ 26 + nat_lit 1 ≤ 34 ∧ TWk Tryd.prog Γ (fin Tryd.prog Tryd.f47 [] Q) [It.code (sub (bd Tryd.f47) ptFU1), It.blk 5, It.blk 0, It.code (sub (bd Tryd.f47) [1, 1, 1])] { fr := frame 321 [(3, T.ptr 0 b0 0), (4, T.ptr 1 b1 0), (6, T.ptr 2 b2 0), (7, T.ptr 3 b3 0), (12, int (IntKind.wrap IntKind.i64 ((1 : Int) + (1 : Int))))], ob := [(b0, Ob.cells (stC z0)), (b1, Ob.cells (List.set (frS f (T.slx 3 4 M hd) (T.v nilS)) 26 (u8 n0))), (b2, Ob.cells [str [], int 0, int 0]), (b3, Ob.cells zC), (0, Ob.room 3 99 (List.length M) hd)], gl := fun x => none }) (by kernel_rfl) ?_
  repeat' (first | exact rfl | exact Nat.le_of_ble_eq_true rfl | refine And.intro ?_ ?_ | intro _ | refine bsplit_mk (fun _ => ?_) (fun _ => ?_))
  all_goals first
    | exact s0
    | exact k0
    | exact nx
    | (show (0 : Int) ≤ 1; decide)
    | (show (1 : Int) < ((8 : Nat) : Int); decide)
    | (exfalso; rename_i h; simp at h; done)
    | (clear nx; trace_state)
theorem rw_l0 (z : Z) (hz : z.Ok) (f : Fm) (M : List T) (hd : Value) (nx : TWk Tryd.prog Γ (fin Tryd.prog Tryd.f47 [] Q) [.code (sub (bd Tryd.f47) ptFU1), .blk 5, .blk 0, .code (sub (bd Tryd.f47) [1, 1, 1])] ⟨frame 321 [(3, .ptr 0 b0 0), (4, .ptr 1 b1 0), (6, .ptr 2 b2 0), (7, .ptr 3 b3 0), (12, int 1)], obsW b0 b1 b2 b3 (zgo 1 z) { f with lv := { f.lv with l0 := znum 1 z } } M hd, none_⟩) : TWk Tryd.prog Γ (fin Tryd.prog Tryd.f47 [] Q) [.code (sub (bd Tryd.f47) ptFU1), .blk 5, .blk 0, .code (sub (bd Tryd.f47) [1, 1, 1])] ⟨frame 321 [(3, .ptr 0 b0 0), (4, .ptr 1 b1 0), (6, .ptr 2 b2 0), (7, .ptr 3 b3 0), (12, int 0)], obsW b0 b1 b2 b3 z f M hd, none_⟩ := by
  have s0 := rnum_post z hz 1 (by decide)
  have k0 := w8 (Frm.znum1_lt z)
  clear hz
  generalize zgo 1 z = z0 at *
  generalize znum 1 z = n0 at *
  unfold obsW stC frS rmW at *
  refine run_sound (⟨fun | 74, 1 => told (.tup [.agg [str z0.s, int (z0.a : Nat), int z0.e], u32 n0]) [] [] | 75, 2 => .res (u8 n0) | _, _ => .no, [((2, 72), ([3, 4, 6, 7, 12], 5)), ((0, 76), ([3, 4, 6, 7], 5))], fun | 76 => some ⟨[0, 1], [3], .take true [0,1] (.one 2 (.one 3 .done))⟩ | _ => none⟩) 400 (B := b0 = b0 ∧ TCalls Tryd.prog 45 [T.agg (stC z), int 1] [] none_ (callPost (Hint.call false Unit (fun x => True) [] false (fun x => T.tup [T.agg [str (Z.s z0), int (↑(Z.a z0) : Int), int (Z.e z0)], u32 (↑n0 : Int)]) (fun x => []) fun x => none_)) ∧ ∀ (a : Unit), True → (3 = nat_lit 3 ∧ List.all (stC z0) T.one = true) ∧ b0 = b0 ∧ 0 + nat_lit 3 ≤ 3 ∧ u8 (IntKind.wrap IntKind.u8 (↑n0 : Int)) = u8 n0 ∧ ((0 : Int) ≤ (0 : Int) ∧ (0 : Int) < (↑(8 : Nat) : Int)) ∧ (1 = nat_lit 1 ∧ List.all (List.map T.v (Array.toList #[Value.int IntKind.u8 (↑n0 : Int)])) T.one = true) ∧ b1 = b1 ∧ 25 + nat_lit 1 ≤ 34 ∧ TWk Tryd.prog Γ (fin Tryd.prog Tryd.f47 [] Q) [It.code (sub (bd Tryd.f47) ptFU1), It.blk 5, It.blk 0, It.code (sub (bd Tryd.f47) [1, 1, 1])] { fr := frame 321 [(3, T.ptr 0 b0 0), (4, T.ptr 1 b1 0), (6, T.ptr 2 b2 0), (7, T.ptr 3 b3 0), (12, int (IntKind.wrap IntKind.i64 ((0 : Int) + (1 : Int))))], ob := [(b0, Ob.cells (stC z0)), (b1, Ob.cells (List.set (frS f (T.slx 3 4 M hd) (T.v nilS)) 25 (u8 n0))), (b2, Ob.cells [str [], int 0, int 0]), (b3, Ob.cells zC), (0, Ob.room 3 99 (List.length M) hd)], gl := fun x => none }) (by kernel_rfl) ?_
  repeat' (first | exact rfl | exact Nat.le_of_ble_eq_true rfl | refine And.intro ?_ ?_ | intro _ | refine bsplit_mk (fun _ => ?_) (fun _ => ?_))
  all_goals first
    | exact s0
    | exact k0
    | exact nx
    | (show (0 : Int) ≤ 0; decide)
    | (show (0 : Int) < ((8 : Nat) : Int); decide)
    | (exfalso; rename_i h; simp at h; done)
    | (clear nx; trace_state)
theorem w32 {n : Nat} (h : n ≤ 1000) : T.v (.int .u32 (IntKind.wrap .u32 ((n : Int) + 1))) = u32 (n + 1 : Nat) := congrArg u32 (by rw [IntWalk.u32_in _ (by omega)]; omega)
theorem rw_lives (z : Z) (hz : z.Ok) (f : Fm) (M : List T) (hd : Value) (hQ : Q (.tup [.agg (stC (zgos 8 z)), .agg (frS { f with lv := zlv z } (.sl 3 M) (.v nilS))]) [] none_) : TWk Tryd.prog Γ (fin Tryd.prog Tryd.f47 [] Q) [.code (sub (bd Tryd.f47) ptFU1), .blk 5, .blk 0, .code (sub (bd Tryd.f47) [1, 1, 1])] ⟨frame 321 [(3, .ptr 0 b0 0), (4, .ptr 1 b1 0), (6, .ptr 2 b2 0), (7, .ptr 3 b3 0), (12, int 0)], obsW b0 b1 b2 b3 z f M hd, none_⟩ :=
  rw_l0 Γ b0 b1 b2 b3 Q z hz f M hd (rw_l1 Γ b0 b1 b2 b3 Q (zgo 1 z) (hz.go 1) _ M hd (rw_l2 Γ b0 b1 b2 b3 Q _ ((hz.go 1).go 1) _ M hd (rw_l3 Γ b0 b1 b2 b3 Q _ (((hz.go 1).go 1).go 1) _ M hd (rw_l4 Γ b0 b1 b2 b3 Q _ ((((hz.go 1).go 1).go 1).go 1) _ M hd (rw_l5 Γ b0 b1 b2 b3 Q _ (((((hz.go 1).go 1).go 1).go 1).go 1) _ M hd (rw_l6 Γ b0 b1 b2 b3 Q _ ((((((hz.go 1).go 1).go 1).go 1).go 1).go 1) _ M hd (rw_l7 Γ b0 b1 b2 b3 Q _ (((((((hz.go 1).go 1).go 1).go 1).go 1).go 1).go 1) _ M hd (rw_end Γ b0 b1 b2 b3 Q _ _ M hd hQ))))))))
theorem rw_loop (f : Fm) (n : Nat) (hn : n < 256) : ∀ (m k : Nat) (z : Z) (D : List T) (hd : Value), k + m = n → z.Ok → D.length ≤ 300 - m → (∀ hd : Value, Q (.tup [.agg (stC (zgos 8 (zmems m z).2)), .agg (frS { f with lv := zlv (zmems m z).2 } (.sl 3 (D ++ Row.aggs memC (zmems m z).1)) (.v nilS))]) [] none_) →
    TWk Tryd.prog Γ (fin Tryd.prog Tryd.f47 [] Q) [.code (sub (bd Tryd.f47) ptFU2), .blk 3, .code (sub (bd Tryd.f47) ptFU3), .blk 0, .code (sub (bd Tryd.f47) [1, 1, 1])] ⟨frame 321 [(3, .ptr 0 b0 0), (4, .ptr 1 b1 0), (6, .ptr 2 b2 0), (7, .ptr 3 b3 0), (8, u32 n), (9, u32 (k : Nat))], obsW b0 b1 b2 b3 z f D hd, none_⟩ := by
  intro m
  induction m with
  | zero =>
    intro k z D hd hk hz hD hQ
    obtain rfl : k = n := by omega
    have hQ := hQ nilS
    have e : D ++ Row.aggs memC (zmems 0 z).1 = D := List.append_nil D
    rw [e] at hQ
    have lv := rw_lives Γ b0 b1 b2 b3 Q z hz f D hd hQ
    clear hQ
    unfold obsW stC frS rmW at *
    refine run_sound (⟨fun | 65, 1 => .no | _, _ => .no, [((2, 61), ([3, 4, 6, 7, 8, 9], 5)), ((2, 72), ([3, 4, 6, 7, 12], 5)), ((0, 63), ([3, 4, 6, 7, 8, 9], 5))], fun | 76 => some ⟨[], [3], .take true [0,1] (.one 2 (.one 3 .done))⟩ | _ => none⟩) 400 (B := bsplit (decide ((↑k : Int) < (↑k : Int))) (b0 = b0 ∧ bsplit (Z.e z == (0 : Int)) (TWk Tryd.prog Γ (fin Tryd.prog Tryd.f47 [] Q) [It.code (sub (bd Tryd.f47) [1, 1, 0, 1, 0, 1, 1, 1, 1, 1, 1, 1, 1, 1, 1, 1, 1, 1, 1, 1, 1, 1, 1, 1, 1, 1, 1, 1, 1, 1, 0, 1, 1, 1, 0, 1, 0, 0, 1, 0, 0]), It.blk 4, It.code (sub (bd Tryd.f47) [1, 1, 0, 1, 0, 1, 1, 1, 1, 1, 1, 1, 1, 1, 1, 1, 1, 1, 1, 1, 1, 1, 1, 1, 1, 1, 1, 1, 1, 1, 0, 1, 1, 1, 0, 1, 0, 0, 1, 1]), It.code (sub (bd Tryd.f47) ptFU2), It.blk 3, It.code (sub (bd Tryd.f47) ptFU3), It.blk 0, It.code (sub (bd Tryd.f47) [1, 1, 1])] { fr := frame 321 [(3, T.ptr 0 b0 0), (4, T.ptr 1 b1 0), (6, T.ptr 2 b2 0), (7, T.ptr 3 b3 0), (8, u32 k), (9, u32 k)], ob := [(b0, Ob.cells (stC z)), (b1, Ob.cells (frS f (T.slx 3 4 D hd) (T.v nilS))), (b2, Ob.cells [str [], int 0, int 0]), (b3, Ob.cells zC), (0, Ob.room 3 99 (List.length D) hd)], gl := fun x => none }) (TWk Tryd.prog Γ (fin Tryd.prog Tryd.f47 [] Q) [It.code (sub (bd Tryd.f47) ptFU1), It.blk 5, It.blk 0, It.code (sub (bd Tryd.f47) [1, 1, 1])] { fr := frame 321 [(3, T.ptr 0 b0 0), (4, T.ptr 1 b1 0), (6, T.ptr 2 b2 0), (7, T.ptr 3 b3 0), (12, int 0)], ob := [(b0, Ob.cells (stC z)), (b1, Ob.cells (frS f (T.slx 3 4 D hd) (T.v nilS))), (b2, Ob.cells [str [], int 0, int 0]), (b3, Ob.cells zC), (0, Ob.room 3 99 (List.length D) hd)], gl := fun x => none })) (TWk Tryd.prog Γ (fin Tryd.prog Tryd.f47 [] Q) [It.code (sub (bd Tryd.f47) ptFU1), It.blk 5, It.blk 0, It.code (sub (bd Tryd.f47) [1, 1, 1])] { fr := frame 321 [(3, T.ptr 0 b0 0), (4, T.ptr 1 b1 0), (6, T.ptr 2 b2 0), (7, T.ptr 3 b3 0), (12, int 0)], ob := [(b0, Ob.cells (stC z)), (b1, Ob.cells (frS f (T.slx 3 4 D hd) (T.v nilS))), (b2, Ob.cells [str [], int 0, int 0]), (b3, Ob.cells zC), (0, Ob.room 3 99 (List.length D) hd)], gl := fun x => none })) (by kernel_rfl) ?_
    repeat' (first | exact rfl | exact Nat.le_of_ble_eq_true rfl | refine And.intro ?_ ?_ | intro _ | refine bsplit_mk (fun _ => ?_) (fun _ => ?_))
    all_goals first
      | exact lv
      | (exfalso; simp only [decide_eq_true_eq] at *; omega)
      | (exfalso; rename_i h; simp at h; done)
      | trace_state
  | succ m ih =>
    intro k z D hd hk hz hD hQ
    by_cases h0 : z.e = 0
    · have s1 := rnum_post z hz 1 (by decide)
      have s2 := rnum_post (zgo 1 z) (hz.go 1) 1 (by decide)
      have s3 := rbit_post (zgo 1 (zgo 1 z)) ((hz.go 1).go 1)
      have k1 := w8 (Frm.znum1_lt z)
      have k2 := w8 (Frm.znum1_lt (zgo 1 z))
      have nx := fun hd => ih (k + 1) (zmemZ z) (D ++ [.agg (memC (zmem z))]) hd (by omega) hz.mem (by rw [List.length_append]; show _ + 1 ≤ _; omega) (fun hd => by
        have := hQ hd
        unfold Frm.zmems at this
        rw [if_neg (fun g => g h0)] at this
        rw [List.append_assoc]
        exact this)
      unfold Frm.zmemZ Frm.zmem memC at nx
      simp only at nx
      clear ih hQ hz
      generalize zbitZ (zgo 1 (zgo 1 z)) = z3 at *
      generalize zbitB (zgo 1 (zgo 1 z)) = n3 at *
      generalize zgo 1 (zgo 1 z) = z2 at *
      generalize znum 1 (zgo 1 z) = n2 at *
      generalize zgo 1 z = z1 at *
      generalize znum 1 z = n1 at *
      obtain ⟨s, a, e⟩ := z
      simp only at h0
      subst h0
      unfold obsW stC frS rmW at *
      refine run_sound (⟨fun | 65, 1 => told (.tup [.agg [str z1.s, int (z1.a : Nat), int z1.e], u32 n1]) [] [] | 66, 1 => .res (u8 n1) | 67, 1 => told (.tup [.agg [str z2.s, int (z2.a : Nat), int z2.e], u32 n2]) [] [] | 68, 1 => .res (u8 n2) | 69, 1 => told (.tup [.agg [str z3.s, int (z3.a : Nat), int z3.e], bool n3]) [] [] | 62, 1 => .res (u32 (k + 1 : Nat)) | _, _ => .no, [((2, 61), ([3, 4, 6, 7, 8, 9], 5)), ((2, 72), ([3, 4, 6, 7, 12], 5))], fun | 76 => some ⟨[], [3], .take true [0,1] (.one 2 (.one 3 .done))⟩ | _ => none⟩) 400 (B := bsplit (decide ((↑k : Int) < (↑n : Int))) (b0 = b0 ∧ ∀ (b : Nat), b0 = b0 ∧ TCalls Tryd.prog 45 [T.agg [str (Z.s { s := s, a := a, e := (0 : Int) }), int (Z.a { s := s, a := a, e := (0 : Int) }), int (Z.e { s := s, a := a, e := (0 : Int) })], int 1] [] none_ (callPost (Hint.call false Unit (fun x => True) [] false (fun x => T.tup [T.agg [str (Z.s z1), int (↑(Z.a z1) : Int), int (Z.e z1)], u32 (↑n1 : Int)]) (fun x => []) fun x => none_)) ∧ ∀ (a : Unit), True → (3 = nat_lit 3 ∧ List.all (stC z1) T.one = true) ∧ b0 = b0 ∧ 0 + nat_lit 3 ≤ 3 ∧ u8 (IntKind.wrap IntKind.u8 (↑n1 : Int)) = u8 n1 ∧ (1 = nat_lit 1 ∧ List.all (List.map T.v (Array.toList #[Value.int IntKind.u8 (↑n1 : Int)])) T.one = true) ∧ b = b ∧ 0 + nat_lit 1 ≤ 3 ∧ b0 = b0 ∧ TCalls Tryd.prog 45 [T.agg (stC z1), int 1] [] none_ (callPost (Hint.call false Unit (fun x => True) [] false (fun x => T.tup [T.agg [str (Z.s z2), int (↑(Z.a z2) : Int), int (Z.e z2)], u32 (↑n2 : Int)]) (fun x => []) fun x => none_)) ∧ ∀ (a : Unit), True → (3 = nat_lit 3 ∧ List.all (stC z2) T.one = true) ∧ b0 = b0 ∧ 0 + nat_lit 3 ≤ 3 ∧ u8 (IntKind.wrap IntKind.u8 (↑n2 : Int)) = u8 n2 ∧ (1 = nat_lit 1 ∧ List.all (List.map T.v (Array.toList #[Value.int IntKind.u8 (↑n2 : Int)])) T.one = true) ∧ b = b ∧ 1 + nat_lit 1 ≤ 3 ∧ b0 = b0 ∧ TCalls Tryd.prog 77 [T.agg (stC z2)] [] none_ (callPost (Hint.call false Unit (fun x => True) [] false (fun x => T.tup [T.agg [str (Z.s z3), int (↑(Z.a z3) : Int), int (Z.e z3)], bool n3]) (fun x => []) fun x => none_)) ∧ ∀ (a : Unit), True → (3 = nat_lit 3 ∧ List.all (stC z3) T.one = true) ∧ b0 = b0 ∧ 0 + nat_lit 3 ≤ 3 ∧ (1 = nat_lit 1 ∧ List.all (List.map T.v (Array.toList #[Value.bool n3])) T.one = true) ∧ b = b ∧ 2 + nat_lit 1 ≤ 3 ∧ b1 = b1 ∧ b = b ∧ (hd = hd ∧ List.length D = List.length D) ∧ Fits (List.length D + 1) (nat_lit 3) ∧ ∀ (x : Value), (1 = nat_lit 1 ∧ List.all [T.slx 3 4 (D ++ [T.agg [u8 n1, u8 n2, bool n3]]) x] T.one = true) ∧ b1 = b1 ∧ 24 + nat_lit 1 ≤ 34 ∧ u32 (IntKind.wrap IntKind.u32 ((↑k : Int) + (1 : Int))) = u32 (k + 1) ∧ TWk Tryd.prog Γ (fin Tryd.prog Tryd.f47 [] Q) [It.code (sub (bd Tryd.f47) ptFU2), It.blk 3, It.code (sub (bd Tryd.f47) ptFU3), It.blk 0, It.code (sub (bd Tryd.f47) [1, 1, 1])] { fr := frame 321 [(3, T.ptr 0 b0 0), (4, T.ptr 1 b1 0), (6, T.ptr 2 b2 0), (7, T.ptr 3 b3 0), (8, u32 n), (9, u32 (k + 1))], ob := [(b0, Ob.cells (stC z3)), (b1, Ob.cells (frS f (T.slx 3 4 (D ++ [T.agg [u8 n1, u8 n2, bool n3]]) x) (T.v nilS))), (b2, Ob.cells [str [], int 0, int 0]), (b3, Ob.cells zC), (0, Ob.room 3 99 (List.length (D ++ [T.agg [u8 n1, u8 n2, bool n3]])) x)], gl := fun x => none }) (TWk Tryd.prog Γ (fin Tryd.prog Tryd.f47 [] Q) [It.code (sub (bd Tryd.f47) ptFU1), It.blk 5, It.blk 0, It.code (sub (bd Tryd.f47) [1, 1, 1])] { fr := frame 321 [(3, T.ptr 0 b0 0), (4, T.ptr 1 b1 0), (6, T.ptr 2 b2 0), (7, T.ptr 3 b3 0), (12, int 0)], ob := [(b0, Ob.cells [str (Z.s { s := s, a := a, e := (0 : Int) }), int (Z.a { s := s, a := a, e := (0 : Int) }), int (Z.e { s := s, a := a, e := (0 : Int) })]), (b1, Ob.cells (frS f (T.slx 3 4 D hd) (T.v nilS))), (b2, Ob.cells [str [], int 0, int 0]), (b3, Ob.cells zC), (0, Ob.room 3 99 (List.length D) hd)], gl := fun x => none })) (by kernel_rfl) ?_
      repeat' (first | exact rfl | exact Nat.le_of_ble_eq_true rfl | refine And.intro ?_ ?_ | intro _ | refine bsplit_mk (fun _ => ?_) (fun _ => ?_))
      all_goals first
        | exact s1
        | exact s2
        | exact s3
        | exact k1
        | exact k2
        | exact w32 (by omega)
        | exact nx _
        | (exfalso; simp only [decide_eq_false_iff_not] at *; omega)
        | (exfalso; rename_i h; simp at h; done)
        | (simp [maxLen]; omega)
        | (clear nx; trace_state)
    · have hQ := hQ nilS
      unfold Frm.zmems at hQ
      rw [if_pos h0] at hQ
      simp only at hQ
      rw [show Row.aggs memC [] = [] from rfl, List.append_nil] at hQ
      have lv := rw_lives Γ b0 b1 b2 b3 Q z hz f D hd hQ
      clear hQ ih hz
      obtain ⟨s, a, e⟩ := z
      have hne : (e == 0) = false := by simpa using h0
      unfold obsW stC frS rmW at *
      refine run_sound (⟨fun | 65, 1 => .no | _, _ => .no, [((2, 61), ([3, 4, 6, 7, 8, 9], 5)), ((2, 72), ([3, 4, 6, 7, 12], 5)), ((0, 63), ([3, 4, 6, 7, 8, 9], 5))], fun | 76 => some ⟨[], [3], .take true [0,1] (.one 2 (.one 3 .done))⟩ | _ => none⟩) 400 (B := bsplit (decide ((↑k : Int) < (↑n : Int))) (b0 = b0 ∧ bsplit (Z.e { s := s, a := a, e := e } == (0 : Int)) (TWk Tryd.prog Γ (fin Tryd.prog Tryd.f47 [] Q) [It.code (sub (bd Tryd.f47) [1, 1, 0, 1, 0, 1, 1, 1, 1, 1, 1, 1, 1, 1, 1, 1, 1, 1, 1, 1, 1, 1, 1, 1, 1, 1, 1, 1, 1, 1, 0, 1, 1, 1, 0, 1, 0, 0, 1, 0, 0]), It.blk 4, It.code (sub (bd Tryd.f47) [1, 1, 0, 1, 0, 1, 1, 1, 1, 1, 1, 1, 1, 1, 1, 1, 1, 1, 1, 1, 1, 1, 1, 1, 1, 1, 1, 1, 1, 1, 0, 1, 1, 1, 0, 1, 0, 0, 1, 1]), It.code (sub (bd Tryd.f47) ptFU2), It.blk 3, It.code (sub (bd Tryd.f47) ptFU3), It.blk 0, It.code (sub (bd Tryd.f47) [1, 1, 1])] { fr := frame 321 [(3, T.ptr 0 b0 0), (4, T.ptr 1 b1 0), (6, T.ptr 2 b2 0), (7, T.ptr 3 b3 0), (8, u32 n), (9, u32 k)], ob := [(b0, Ob.cells [str (Z.s { s := s, a := a, e := e }), int (Z.a { s := s, a := a, e := e }), int (Z.e { s := s, a := a, e := e })]), (b1, Ob.cells (frS f (T.slx 3 4 D hd) (T.v nilS))), (b2, Ob.cells [str [], int 0, int 0]), (b3, Ob.cells zC), (0, Ob.room 3 99 (List.length D) hd)], gl := fun x => none }) (TWk Tryd.prog Γ (fin Tryd.prog Tryd.f47 [] Q) [It.code (sub (bd Tryd.f47) ptFU1), It.blk 5, It.blk 0, It.code (sub (bd Tryd.f47) [1, 1, 1])] { fr := frame 321 [(3, T.ptr 0 b0 0), (4, T.ptr 1 b1 0), (6, T.ptr 2 b2 0), (7, T.ptr 3 b3 0), (12, int 0)], ob := [(b0, Ob.cells [str (Z.s { s := s, a := a, e := e }), int (Z.a { s := s, a := a, e := e }), int (Z.e { s := s, a := a, e := e })]), (b1, Ob.cells (frS f (T.slx 3 4 D hd) (T.v nilS))), (b2, Ob.cells [str [], int 0, int 0]), (b3, Ob.cells zC), (0, Ob.room 3 99 (List.length D) hd)], gl := fun x => none })) (TWk Tryd.prog Γ (fin Tryd.prog Tryd.f47 [] Q) [It.code (sub (bd Tryd.f47) ptFU1), It.blk 5, It.blk 0, It.code (sub (bd Tryd.f47) [1, 1, 1])] { fr := frame 321 [(3, T.ptr 0 b0 0), (4, T.ptr 1 b1 0), (6, T.ptr 2 b2 0), (7, T.ptr 3 b3 0), (12, int 0)], ob := [(b0, Ob.cells [str (Z.s { s := s, a := a, e := e }), int (Z.a { s := s, a := a, e := e }), int (Z.e { s := s, a := a, e := e })]), (b1, Ob.cells (frS f (T.slx 3 4 D hd) (T.v nilS))), (b2, Ob.cells [str [], int 0, int 0]), (b3, Ob.cells zC), (0, Ob.room 3 99 (List.length D) hd)], gl := fun x => none })) (by kernel_rfl) ?_
      repeat' (first | exact rfl | exact Nat.le_of_ble_eq_true rfl | refine And.intro ?_ ?_ | intro _ | refine bsplit_mk (fun _ => ?_) (fun _ => ?_))
      all_goals first
        | exact lv
        | (exfalso; rename_i h; rw [hne] at h; cases h)
        | trace_state
theorem re_loop (f : Fm) (n : Nat) (hn : n < 256) : ∀ (m k : Nat) (z : Z) (D : List T) (hd : Value), k + m = n → z.Ok → D.length ≤ 300 - m → (∀ hd : Value, Q (.tup [.agg (stC (zents m z).2), .agg (frS f (.v nilS) (.sl 8 (D ++ Row.aggs entC (zents m z).1)))]) [] none_) →
    TWk Tryd.prog Γ (fin Tryd.prog Tryd.f47 [] Q) [.code (sub (bd Tryd.f47) ptFU4), .blk 1, .blk 0, .code (sub (bd Tryd.f47) [1, 1, 1])] ⟨frame 321 [(3, .ptr 0 b0 0), (4, .ptr 1 b1 0), (6, .ptr 2 b2 0), (7, .ptr 3 b3 0), (8, u32 n), (13, u32 (k : Nat))], obsJ b0 b1 b2 b3 z f D hd, none_⟩ := by
  intro m
  induction m with
  | zero =>
    intro k z D hd hk hz hD hQ
    obtain rfl : k = n := by omega
    have hQ := hQ nilS
    have e : D ++ Row.aggs entC (zents 0 z).1 = D := List.append_nil D
    rw [e] at hQ
    have hQ : Q (.tup [.agg (stC z), .agg (frS f (.v nilS) (.sl 8 D))]) [] none_ := hQ
    unfold obsJ stC frS rmE at *
    refine run_sound (⟨fun | 10, 1 => .no | _, _ => .no, [((2, 6), ([3, 4, 6, 7, 8, 13], 5)), ((0, 8), ([3, 4, 6, 7, 8, 13], 5))], fun | 76 => some ⟨[0, 1], [3], .take true [0,1] (.one 2 (.one 3 .done))⟩ | _ => none⟩) 400 (B := bsplit (decide ((↑k : Int) < (↑k : Int))) (b0 = b0 ∧ bsplit (Z.e z == (0 : Int)) (TWk Tryd.prog Γ (fin Tryd.prog Tryd.f47 [] Q) [It.code (sub (bd Tryd.f47) [1, 1, 0, 1, 0, 1, 1, 1, 1, 1, 1, 1, 1, 1, 1, 1, 1, 1, 1, 1, 1, 1, 1, 1, 1, 1, 1, 1, 1, 1, 1, 1, 1, 1, 0, 0, 1, 0, 0]), It.blk 2, It.code (sub (bd Tryd.f47) [1, 1, 0, 1, 0, 1, 1, 1, 1, 1, 1, 1, 1, 1, 1, 1, 1, 1, 1, 1, 1, 1, 1, 1, 1, 1, 1, 1, 1, 1, 1, 1, 1, 1, 0, 0, 1, 1]), It.code (sub (bd Tryd.f47) ptFU4), It.blk 1, It.blk 0, It.code (sub (bd Tryd.f47) [1, 1, 1])] { fr := frame 321 [(3, T.ptr 0 b0 0), (4, T.ptr 1 b1 0), (6, T.ptr 2 b2 0), (7, T.ptr 3 b3 0), (8, u32 k), (13, u32 k)], ob := [(b0, Ob.cells (stC z)), (b1, Ob.cells (frS f (T.v nilS) (T.slx 8 4 D hd))), (b2, Ob.cells [str [], int 0, int 0]), (b3, Ob.cells zC), (0, Ob.room 8 105 (List.length D) hd)], gl := fun x => none }) (b0 = b0 ∧ b1 = b1 ∧ (3 = nat_lit 3 ∧ List.all (stC z) T.one = true) ∧ b2 = b2 ∧ 0 + nat_lit 3 ≤ 3 ∧ (34 = nat_lit 34 ∧ List.all (frS f (T.v nilS) (T.slx 8 4 D hd)) T.one = true) ∧ b3 = b3 ∧ 0 + nat_lit 34 ≤ 34 ∧ b2 = b2 ∧ b3 = b3 ∧ Q (T.tup [T.agg (stC z), T.agg (frS f (T.v nilS) (T.sl 8 D))]) [] fun x => none)) (b0 = b0 ∧ b1 = b1 ∧ (3 = nat_lit 3 ∧ List.all (stC z) T.one = true) ∧ b2 = b2 ∧ 0 + nat_lit 3 ≤ 3 ∧ (34 = nat_lit 34 ∧ List.all (frS f (T.v nilS) (T.slx 8 4 D hd)) T.one = true) ∧ b3 = b3 ∧ 0 + nat_lit 34 ≤ 34 ∧ b2 = b2 ∧ b3 = b3 ∧ Q (T.tup [T.agg (stC z), T.agg (frS f (T.v nilS) (T.sl 8 D))]) [] fun x => none)) (by kernel_rfl) ?_
    repeat' (first | exact rfl | exact Nat.le_of_ble_eq_true rfl | refine And.intro ?_ ?_ | intro _ | refine bsplit_mk (fun _ => ?_) (fun _ => ?_))
    all_goals first
      | exact hQ
      | (exfalso; simp only [decide_eq_true_eq] at *; omega)
      | (exfalso; rename_i h; simp at h; done)
      | trace_state
  | succ m ih =>
    intro k z D hd hk hz hD hQ
    by_cases h0 : z.e = 0
    · have s1 := rnum_post z hz 4 (by decide)
      have s2 := rnum_post (zgo 4 z) (hz.go 4) 4 (by decide)
      have s3 := rnum_post (zgo 4 (zgo 4 z)) ((hz.go 4).go 4) 1 (by decide)
      have s4 := rrcmd_post (zgo 1 (zgo 4 (zgo 4 z))) (((hz.go 4).go 4).go 1)
      have k3 := w8 (Frm.znum1_lt (zgo 4 (zgo 4 z)))
      have nx := fun hd => ih (k + 1) (zentZ z) (D ++ [.agg (entC (zent z))]) hd (by omega) hz.ent (by rw [List.length_append]; show _ + 1 ≤ _; omega) (fun hd => by
        have := hQ hd
        unfold Frm.zents at this
        rw [if_neg (fun g => g h0)] at this
        rw [List.append_assoc]
        exact this)
      unfold Frm.zentZ Frm.zent entC at nx
      simp only at nx
      clear ih hQ hz
      generalize zcmdZ (zgo 1 (zgo 4 (zgo 4 z))) = z4 at *
      generalize zcmd (zgo 1 (zgo 4 (zgo 4 z))) = n4 at *
      generalize zgo 1 (zgo 4 (zgo 4 z)) = z3 at *
      generalize znum 1 (zgo 4 (zgo 4 z)) = n3 at *
      generalize zgo 4 (zgo 4 z) = z2 at *
      generalize znum 4 (zgo 4 z) = n2 at *
      generalize zgo 4 z = z1 at *
      generalize znum 4 z = n1 at *
      obtain ⟨s, a, e⟩ := z
      simp only at h0
      subst h0
      unfold obsJ stC frS rmE cmdC at *
      refine run_sound (⟨fun | 10, 1 => told (.tup [.agg [str z1.s, int (z1.a : Nat), int z1.e], u32 n1]) [] [] | 11, 1 => told (.tup [.agg [str z2.s, int (z2.a : Nat), int z2.e], u32 n2]) [] [] | 12, 1 => told (.tup [.agg [str z3.s, int (z3.a : Nat), int z3.e], u32 n3]) [] [] | 13, 1 => .res (u8 n3) | 14, 1 => told (.tup [.agg [str z4.s, int (z4.a : Nat), int z4.e], .agg [u8 n4.k, u8 n4.n, u8 n4.l, u32 n4.e, u32 n4.q]]) [] [] | 7, 1 => .res (u32 (k + 1 : Nat)) | _, _ => .no, [((2, 6), ([3, 4, 6, 7, 8, 13], 5)), ((0, 76), ([3, 4, 6, 7], 5))], fun | 76 => some ⟨[], [3], .take true [0,1] (.one 2 (.one 3 .done))⟩ | _ => none⟩) 400 (B := bsplit (decide ((↑k : Int) < (↑n : Int))) (b0 = b0 ∧ ∀ (b : Nat), b0 = b0 ∧ TCalls Tryd.prog 45 [T.agg [str (Z.s { s := s, a := a, e := (0 : Int) }), int (Z.a { s := s, a := a, e := (0 : Int) }), int (Z.e { s := s, a := a, e := (0 : Int) })], int 4] [] none_ (callPost (Hint.call false Unit (fun x => True) [] false (fun x => T.tup [T.agg [str (Z.s z1), int (↑(Z.a z1) : Int), int (Z.e z1)], u32 (↑n1 : Int)]) (fun x => []) fun x => none_)) ∧ ∀ (a : Unit), True → (3 = nat_lit 3 ∧ List.all (stC z1) T.one = true) ∧ b0 = b0 ∧ 0 + nat_lit 3 ≤ 3 ∧ (1 = nat_lit 1 ∧ List.all (List.map T.v (Array.toList #[Value.int IntKind.u32 (↑n1 : Int)])) T.one = true) ∧ b = b ∧ 0 + nat_lit 1 ≤ 8 ∧ b0 = b0 ∧ TCalls Tryd.prog 45 [T.agg (stC z1), int 4] [] none_ (callPost (Hint.call false Unit (fun x => True) [] false (fun x => T.tup [T.agg [str (Z.s z2), int (↑(Z.a z2) : Int), int (Z.e z2)], u32 (↑n2 : Int)]) (fun x => []) fun x => none_)) ∧ ∀ (a : Unit), True → (3 = nat_lit 3 ∧ List.all (stC z2) T.one = true) ∧ b0 = b0 ∧ 0 + nat_lit 3 ≤ 3 ∧ (1 = nat_lit 1 ∧ List.all (List.map T.v (Array.toList #[Value.int IntKind.u32 (↑n2 : Int)])) T.one = true) ∧ b = b ∧ 1 + nat_lit 1 ≤ 8 ∧ b0 = b0 ∧ TCalls Tryd.prog 45 [T.agg (stC z2), int 1] [] none_ (callPost (Hint.call false Unit (fun x => True) [] false (fun x => T.tup [T.agg [str (Z.s z3), int (↑(Z.a z3) : Int), int (Z.e z3)], u32 (↑n3 : Int)]) (fun x => []) fun x => none_)) ∧ ∀ (a : Unit), True → (3 = nat_lit 3 ∧ List.all (stC z3) T.one = true) ∧ b0 = b0 ∧ 0 + nat_lit 3 ≤ 3 ∧ u8 (IntKind.wrap IntKind.u8 (↑n3 : Int)) = u8 n3 ∧ (1 = nat_lit 1 ∧ List.all (List.map T.v (Array.toList #[Value.int IntKind.u8 (↑n3 : Int)])) T.one = true) ∧ b = b ∧ 2 + nat_lit 1 ≤ 8 ∧ b0 = b0 ∧ TCalls Tryd.prog 78 [T.agg (stC z3)] [] none_ (callPost (Hint.call false Unit (fun x => True) [] false (fun x => T.tup [T.agg [str (Z.s z4), int (↑(Z.a z4) : Int), int (Z.e z4)], T.agg [u8 (↑(Cmd.k n4) : Int), u8 (↑(Cmd.n n4) : Int), u8 (↑(Cmd.l n4) : Int), u32 (↑(Cmd.e n4) : Int), u32 (↑(Cmd.q n4) : Int)]]) (fun x => []) fun x => none_)) ∧ ∀ (a : Unit), True → (3 = nat_lit 3 ∧ List.all (stC z4) T.one = true) ∧ b0 = b0 ∧ 0 + nat_lit 3 ≤ 3 ∧ (5 = nat_lit 5 ∧ List.all [u8 (Cmd.k n4), u8 (Cmd.n n4), u8 (Cmd.l n4), u32 (Cmd.e n4), u32 (Cmd.q n4)] T.one = true) ∧ b = b ∧ 3 + nat_lit 5 ≤ 8 ∧ b1 = b1 ∧ b = b ∧ (hd = hd ∧ List.length D = List.length D) ∧ Fits (List.length D + 1) (nat_lit 24) ∧ ∀ (x : Value), (1 = nat_lit 1 ∧ List.all [T.slx 8 4 (D ++ [T.agg [u32 n1, u32 n2, u8 n3, u8 (Cmd.k n4), u8 (Cmd.n n4), u8 (Cmd.l n4), u32 (Cmd.e n4), u32 (Cmd.q n4)]]) x] T.one = true) ∧ b1 = b1 ∧ 33 + nat_lit 1 ≤ 34 ∧ u32 (IntKind.wrap IntKind.u32 ((↑k : Int) + (1 : Int))) = u32 (k + 1) ∧ TWk Tryd.prog Γ (fin Tryd.prog Tryd.f47 [] Q) [It.code (sub (bd Tryd.f47) ptFU4), It.blk 1, It.blk 0, It.code (sub (bd Tryd.f47) [1, 1, 1])] { fr := frame 321 [(3, T.ptr 0 b0 0), (4, T.ptr 1 b1 0), (6, T.ptr 2 b2 0), (7, T.ptr 3 b3 0), (8, u32 n), (13, u32 (k + 1))], ob := [(b0, Ob.cells (stC z4)), (b1, Ob.cells (frS f (T.v nilS) (T.slx 8 4 (D ++ [T.agg [u32 n1, u32 n2, u8 n3, u8 (Cmd.k n4), u8 (Cmd.n n4), u8 (Cmd.l n4), u32 (Cmd.e n4), u32 (Cmd.q n4)]]) x))), (b2, Ob.cells [str [], int 0, int 0]), (b3, Ob.cells zC), (0, Ob.room 8 105 (List.length (D ++ [T.agg [u32 n1, u32 n2, u8 n3, u8 (Cmd.k n4), u8 (Cmd.n n4), u8 (Cmd.l n4), u32 (Cmd.e n4), u32 (Cmd.q n4)]])) x)], gl := fun x => none }) (TWk Tryd.prog Γ (fin Tryd.prog Tryd.f47 [] Q) [It.code (sub (bd Tryd.f47) [1, 1, 1])] { fr := frame 321 [(3, T.ptr 0 b0 0), (4, T.ptr 1 b1 0), (6, T.ptr 2 b2 0), (7, T.ptr 3 b3 0)], ob := [(b0, Ob.cells [str (Z.s { s := s, a := a, e := (0 : Int) }), int (Z.a { s := s, a := a, e := (0 : Int) }), int (Z.e { s := s, a := a, e := (0 : Int) })]), (b1, Ob.cells (frS f (T.v nilS) (T.slx 8 4 D hd))), (b2, Ob.cells [str [], int 0, int 0]), (b3, Ob.cells zC), (0, Ob.room 8 105 (List.length D) hd)], gl := fun x => none })) (by kernel_rfl) ?_
      repeat' (first | exact rfl | exact Nat.le_of_ble_eq_true rfl | refine And.intro ?_ ?_ | intro _ | refine bsplit_mk (fun _ => ?_) (fun _ => ?_))
      all_goals first
        | exact s1
        | exact s2
        | exact s3
        | exact s4
        | exact k3
        | exact w32 (by omega)
        | exact nx _
        | (exfalso; simp only [decide_eq_false_iff_not] at *; omega)
        | (exfalso; rename_i h; simp at h; done)
        | (simp [maxLen]; omega)
        | (clear nx; trace_state)
    · have hQ := hQ nilS
      unfold Frm.zents at hQ
      rw [if_pos h0] at hQ
      simp only at hQ
      rw [show Row.aggs entC [] = [] from rfl, List.append_nil] at hQ
      clear ih hz
      obtain ⟨s, a, e⟩ := z
      have hne : (e == 0) = false := by simpa using h0
      unfold obsJ stC frS rmE at *
      refine run_sound (⟨fun | 10, 1 => .no | _, _ => .no, [((2, 6), ([3, 4, 6, 7, 8, 13], 5)), ((0, 8), ([3, 4, 6, 7, 8, 13], 5))], fun | 76 => some ⟨[0, 1], [3], .take true [0,1] (.one 2 (.one 3 .done))⟩ | _ => none⟩) 400 (B := bsplit (decide ((↑k : Int) < (↑n : Int))) (b0 = b0 ∧ bsplit (Z.e { s := s, a := a, e := e } == (0 : Int)) (TWk Tryd.prog Γ (fin Tryd.prog Tryd.f47 [] Q) [It.code (sub (bd Tryd.f47) [1, 1, 0, 1, 0, 1, 1, 1, 1, 1, 1, 1, 1, 1, 1, 1, 1, 1, 1, 1, 1, 1, 1, 1, 1, 1, 1, 1, 1, 1, 1, 1, 1, 1, 0, 0, 1, 0, 0]), It.blk 2, It.code (sub (bd Tryd.f47) [1, 1, 0, 1, 0, 1, 1, 1, 1, 1, 1, 1, 1, 1, 1, 1, 1, 1, 1, 1, 1, 1, 1, 1, 1, 1, 1, 1, 1, 1, 1, 1, 1, 1, 0, 0, 1, 1]), It.code (sub (bd Tryd.f47) ptFU4), It.blk 1, It.blk 0, It.code (sub (bd Tryd.f47) [1, 1, 1])] { fr := frame 321 [(3, T.ptr 0 b0 0), (4, T.ptr 1 b1 0), (6, T.ptr 2 b2 0), (7, T.ptr 3 b3 0), (8, u32 n), (13, u32 k)], ob := [(b0, Ob.cells [str (Z.s { s := s, a := a, e := e }), int (Z.a { s := s, a := a, e := e }), int (Z.e { s := s, a := a, e := e })]), (b1, Ob.cells (frS f (T.v nilS) (T.slx 8 4 D hd))), (b2, Ob.cells [str [], int 0, int 0]), (b3, Ob.cells zC), (0, Ob.room 8 105 (List.length D) hd)], gl := fun x => none }) (b0 = b0 ∧ b1 = b1 ∧ (3 = nat_lit 3 ∧ List.all [str (Z.s { s := s, a := a, e := e }), int (Z.a { s := s, a := a, e := e }), int (Z.e { s := s, a := a, e := e })] T.one = true) ∧ b2 = b2 ∧ 0 + nat_lit 3 ≤ 3 ∧ (34 = nat_lit 34 ∧ List.all (frS f (T.v nilS) (T.slx 8 4 D hd)) T.one = true) ∧ b3 = b3 ∧ 0 + nat_lit 34 ≤ 34 ∧ b2 = b2 ∧ b3 = b3 ∧ Q (T.tup [T.agg [str (Z.s { s := s, a := a, e := e }), int (Z.a { s := s, a := a, e := e }), int (Z.e { s := s, a := a, e := e })], T.agg (frS f (T.v nilS) (T.sl 8 D))]) [] fun x => none)) (b0 = b0 ∧ b1 = b1 ∧ (3 = nat_lit 3 ∧ List.all [str (Z.s { s := s, a := a, e := e }), int (Z.a { s := s, a := a, e := e }), int (Z.e { s := s, a := a, e := e })] T.one = true) ∧ b2 = b2 ∧ 0 + nat_lit 3 ≤ 3 ∧ (34 = nat_lit 34 ∧ List.all (frS f (T.v nilS) (T.slx 8 4 D hd)) T.one = true) ∧ b3 = b3 ∧ 0 + nat_lit 34 ≤ 34 ∧ b2 = b2 ∧ b3 = b3 ∧ Q (T.tup [T.agg [str (Z.s { s := s, a := a, e := e }), int (Z.a { s := s, a := a, e := e }), int (Z.e { s := s, a := a, e := e })], T.agg (frS f (T.v nilS) (T.sl 8 D))]) [] fun x => none)) (by kernel_rfl) ?_
      repeat' (first | exact rfl | exact Nat.le_of_ble_eq_true rfl | refine And.intro ?_ ?_ | intro _ | refine bsplit_mk (fun _ => ?_) (fun _ => ?_))
      all_goals first
        | exact hQ
        | (exfalso; rename_i h; rw [hne] at h; cases h)
        | trace_state
end
theorem rfld_w (z : Z) (hz : z.Ok) (f : Fm) : TCalls Tryd.prog 47 [.agg (stC z), .agg (frS f (.v nilS) (.v nilS)), u8 119] [] none_ (callPost (told (.tup [.agg (stC (zview z).2), .agg (frS { f with ve := (zview z).1.1, lv := (zview z).1.2.2 } (.sl 3 (Row.aggs memC (zview z).1.2.1)) (.v nilS))]) [] [])) := by
  have hQ : callPost (told (.tup [.agg (stC (zview z).2), .agg (frS { f with ve := (zview z).1.1, lv := (zview z).1.2.2 } (.sl 3 (Row.aggs memC (zview z).1.2.1)) (.v nilS))]) [] []) (.tup [.agg (stC (zview z).2), .agg (frS { f with ve := (zview z).1.1, lv := (zview z).1.2.2 } (.sl 3 (Row.aggs memC (zview z).1.2.1)) (.v nilS))]) [] none_ := told_post rfl
  generalize callPost (told (.tup [.agg (stC (zview z).2), .agg (frS { f with ve := (zview z).1.1, lv := (zview z).1.2.2 } (.sl 3 (Row.aggs memC (zview z).1.2.1)) (.v nilS))]) [] []) = Q at *
  have s1 := rnum_post z hz 4 (by decide)
  have s2 := rnum_post (zgo 4 z) (hz.go 4) 1 (by decide)
  have s3 := rmst_post (zgo 1 (zgo 4 z)) (decide ((znum 1 (zgo 4 z) : Int) ≤ ((8 : Nat) : Int)))
  rw [show zmust (decide ((znum 1 (zgo 4 z) : Int) ≤ ((8 : Nat) : Int))) (zgo 1 (zgo 4 z)) = zcnt 8 (zgo 4 z) by rw [le1T]; rfl] at s3
  have lp : ∀ (Γ : Ctx) (b0 b1 b2 b3 : Nat), TWk Tryd.prog Γ (fin Tryd.prog Tryd.f47 [] Q) [.code (sub (bd Tryd.f47) ptFU2), .blk 3, .code (sub (bd Tryd.f47) ptFU3), .blk 0, .code (sub (bd Tryd.f47) [1, 1, 1])] ⟨frame 321 [(3, .ptr 0 b0 0), (4, .ptr 1 b1 0), (6, .ptr 2 b2 0), (7, .ptr 3 b3 0), (8, u32 (znum 1 (zgo 4 z))), (9, u32 0)], [(b0, .cells (stC (zcnt 8 (zgo 4 z)))), (b1, .cells (frS { f with ve := znum 4 z } (.v nilS) (.v nilS))), (b2, .cells st0), (b3, .cells zC)], none_⟩ := fun Γ b0 b1 b2 b3 => by
    have l1 := rw_loop Γ b0 b1 b2 b3 Q { f with ve := znum 4 z } (znum 1 (zgo 4 z)) (Frm.znum1_lt _) (znum 1 (zgo 4 z)) 0 (zcnt 8 (zgo 4 z)) [] nilS (by omega) ((hz.go 4).cnt 8) (by show 0 ≤ _; omega) (fun _ => hQ)
    have l1 := TWk.imp (s := ⟨frame 321 [(3, .ptr 0 b0 0), (4, .ptr 1 b1 0), (6, .ptr 2 b2 0), (7, .ptr 3 b3 0), (8, u32 (znum 1 (zgo 4 z))), (9, u32 0)], [(b0, .cells (stC (zcnt 8 (zgo 4 z)))), (b1, .cells (frS { f with ve := znum 4 z } (.v nilS) (.v nilS))), (b2, .cells st0), (b3, .cells zC), rmW [] nilS], none_⟩) l1
      (Imp.cell 3 4 (ob := [(b0, .cells (stC (zcnt 8 (zgo 4 z)))), (b1, .cells (frS { f with ve := znum 4 z } (.v nilS) (.v nilS))), (b2, .cells st0), (b3, .cells zC), rmW [] nilS]) (i := 1) (j := 24) (b := b1) (cs := frS { f with ve := znum 4 z } (.v nilS) (.v nilS)) rfl rfl)
    exact TWk.imp l1 (Imp.room (ob := [(b0, .cells (stC (zcnt 8 (zgo 4 z)))), (b1, .cells (frS { f with ve := znum 4 z } (.v nilS) (.v nilS))), (b2, .cells st0), (b3, .cells zC)]) 3 99)
  clear hQ hz
  generalize zcnt 8 (zgo 4 z) = z3 at *
  generalize zgo 1 (zgo 4 z) = z2 at *
  generalize znum 1 (zgo 4 z) = n2 at *
  generalize zgo 4 z = z1 at *
  generalize znum 4 z = n1 at *
  unfold stC frS at *
  refine TCalls.of Tryd.func47 rfl (CanCall.of Tryd.func47 rfl (by decide)) [] fun Γ => ?_
  refine run_sound (⟨fun | 57, 1 => told (.tup [.agg [str z1.s, int (z1.a : Nat), int z1.e], u32 n1]) [] [] | 58, 1 => told (.tup [.agg [str z2.s, int (z2.a : Nat), int z2.e], u32 n2]) [] [] | 59, 3 => told (.agg [str z3.s, int (z3.a : Nat), int z3.e]) [] [] | _, _ => .no, [((2, 61), ([3, 4, 6, 7, 8, 9], 4))], fun | 76 => some ⟨[], [3], .take true [0,1] (.one 2 (.one 3 .done))⟩ | _ => none⟩) 400 (B := ∀ (b b_1 b_2 b_3 : Nat), b = b ∧ TCalls Tryd.prog 45 [T.agg (stC z), int 4] [] none_ (callPost (Hint.call false Unit (fun x => True) [] false (fun x => T.tup [T.agg [str (Z.s z1), int (↑(Z.a z1) : Int), int (Z.e z1)], u32 (↑n1 : Int)]) (fun x => []) fun x => none_)) ∧ ∀ (a : Unit), True → (3 = nat_lit 3 ∧ List.all (stC z1) T.one = true) ∧ b = b ∧ 0 + nat_lit 3 ≤ 3 ∧ (1 = nat_lit 1 ∧ List.all (List.map T.v (Array.toList #[Value.int IntKind.u32 (↑n1 : Int)])) T.one = true) ∧ b_1 = b_1 ∧ 23 + nat_lit 1 ≤ 34 ∧ b = b ∧ TCalls Tryd.prog 45 [T.agg (stC z1), int 1] [] none_ (callPost (Hint.call false Unit (fun x => True) [] false (fun x => T.tup [T.agg [str (Z.s z2), int (↑(Z.a z2) : Int), int (Z.e z2)], u32 (↑n2 : Int)]) (fun x => []) fun x => none_)) ∧ ∀ (a : Unit), True → (3 = nat_lit 3 ∧ List.all (stC z2) T.one = true) ∧ b = b ∧ 0 + nat_lit 3 ≤ 3 ∧ b = b ∧ TCalls Tryd.prog 46 [T.agg (stC z2), bool (decide ((↑n2 : Int) ≤ (8 : Int)))] [] none_ (callPost (Hint.call false Unit (fun x => True) [] false (fun x => T.agg [str (Z.s z3), int (↑(Z.a z3) : Int), int (Z.e z3)]) (fun x => []) fun x => none_)) ∧ ∀ (a : Unit), True → (3 = nat_lit 3 ∧ List.all (stC z3) T.one = true) ∧ b = b ∧ 0 + nat_lit 3 ≤ 3 ∧ TWk Tryd.prog Γ (fin Tryd.prog Tryd.f47 [] Q) [It.code (sub (bd Tryd.f47) ptFU2), It.blk 3, It.code (sub (bd Tryd.f47) ptFU3), It.blk 0, It.code (sub (bd Tryd.f47) [1, 1, 1])] { fr := frame 321 [(3, T.ptr 0 b 0), (4, T.ptr 1 b_1 0), (6, T.ptr 2 b_2 0), (7, T.ptr 3 b_3 0), (8, u32 n2), (9, u32 0)], ob := [(b, Ob.cells (stC z3)), (b_1, Ob.cells (List.set (frS f (T.v nilS) (T.v nilS)) 23 (u32 n1))), (b_2, Ob.cells [str [], int 0, int 0]), (b_3, Ob.cells zC)], gl := fun x => none }) (by kernel_rfl) ?_
  repeat' (first | exact rfl | exact Nat.le_of_ble_eq_true rfl | refine And.intro ?_ ?_ | intro _ | refine bsplit_mk (fun _ => ?_) (fun _ => ?_))
  all_goals first
    | exact s1
    | exact s2
    | exact s3
    | exact lp Γ _ _ _ _
    | (clear lp; trace_state)
theorem rfld_t (z : Z) (hz : z.Ok) (f : Fm) : TCalls Tryd.prog 47 [.agg (stC z), .agg (frS f (.v nilS) (.v nilS)), u8 116] [] none_ (callPost (told (.tup [.agg (stC (zents (znum 1 z) (zcnt 16 z)).2), .agg (frS f (.v nilS) (.sl 8 (Row.aggs entC (zents (znum 1 z) (zcnt 16 z)).1)))]) [] [])) := by
  have hQ : callPost (told (.tup [.agg (stC (zents (znum 1 z) (zcnt 16 z)).2), .agg (frS f (.v nilS) (.sl 8 (Row.aggs entC (zents (znum 1 z) (zcnt 16 z)).1)))]) [] []) (.tup [.agg (stC (zents (znum 1 z) (zcnt 16 z)).2), .agg (frS f (.v nilS) (.sl 8 (Row.aggs entC (zents (znum 1 z) (zcnt 16 z)).1)))]) [] none_ := told_post rfl
  generalize callPost (told (.tup [.agg (stC (zents (znum 1 z) (zcnt 16 z)).2), .agg (frS f (.v nilS) (.sl 8 (Row.aggs entC (zents (znum 1 z) (zcnt 16 z)).1)))]) [] []) = Q at *
  have s2 := rnum_post z hz 1 (by decide)
  have s3 := rmst_post (zgo 1 z) (decide ((znum 1 z : Int) ≤ ((16 : Nat) : Int)))
  rw [show zmust (decide ((znum 1 z : Int) ≤ ((16 : Nat) : Int))) (zgo 1 z) = zcnt 16 z by rw [le1T]; rfl] at s3
  have lp : ∀ (Γ : Ctx) (b0 b1 b2 b3 : Nat), TWk Tryd.prog Γ (fin Tryd.prog Tryd.f47 [] Q) [.code (sub (bd Tryd.f47) ptFU4), .blk 1, .blk 0, .code (sub (bd Tryd.f47) [1, 1, 1])] ⟨frame 321 [(3, .ptr 0 b0 0), (4, .ptr 1 b1 0), (6, .ptr 2 b2 0), (7, .ptr 3 b3 0), (8, u32 (znum 1 z)), (13, u32 0)], [(b0, .cells (stC (zcnt 16 z))), (b1, .cells (frS f (.v nilS) (.v nilS))), (b2, .cells st0), (b3, .cells zC)], none_⟩ := fun Γ b0 b1 b2 b3 => by
    have l1 := re_loop Γ b0 b1 b2 b3 Q f (znum 1 z) (Frm.znum1_lt _) (znum 1 z) 0 (zcnt 16 z) [] nilS (by omega) (hz.cnt 16) (by show 0 ≤ _; omega) (fun _ => hQ)
    have l1 := TWk.imp (s := ⟨frame 321 [(3, .ptr 0 b0 0), (4, .ptr 1 b1 0), (6, .ptr 2 b2 0), (7, .ptr 3 b3 0), (8, u32 (znum 1 z)), (13, u32 0)], [(b0, .cells (stC (zcnt 16 z))), (b1, .cells (frS f (.v nilS) (.v nilS))), (b2, .cells st0), (b3, .cells zC), rmE [] nilS], none_⟩) l1
      (Imp.cell 8 4 (ob := [(b0, .cells (stC (zcnt 16 z))), (b1, .cells (frS f (.v nilS) (.v nilS))), (b2, .cells st0), (b3, .cells zC), rmE [] nilS]) (i := 1) (j := 33) (b := b1) (cs := frS f (.v nilS) (.v nilS)) rfl rfl)
    exact TWk.imp l1 (Imp.room (ob := [(b0, .cells (stC (zcnt 16 z))), (b1, .cells (frS f (.v nilS) (.v nilS))), (b2, .cells st0), (b3, .cells zC)]) 8 105)
  clear hQ hz
  generalize zcnt 16 z = z3 at *
  generalize zgo 1 z = z2 at *
  generalize znum 1 z = n2 at *
  unfold stC frS at *
  refine TCalls.of Tryd.func47 rfl (CanCall.of Tryd.func47 rfl (by decide)) [] fun Γ => ?_
  refine run_sound (⟨fun | 3, 1 => told (.tup [.agg [str z2.s, int (z2.a : Nat), int z2.e], u32 n2]) [] [] | 4, 3 => told (.agg [str z3.s, int (z3.a : Nat), int z3.e]) [] [] | _, _ => .no, [((2, 6), ([3, 4, 6, 7, 8, 13], 4))], fun | 76 => some ⟨[], [3], .take true [0,1] (.one 2 (.one 3 .done))⟩ | _ => none⟩) 400 (B := ∀ (b b_1 b_2 b_3 : Nat), b = b ∧ TCalls Tryd.prog 45 [T.agg (stC z), int 1] [] none_ (callPost (Hint.call false Unit (fun x => True) [] false (fun x => T.tup [T.agg [str (Z.s z2), int (↑(Z.a z2) : Int), int (Z.e z2)], u32 (↑n2 : Int)]) (fun x => []) fun x => none_)) ∧ ∀ (a : Unit), True → (3 = nat_lit 3 ∧ List.all (stC z2) T.one = true) ∧ b = b ∧ 0 + nat_lit 3 ≤ 3 ∧ b = b ∧ TCalls Tryd.prog 46 [T.agg (stC z2), bool (decide ((↑n2 : Int) ≤ (16 : Int)))] [] none_ (callPost (Hint.call false Unit (fun x => True) [] false (fun x => T.agg [str (Z.s z3), int (↑(Z.a z3) : Int), int (Z.e z3)]) (fun x => []) fun x => none_)) ∧ ∀ (a : Unit), True → (3 = nat_lit 3 ∧ List.all (stC z3) T.one = true) ∧ b = b ∧ 0 + nat_lit 3 ≤ 3 ∧ TWk Tryd.prog Γ (fin Tryd.prog Tryd.f47 [] Q) [It.code (sub (bd Tryd.f47) ptFU4), It.blk 1, It.blk 0, It.code (sub (bd Tryd.f47) [1, 1, 1])] { fr := frame 321 [(3, T.ptr 0 b 0), (4, T.ptr 1 b_1 0), (6, T.ptr 2 b_2 0), (7, T.ptr 3 b_3 0), (8, u32 n2), (13, u32 0)], ob := [(b, Ob.cells (stC z3)), (b_1, Ob.cells (frS f (T.v nilS) (T.v nilS))), (b_2, Ob.cells [str [], int 0, int 0]), (b_3, Ob.cells zC)], gl := fun x => none }) (by kernel_rfl) ?_
  repeat' (first | exact rfl | exact Nat.le_of_ble_eq_true rfl | refine And.intro ?_ ?_ | intro _ | refine bsplit_mk (fun _ => ?_) (fun _ => ?_))
  all_goals first
    | exact s2
    | exact s3
    | exact lp Γ _ _ _ _
    | (clear lp; trace_state)
end X6
end Go.Proofs.YtaepgceodcdnhaaDoor.Vm
/- Frames by the engine: the document's Encode, joined. -/
namespace Go.Proofs.YtaepgceodcdnhaaDoor.Vm
open Go Go.RowKit
set_option maxRecDepth 100000
namespace X6
open Frm (num text raw one Cmd Mem Ent Lvs Fm lets fields)
open Oct (be length_be)
theorem fb_len {f : Fm} (hf : f.Ok) (c : Nat) (hm : f.may c = true) : (f.fb c).length ≤ 400 := by
  have hms := hf.ms
  have hes := hf.es
  have l1 := flat_len Mem.bs 3 mem_len f.ms
  have l2 := flat_len Ent.bs 20 ent_len f.es
  unfold Frm.Fm.fb
  by_cases h : c = 118
  · subst h
    have hm : Frm.valOk f.has f.x = true := hm
    unfold Frm.valOk at hm
    have : f.x.length ≤ 32 := by simp at hm; exact hm.1
    show (be 1 (one f.has) ++ (UInt8.ofNat f.x.length :: f.x)).length ≤ 400
    rw [List.length_append, length_be, List.length_cons]; omega
  · by_cases g : c = 101
    · rw [if_pos g]; simp [length_be]
    rw [if_neg g]; clear g
    by_cases g : c = 107
    · rw [if_pos g]; simp [length_be]
    rw [if_neg g]; clear g
    by_cases g : c = 115
    · rw [if_pos g]; simp [length_be]
    rw [if_neg g]; clear g
    by_cases g : c = 118
    · exact absurd g h
    rw [if_neg g]; clear g
    by_cases g : c = 114
    · rw [if_pos g]; simp [length_be]
    rw [if_neg g]; clear g
    by_cases g : c = 102
    · rw [if_pos g]; simp [length_be]
    rw [if_neg g]; clear g
    by_cases g : c = 100
    · rw [if_pos g]; simp [length_be]
    rw [if_neg g]; clear g
    by_cases g : c = 108
    · rw [if_pos g]; simp [length_be]
    rw [if_neg g]; clear g
    by_cases g : c = 113
    · rw [if_pos g]; simp [length_be]
    rw [if_neg g]; clear g
    by_cases g : c = 98
    · rw [if_pos g]; simp [length_be]
    rw [if_neg g]; clear g
    by_cases g : c = 110
    · rw [if_pos g]; simp [length_be]
    rw [if_neg g]; clear g
    by_cases g : c = 99
    · rw [if_pos g]; rw [cmd_len]; omega
    rw [if_neg g]; clear g
    by_cases g : c = 119
    · rw [if_pos g]; rw [List.length_append, List.length_append, List.length_append, length_be, length_be, l1, show f.lv.bs.length = 8 from rfl]; omega
    rw [if_neg g]; clear g
    rw [List.length_append, length_be, l2]; omega
def rencT (f : Fm) : T := .tup [str f.enc.1, bool f.good]
theorem zat (l d r : List Nat) (c : Nat) (hl : l = d ++ c :: r) (hc : c < 128) : ZAt ⟨(letS l).toArray⟩ d.length c := by
  have hlt : d.length < (letS l).length := by rw [letS_len, hl]; simp
  have h := str_at (letS l) d.length hlt
  have e : ((letS l)[d.length]).toNat = c := by
    have : (letS l)[d.length] = UInt8.ofNat c := by simp [letS, hl]
    rw [this, UInt8.toNat_ofNat']; omega
  rw [e] at h
  exact h
section
variable (Γ : Ctx) (b0 : Nat) (f : Fm) (Q : T → Obs → Glb → Prop)
theorem renc_loop (hf : f.Ok) (hk : Frm.hasKind f.kind = true) (hQ1 : f.good = true → Q (.tup [str (Crc.sealL f.bytes), bool true]) [] none_) (hQ0 : f.good = false → Q (.tup [str [], bool false]) [] none_) : ∀ (r d : List Nat), lets f.kind = d ++ r → (∀ x ∈ d, f.may x = true) →
    TWk Tryd.prog Γ (fin Tryd.prog Tryd.f12 [] Q) [.code (sub (bd Tryd.f12) [1, 1, 1, 1, 0, 1, 0]), .blk 0, .code (sub (bd Tryd.f12) [1, 1, 1, 1, 1])] ⟨frame 260 [(1, .ptr 0 b0 0), (4, .v (.string ⟨(letS (lets f.kind)).toArray⟩)), (5, str (f.hb ++ d.flatMap f.fb)), (6, int (d.length : Nat))], [(b0, .cells (frC f))], none_⟩ := by
  have hl6 := Frm.lets_len f.kind
  have hhb : f.hb.length = 3 := by unfold Frm.Fm.hb; simp [length_be]
  intro r
  induction r with
  | nil =>
    intro d h1 h2
    have e : d = lets f.kind := by rw [h1]; simp
    subst e
    have hg : f.good = true := by
      unfold Frm.Fm.good
      rw [hk, Bool.true_and, List.all_eq_true]
      exact h2
    have hQ1 := hQ1 hg
    have hfl := Frm.flat_le (f := f.fb) (lets f.kind) (fun c hc => fb_len hf c (h2 c hc))
    have hs := X2.rseal_any f.bytes (by show (f.hb ++ (lets f.kind).flatMap f.fb).length ≤ _; rw [List.length_append]; omega) _ (fun x h => told_post (sel := []) (ob := []) h)
    have hsz : (⟨(letS (lets f.kind)).toArray⟩ : ByteArray).size = (lets f.kind).length := by show (letS (lets f.kind)).toArray.size = _; simp [letS]
    rw [show f.hb ++ (lets f.kind).flatMap f.fb = f.bytes from rfl]
    clear hQ0 hfl
    generalize f.bytes = B at *
    generalize Crc.sealL B = SB at *
    generalize (⟨(letS (lets f.kind)).toArray⟩ : ByteArray) = z at *
    generalize (lets f.kind).length = n at *
    generalize frC f = C at *
    refine run_sound (⟨fun | 8, 2 => .no | 57, 1 => told (str SB) [] [] | _, _ => .no, [((0, 8), ([1, 4, 5, 6], 1))], fun | 4 => some ⟨[], [9], .take true [0,1,3,4,7,8] (.one 2 (.one 5 (.take false [6] (.one 9 (.take false [10,11] .done)))))⟩ | 24 => some ⟨[], [10], .take false [0,1,4,8] (.take true [2,5,9] (.one 3 (.one 6 (.take false [7] (.one 10 (.take false [11,12,13] .done))))))⟩ | 28 => some ⟨[], [], .take true [0,1,2,4,5,6,7,10,11] (.one 3 (.one 8 (.take true [9,12,13,14] .done)))⟩ | 40 => some ⟨[], [6], .take false [0,1,4] (.take true [2,5] (.one 3 (.one 6 (.take false [7,8,9] .done))))⟩ | 48 => some ⟨[], [8], .take false [0,1,4] (.take true [2,5,6,7] (.one 3 (.one 8 (.take false [9,10,11] .done))))⟩ | 52 => some ⟨[], [22], .take false [0,1,3,8,10,16,18] (.take true [2,4,5,6,9,11,12,13,17,19,20,21] (.one 7 (.one 14 (.take false [15] (.one 22 (.take false [23,24,25] .done))))))⟩ | 16 => some ⟨[], [14], .take false [0,1,4,8,12] (.take true [2,5,9,13] (.one 3 (.one 6 (.take false [7] (.one 10 (.take false [11] (.one 14 (.take false [15,16,17] .done))))))))⟩ | _ => none⟩) 400 (B := bsplit (decide ((↑n : Int) < (↑(ByteArray.size z) : Int))) (TWk Tryd.prog Γ (fin Tryd.prog Tryd.f12 [] Q) [It.code (sub (bd Tryd.f12) [1, 1, 1, 1, 0, 1, 0, 0, 1, 0, 0]), It.blk 1, It.code (sub (bd Tryd.f12) [1, 1, 1, 1, 0, 1, 0, 0, 1, 1]), It.code (sub (bd Tryd.f12) [1, 1, 1, 1, 0, 1, 0]), It.blk 0, It.code (sub (bd Tryd.f12) [1, 1, 1, 1, 1])] { fr := frame 260 [(1, T.ptr 0 b0 0), (4, T.v (Value.string z)), (5, str B), (6, int n)], ob := [(b0, Ob.cells C)], gl := fun x => none }) (TCalls Tryd.prog 37 [str B] [] none_ (callPost (Hint.call false Unit (fun x => True) [] false (fun x => str SB) (fun x => []) fun x => none_)) ∧ ∀ (a : Unit), True → Q (T.tup [str SB, bool true]) [] fun x => none)) (by kernel_rfl) ?_
    repeat' (first | exact rfl | exact Nat.le_of_ble_eq_true rfl | refine And.intro ?_ ?_ | intro _ | refine bsplit_mk (fun _ => ?_) (fun _ => ?_))
    all_goals first
      | exact hs
      | exact hQ1
      | (exfalso; simp only [decide_eq_true_eq] at *; omega)
      | trace_state
  | cons x r ih =>
    intro d h1 h2
    have hmem : x ∈ lets f.kind := by rw [h1]; simp
    have hil := Frm.lets_ok f.kind x hmem
    have hz := zat (lets f.kind) d r x h1 (let_lt hil)
    have hsz : (⟨(letS (lets f.kind)).toArray⟩ : ByteArray).size = (lets f.kind).length := by show (letS (lets f.kind)).toArray.size = _; simp [letS]
    have hlt : d.length < (⟨(letS (lets f.kind)).toArray⟩ : ByteArray).size := by rw [hsz, h1]; simp
    have hdl : d.length ≤ 100 := by rw [h1] at hl6; simp at hl6; omega
    have hfl := Frm.flat_le (f := f.fb) d (fun c hc => fb_len hf c (h2 c hc))
    have hdl6 : d.length ≤ 6 := by rw [h1] at hl6; simp at hl6; omega
    have hS : (f.hb ++ d.flatMap f.fb).length ≤ 5000 := by rw [List.length_append]; omega
    have hbad : f.may x = false → Q (.tup [str [], bool false]) [] none_ := fun h => hQ0 (by
      unfold Frm.Fm.good
      rw [hk, Bool.true_and]
      cases hh : (lets f.kind).all f.may with
      | false => rfl
      | true => rw [List.all_eq_true] at hh; rw [hh x hmem] at h; cases h)
    have nx := fun h : f.may x = true => ih (d ++ [x]) (by rw [h1]; simp) (fun y hy => (List.mem_append.1 hy).elim (h2 y) (fun hy => by rw [List.mem_singleton.1 hy]; exact h))
    rw [List.flatMap_append, ← List.append_assoc, List.flatMap_cons, List.flatMap_nil, List.append_nil, show (d ++ [x]).length = d.length + 1 by simp] at nx
    clear ih hQ0 hQ1
    generalize (⟨(letS (lets f.kind)).toArray⟩ : ByteArray) = z at *
    generalize f.hb ++ d.flatMap f.fb = S at *
    generalize d.length = n at *
    unfold Frm.isLet at hil
    simp at hil
    rcases hil with rfl | rfl | rfl | rfl | rfl | rfl | rfl | rfl | rfl | rfl | rfl | rfl | rfl | rfl
    · exact renc_e Γ b0 f z S n Q hf hS hlt hdl hz (nx rfl)
    · exact renc_k Γ b0 f z S n Q hf hS hlt hdl hz hbad nx
    · exact renc_s Γ b0 f z S n Q hf hS hlt hdl hz (nx rfl)
    · exact renc_v Γ b0 f z S n Q hf hS hlt hdl hz hbad nx
    · exact renc_r Γ b0 f z S n Q hf hS hlt hdl hz (nx rfl)
    · exact renc_f Γ b0 f z S n Q hf hS hlt hdl hz (nx rfl)
    · exact renc_d Γ b0 f z S n Q hf hS hlt hdl hz (nx rfl)
    · exact renc_l Γ b0 f z S n Q hf hS hlt hdl hz (nx rfl)
    · exact renc_q Γ b0 f z S n Q hf hS hlt hdl hz (nx rfl)
    · exact renc_b Γ b0 f z S n Q hf hS hlt hdl hz (nx rfl)
    · exact renc_n Γ b0 f z S n Q hf hS hlt hdl hz (nx rfl)
    · exact renc_c Γ b0 f z S n Q hf hS hlt hdl hz (nx rfl)
    · exact renc_w Γ b0 f z S n Q hf hS hlt hdl hz hbad nx
    · exact renc_t Γ b0 f z S n Q hf hS hlt hdl hz hbad nx
end
theorem renc_any (f : Fm) (hf : f.Ok) : TCalls Tryd.prog 12 [.agg (frC f)] [] none_ (callPost (told (rencT f) [] [])) := by
  have hQ : ∀ x, x = rencT f → callPost (told (rencT f) [] []) x [] none_ := fun x h => told_post h
  generalize callPost (told (rencT f) [] []) = Q at *
  have hQ1 : f.good = true → Q (.tup [str (Crc.sealL f.bytes), bool true]) [] none_ := fun h => hQ _ (by unfold rencT Frm.Fm.enc; rw [if_pos h, h])
  have hQ0 : f.good = false → Q (.tup [str [], bool false]) [] none_ := fun h => hQ _ (by unfold rencT Frm.Fm.enc; rw [if_neg (by rw [h]; decide), h])
  have hr := rfields_post f.kind hf.kind
  have hz : str (letS (lets f.kind)) = .v (.string ⟨(letS (lets f.kind)).toArray⟩) := rfl
  have hne := strne (letS (lets f.kind))
  by_cases hk : Frm.hasKind f.kind = true
  · have lp := fun Γ b0 => renc_loop Γ b0 f Q hf hk hQ1 hQ0 (lets f.kind) [] rfl (fun x h => by cases h)
    rw [List.flatMap_nil, List.append_nil] at lp
    have hn : decide (letS (lets f.kind) = []) = false := by
      rw [decide_eq_false_iff_not]
      intro h
      have h2 := Frm.lets_kind f.kind
      rw [hk, decide_eq_true_eq] at h2
      have h3 := congrArg List.length h
      rw [letS_len] at h3
      exact h2 (List.length_eq_zero_iff.1 h3)
    rw [hn] at hne
    rw [show f.hb = (be 1 f.kind ++ be 1 f.frm) ++ be 1 f.to by rw [List.append_assoc]; rfl] at lp
    have s0 := rone_post f.kind hf.kind
    have s1 := rone_post f.frm hf.frm
    have s2 := rone_post f.to hf.to
    have l0 : (be 1 f.kind).length = 1 := length_be 1 _
    have l1 : (be 1 f.frm).length = 1 := length_be 1 _
    have l2 : (be 1 f.to).length = 1 := length_be 1 _
    rw [hz] at hr
    clear hQ hQ1 hQ0 hz hn
    generalize be 1 f.kind = x0 at *
    generalize be 1 f.frm = x1 at *
    generalize be 1 f.to = x2 at *
    generalize (⟨(letS (lets f.kind)).toArray⟩ : ByteArray) = z at *
    refine TCalls.of Tryd.func12 rfl (CanCall.of Tryd.func12 rfl (by decide)) [] fun Γ => ?_
    refine run_sound (⟨fun | 1, 2 => told (.v (.string z)) [] [] | 4, 2 => told (str x0) [] [] | 4, 5 => told (str x1) [] [] | 4, 6 => .res (str (x0 ++ x1)) | 4, 9 => told (str x2) [] [] | 4, 10 => .res (str ((x0 ++ x1) ++ x2)) | _, _ => .no, [((2, 6), ([1, 4, 5, 6], 1))], fun | 4 => some ⟨[0], [9], .take true [0,1,3,4,7,8] (.one 2 (.one 5 (.take false [6] (.one 9 (.take false [10,11] .done)))))⟩ | 24 => some ⟨[], [10], .take false [0,1,4,8] (.take true [2,5,9] (.one 3 (.one 6 (.take false [7] (.one 10 (.take false [11,12,13] .done))))))⟩ | 28 => some ⟨[], [], .take true [0,1,2,4,5,6,7,10,11] (.one 3 (.one 8 (.take true [9,12,13,14] .done)))⟩ | 40 => some ⟨[], [6], .take false [0,1,4] (.take true [2,5] (.one 3 (.one 6 (.take false [7,8,9] .done))))⟩ | 48 => some ⟨[], [8], .take false [0,1,4] (.take true [2,5,6,7] (.one 3 (.one 8 (.take false [9,10,11] .done))))⟩ | 52 => some ⟨[], [22], .take false [0,1,3,8,10,16,18] (.take true [2,4,5,6,9,11,12,13,17,19,20,21] (.one 7 (.one 14 (.take false [15] (.one 22 (.take false [23,24,25] .done))))))⟩ | 16 => some ⟨[], [14], .take false [0,1,4,8,12] (.take true [2,5,9,13] (.one 3 (.one 6 (.take false [7] (.one 10 (.take false [11] (.one 14 (.take false [15,16,17] .done))))))))⟩ | _ => none⟩) 400 (B := ∀ (b : Nat), b = b ∧ TCalls Tryd.prog 32 [u8 (Fm.kind f)] [] none_ (callPost (Hint.call false Unit (fun x => True) [] false (fun x => T.v (Value.string z)) (fun x => []) fun x => none_)) ∧ ∀ (a : Unit), True → bsplit (decide (z = (ByteArray.mk (#[])))) (Q (T.tup [str [], bool false]) [] fun x => none) (b = b ∧ b = b ∧ b = b ∧ TCalls Tryd.prog 33 [u8 (Fm.kind f)] [] none_ (callPost (Hint.call false Unit (fun x => True) [] false (fun x => str x0) (fun x => []) fun x => none_)) ∧ ∀ (a : Unit), True → TCalls Tryd.prog 33 [u8 (Fm.frm f)] [] none_ (callPost (Hint.call false Unit (fun x => True) [] false (fun x => str x1) (fun x => []) fun x => none_)) ∧ ∀ (a : Unit), True → ByteArray.size (ByteArray.mk (List.toArray x0)) + ByteArray.size (ByteArray.mk (List.toArray x1)) ≤ 9223372036854775807 ∧ some (T.v (Value.string ((ByteArray.mk (List.toArray x0)) ++ (ByteArray.mk (List.toArray x1))))) = some (str (x0 ++ x1)) ∧ TCalls Tryd.prog 33 [u8 (Fm.to f)] [] none_ (callPost (Hint.call false Unit (fun x => True) [] false (fun x => str x2) (fun x => []) fun x => none_)) ∧ ∀ (a : Unit), True → ByteArray.size (ByteArray.mk (List.toArray (x0 ++ x1))) + ByteArray.size (ByteArray.mk (List.toArray x2)) ≤ 9223372036854775807 ∧ some (T.v (Value.string ((ByteArray.mk (List.toArray (x0 ++ x1))) ++ (ByteArray.mk (List.toArray x2))))) = some (str (x0 ++ x1 ++ x2)) ∧ TWk Tryd.prog Γ (fin Tryd.prog Tryd.f12 [] Q) [It.code (sub (bd Tryd.f12) [1, 1, 1, 1, 0, 1, 0]), It.blk 0, It.code (sub (bd Tryd.f12) [1, 1, 1, 1, 1])] { fr := frame 260 [(1, T.ptr 0 b 0), (4, T.v (Value.string z)), (5, str (x0 ++ x1 ++ x2)), (6, int 0)], ob := [(b, Ob.cells (frC f))], gl := fun x => none })) (by kernel_rfl) ?_
    repeat' (first | exact rfl | exact Nat.le_of_ble_eq_true rfl | refine And.intro ?_ ?_ | intro _ | refine bsplit_mk (fun _ => ?_) (fun _ => ?_))
    all_goals first
      | exact hr
      | exact s0
      | exact s1
      | exact s2
      | exact lp _ _
      | exact catL _ _
      | exact cat_ok _ _ (by first | omega | (simp only [List.length_append]; omega))
      | (exfalso; rename_i hh; rw [hne] at hh; cases hh)
      | trace_state
  · have hk : Frm.hasKind f.kind = false := by simpa using hk
    have hn : decide (letS (lets f.kind) = []) = true := by
      rw [decide_eq_true_eq]
      have h2 := Frm.lets_kind f.kind
      rw [hk, decide_eq_false_iff_not, Classical.not_not] at h2
      rw [h2]; rfl
    rw [hn] at hne
    have hQ0 := hQ0 (by unfold Frm.Fm.good; rw [hk]; rfl)
    rw [hz] at hr
    clear hQ hQ1 hz hn
    generalize (⟨(letS (lets f.kind)).toArray⟩ : ByteArray) = z at *
    refine TCalls.of Tryd.func12 rfl (CanCall.of Tryd.func12 rfl (by decide)) [] fun Γ => ?_
    refine run_sound (⟨fun | 1, 2 => told (.v (.string z)) [] [] | _, _ => .no, [((0, 4), ([1, 4], 1))], fun | 4 => some ⟨[], [9], .take true [0,1,3,4,7,8] (.one 2 (.one 5 (.take false [6] (.one 9 (.take false [10,11] .done)))))⟩ | 24 => some ⟨[], [10], .take false [0,1,4,8] (.take true [2,5,9] (.one 3 (.one 6 (.take false [7] (.one 10 (.take false [11,12,13] .done))))))⟩ | 28 => some ⟨[], [], .take true [0,1,2,4,5,6,7,10,11] (.one 3 (.one 8 (.take true [9,12,13,14] .done)))⟩ | 40 => some ⟨[], [6], .take false [0,1,4] (.take true [2,5] (.one 3 (.one 6 (.take false [7,8,9] .done))))⟩ | 48 => some ⟨[], [8], .take false [0,1,4] (.take true [2,5,6,7] (.one 3 (.one 8 (.take false [9,10,11] .done))))⟩ | 52 => some ⟨[], [22], .take false [0,1,3,8,10,16,18] (.take true [2,4,5,6,9,11,12,13,17,19,20,21] (.one 7 (.one 14 (.take false [15] (.one 22 (.take false [23,24,25] .done))))))⟩ | 16 => some ⟨[], [14], .take false [0,1,4,8,12] (.take true [2,5,9,13] (.one 3 (.one 6 (.take false [7] (.one 10 (.take false [11] (.one 14 (.take false [15,16,17] .done))))))))⟩ | _ => none⟩) 400 (B := ∀ (b : Nat), b = b ∧ TCalls Tryd.prog 32 [u8 (Fm.kind f)] [] none_ (callPost (Hint.call false Unit (fun x => True) [] false (fun x => T.v (Value.string z)) (fun x => []) fun x => none_)) ∧ ∀ (a : Unit), True → bsplit (decide (z = (ByteArray.mk (#[])))) (Q (T.tup [str [], bool false]) [] fun x => none) (TWk Tryd.prog Γ (fin Tryd.prog Tryd.f12 [] Q) [It.code (sub (bd Tryd.f12) [1, 1, 1])] { fr := frame 260 [(1, T.ptr 0 b 0), (4, T.v (Value.string z))], ob := [(b, Ob.cells (frC f))], gl := fun x => none })) (by kernel_rfl) ?_
    repeat' (first | exact rfl | exact Nat.le_of_ble_eq_true rfl | refine And.intro ?_ ?_ | intro _ | refine bsplit_mk (fun _ => ?_) (fun _ => ?_))
    all_goals first
      | exact hr
      | exact hQ0
      | (exfalso; rename_i hh; rw [hne] at hh; cases hh)
      | trace_state
end X6
end Go.Proofs.YtaepgceodcdnhaaDoor.Vm
/- Frames: plain, what is read of a frame's own bytes. No program is named here. -/
namespace Go.Proofs.YtaepgceodcdnhaaDoor.Frm
open Oct (getN takeL be length_be)
def at0 (l : List UInt8) : RS := ⟨l, 0, false⟩
theorem rd_num (k n : Nat) (r : List UInt8) (h : n < 256 ^ k) : rnum k (at0 (be k n ++ r)) = n ∧ rgo k (at0 (be k n ++ r)) = at0 r := by
  have e : takeL (be k n ++ r) 0 0 k = (be k n, r, 0) := by
    rw [take0_ok _ _ (by rw [List.length_append, length_be]; omega)]
    rw [List.take_append_of_le_length (by rw [length_be]; omega), List.take_of_length_le (by rw [length_be]; omega), List.drop_append_of_le_length (by rw [length_be]; omega), List.drop_of_length_le (by rw [length_be]; omega)]; rfl
  constructor
  · show getN (takeL (be k n ++ r) 0 0 k).1 = n
    rw [e]; exact Oct.getN_be k n h
  · show RS.mk (takeL (be k n ++ r) 0 0 k).2.1 (takeL (be k n ++ r) 0 0 k).2.2 false = _
    rw [e]; rfl
theorem rd1 {n : Nat} (h : n < 256) (r : List UInt8) : rnum 1 (at0 (be 1 n ++ r)) = n := (rd_num 1 n r h).1
theorem go1 {n : Nat} (h : n < 256) (r : List UInt8) : rgo 1 (at0 (be 1 n ++ r)) = at0 r := (rd_num 1 n r h).2
theorem rd4 {n : Nat} (h : n < 4294967296) (r : List UInt8) : rnum 4 (at0 (be 4 n ++ r)) = n := (rd_num 4 n r h).1
theorem go4 {n : Nat} (h : n < 4294967296) (r : List UInt8) : rgo 4 (at0 (be 4 n ++ r)) = at0 r := (rd_num 4 n r h).2
theorem must_t (s : RS) : must true s = s := by unfold must; rw [if_neg (fun g => by cases g.1)]
theorem wrong0 (l : List UInt8) : wrong (at0 l) = false := rfl
theorem rd_flag (b : Bool) (r : List UInt8) : flagB (at0 (be 1 (one b) ++ r)) = b ∧ flagS (at0 (be 1 (one b) ++ r)) = at0 r := by
  unfold flagB flagS
  rw [rd1 (one_lt b), go1 (one_lt b)]
  cases b
  · exact ⟨rfl, must_t _⟩
  · exact ⟨rfl, must_t _⟩
theorem rd_cmd {c : Cmd} (h : c.Ok) (r : List UInt8) : cmdR (at0 (c.bs ++ r)) = c ∧ cmdS (at0 (c.bs ++ r)) = at0 r := by
  have e : c.bs ++ r = be 1 c.k ++ (be 1 c.n ++ (be 1 c.l ++ (be 4 c.e ++ (be 4 c.q ++ r)))) := by unfold Cmd.bs; simp only [List.append_assoc]
  rw [e]
  unfold cmdR cmdS
  rw [go1 h.k, go1 h.n, go1 h.l, go4 h.e, go4 h.q, rd1 h.k, rd1 h.n, rd1 h.l, rd4 h.e, rd4 h.q]
  exact ⟨rfl, rfl⟩
theorem rd_mem {m : Mem} (h : m.Ok) (r : List UInt8) : memR (at0 (m.bs ++ r)) = m ∧ memS (at0 (m.bs ++ r)) = at0 r := by
  have e : m.bs ++ r = be 1 m.n ++ (be 1 m.l ++ (be 1 (one m.r) ++ r)) := by unfold Mem.bs; simp only [List.append_assoc]
  rw [e]
  unfold memR memS
  rw [go1 h.n, go1 h.l, rd1 h.n, rd1 h.l, (rd_flag m.r r).1, (rd_flag m.r r).2]
  exact ⟨rfl, rfl⟩
theorem rd_mems : ∀ (ms : List Mem), (∀ m ∈ ms, m.Ok) → ∀ r, memsR ms.length (at0 (ms.flatMap Mem.bs ++ r)) = (ms, at0 r)
  | [], _, _ => rfl
  | m :: ms, h, r => by
    rw [List.flatMap_cons, List.append_assoc, List.length_cons]
    unfold memsR
    have hm := rd_mem (h m (by simp)) (ms.flatMap Mem.bs ++ r)
    rw [wrong0, if_neg (by decide), hm.1, hm.2, rd_mems ms (fun x hx => h x (by simp [hx])) r]
theorem rd_ent {x : Ent} (h : x.Ok) (r : List UInt8) : entR (at0 (x.bs ++ r)) = x ∧ entS (at0 (x.bs ++ r)) = at0 r := by
  have e : x.bs ++ r = be 4 x.s ++ (be 4 x.n ++ (be 1 x.b ++ (x.c.bs ++ r))) := by unfold Ent.bs; simp only [List.append_assoc]
  rw [e]
  unfold entR entS markS
  rw [go4 h.s, go4 h.n, go1 h.b, rd4 h.s, rd4 h.n, rd1 h.b, (rd_cmd h.c r).1, (rd_cmd h.c r).2]
  exact ⟨rfl, rfl⟩
theorem rd_ents : ∀ (es : List Ent), (∀ m ∈ es, m.Ok) → ∀ r, entsR es.length (at0 (es.flatMap Ent.bs ++ r)) = (es, at0 r)
  | [], _, _ => rfl
  | m :: es, h, r => by
    rw [List.flatMap_cons, List.append_assoc, List.length_cons]
    unfold entsR
    have hm := rd_ent (h m (by simp)) (es.flatMap Ent.bs ++ r)
    rw [wrong0, if_neg (by decide), hm.1, hm.2, rd_ents es (fun x hx => h x (by simp [hx])) r]
theorem rd_cnt {n most : Nat} (h : n < 256) (hm : n ≤ most) (r : List UInt8) : cntS most (at0 (be 1 n ++ r)) = at0 r ∧ cntN most (at0 (be 1 n ++ r)) = n := by
  have e : cntS most (at0 (be 1 n ++ r)) = at0 r := by unfold cntS; rw [rd1 h, go1 h, decide_eq_true hm, must_t]
  refine ⟨e, ?_⟩
  unfold cntN
  rw [e, wrong0, if_neg (by decide), rd1 h]
theorem lvs_bytes {l : Lvs} (h : l.Ok) : lvsOf l.bs = l := by
  have k : ∀ n, n < 256 → (UInt8.ofNat n).toNat = n := fun n h => by rw [UInt8.toNat_ofNat']; omega
  show Lvs.mk (UInt8.ofNat l.l0).toNat (UInt8.ofNat l.l1).toNat (UInt8.ofNat l.l2).toNat (UInt8.ofNat l.l3).toNat (UInt8.ofNat l.l4).toNat (UInt8.ofNat l.l5).toNat (UInt8.ofNat l.l6).toNat (UInt8.ofNat l.l7).toNat = l
  rw [k _ h.l0, k _ h.l1, k _ h.l2, k _ h.l3, k _ h.l4, k _ h.l5, k _ h.l6, k _ h.l7]
theorem take8 (l : Lvs) (r : List UInt8) : takeL (l.bs ++ r) 0 0 8 = (l.bs, r, 0) := by
  have e : takeL (l.bs ++ r) 0 0 (8 : Nat) = ((l.bs ++ r).take 8, (l.bs ++ r).drop 8, 0) := take0_ok _ _ (by rw [List.length_append, show l.bs.length = 8 from rfl]; omega)
  exact e
theorem rd_view {f : Fm} (h : f.Ok) (hm : f.ms.length ≤ 8) (r : List UInt8) : viewR (at0 (f.fb 119 ++ r)) = ((f.ve, f.ms, f.lv), at0 r) := by
  have e : f.fb 119 ++ r = be 4 f.ve ++ (be 1 f.ms.length ++ (f.ms.flatMap Mem.bs ++ (f.lv.bs ++ r))) := by
    show (be 4 f.ve ++ (be 1 f.ms.length ++ (f.ms.flatMap Mem.bs ++ f.lv.bs))) ++ r = _
    simp only [List.append_assoc]
  rw [e]
  unfold viewR
  have hc := rd_cnt (n := f.ms.length) (most := 8) (by omega) hm (f.ms.flatMap Mem.bs ++ (f.lv.bs ++ r))
  rw [go4 h.ve, rd4 h.ve, hc.1, hc.2]
  dsimp only
  rw [rd_mems f.ms h.mo]
  dsimp only
  rw [wrong0, if_neg (by decide)]
  show ((f.ve, f.ms, lvsOf (takeL (f.lv.bs ++ r) 0 0 8).1), RS.mk (takeL (f.lv.bs ++ r) 0 0 8).2.1 (takeL (f.lv.bs ++ r) 0 0 8).2.2 false) = _
  rw [take8, lvs_bytes h.lv]; rfl
theorem rd_val {f : Fm} (hm : valOk f.has f.x = true) (r : List UInt8) : valR (at0 (f.fb 118 ++ r)) = ((f.has, f.x), at0 r) := by
  have hx : f.x.length ≤ 32 := by unfold valOk at hm; simp at hm; exact hm.1
  have e : f.fb 118 ++ r = be 1 (one f.has) ++ (UInt8.ofNat f.x.length :: (f.x ++ r)) := by
    show (be 1 (one f.has) ++ (UInt8.ofNat f.x.length :: f.x)) ++ r = _
    simp
  rw [e]
  unfold valR
  have hf := rd_flag f.has (UInt8.ofNat f.x.length :: (f.x ++ r))
  rw [hf.1, hf.2, wrong0, if_neg (by decide)]
  have hn : txtN (UInt8.ofNat f.x.length :: (f.x ++ r)) = (1, f.x.length) := by
    show (1, (UInt8.ofNat f.x.length).toNat) = _
    rw [UInt8.toNat_ofNat']
    congr 1; omega
  have et : takeL (UInt8.ofNat f.x.length :: (f.x ++ r)) 0 ((1 : Nat) : Int) (f.x.length : Nat) = (f.x, r, 0) := by
    unfold takeL
    rw [if_neg (by decide), if_neg (by omega), if_neg (by simp; omega)]
    rw [show (((1 : Nat) : Int) + (f.x.length : Int)).toNat = f.x.length + 1 by omega, List.take_succ_cons, List.drop_succ_cons]
    simp
  have ex : txtX (at0 (UInt8.ofNat f.x.length :: (f.x ++ r))) = f.x := by
    unfold txtX; rw [show (at0 (UInt8.ofNat f.x.length :: (f.x ++ r))).l = UInt8.ofNat f.x.length :: (f.x ++ r) from rfl, hn]
    show (takeL _ 0 ((1 : Nat) : Int) (f.x.length : Nat)).1 = _
    rw [et]
  have es : txtS (at0 (UInt8.ofNat f.x.length :: (f.x ++ r))) = at0 r := by
    unfold txtS; rw [show (at0 (UInt8.ofNat f.x.length :: (f.x ++ r))).l = UInt8.ofNat f.x.length :: (f.x ++ r) from rfl, hn]
    show RS.mk (takeL _ 0 ((1 : Nat) : Int) (f.x.length : Nat)).2.1 (takeL _ 0 ((1 : Nat) : Int) (f.x.length : Nat)).2.2 false = _
    rw [et]; rfl
  rw [ex, es, hm, must_t]
/-- a field of one frame in another -/
def setF (c : Nat) (f g : Fm) : Fm :=
  if c = 101 then { g with ep := f.ep } else if c = 107 then { g with key := f.key } else if c = 115 then { g with sn := f.sn, sb := f.sb, sl := f.sl }
  else if c = 118 then { g with has := f.has, x := f.x } else if c = 114 then { g with rmw := f.rmw } else if c = 102 then { g with flag := f.flag }
  else if c = 100 then { g with dir := f.dir } else if c = 108 then { g with life := f.life } else if c = 113 then { g with req := f.req }
  else if c = 98 then { g with bn := f.bn, bb := f.bb } else if c = 110 then { g with slot := f.slot } else if c = 99 then { g with c := f.c }
  else if c = 119 then { g with ve := f.ve, ms := f.ms, lv := f.lv } else { g with es := f.es }
theorem rd_fld {f : Fm} (h : f.Ok) (c : Nat) (hl : isLet c = true) (hm : f.may c = true) (r : List UInt8) (g : Fm) : fldR c (at0 (f.fb c ++ r)) g = (setF c f g, at0 r) := by
  unfold isLet at hl
  simp at hl
  rcases hl with rfl | rfl | rfl | rfl | rfl | rfl | rfl | rfl | rfl | rfl | rfl | rfl | rfl | rfl
  · show ({ g with ep := rnum 4 (at0 (be 4 f.ep ++ r)) }, rgo 4 (at0 (be 4 f.ep ++ r))) = _
    rw [rd4 h.ep, go4 h.ep]; rfl
  · have hk : f.key < 6 := of_decide_eq_true hm
    show ({ g with key := rnum 1 (at0 (be 1 f.key ++ r)) }, must (decide (rnum 1 (at0 (be 1 f.key ++ r)) < 6)) (rgo 1 (at0 (be 1 f.key ++ r)))) = _
    rw [rd1 h.key, go1 h.key, decide_eq_true hk, must_t]; rfl
  · have e : f.fb 115 ++ r = be 4 f.sn ++ (be 1 f.sb ++ (be 1 f.sl ++ r)) := by
      show (be 4 f.sn ++ (be 1 f.sb ++ be 1 f.sl)) ++ r = _
      simp only [List.append_assoc]
    rw [e]
    show ({ g with sn := rnum 4 (at0 (be 4 f.sn ++ (be 1 f.sb ++ (be 1 f.sl ++ r)))), sb := rnum 1 (rgo 4 (at0 (be 4 f.sn ++ (be 1 f.sb ++ (be 1 f.sl ++ r))))), sl := rnum 1 (rgo 1 (rgo 4 (at0 (be 4 f.sn ++ (be 1 f.sb ++ (be 1 f.sl ++ r)))))) }, rgo 1 (rgo 1 (rgo 4 (at0 (be 4 f.sn ++ (be 1 f.sb ++ (be 1 f.sl ++ r))))))) = _
    rw [go4 h.sn, go1 h.sb, go1 h.sl, rd4 h.sn, rd1 h.sb, rd1 h.sl]; rfl
  · show ({ g with has := (valR (at0 (f.fb 118 ++ r))).1.1, x := (valR (at0 (f.fb 118 ++ r))).1.2 }, (valR (at0 (f.fb 118 ++ r))).2) = _
    rw [rd_val hm]; rfl
  · show ({ g with rmw := flagB (at0 (be 1 (one f.rmw) ++ r)) }, flagS (at0 (be 1 (one f.rmw) ++ r))) = _
    rw [(rd_flag _ _).1, (rd_flag _ _).2]; rfl
  · show ({ g with flag := flagB (at0 (be 1 (one f.flag) ++ r)) }, flagS (at0 (be 1 (one f.flag) ++ r))) = _
    rw [(rd_flag _ _).1, (rd_flag _ _).2]; rfl
  · show ({ g with dir := rnum 1 (at0 (be 1 f.dir ++ r)) }, rgo 1 (at0 (be 1 f.dir ++ r))) = _
    rw [rd1 h.dir, go1 h.dir]; rfl
  · show ({ g with life := rnum 1 (at0 (be 1 f.life ++ r)) }, rgo 1 (at0 (be 1 f.life ++ r))) = _
    rw [rd1 h.life, go1 h.life]; rfl
  · show ({ g with req := rnum 4 (at0 (be 4 f.req ++ r)) }, rgo 4 (at0 (be 4 f.req ++ r))) = _
    rw [rd4 h.req, go4 h.req]; rfl
  · have e : f.fb 98 ++ r = be 4 f.bn ++ (be 1 f.bb ++ r) := by
      show (be 4 f.bn ++ be 1 f.bb) ++ r = _
      simp only [List.append_assoc]
    rw [e]
    show ({ g with bn := rnum 4 (at0 (be 4 f.bn ++ (be 1 f.bb ++ r))), bb := rnum 1 (rgo 4 (at0 (be 4 f.bn ++ (be 1 f.bb ++ r)))) }, rgo 1 (rgo 4 (at0 (be 4 f.bn ++ (be 1 f.bb ++ r))))) = _
    rw [go4 h.bn, go1 h.bb, rd4 h.bn, rd1 h.bb]; rfl
  · show ({ g with slot := rnum 4 (at0 (be 4 f.slot ++ r)) }, rgo 4 (at0 (be 4 f.slot ++ r))) = _
    rw [rd4 h.slot, go4 h.slot]; rfl
  · show ({ g with c := cmdR (at0 (f.c.bs ++ r)) }, cmdS (at0 (f.c.bs ++ r))) = _
    rw [(rd_cmd h.c r).1, (rd_cmd h.c r).2]; rfl
  · have hk : f.ms.length ≤ 8 := of_decide_eq_true hm
    show ({ g with ve := (viewR (at0 (f.fb 119 ++ r))).1.1, ms := (viewR (at0 (f.fb 119 ++ r))).1.2.1, lv := (viewR (at0 (f.fb 119 ++ r))).1.2.2 }, (viewR (at0 (f.fb 119 ++ r))).2) = _
    rw [rd_view h hk]; rfl
  · have hk : f.es.length ≤ 16 := of_decide_eq_true hm
    have e : f.fb 116 ++ r = be 1 f.es.length ++ (f.es.flatMap Ent.bs ++ r) := by
      show (be 1 f.es.length ++ f.es.flatMap Ent.bs) ++ r = _
      simp only [List.append_assoc]
    rw [e]
    have hc := rd_cnt (n := f.es.length) (most := 16) (by omega) hk (f.es.flatMap Ent.bs ++ r)
    show ({ g with es := (entsR (cntN 16 (at0 (be 1 f.es.length ++ (f.es.flatMap Ent.bs ++ r)))) (cntS 16 (at0 (be 1 f.es.length ++ (f.es.flatMap Ent.bs ++ r))))).1 }, (entsR (cntN 16 (at0 (be 1 f.es.length ++ (f.es.flatMap Ent.bs ++ r)))) (cntS 16 (at0 (be 1 f.es.length ++ (f.es.flatMap Ent.bs ++ r))))).2) = _
    rw [hc.1, hc.2, rd_ents f.es h.eo]; rfl
theorem rd_flds {f : Fm} (h : f.Ok) : ∀ (cs : List Nat), (∀ c ∈ cs, isLet c = true) → (∀ c ∈ cs, f.may c = true) → ∀ r g, fldsR cs (at0 (cs.flatMap f.fb ++ r)) g = (cs.foldl (fun g c => setF c f g) g, at0 r)
  | [], _, _, _, _ => rfl
  | c :: cs, hl, hm, r, g => by
    rw [List.flatMap_cons, List.append_assoc]
    unfold fldsR
    rw [wrong0, if_neg (by decide), rd_fld h c (hl c (by simp)) (hm c (by simp))]
    exact rd_flds h cs (fun x hx => hl x (by simp [hx])) (fun x hx => hm x (by simp [hx])) r _
def headF (f : Fm) : Fm := { fm0 with kind := f.kind, frm := f.frm, to := f.to }
/-- a frame with the fields of its kind alone -/
def restr (f : Fm) : Fm := (lets f.kind).foldl (fun g c => setF c f g) (headF f)
theorem decB_bytes {f : Fm} (h : f.Ok) (hg : f.good = true) : decB f.bytes = (restr f, 0) := by
  unfold Fm.good at hg
  rw [Bool.and_eq_true, List.all_eq_true] at hg
  have e : f.bytes = be 1 f.kind ++ (be 1 f.frm ++ (be 1 f.to ++ ((lets f.kind).flatMap f.fb ++ []))) := by
    unfold Fm.bytes Fm.hb
    simp only [List.append_assoc, List.append_nil]
  have r1 := rd1 h.kind (be 1 f.frm ++ (be 1 f.to ++ ((lets f.kind).flatMap f.fb ++ [])))
  have g1 := go1 h.kind (be 1 f.frm ++ (be 1 f.to ++ ((lets f.kind).flatMap f.fb ++ [])))
  have r2 := rd1 h.frm (be 1 f.to ++ ((lets f.kind).flatMap f.fb ++ []))
  have g2 := go1 h.frm (be 1 f.to ++ ((lets f.kind).flatMap f.fb ++ []))
  have r3 := rd1 h.to ((lets f.kind).flatMap f.fb ++ [])
  have g3 := go1 h.to ((lets f.kind).flatMap f.fb ++ [])
  have hh : hdF f.bytes = headF f := by
    unfold hdF headF
    show ({ fm0 with kind := rnum 1 (at0 f.bytes), frm := rnum 1 (rgo 1 (at0 f.bytes)), to := rnum 1 (rgo 1 (rgo 1 (at0 f.bytes))) } : Fm) = _
    rw [e, g1, g2, r1, r2, r3]
  have hs : hdS f.bytes = at0 ((lets f.kind).flatMap f.fb ++ []) := by
    unfold hdS
    rw [hh]
    show must (hasKind f.kind) (rgo 1 (rgo 1 (rgo 1 (at0 f.bytes)))) = _
    rw [hg.1, must_t, e, g1, g2, g3]
  have hb : bodyR f.bytes = (restr f, at0 []) := by
    unfold bodyR
    rw [hh, hs, letsK_lets]
    exact rd_flds h (lets f.kind) (lets_ok f.kind) hg.2 [] (headF f)
  unfold decB
  rw [hb]; rfl
theorem openE_seal (l : List UInt8) : openE (Crc.sealL l) = 0 ∧ (Crc.sealL l).take ((Crc.sealL l).length - 4) = l := by
  have hl : (Crc.sealL l).length = l.length + 4 := by unfold Crc.sealL; rw [List.length_append]; rfl
  have ht : (Crc.sealL l).take ((Crc.sealL l).length - 4) = l := by
    rw [hl]; unfold Crc.sealL; rw [show l.length + 4 - 4 = l.length by omega, List.take_left]
  refine ⟨?_, ht⟩
  unfold openE
  rw [if_neg (by omega), ht, if_neg (fun g => g rfl)]
theorem dec_enc {f : Fm} (h : f.Ok) (hg : f.good = true) : decR (Crc.sealL f.bytes) = (restr f, 0) := by
  have ho := openE_seal f.bytes
  unfold decR
  rw [ho.1, if_neg (fun g => g rfl), ho.2]
  exact decB_bytes h hg
theorem restr_enc {f : Fm} (hk : hasKind f.kind = true) : (restr f).enc = f.enc := by
  obtain ⟨kind, frm, to, ep, key, sn, sb, sl, has, x, rmw, flag, dir, life, req, bn, bb, slot, c, ve, ms, lv, es⟩ := f
  have hk : 1 ≤ kind ∧ kind < 17 := of_decide_eq_true hk
  have : kind = 1 ∨ kind = 2 ∨ kind = 3 ∨ kind = 4 ∨ kind = 5 ∨ kind = 6 ∨ kind = 7 ∨ kind = 8 ∨ kind = 9 ∨ kind = 10 ∨ kind = 11 ∨ kind = 12 ∨ kind = 13 ∨ kind = 14 ∨ kind = 15 ∨ kind = 16 := by omega
  rcases this with rfl | rfl | rfl | rfl | rfl | rfl | rfl | rfl | rfl | rfl | rfl | rfl | rfl | rfl | rfl | rfl <;> rfl
theorem fm0_ok : fm0.Ok := by
  constructor <;> first | decide | (intro x hx; cases hx) | (constructor <;> decide)
theorem headF_ok {f : Fm} (h : f.Ok) : (headF f).Ok := { fm0_ok with kind := h.kind, frm := h.frm, to := h.to }
theorem setF_ok {f g : Fm} (h : f.Ok) (k : g.Ok) (c : Nat) : (setF c f g).Ok := by
  unfold setF
  by_cases e : c = 101
  · rw [if_pos e]; exact { k with ep := h.ep }
  rw [if_neg e]; clear e
  by_cases e : c = 107
  · rw [if_pos e]; exact { k with key := h.key }
  rw [if_neg e]; clear e
  by_cases e : c = 115
  · rw [if_pos e]; exact { k with sn := h.sn, sb := h.sb, sl := h.sl }
  rw [if_neg e]; clear e
  by_cases e : c = 118
  · rw [if_pos e]; exact { k with x := h.x }
  rw [if_neg e]; clear e
  by_cases e : c = 114
  · rw [if_pos e]; exact { k with }
  rw [if_neg e]; clear e
  by_cases e : c = 102
  · rw [if_pos e]; exact { k with }
  rw [if_neg e]; clear e
  by_cases e : c = 100
  · rw [if_pos e]; exact { k with dir := h.dir }
  rw [if_neg e]; clear e
  by_cases e : c = 108
  · rw [if_pos e]; exact { k with life := h.life }
  rw [if_neg e]; clear e
  by_cases e : c = 113
  · rw [if_pos e]; exact { k with req := h.req }
  rw [if_neg e]; clear e
  by_cases e : c = 98
  · rw [if_pos e]; exact { k with bn := h.bn, bb := h.bb }
  rw [if_neg e]; clear e
  by_cases e : c = 110
  · rw [if_pos e]; exact { k with slot := h.slot }
  rw [if_neg e]; clear e
  by_cases e : c = 99
  · rw [if_pos e]; exact { k with c := h.c }
  rw [if_neg e]; clear e
  by_cases e : c = 119
  · rw [if_pos e]; exact { k with ve := h.ve, ms := h.ms, mo := h.mo, lv := h.lv }
  rw [if_neg e]; exact { k with es := h.es, eo := h.eo }
theorem restr_ok {f : Fm} (h : f.Ok) : (restr f).Ok := by
  unfold restr
  have : ∀ (cs : List Nat) (g : Fm), g.Ok → (cs.foldl (fun g c => setF c f g) g).Ok := by
    intro cs
    induction cs with
    | nil => intro g k; exact k
    | cons c cs ih => intro g k; exact ih _ (setF_ok h k c)
  exact this _ _ (headF_ok h)
end Go.Proofs.YtaepgceodcdnhaaDoor.Frm
/- Frames by the engine: the document's Decode. -/
namespace Go.Proofs.YtaepgceodcdnhaaDoor.Vm
open Go Go.RowKit
set_option maxRecDepth 100000
namespace X6
open Frm (Cmd Mem Ent Lvs Fm Z zgo znum zmust zfld zflds zfin zend zview zents zcnt lets fm0 zhd zhdZ zbody zdecB decR decB openE)
/-- a field that is no list -/
theorem rfld_o (z : Z) (hz : z.Ok) (f : Fm) (c : Nat) (hl : Frm.isLet c = true) (h1 : c ≠ 119) (h2 : c ≠ 116) : TCalls Tryd.prog 47 [.agg (stC z), .agg (frS f (.v nilS) (.v nilS)), u8 c] [] none_ (callPost (told (.tup [.agg (stC (zfld c z f).2), .agg (frS (zfld c z f).1 (.v nilS) (.v nilS))]) [] [])) := by
  unfold Frm.isLet at hl
  simp at hl
  rcases hl with rfl | rfl | rfl | rfl | rfl | rfl | rfl | rfl | rfl | rfl | rfl | rfl | rfl | rfl
  · exact rfld_e z hz f
  · exact rfld_k z hz f
  · exact rfld_s z hz f
  · exact rfld_v z hz f
  · exact rfld_r z hz f
  · exact rfld_f z hz f
  · exact rfld_d z hz f
  · exact rfld_l z hz f
  · exact rfld_q z hz f
  · exact rfld_b z hz f
  · exact rfld_n z hz f
  · exact rfld_c z hz f
  · exact absurd rfl h1
  · exact absurd rfl h2
theorem zfld_ms (c : Nat) (z : Z) (f : Fm) (hl : Frm.isLet c = true) (h : c ≠ 119) : (zfld c z f).1.ms = f.ms := by
  unfold Frm.isLet at hl
  simp at hl
  rcases hl with rfl | rfl | rfl | rfl | rfl | rfl | rfl | rfl | rfl | rfl | rfl | rfl | rfl | rfl <;> first | rfl | exact absurd rfl h
theorem zfld_es (c : Nat) (z : Z) (f : Fm) (hl : Frm.isLet c = true) (h : c ≠ 116) : (zfld c z f).1.es = f.es := by
  unfold Frm.isLet at hl
  simp at hl
  rcases hl with rfl | rfl | rfl | rfl | rfl | rfl | rfl | rfl | rfl | rfl | rfl | rfl | rfl | rfl <;> first | rfl | exact absurd rfl h
theorem lets_last (k : Nat) (d : List Nat) (c : Nat) (r : List Nat) (h : lets k = d ++ c :: r) (hc : c = 119 ∨ c = 116) : r = [] := by
  have key : (lets k).dropLast.contains 119 = false ∧ (lets k).dropLast.contains 116 = false := by
    by_cases h : k < 17
    · have : k = 0 ∨ k = 1 ∨ k = 2 ∨ k = 3 ∨ k = 4 ∨ k = 5 ∨ k = 6 ∨ k = 7 ∨ k = 8 ∨ k = 9 ∨ k = 10 ∨ k = 11 ∨ k = 12 ∨ k = 13 ∨ k = 14 ∨ k = 15 ∨ k = 16 := by omega
      rcases this with rfl | rfl | rfl | rfl | rfl | rfl | rfl | rfl | rfl | rfl | rfl | rfl | rfl | rfl | rfl | rfl | rfl <;> decide
    · rw [lets_off k (by omega)]; exact ⟨rfl, rfl⟩
  cases r with
  | nil => rfl
  | cons x r =>
    exfalso
    have hm : c ∈ (lets k).dropLast := by
      rw [h, List.dropLast_append_cons, List.dropLast_cons_cons]
      simp
    rcases hc with rfl | rfl
    · have := key.1; rw [List.contains_eq_mem, decide_eq_false_iff_not] at this; exact this hm
    · have := key.2; rw [List.contains_eq_mem, decide_eq_false_iff_not] at this; exact this hm
section
variable (Γ : Ctx) (b1 b4 b5 : Nat) (Q : T → Obs → Glb → Prop)
theorem rdec_stop (z : Z) (hz : z.Ok) (f : Fm) (zz : ByteArray) (i : Nat) (h : z.e = 0 → ¬ i < zz.size) (hQ : Q (decT (zfin f z)) [] none_) :
    TWk Tryd.prog Γ (fin Tryd.prog Tryd.f14 [] Q) [.code (sub (bd Tryd.f14) [1, 1, 1, 1, 1, 1, 1, 1, 1, 1, 1, 1, 0, 1, 0]), .blk 0, .code (sub (bd Tryd.f14) [1, 1, 1, 1, 1, 1, 1, 1, 1, 1, 1, 1, 1])] ⟨frame 100 [(2, .ptr 0 b1 0), (4, .ptr 1 b4 0), (5, .ptr 2 b5 0), (9, .v (.string zz)), (10, int (i : Nat))], [(b1, .cells zC), (b4, .cells (stC z)), (b5, .cells (frC f))], none_⟩ := by
  have ha := hz.a
  have hs := hz.s
  obtain ⟨s, a, e⟩ := z
  simp only at ha hs h
  have hsz : (⟨s.toArray⟩ : ByteArray).size = s.length := by show s.toArray.size = _; simp
  unfold Frm.zfin at hQ
  by_cases h0 : e = 0
  · subst h0
    have h := h rfl
    by_cases g : a < s.length
    · rw [show zend ⟨s, a, 0⟩ = 3 from if_pos ⟨rfl, g⟩, if_pos (show (3 : Int) ≠ 0 by decide)] at hQ
      have hQ : Q (.tup [.agg zC, int 3]) [] none_ := hQ
      unfold stC frC at *
      generalize Row.aggs memC f.ms = XM at *
      generalize Row.aggs entC f.es = XE at *
      refine run_sound (⟨fun | 17, 4 => .no | _, _ => .no, [((0, 22), ([2, 5], 3)), ((1, 1), ([2, 4, 5, 9, 10], 3))], fun | 17 => some ⟨[], [5, 9, 10], .take true [0,1,2,3,4] (.one 5 (.take false [6,7,8] (.one 9 (.one 10 .done))))⟩ | 21 => some ⟨[1], [], .take true [0,1,2] (.one 3 (.take true [4] .done))⟩ | _ => none⟩) 400 (B := bsplit (decide ((↑i : Int) < (↑(ByteArray.size zz) : Int))) (b4 = b4 ∧ TWk Tryd.prog Γ (fin Tryd.prog Tryd.f14 [] Q) [It.code (sub (bd Tryd.f14) [1, 1, 1, 1, 1, 1, 1, 1, 1, 1, 1, 1, 0, 1, 0, 0, 1]), It.code (sub (bd Tryd.f14) [1, 1, 1, 1, 1, 1, 1, 1, 1, 1, 1, 1, 0, 1, 0]), It.blk 0, It.code (sub (bd Tryd.f14) [1, 1, 1, 1, 1, 1, 1, 1, 1, 1, 1, 1, 1])] { fr := frame 100 [(2, T.ptr 0 b1 0), (4, T.ptr 1 b4 0), (5, T.ptr 2 b5 0), (9, T.v (Value.string zz)), (10, int i)], ob := [(b1, Ob.cells zC), (b4, Ob.cells [str (Z.s { s := s, a := a, e := (0 : Int) }), int (Z.a { s := s, a := a, e := (0 : Int) }), int (Z.e { s := s, a := a, e := (0 : Int) })]), (b5, Ob.cells (frS f (T.sl 3 XM) (T.sl 8 XE)))], gl := fun x => none }) (b4 = b4 ∧ b4 = b4 ∧ b4 = b4 ∧ bsplit (decide ((↑(Z.a { s := s, a := a, e := (0 : Int) }) : Int) < (↑(ByteArray.size (ByteArray.mk (List.toArray (Z.s { s := s, a := a, e := (0 : Int) })))) : Int))) ((1 = nat_lit 1 ∧ List.all (List.map T.v (Array.toList #[Value.int IntKind.i64 (3 : Int)])) T.one = true) ∧ b4 = b4 ∧ 2 + nat_lit 1 ≤ 3 ∧ b4 = b4 ∧ b4 = b4 ∧ (34 = nat_lit 34 ∧ List.all zC T.one = true) ∧ b1 = b1 ∧ 0 + nat_lit 34 ≤ 34 ∧ b1 = b1 ∧ Q (T.tup [T.agg zC, int 3]) [] fun x => none) (b4 = b4 ∧ TWk Tryd.prog Γ (fin Tryd.prog Tryd.f14 [] Q) [It.code (sub (bd Tryd.f14) [1, 1, 1, 1, 1, 1, 1, 1, 1, 1, 1, 1, 1, 1, 1])] { fr := frame 100 [(2, T.ptr 0 b1 0), (5, T.ptr 2 b5 0)], ob := [(b1, Ob.cells zC), (b4, Ob.cells [str (Z.s { s := s, a := a, e := (0 : Int) }), int (Z.a { s := s, a := a, e := (0 : Int) }), int (Z.e { s := s, a := a, e := (0 : Int) })]), (b5, Ob.cells (frS f (T.sl 3 XM) (T.sl 8 XE)))], gl := fun x => none }))) (by kernel_rfl) ?_
      repeat' (first | exact rfl | exact Nat.le_of_ble_eq_true rfl | refine And.intro ?_ ?_ | intro _ | refine bsplit_mk (fun _ => ?_) (fun _ => ?_))
      all_goals first
        | exact hQ
        | (exfalso; simp only [decide_eq_true_eq, decide_eq_false_iff_not, hsz] at *; omega)
        | (exfalso; rename_i h; simp at h; done)
        | trace_state
    · rw [show zend ⟨s, a, 0⟩ = 0 from if_neg (fun k => g k.2), if_neg (fun k => k rfl)] at hQ
      have hQ : Q (.tup [.agg (frC f), int 0]) [] none_ := hQ
      unfold stC frC at *
      generalize Row.aggs memC f.ms = XM at *
      generalize Row.aggs entC f.es = XE at *
      refine run_sound (⟨fun | 17, 4 => .no | _, _ => .no, [((0, 19), ([2, 4, 5], 3)), ((1, 1), ([2, 4, 5, 9, 10], 3))], fun | 17 => some ⟨[], [5, 9, 10], .take true [0,1,2,3,4] (.one 5 (.take false [6,7,8] (.one 9 (.one 10 .done))))⟩ | 21 => some ⟨[1], [], .take true [0,1,2] (.one 3 (.take true [4] .done))⟩ | _ => none⟩) 400 (B := bsplit (decide ((↑i : Int) < (↑(ByteArray.size zz) : Int))) (b4 = b4 ∧ TWk Tryd.prog Γ (fin Tryd.prog Tryd.f14 [] Q) [It.code (sub (bd Tryd.f14) [1, 1, 1, 1, 1, 1, 1, 1, 1, 1, 1, 1, 0, 1, 0, 0, 1]), It.code (sub (bd Tryd.f14) [1, 1, 1, 1, 1, 1, 1, 1, 1, 1, 1, 1, 0, 1, 0]), It.blk 0, It.code (sub (bd Tryd.f14) [1, 1, 1, 1, 1, 1, 1, 1, 1, 1, 1, 1, 1])] { fr := frame 100 [(2, T.ptr 0 b1 0), (4, T.ptr 1 b4 0), (5, T.ptr 2 b5 0), (9, T.v (Value.string zz)), (10, int i)], ob := [(b1, Ob.cells zC), (b4, Ob.cells [str (Z.s { s := s, a := a, e := (0 : Int) }), int (Z.a { s := s, a := a, e := (0 : Int) }), int (Z.e { s := s, a := a, e := (0 : Int) })]), (b5, Ob.cells (frS f (T.sl 3 XM) (T.sl 8 XE)))], gl := fun x => none }) (b4 = b4 ∧ b4 = b4 ∧ b4 = b4 ∧ bsplit (decide ((↑(Z.a { s := s, a := a, e := (0 : Int) }) : Int) < (↑(ByteArray.size (ByteArray.mk (List.toArray (Z.s { s := s, a := a, e := (0 : Int) })))) : Int))) (TWk Tryd.prog Γ (fin Tryd.prog Tryd.f14 [] Q) [It.code (sub (bd Tryd.f14) [1, 1, 1, 1, 1, 1, 1, 1, 1, 1, 1, 1, 1, 0, 1, 0]), It.code (sub (bd Tryd.f14) [1, 1, 1, 1, 1, 1, 1, 1, 1, 1, 1, 1, 1, 1])] { fr := frame 100 [(2, T.ptr 0 b1 0), (4, T.ptr 1 b4 0), (5, T.ptr 2 b5 0)], ob := [(b1, Ob.cells zC), (b4, Ob.cells [str (Z.s { s := s, a := a, e := (0 : Int) }), int (Z.a { s := s, a := a, e := (0 : Int) }), int (Z.e { s := s, a := a, e := (0 : Int) })]), (b5, Ob.cells (frS f (T.sl 3 XM) (T.sl 8 XE)))], gl := fun x => none }) (b4 = b4 ∧ b5 = b5 ∧ (34 = nat_lit 34 ∧ List.all (frS f (T.sl 3 XM) (T.sl 8 XE)) T.one = true) ∧ b1 = b1 ∧ 0 + nat_lit 34 ≤ 34 ∧ b1 = b1 ∧ Q (T.tup [T.agg (frS f (T.sl 3 XM) (T.sl 8 XE)), int 0]) [] fun x => none))) (by kernel_rfl) ?_
      repeat' (first | exact rfl | exact Nat.le_of_ble_eq_true rfl | refine And.intro ?_ ?_ | intro _ | refine bsplit_mk (fun _ => ?_) (fun _ => ?_))
      all_goals first
        | exact hQ
        | (exfalso; simp only [decide_eq_true_eq, decide_eq_false_iff_not, hsz] at *; omega)
        | (exfalso; rename_i h; simp at h; done)
        | trace_state
  · rw [show zend ⟨s, a, e⟩ = e from if_neg (fun k => h0 k.1), if_pos h0] at hQ
    have hQ : Q (.tup [.agg zC, int e]) [] none_ := by
      unfold decT at hQ
      rw [if_pos h0] at hQ; exact hQ
    have hne : (e == 0) = false := by simpa using h0
    have hne2 : (e != 0) = true := by simpa using h0
    unfold stC frC at *
    generalize Row.aggs memC f.ms = XM at *
    generalize Row.aggs entC f.es = XE at *
    refine run_sound (⟨fun | 17, 4 => .no | _, _ => .no, [((0, 19), ([2, 4, 5], 3)), ((0, 22), ([2, 5], 3)), ((1, 1), ([2, 4, 5, 9, 10], 3))], fun | 17 => some ⟨[], [5, 9, 10], .take true [0,1,2,3,4] (.one 5 (.take false [6,7,8] (.one 9 (.one 10 .done))))⟩ | 21 => some ⟨[1], [], .take true [0,1,2] (.one 3 (.take true [4] .done))⟩ | _ => none⟩) 400 (B := bsplit (decide ((↑i : Int) < (↑(ByteArray.size zz) : Int))) (b4 = b4 ∧ bsplit (Z.e { s := s, a := a, e := e } == (0 : Int)) (TWk Tryd.prog Γ (fin Tryd.prog Tryd.f14 [] Q) [It.code (sub (bd Tryd.f14) [1, 1, 1, 1, 1, 1, 1, 1, 1, 1, 1, 1, 0, 1, 0, 0, 1]), It.code (sub (bd Tryd.f14) [1, 1, 1, 1, 1, 1, 1, 1, 1, 1, 1, 1, 0, 1, 0]), It.blk 0, It.code (sub (bd Tryd.f14) [1, 1, 1, 1, 1, 1, 1, 1, 1, 1, 1, 1, 1])] { fr := frame 100 [(2, T.ptr 0 b1 0), (4, T.ptr 1 b4 0), (5, T.ptr 2 b5 0), (9, T.v (Value.string zz)), (10, int i)], ob := [(b1, Ob.cells zC), (b4, Ob.cells [str (Z.s { s := s, a := a, e := e }), int (Z.a { s := s, a := a, e := e }), int (Z.e { s := s, a := a, e := e })]), (b5, Ob.cells (frS f (T.sl 3 XM) (T.sl 8 XE)))], gl := fun x => none }) (b4 = b4 ∧ bsplit (Z.e { s := s, a := a, e := e } == (0 : Int)) (b4 = b4 ∧ b4 = b4 ∧ bsplit (decide ((↑(Z.a { s := s, a := a, e := e }) : Int) < (↑(ByteArray.size (ByteArray.mk (List.toArray (Z.s { s := s, a := a, e := e })))) : Int))) (TWk Tryd.prog Γ (fin Tryd.prog Tryd.f14 [] Q) [It.code (sub (bd Tryd.f14) [1, 1, 1, 1, 1, 1, 1, 1, 1, 1, 1, 1, 1, 0, 1, 0]), It.code (sub (bd Tryd.f14) [1, 1, 1, 1, 1, 1, 1, 1, 1, 1, 1, 1, 1, 1])] { fr := frame 100 [(2, T.ptr 0 b1 0), (4, T.ptr 1 b4 0), (5, T.ptr 2 b5 0)], ob := [(b1, Ob.cells zC), (b4, Ob.cells [str (Z.s { s := s, a := a, e := e }), int (Z.a { s := s, a := a, e := e }), int (Z.e { s := s, a := a, e := e })]), (b5, Ob.cells (frS f (T.sl 3 XM) (T.sl 8 XE)))], gl := fun x => none }) (b4 = b4 ∧ bsplit (Z.e { s := s, a := a, e := e } != (0 : Int)) (b4 = b4 ∧ (34 = nat_lit 34 ∧ List.all zC T.one = true) ∧ b1 = b1 ∧ 0 + nat_lit 34 ≤ 34 ∧ b1 = b1 ∧ Q (T.tup [T.agg zC, int (Z.e { s := s, a := a, e := e })]) [] fun x => none) (TWk Tryd.prog Γ (fin Tryd.prog Tryd.f14 [] Q) [It.code (sub (bd Tryd.f14) [1, 1, 1, 1, 1, 1, 1, 1, 1, 1, 1, 1, 1, 1, 1])] { fr := frame 100 [(2, T.ptr 0 b1 0), (5, T.ptr 2 b5 0)], ob := [(b1, Ob.cells zC), (b4, Ob.cells [str (Z.s { s := s, a := a, e := e }), int (Z.a { s := s, a := a, e := e }), int (Z.e { s := s, a := a, e := e })]), (b5, Ob.cells (frS f (T.sl 3 XM) (T.sl 8 XE)))], gl := fun x => none }))) (b4 = b4 ∧ bsplit (Z.e { s := s, a := a, e := e } != (0 : Int)) (b4 = b4 ∧ (34 = nat_lit 34 ∧ List.all zC T.one = true) ∧ b1 = b1 ∧ 0 + nat_lit 34 ≤ 34 ∧ b1 = b1 ∧ Q (T.tup [T.agg zC, int (Z.e { s := s, a := a, e := e })]) [] fun x => none) (TWk Tryd.prog Γ (fin Tryd.prog Tryd.f14 [] Q) [It.code (sub (bd Tryd.f14) [1, 1, 1, 1, 1, 1, 1, 1, 1, 1, 1, 1, 1, 1, 1])] { fr := frame 100 [(2, T.ptr 0 b1 0), (5, T.ptr 2 b5 0)], ob := [(b1, Ob.cells zC), (b4, Ob.cells [str (Z.s { s := s, a := a, e := e }), int (Z.a { s := s, a := a, e := e }), int (Z.e { s := s, a := a, e := e })]), (b5, Ob.cells (frS f (T.sl 3 XM) (T.sl 8 XE)))], gl := fun x => none })))) (b4 = b4 ∧ bsplit (Z.e { s := s, a := a, e := e } == (0 : Int)) (b4 = b4 ∧ b4 = b4 ∧ bsplit (decide ((↑(Z.a { s := s, a := a, e := e }) : Int) < (↑(ByteArray.size (ByteArray.mk (List.toArray (Z.s { s := s, a := a, e := e })))) : Int))) (TWk Tryd.prog Γ (fin Tryd.prog Tryd.f14 [] Q) [It.code (sub (bd Tryd.f14) [1, 1, 1, 1, 1, 1, 1, 1, 1, 1, 1, 1, 1, 0, 1, 0]), It.code (sub (bd Tryd.f14) [1, 1, 1, 1, 1, 1, 1, 1, 1, 1, 1, 1, 1, 1])] { fr := frame 100 [(2, T.ptr 0 b1 0), (4, T.ptr 1 b4 0), (5, T.ptr 2 b5 0)], ob := [(b1, Ob.cells zC), (b4, Ob.cells [str (Z.s { s := s, a := a, e := e }), int (Z.a { s := s, a := a, e := e }), int (Z.e { s := s, a := a, e := e })]), (b5, Ob.cells (frS f (T.sl 3 XM) (T.sl 8 XE)))], gl := fun x => none }) (b4 = b4 ∧ bsplit (Z.e { s := s, a := a, e := e } != (0 : Int)) (b4 = b4 ∧ (34 = nat_lit 34 ∧ List.all zC T.one = true) ∧ b1 = b1 ∧ 0 + nat_lit 34 ≤ 34 ∧ b1 = b1 ∧ Q (T.tup [T.agg zC, int (Z.e { s := s, a := a, e := e })]) [] fun x => none) (TWk Tryd.prog Γ (fin Tryd.prog Tryd.f14 [] Q) [It.code (sub (bd Tryd.f14) [1, 1, 1, 1, 1, 1, 1, 1, 1, 1, 1, 1, 1, 1, 1])] { fr := frame 100 [(2, T.ptr 0 b1 0), (5, T.ptr 2 b5 0)], ob := [(b1, Ob.cells zC), (b4, Ob.cells [str (Z.s { s := s, a := a, e := e }), int (Z.a { s := s, a := a, e := e }), int (Z.e { s := s, a := a, e := e })]), (b5, Ob.cells (frS f (T.sl 3 XM) (T.sl 8 XE)))], gl := fun x => none }))) (b4 = b4 ∧ bsplit (Z.e { s := s, a := a, e := e } != (0 : Int)) (b4 = b4 ∧ (34 = nat_lit 34 ∧ List.all zC T.one = true) ∧ b1 = b1 ∧ 0 + nat_lit 34 ≤ 34 ∧ b1 = b1 ∧ Q (T.tup [T.agg zC, int (Z.e { s := s, a := a, e := e })]) [] fun x => none) (TWk Tryd.prog Γ (fin Tryd.prog Tryd.f14 [] Q) [It.code (sub (bd Tryd.f14) [1, 1, 1, 1, 1, 1, 1, 1, 1, 1, 1, 1, 1, 1, 1])] { fr := frame 100 [(2, T.ptr 0 b1 0), (5, T.ptr 2 b5 0)], ob := [(b1, Ob.cells zC), (b4, Ob.cells [str (Z.s { s := s, a := a, e := e }), int (Z.a { s := s, a := a, e := e }), int (Z.e { s := s, a := a, e := e })]), (b5, Ob.cells (frS f (T.sl 3 XM) (T.sl 8 XE)))], gl := fun x => none })))) (by kernel_rfl) ?_
    repeat' (first | exact rfl | exact Nat.le_of_ble_eq_true rfl | refine And.intro ?_ ?_ | intro _ | refine bsplit_mk (fun _ => ?_) (fun _ => ?_))
    all_goals first
      | exact hQ
      | (exfalso; rename_i h; rw [hne] at h; cases h)
      | (exfalso; rename_i h; rw [hne2] at h; cases h)
      | (exfalso; simp_all; done)
      | trace_state
theorem frC_nil (f : Fm) (hm : f.ms = []) (he : f.es = []) : frC f = frS f (.sl 3 []) (.sl 8 []) := by unfold frC frS; rw [hm, he]; rfl
theorem rdec_loop (k : Nat) : ∀ (r d : List Nat) (z : Z) (f : Fm), z.Ok → f.ms = [] → f.es = [] → lets k = d ++ r → Q (decT (zfin (zflds r z f).1 (zflds r z f).2)) [] none_ →
    TWk Tryd.prog Γ (fin Tryd.prog Tryd.f14 [] Q) [.code (sub (bd Tryd.f14) [1, 1, 1, 1, 1, 1, 1, 1, 1, 1, 1, 1, 0, 1, 0]), .blk 0, .code (sub (bd Tryd.f14) [1, 1, 1, 1, 1, 1, 1, 1, 1, 1, 1, 1, 1])] ⟨frame 100 [(2, .ptr 0 b1 0), (4, .ptr 1 b4 0), (5, .ptr 2 b5 0), (9, .v (.string ⟨(letS (lets k)).toArray⟩)), (10, int (d.length : Nat))], [(b1, .cells zC), (b4, .cells (stC z)), (b5, .cells (frS f (.v nilS) (.v nilS)))], none_⟩ := by
  intro r
  induction r with
  | nil =>
    intro d z f hz hm he h hQ
    have hsz : (⟨(letS (lets k)).toArray⟩ : ByteArray).size = (lets k).length := by show (letS (lets k)).toArray.size = _; simp [letS]
    have st := rdec_stop Γ b1 b4 b5 Q z hz f ⟨(letS (lets k)).toArray⟩ d.length (fun _ => by rw [hsz, h]; simp) hQ
    rw [frC_nil f hm he] at st
    have st := TWk.imp (s := ⟨frame 100 [(2, .ptr 0 b1 0), (4, .ptr 1 b4 0), (5, .ptr 2 b5 0), (9, .v (.string ⟨(letS (lets k)).toArray⟩)), (10, int (d.length : Nat))], [(b1, .cells zC), (b4, .cells (stC z)), (b5, .cells (frS f (.sl 3 []) (.v nilS)))], none_⟩) st
      (Imp.cellR (i := 2) (j := 33) (b := b5) (cs := frS f (.sl 3 []) (.v nilS)) (t := .v nilS) (t' := .sl 8 []) rfl rfl (fun M v h => rel_nil0 h))
    exact TWk.imp st (Imp.cellR (i := 2) (j := 24) (b := b5) (cs := frS f (.v nilS) (.v nilS)) (t := .v nilS) (t' := .sl 3 []) rfl rfl (fun M v h => rel_nil0 h))
  | cons c r ih =>
    intro d z f hz hm he h hQ
    have hmem : c ∈ lets k := by rw [h]; simp
    have hil := Frm.lets_ok k c hmem
    have hz1 := zat (lets k) d r c h (let_lt hil)
    have hsz : (⟨(letS (lets k)).toArray⟩ : ByteArray).size = (lets k).length := by show (letS (lets k)).toArray.size = _; simp [letS]
    have hlt : d.length < (⟨(letS (lets k)).toArray⟩ : ByteArray).size := by rw [hsz, h]; simp
    have hl6 := Frm.lets_len k
    have hdl : d.length ≤ 100 := by rw [h] at hl6; simp at hl6; omega
    by_cases h0 : z.e = 0
    · have hQ : Q (decT (zfin (zflds r (zfld c z f).2 (zfld c z f).1).1 (zflds r (zfld c z f).2 (zfld c z f).1).2)) [] none_ := by
        unfold Frm.zflds at hQ
        rw [if_neg (fun g => g h0)] at hQ
        exact hQ
      have zO := hz.fld c f
      by_cases hw : c = 119 ∨ c = 116
      · have hr := lets_last k d c r h hw
        subst hr
        have hi1 : ¬ d.length + 1 < (⟨(letS (lets k)).toArray⟩ : ByteArray).size := by rw [hsz, h]; simp
        have st := rdec_stop Γ b1 b4 b5 Q (zfld c z f).2 zO (zfld c z f).1 ⟨(letS (lets k)).toArray⟩ (d.length + 1) (fun _ => hi1) hQ
        clear ih hQ zO hil hmem hsz
        rcases hw with rfl | rfl
        · have st2 : TWk Tryd.prog Γ (fin Tryd.prog Tryd.f14 [] Q) [.code (sub (bd Tryd.f14) [1, 1, 1, 1, 1, 1, 1, 1, 1, 1, 1, 1, 0, 1, 0]), .blk 0, .code (sub (bd Tryd.f14) [1, 1, 1, 1, 1, 1, 1, 1, 1, 1, 1, 1, 1])] ⟨frame 100 [(2, .ptr 0 b1 0), (4, .ptr 1 b4 0), (5, .ptr 2 b5 0), (9, .v (.string ⟨(letS (lets k)).toArray⟩)), (10, int (d.length + 1 : Nat))], [(b1, .cells zC), (b4, .cells (stC (zview z).2)), (b5, .cells (frS { f with ve := (zview z).1.1, lv := (zview z).1.2.2 } (.sl 3 (Row.aggs memC (zview z).1.2.1)) (.sl 8 [])))], none_⟩ := by
            have e : frC (zfld 119 z f).1 = frS { f with ve := (zview z).1.1, lv := (zview z).1.2.2 } (.sl 3 (Row.aggs memC (zview z).1.2.1)) (.sl 8 (Row.aggs entC f.es)) := rfl
            rw [e, he] at st
            exact st
          have st3 := TWk.imp (s := ⟨frame 100 [(2, .ptr 0 b1 0), (4, .ptr 1 b4 0), (5, .ptr 2 b5 0), (9, .v (.string ⟨(letS (lets k)).toArray⟩)), (10, int (d.length + 1 : Nat))], [(b1, .cells zC), (b4, .cells (stC (zview z).2)), (b5, .cells (frS { f with ve := (zview z).1.1, lv := (zview z).1.2.2 } (.sl 3 (Row.aggs memC (zview z).1.2.1)) (.v nilS)))], none_⟩) st2
            (Imp.cellR (i := 2) (j := 33) (b := b5) (cs := frS { f with ve := (zview z).1.1, lv := (zview z).1.2.2 } (.sl 3 (Row.aggs memC (zview z).1.2.1)) (.v nilS)) (t := .v nilS) (t' := .sl 8 []) rfl rfl (fun M v h => rel_nil0 h))
          have cf := rfld_w z hz f
          clear hz st st2
          generalize Row.aggs memC (zview z).1.2.1 = MS at *
          generalize ({ f with ve := (zview z).1.1, lv := (zview z).1.2.2 } : Fm) = f2 at *
          generalize (zview z).2 = z' at *
          obtain ⟨s, a, e⟩ := z
          simp only at h0
          subst h0
          generalize (⟨(letS (lets k)).toArray⟩ : ByteArray) = zz at *
          generalize d.length = n at *
          unfold stC frS at *
          refine run_sound (⟨fun | 17, 4 => .res (u8 119) | 17, 5 => told (.tup [.agg [str z'.s, int (z'.a : Nat), int z'.e], .agg (frS f2 (.sl 3 MS) (.v nilS))]) [] [] | 16, 1 => .res (int (n + 1 : Nat)) | _, _ => .no, [((2, 15), ([2, 4, 5, 9, 10], 3)), ((0, 18), ([2, 4, 5], 3))], fun | 17 => some ⟨[1, 2], [5, 9, 10], .take true [0,1,2,3,4] (.one 5 (.take false [6,7,8] (.one 9 (.one 10 .done))))⟩ | 21 => some ⟨[], [], .take true [0,1,2] (.one 3 (.take true [4] .done))⟩ | _ => none⟩) 400 (B := bsplit (decide ((↑n : Int) < (↑(ByteArray.size zz) : Int))) (b4 = b4 ∧ b4 = b4 ∧ b5 = b5 ∧ (0 : Int) ≤ (↑n : Int) ∧ Option.map (fun c => u8 (UInt8.toNat c)) zz[Int.toNat (↑n : Int)]? = some (u8 119) ∧ TCalls Tryd.prog 47 [T.agg [str (Z.s { s := s, a := a, e := (0 : Int) }), int (Z.a { s := s, a := a, e := (0 : Int) }), int (Z.e { s := s, a := a, e := (0 : Int) })], T.agg (frS f (T.v nilS) (T.v nilS)), u8 119] [] none_ (callPost (Hint.call false Unit (fun x => True) [] false (fun x => T.tup [T.agg [str (Z.s z'), int (↑(Z.a z') : Int), int (Z.e z')], T.agg (frS f2 (T.sl 3 MS) (T.v nilS))]) (fun x => []) fun x => none_)) ∧ ∀ (a : Unit), True → (3 = nat_lit 3 ∧ List.all (stC z') T.one = true) ∧ b4 = b4 ∧ 0 + nat_lit 3 ≤ 3 ∧ (34 = nat_lit 34 ∧ List.all (frS f2 (T.sl 3 MS) (T.v nilS)) T.one = true) ∧ b5 = b5 ∧ 0 + nat_lit 34 ≤ 34 ∧ int (IntKind.wrap IntKind.i64 ((↑n : Int) + (1 : Int))) = int (n + 1) ∧ TWk Tryd.prog Γ (fin Tryd.prog Tryd.f14 [] Q) [It.code (sub (bd Tryd.f14) [1, 1, 1, 1, 1, 1, 1, 1, 1, 1, 1, 1, 0, 1, 0]), It.blk 0, It.code (sub (bd Tryd.f14) [1, 1, 1, 1, 1, 1, 1, 1, 1, 1, 1, 1, 1])] { fr := frame 100 [(2, T.ptr 0 b1 0), (4, T.ptr 1 b4 0), (5, T.ptr 2 b5 0), (9, T.v (Value.string zz)), (10, int (n + 1))], ob := [(b1, Ob.cells zC), (b4, Ob.cells (stC z')), (b5, Ob.cells (frS f2 (T.sl 3 MS) (T.v nilS)))], gl := fun x => none }) (TWk Tryd.prog Γ (fin Tryd.prog Tryd.f14 [] Q) [It.code (sub (bd Tryd.f14) [1, 1, 1, 1, 1, 1, 1, 1, 1, 1, 1, 1, 1])] { fr := frame 100 [(2, T.ptr 0 b1 0), (4, T.ptr 1 b4 0), (5, T.ptr 2 b5 0)], ob := [(b1, Ob.cells zC), (b4, Ob.cells [str (Z.s { s := s, a := a, e := (0 : Int) }), int (Z.a { s := s, a := a, e := (0 : Int) }), int (Z.e { s := s, a := a, e := (0 : Int) })]), (b5, Ob.cells (frS f (T.v nilS) (T.v nilS)))], gl := fun x => none })) (by kernel_rfl) ?_
          repeat' (first | exact rfl | exact Nat.le_of_ble_eq_true rfl | refine And.intro ?_ ?_ | intro _ | refine bsplit_mk (fun _ => ?_) (fun _ => ?_))
          all_goals first
            | exact hz1
            | exact cf
            | exact st3
            | exact n1T (by omega)
            | exact Int.natCast_nonneg _
            | (exfalso; simp only [decide_eq_false_iff_not] at *; omega)
            | (exfalso; rename_i h; simp at h; done)
            | (show ((n : Nat) : Int) < _; omega)
            | (clear st3 cf; trace_state)
        · have st2 : TWk Tryd.prog Γ (fin Tryd.prog Tryd.f14 [] Q) [.code (sub (bd Tryd.f14) [1, 1, 1, 1, 1, 1, 1, 1, 1, 1, 1, 1, 0, 1, 0]), .blk 0, .code (sub (bd Tryd.f14) [1, 1, 1, 1, 1, 1, 1, 1, 1, 1, 1, 1, 1])] ⟨frame 100 [(2, .ptr 0 b1 0), (4, .ptr 1 b4 0), (5, .ptr 2 b5 0), (9, .v (.string ⟨(letS (lets k)).toArray⟩)), (10, int (d.length + 1 : Nat))], [(b1, .cells zC), (b4, .cells (stC (zents (znum 1 z) (zcnt 16 z)).2)), (b5, .cells (frS f (.sl 3 []) (.sl 8 (Row.aggs entC (zents (znum 1 z) (zcnt 16 z)).1))))], none_⟩ := by
            have e : frC (zfld 116 z f).1 = frS f (.sl 3 (Row.aggs memC f.ms)) (.sl 8 (Row.aggs entC (zents (znum 1 z) (zcnt 16 z)).1)) := rfl
            rw [e, hm] at st
            exact st
          have st3 := TWk.imp (s := ⟨frame 100 [(2, .ptr 0 b1 0), (4, .ptr 1 b4 0), (5, .ptr 2 b5 0), (9, .v (.string ⟨(letS (lets k)).toArray⟩)), (10, int (d.length + 1 : Nat))], [(b1, .cells zC), (b4, .cells (stC (zents (znum 1 z) (zcnt 16 z)).2)), (b5, .cells (frS f (.v nilS) (.sl 8 (Row.aggs entC (zents (znum 1 z) (zcnt 16 z)).1))))], none_⟩) st2
            (Imp.cellR (i := 2) (j := 24) (b := b5) (cs := frS f (.v nilS) (.sl 8 (Row.aggs entC (zents (znum 1 z) (zcnt 16 z)).1))) (t := .v nilS) (t' := .sl 3 []) rfl rfl (fun M v h => rel_nil0 h))
          have cf := rfld_t z hz f
          clear hz st st2
          generalize Row.aggs entC (zents (znum 1 z) (zcnt 16 z)).1 = ES at *
          generalize (zents (znum 1 z) (zcnt 16 z)).2 = z' at *
          obtain ⟨s, a, e⟩ := z
          simp only at h0
          subst h0
          generalize (⟨(letS (lets k)).toArray⟩ : ByteArray) = zz at *
          generalize d.length = n at *
          unfold stC frS at *
          refine run_sound (⟨fun | 17, 4 => .res (u8 116) | 17, 5 => told (.tup [.agg [str z'.s, int (z'.a : Nat), int z'.e], .agg (frS f (.v nilS) (.sl 8 ES))]) [] [] | 16, 1 => .res (int (n + 1 : Nat)) | _, _ => .no, [((2, 15), ([2, 4, 5, 9, 10], 3)), ((0, 18), ([2, 4, 5], 3))], fun | 17 => some ⟨[1, 2], [5, 9, 10], .take true [0,1,2,3,4] (.one 5 (.take false [6,7,8] (.one 9 (.one 10 .done))))⟩ | 21 => some ⟨[], [], .take true [0,1,2] (.one 3 (.take true [4] .done))⟩ | _ => none⟩) 400 (B := bsplit (decide ((↑n : Int) < (↑(ByteArray.size zz) : Int))) (b4 = b4 ∧ b4 = b4 ∧ b5 = b5 ∧ (0 : Int) ≤ (↑n : Int) ∧ Option.map (fun c => u8 (UInt8.toNat c)) zz[Int.toNat (↑n : Int)]? = some (u8 116) ∧ TCalls Tryd.prog 47 [T.agg [str (Z.s { s := s, a := a, e := (0 : Int) }), int (Z.a { s := s, a := a, e := (0 : Int) }), int (Z.e { s := s, a := a, e := (0 : Int) })], T.agg (frS f (T.v nilS) (T.v nilS)), u8 116] [] none_ (callPost (Hint.call false Unit (fun x => True) [] false (fun x => T.tup [T.agg [str (Z.s z'), int (↑(Z.a z') : Int), int (Z.e z')], T.agg (frS f (T.v nilS) (T.sl 8 ES))]) (fun x => []) fun x => none_)) ∧ ∀ (a : Unit), True → (3 = nat_lit 3 ∧ List.all (stC z') T.one = true) ∧ b4 = b4 ∧ 0 + nat_lit 3 ≤ 3 ∧ (34 = nat_lit 34 ∧ List.all (frS f (T.v nilS) (T.sl 8 ES)) T.one = true) ∧ b5 = b5 ∧ 0 + nat_lit 34 ≤ 34 ∧ int (IntKind.wrap IntKind.i64 ((↑n : Int) + (1 : Int))) = int (n + 1) ∧ TWk Tryd.prog Γ (fin Tryd.prog Tryd.f14 [] Q) [It.code (sub (bd Tryd.f14) [1, 1, 1, 1, 1, 1, 1, 1, 1, 1, 1, 1, 0, 1, 0]), It.blk 0, It.code (sub (bd Tryd.f14) [1, 1, 1, 1, 1, 1, 1, 1, 1, 1, 1, 1, 1])] { fr := frame 100 [(2, T.ptr 0 b1 0), (4, T.ptr 1 b4 0), (5, T.ptr 2 b5 0), (9, T.v (Value.string zz)), (10, int (n + 1))], ob := [(b1, Ob.cells zC), (b4, Ob.cells (stC z')), (b5, Ob.cells (frS f (T.v nilS) (T.sl 8 ES)))], gl := fun x => none }) (TWk Tryd.prog Γ (fin Tryd.prog Tryd.f14 [] Q) [It.code (sub (bd Tryd.f14) [1, 1, 1, 1, 1, 1, 1, 1, 1, 1, 1, 1, 1])] { fr := frame 100 [(2, T.ptr 0 b1 0), (4, T.ptr 1 b4 0), (5, T.ptr 2 b5 0)], ob := [(b1, Ob.cells zC), (b4, Ob.cells [str (Z.s { s := s, a := a, e := (0 : Int) }), int (Z.a { s := s, a := a, e := (0 : Int) }), int (Z.e { s := s, a := a, e := (0 : Int) })]), (b5, Ob.cells (frS f (T.v nilS) (T.v nilS)))], gl := fun x => none })) (by kernel_rfl) ?_
          repeat' (first | exact rfl | exact Nat.le_of_ble_eq_true rfl | refine And.intro ?_ ?_ | intro _ | refine bsplit_mk (fun _ => ?_) (fun _ => ?_))
          all_goals first
            | exact hz1
            | exact cf
            | exact st3
            | exact n1T (by omega)
            | exact Int.natCast_nonneg _
            | (exfalso; simp only [decide_eq_false_iff_not] at *; omega)
            | (exfalso; rename_i h; simp at h; done)
            | (show ((n : Nat) : Int) < _; omega)
            | (clear st3 cf; trace_state)
      · have hw1 : c ≠ 119 := fun e => hw (.inl e)
        have hw2 : c ≠ 116 := fun e => hw (.inr e)
        have st := ih (d ++ [c]) (zfld c z f).2 (zfld c z f).1 zO (by rw [zfld_ms c z f hil hw1, hm]) (by rw [zfld_es c z f hil hw2, he]) (by rw [h]; simp) hQ
        rw [show (d ++ [c]).length = d.length + 1 by simp] at st
        have cf := rfld_o z hz f c hil hw1 hw2
        clear hz ih hQ zO hil hmem hsz
        generalize (zfld c z f).2 = z' at *
        generalize (zfld c z f).1 = f' at *
        obtain ⟨s, a, e⟩ := z
        simp only at h0
        subst h0
        generalize (⟨(letS (lets k)).toArray⟩ : ByteArray) = zz at *
        generalize d.length = n at *
        unfold stC frS at *
        refine run_sound (⟨fun | 17, 4 => .res (u8 c) | 17, 5 => told (.tup [.agg [str z'.s, int (z'.a : Nat), int z'.e], .agg (frS f' (.v nilS) (.v nilS))]) [] [] | 16, 1 => .res (int (n + 1 : Nat)) | _, _ => .no, [((2, 15), ([2, 4, 5, 9, 10], 3)), ((0, 18), ([2, 4, 5], 3))], fun | 17 => some ⟨[1, 2], [5, 9, 10], .take true [0,1,2,3,4] (.one 5 (.take false [6,7,8] (.one 9 (.one 10 .done))))⟩ | 21 => some ⟨[], [], .take true [0,1,2] (.one 3 (.take true [4] .done))⟩ | _ => none⟩) 400 (B := bsplit (decide ((↑n : Int) < (↑(ByteArray.size zz) : Int))) (b4 = b4 ∧ b4 = b4 ∧ b5 = b5 ∧ (0 : Int) ≤ (↑n : Int) ∧ Option.map (fun c => u8 (UInt8.toNat c)) zz[Int.toNat (↑n : Int)]? = some (u8 c) ∧ TCalls Tryd.prog 47 [T.agg [str (Z.s { s := s, a := a, e := (0 : Int) }), int (Z.a { s := s, a := a, e := (0 : Int) }), int (Z.e { s := s, a := a, e := (0 : Int) })], T.agg (frS f (T.v nilS) (T.v nilS)), u8 c] [] none_ (callPost (Hint.call false Unit (fun x => True) [] false (fun x => T.tup [T.agg [str (Z.s z'), int (↑(Z.a z') : Int), int (Z.e z')], T.agg (frS f' (T.v nilS) (T.v nilS))]) (fun x => []) fun x => none_)) ∧ ∀ (a : Unit), True → (3 = nat_lit 3 ∧ List.all (stC z') T.one = true) ∧ b4 = b4 ∧ 0 + nat_lit 3 ≤ 3 ∧ (34 = nat_lit 34 ∧ List.all (frS f' (T.v nilS) (T.v nilS)) T.one = true) ∧ b5 = b5 ∧ 0 + nat_lit 34 ≤ 34 ∧ int (IntKind.wrap IntKind.i64 ((↑n : Int) + (1 : Int))) = int (n + 1) ∧ TWk Tryd.prog Γ (fin Tryd.prog Tryd.f14 [] Q) [It.code (sub (bd Tryd.f14) [1, 1, 1, 1, 1, 1, 1, 1, 1, 1, 1, 1, 0, 1, 0]), It.blk 0, It.code (sub (bd Tryd.f14) [1, 1, 1, 1, 1, 1, 1, 1, 1, 1, 1, 1, 1])] { fr := frame 100 [(2, T.ptr 0 b1 0), (4, T.ptr 1 b4 0), (5, T.ptr 2 b5 0), (9, T.v (Value.string zz)), (10, int (n + 1))], ob := [(b1, Ob.cells zC), (b4, Ob.cells (stC z')), (b5, Ob.cells (frS f' (T.v nilS) (T.v nilS)))], gl := fun x => none }) (TWk Tryd.prog Γ (fin Tryd.prog Tryd.f14 [] Q) [It.code (sub (bd Tryd.f14) [1, 1, 1, 1, 1, 1, 1, 1, 1, 1, 1, 1, 1])] { fr := frame 100 [(2, T.ptr 0 b1 0), (4, T.ptr 1 b4 0), (5, T.ptr 2 b5 0)], ob := [(b1, Ob.cells zC), (b4, Ob.cells [str (Z.s { s := s, a := a, e := (0 : Int) }), int (Z.a { s := s, a := a, e := (0 : Int) }), int (Z.e { s := s, a := a, e := (0 : Int) })]), (b5, Ob.cells (frS f (T.v nilS) (T.v nilS)))], gl := fun x => none })) (by kernel_rfl) ?_
        repeat' (first | exact rfl | exact Nat.le_of_ble_eq_true rfl | refine And.intro ?_ ?_ | intro _ | refine bsplit_mk (fun _ => ?_) (fun _ => ?_))
        all_goals first
          | exact hz1
          | exact cf
          | exact st
          | exact n1T (by omega)
          | exact Int.natCast_nonneg _
          | (exfalso; simp only [decide_eq_false_iff_not] at *; omega)
          | (exfalso; rename_i h; simp at h; done)
          | (show ((n : Nat) : Int) < _; omega)
          | (clear st cf; trace_state)
    · have hQ : Q (decT (zfin f z)) [] none_ := by
        unfold Frm.zflds at hQ
        rw [if_pos h0] at hQ
        exact hQ
      have st := rdec_stop Γ b1 b4 b5 Q z hz f ⟨(letS (lets k)).toArray⟩ d.length (fun g => absurd g h0) hQ
      rw [frC_nil f hm he] at st
      have st := TWk.imp (s := ⟨frame 100 [(2, .ptr 0 b1 0), (4, .ptr 1 b4 0), (5, .ptr 2 b5 0), (9, .v (.string ⟨(letS (lets k)).toArray⟩)), (10, int (d.length : Nat))], [(b1, .cells zC), (b4, .cells (stC z)), (b5, .cells (frS f (.sl 3 []) (.v nilS)))], none_⟩) st
        (Imp.cellR (i := 2) (j := 33) (b := b5) (cs := frS f (.sl 3 []) (.v nilS)) (t := .v nilS) (t' := .sl 8 []) rfl rfl (fun M v h => rel_nil0 h))
      exact TWk.imp st (Imp.cellR (i := 2) (j := 24) (b := b5) (cs := frS f (.v nilS) (.v nilS)) (t := .v nilS) (t' := .sl 3 []) rfl rfl (fun M v h => rel_nil0 h))
end
end X6
end Go.Proofs.YtaepgceodcdnhaaDoor.Vm
