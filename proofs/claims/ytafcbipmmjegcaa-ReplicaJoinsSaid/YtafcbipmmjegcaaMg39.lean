/- Texts of this claim: RiV. -/
import Derived.Test.YtafcbipmmjegcaaMg15
import Derived.Test.YtafcbipmmjegcaaMg38
namespace Go.Proofs.Ytafcbipmmjegcaa.Vm
open Go Go.RowKit
set_option maxRecDepth 100000
noncomputable abbrev kRiV0 (l : List Nat) : It := .code (sub (bd Try.f59) l)
def plRiV0 : Nat → Option RPlan := fun | 2 => some ⟨[], [], .take true [0,1,2,3,4,5] (.one 6 (.take true [7,8,9,10,11,12,13,14,15,16,17,18,19,20,21,22,23,24,25] .done))⟩ | 4 => some ⟨[], [11, 16], .take true [0,1,2,4,5,6,7,8] (.three 3 9 15 (.two 9 15 (.two 10 15 (.two 11 15 (.take false [12,13,14] (.one 15 (.one 16 (.take false [17] .done)))) (.one 11 (.take false [12,13,14] (.one 16 (.take false [17] .done))))) (.one 10 (.one 11 (.take false [12,13,14] (.one 16 (.take false [17] .done)))))) (.one 9 (.one 10 (.one 11 (.take false [12,13,14] (.one 16 (.take false [17] .done))))))) (.two 3 15 (.two 10 15 (.two 11 15 (.take false [12,13,14] (.one 15 (.one 16 (.take false [17] .done)))) (.one 11 (.take false [12,13,14] (.one 16 (.take false [17] .done))))) (.one 10 (.one 11 (.take false [12,13,14] (.one 16 (.take false [17] .done)))))) (.one 3 (.one 10 (.one 11 (.take false [12,13,14] (.one 16 (.take false [17] .done))))))) (.two 3 9 (.one 9 (.one 10 (.one 11 (.take false [12,13,14] (.one 16 (.take false [17] .done)))))) (.one 3 (.one 10 (.one 11 (.take false [12,13,14] (.one 16 (.take false [17] .done))))))))⟩ | _ => none
namespace X5
open View (VS Mem atI atN)
theorem add_may (Γ : Ctx) (b1 b2 b3 : Nat) (v : VS) (hv : vB v) (hl : lim v.ms) (hne : v.ms ≠ []) (he : v.e ≠ 4294967295) (k n l : Nat) (e q : Int) (hm : View.may v n l = true) (Q : T → Obs → Glb → Prop) (hQ : ∀ r, r = vwR (⟨v.e + 1, v.ms ++ [⟨n, l, false⟩], View.upd v.L (n - 1) l⟩, true) → Q r [] none_) :
  TWk Try.prog Γ (fin Try.prog Try.f59 [] Q) [kRiV0 [1,1]] ⟨frame 79 [(2, .ptr 0 b1 0), (3, .ptr 1 b2 0), (4, .ptr 2 b3 0), (6, bool true)], obsA b1 b2 b3 v k n l e q, none_⟩ := by
 rw [View.may, decide_eq_true_eq] at hm
 obtain ⟨h1, h2, h3, h4, h5, h6, h7⟩ := hm
 have nx := add_core Γ b1 b2 b3 v hv hl hne k n l ⟨h1, h2⟩ e q he Q hQ
 have ha : ¬ ((-1 : Int) == atI v.ms n) = false := by simp [atI, h5]
 have ha2 : ¬ (atI v.ms n == (-1 : Int)) = false := by simp [atI, h5]
 have w0 : IntKind.wrap .u8 ((n : Int) - 1) = ((n - 1 : Nat) : Int) := by rw [IntWalk.u8_in _ (by omega)]; omega
 have w1 : 0 ≤ IntKind.wrap .u8 ((n : Int) - 1) ∧ IntKind.wrap .u8 ((n : Int) - 1) < (8 : Nat) := by rw [w0]; omega
 have hw : ((viewC v).drop (2 + (IntKind.wrap .u8 ((n : Int) - 1)).toNat * 1))[0]? = some (u8 (v.L (n - 1))) := by
  rw [w0]
  have h8 : n = 1 ∨ n = 2 ∨ n = 3 ∨ n = 4 ∨ n = 5 ∨ n = 6 ∨ n = 7 ∨ n = 8 := by omega
  rcases h8 with rfl|rfl|rfl|rfl|rfl|rfl|rfl|rfl <;> rfl
 clear hQ
 let HH : Nat → Nat → Hint := fun | 2, 6 => told (int (atI v.ms n)) [] [] | 2, 23 => .res (u8 (v.L (n - 1))) | _, _ => .no
 let z0 := T.tup [T.agg (viewC v), bool false]
 exact run_sound ⟨HH, [((0, 4), ([2,3,4], 3))], fun | 2 => some ⟨[0,1], [], .take true [0,1,2,3,4,5] (.one 6 (.take true [7,8,9,10,11,12,13,14,15,16,17,18,19,20,21,22,23,24,25] .done))⟩ | n => plRiV0 n⟩ 400 (by kernel_rfl) (Yb b1 (Yb b2 (Ya (at_any v n hl (HH 2 6).P (fun r h => told_post h)) (Yu (Ys (decide (atI v.ms n ≥ (0 : Int))) (fun Z0 => (Yb b1 (Yk 10 b3 (Yb b3 (show Q z0 [] fun x => none by exfalso; simp [atI, h5] at *; done))))) (fun Z1 => (Yb b1 (Ys (decide ((↑(List.length (mems v.ms)) : Int) ≥ (8 : Int))) (fun Z2 => (Yb b1 (Yk 10 b3 (Yb b3 (show Q z0 [] fun x => none by exfalso; rw [mems_len] at Z2; simp at Z2; omega))))) (fun Z3 => (Yb b2 (Yb b2 (Ya (Ya (show (0 : Int) ≤ IntKind.wrap IntKind.u8 ((↑n : Int) - (1 : Int)) by omega) (show IntKind.wrap IntKind.u8 ((↑n : Int) - (1 : Int)) < (↑(8 : Nat) : Int) by omega)) (Yb b1 (Ya hw (Ys (decide ((↑l : Int) ≤ (↑(v.L (n - 1)) : Int))) (fun Z4 => (Yb b1 (Yk 10 b3 (Yb b3 (show Q z0 [] fun x => none by exfalso; simp at Z4; omega))))) (fun Z5 => nx))))))))))))))))
theorem add_anyJ (v : VS) (hv : vB v) (hl : lim v.ms) (hne : v.ms ≠ []) (he : v.e ≠ 4294967295) (k n l : Nat) (e q : Int) (hm : View.may v n l = true) (Q : T → Obs → Glb → Prop) (hQ : ∀ r, r = vwR (⟨v.e + 1, v.ms ++ [⟨n, l, false⟩], View.upd v.L (n - 1) l⟩, true) → Q r [] none_) : TCalls Try.prog 59 [.agg (viewC v), .agg (vcmd k n l e q)] [] none_ Q := by
 have nx := fun Γ b1 b2 b3 => add_may Γ b1 b2 b3 v hv hl hne he k n l e q hm Q hQ
 clear hQ
 rw [View.may, decide_eq_true_eq] at hm
 obtain ⟨h1, h2, h3, h4, _⟩ := hm
 have h4' : decide ((l : Int) ≤ 200) = true := decide_eq_true (by omega)
 have nx : ∀ Γ b1 b2 b3, TWk Try.prog Γ (fin Try.prog Try.f59 [] Q) [kRiV0 [1,1]] ⟨frame 79 [(2, .ptr 0 b1 0), (3, .ptr 1 b2 0), (4, .ptr 2 b3 0), (6, bool (decide ((l : Int) ≤ 200)))], obsA b1 b2 b3 v k n l e q, none_⟩ := by rw [h4']; exact nx
 refine TCalls.of Try.func59 rfl (CanCall.of Try.func59 rfl (by decide)) [] fun Γ => ?_
 let HH : Nat → Nat → Hint := fun  | _, _ => .no
 let z0 := fun (Z0 : Nat) (Z1 : Nat) (Z2 : Nat) => S.mk (frame 79 [(2, T.ptr 0 Z0 0), (3, T.ptr 1 Z1 0), (4, T.ptr 2 Z2 0), (6, bool false)]) [(Z0, Ob.cells (viewC v)), (Z1, Ob.cells [u8 k, u8 n, u8 l, u32 e, u32 q]), (Z2, Ob.cells [u32 (0 : Int), T.v (Value.slice none 0 0), u8 (0 : Int), u8 (0 : Int), u8 (0 : Int), u8 (0 : Int), u8 (0 : Int), u8 (0 : Int), u8 (0 : Int), u8 (0 : Int)])] fun x => none
 let z1 := [kRiV0 [1,1]]
 let z2 := fin Try.prog Try.f59 [] Q
 exact run_sound ⟨HH, [((0, 2), ([2,3,4,6], 3))], plRiV0⟩ 400 (by kernel_rfl) (fun (Z0 : Nat) => (fun (Z1 : Nat) => (fun (Z2 : Nat) => (Yb Z1 (Ys (decide ((↑n : Int) ≥ (1 : Int))) (fun Z3 => (Yb Z1 (Ys (decide ((↑n : Int) ≤ (8 : Int))) (fun Z4 => (Yb Z1 (Ys (decide ((↑l : Int) ≥ (1 : Int))) (fun Z5 => (Yb Z1 (nx Γ Z0 Z1 Z2))) (fun Z6 => (show TWk Try.prog Γ z2 z1 (z0 Z0 Z1 Z2) by exfalso; simp at *; omega))))) (fun Z7 => (show TWk Try.prog Γ z2 z1 (z0 Z0 Z1 Z2) by exfalso; simp at *; omega))))) (fun Z8 => (show TWk Try.prog Γ z2 z1 (z0 Z0 Z1 Z2) by exfalso; simp at *; omega)))))))
theorem apply_add (v : VS) (hv : vB v) (hl : lim v.ms) (hne : v.ms ≠ []) (he : v.e ≠ 4294967295) (n l : Nat) (e q : Int) (hm : View.may v n l = true) (Q : T → Obs → Glb → Prop) (hQ : ∀ r, r = vwR (View.addV v n l) → Q r [] none_) : TCalls Try.prog 24 [.agg (viewC v), .agg (vcmd 1 n l e q)] [] none_ Q := by
 have hm2 := hm
 rw [View.may, decide_eq_true_eq] at hm2
 obtain ⟨_, _, _, _, h5, _⟩ := hm2
 refine TCalls.of Try.func24 rfl (CanCall.of Try.func24 rfl (by decide)) [] fun Γ => ?_
 let HH : Nat → Nat → Hint := fun | 1, 3 => told (int (atI v.ms n)) [] [] | 5, 2 => told (vwR (⟨v.e + 1, v.ms ++ [⟨n, l, false⟩], View.upd v.L (n - 1) l⟩, true)) [] [] | _, _ => .no
 let z0 := (VS.mk (v.e + (1 : Int)) (v.ms ++ [Mem.mk n l false]) (View.upd v.L (n - 1) l), true)
 exact run_sound ⟨HH, [], fun | 15 => some ⟨[], [], .take true [0,1,2,3,4,5,6,7,8,9,10] (.one 11 (.take true [12] .done))⟩ | _ => none⟩ 400 (by kernel_rfl) (fun (Z0 : Nat) => (fun (Z1 : Nat) => (fun (Z2 : Nat) => (Yb Z0 (Yb Z1 (Ya (at_any v n hl (HH 1 3).P (fun r h => told_post h)) (Yu (Yb Z1 (Yb Z1 (Yb Z0 (Yb Z1 (Ya (add_anyJ v hv hl hne he 1 n l e q hm (HH 5 2).P (fun r h => told_post h)) (Yu (Yk 10 Z2 (Yb Z2 (show Q (T.tup [T.agg [u32 (z0.fst.e), T.sl 3 (mems z0.fst.ms), u8 (↑(z0.fst.L 0) : Int), u8 (↑(z0.fst.L 1) : Int), u8 (↑(z0.fst.L 2) : Int), u8 (↑(z0.fst.L 3) : Int), u8 (↑(z0.fst.L 4) : Int), u8 (↑(z0.fst.L 5) : Int), u8 (↑(z0.fst.L 6) : Int), u8 (↑(z0.fst.L 7) : Int)], bool true]) [] fun x => none from hQ _ (by rw [View.addV, if_pos hm, if_neg he]; rfl)))))))))))))))))
end X5
end Go.Proofs.Ytafcbipmmjegcaa.Vm
