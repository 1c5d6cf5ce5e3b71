/- Texts of this claim: VC, VD, ViewWF. -/
import Derived.Test.YtpjkdcbogjigeaaGreatMg15
import Derived.Test.YtpjkdcbogjigeaaGreatMg29
import Derived.Test.YtpjkdcbogjigeaaGreatMg17
namespace Go.Proofs.YtpjkdcbogjigeaaGreat.Vm
open Go Go.RowKit
set_option maxRecDepth 100000
noncomputable abbrev kVC0 (l : List Nat) : It := .code (sub (bd Tryz.f159) l)
noncomputable abbrev wVC1 (Γ : Ctx) (Q : T → Obs → Glb → Prop) : List It → S → Prop := TWk Tryz.prog Γ (fin Tryz.prog Tryz.f159 [] Q)
namespace X5
open View (Mem VS atN atI ready)
theorem add_no (Γ : Ctx) (b1 b2 b3 : Nat) (v : VS) (k n l : Nat) (e q : Int) (Q : T → Obs → Glb → Prop) (hQ : ∀ r, r = vwR (v, false) → Q r [] none_) :
    wVC1 Γ Q [kVC0 [1,1]] ⟨frame 79 [(2, .ptr 0 b1 0), (3, .ptr 1 b2 0), (4, .ptr 2 b3 0), (6, bool false)], obsA b1 b2 b3 v k n l e q, none_⟩ := by
  let HH : Nat → Nat → Hint := fun  | _, _ => .no
  exact run_sound ⟨HH, [((0, 4), ([2,3,4], 3))], fun | 2 => some ⟨[], [], .take true [0,1,2,3,4,5] (.one 6 (.take true [7,8,9,10,11,12,13,14,15,16,17,18,19,20,21,22,23,24,25] .done))⟩ | 4 => some ⟨[], [11,16], .take true [0,1,2,4,5,6,7,8] (.three 3 9 15 (.two 9 15 (.two 10 15 (.two 11 15 (.take false [12,13,14] (.one 15 (.one 16 (.take false [17] .done)))) (.one 11 (.take false [12,13,14] (.one 16 (.take false [17] .done))))) (.one 10 (.one 11 (.take false [12,13,14] (.one 16 (.take false [17] .done)))))) (.one 9 (.one 10 (.one 11 (.take false [12,13,14] (.one 16 (.take false [17] .done))))))) (.two 3 15 (.two 10 15 (.two 11 15 (.take false [12,13,14] (.one 15 (.one 16 (.take false [17] .done)))) (.one 11 (.take false [12,13,14] (.one 16 (.take false [17] .done))))) (.one 10 (.one 11 (.take false [12,13,14] (.one 16 (.take false [17] .done)))))) (.one 3 (.one 10 (.one 11 (.take false [12,13,14] (.one 16 (.take false [17] .done))))))) (.two 3 9 (.one 9 (.one 10 (.one 11 (.take false [12,13,14] (.one 16 (.take false [17] .done)))))) (.one 3 (.one 10 (.one 11 (.take false [12,13,14] (.one 16 (.take false [17] .done))))))))⟩ | _ => none⟩ 400 (by kernel_rfl) (Yb b1 (Yk 10 b3 (Yb b3 (hQ (T.tup [T.agg (viewC v), bool false]) rfl))))
theorem add_yes (Γ : Ctx) (b1 b2 b3 : Nat) (v : VS) (hv : vB v) (hl : lim v.ms) (k n l : Nat) (e q : Int) (hn : 1 ≤ n ∧ n ≤ 8) (hl2 : 1 ≤ l ∧ l ≤ 200) (Q : T → Obs → Glb → Prop) (hQ : ∀ r, r = vwR (View.addV v n l) → Q r [] none_) :
    wVC1 Γ Q [kVC0 [1,1]] ⟨frame 79 [(2, .ptr 0 b1 0), (3, .ptr 1 b2 0), (4, .ptr 2 b3 0), (6, bool true)], obsA b1 b2 b3 v k n l e q, none_⟩ := by
  refine run_sound (⟨fun | 2, 6 => told (int (atI v.ms n)) [] [] | 2, 23 => .res (u8 (v.L (n - 1))) | _, _ => .no, [((0, 4), ([2,3,4], 3))], fun | 2 => some ⟨[0,1], [], .take true [0,1,2,3,4,5] (.one 6 (.take true [7,8,9,10,11,12,13,14,15,16,17,18,19,20,21,22,23,24,25] .done))⟩ | 4 => some ⟨[], [11,16], .take true [0,1,2,4,5,6,7,8] (.three 3 9 15 (.two 9 15 (.two 10 15 (.two 11 15 (.take false [12,13,14] (.one 15 (.one 16 (.take false [17] .done)))) (.one 11 (.take false [12,13,14] (.one 16 (.take false [17] .done))))) (.one 10 (.one 11 (.take false [12,13,14] (.one 16 (.take false [17] .done)))))) (.one 9 (.one 10 (.one 11 (.take false [12,13,14] (.one 16 (.take false [17] .done))))))) (.two 3 15 (.two 10 15 (.two 11 15 (.take false [12,13,14] (.one 15 (.one 16 (.take false [17] .done)))) (.one 11 (.take false [12,13,14] (.one 16 (.take false [17] .done))))) (.one 10 (.one 11 (.take false [12,13,14] (.one 16 (.take false [17] .done)))))) (.one 3 (.one 10 (.one 11 (.take false [12,13,14] (.one 16 (.take false [17] .done))))))) (.two 3 9 (.one 9 (.one 10 (.one 11 (.take false [12,13,14] (.one 16 (.take false [17] .done)))))) (.one 3 (.one 10 (.one 11 (.take false [12,13,14] (.one 16 (.take false [17] .done))))))))⟩ | _ => none⟩) 400 (B := b1 = b1 ∧ b2 = b2 ∧ TCalls Tryz.prog (158 : Nat) [T.agg [T.v (Value.int IntKind.u32 (VS.e v)), T.sl (3 : Nat) (mems (VS.ms v)), T.v (Value.int IntKind.u8 (↑(VS.L v (0 : Nat)) : Int)), T.v (Value.int IntKind.u8 (↑(VS.L v (1 : Nat)) : Int)), T.v (Value.int IntKind.u8 (↑(VS.L v (2 : Nat)) : Int)), T.v (Value.int IntKind.u8 (↑(VS.L v (3 : Nat)) : Int)), T.v (Value.int IntKind.u8 (↑(VS.L v (4 : Nat)) : Int)), T.v (Value.int IntKind.u8 (↑(VS.L v (5 : Nat)) : Int)), T.v (Value.int IntKind.u8 (↑(VS.L v (6 : Nat)) : Int)), T.v (Value.int IntKind.u8 (↑(VS.L v (7 : Nat)) : Int))], T.v (Value.int IntKind.u8 (↑n : Int))] [] (fun x => none) (callPost (Hint.call false Unit (fun x => True) [] false (fun x => int (atI (VS.ms v) n)) (fun x => []) fun x => none_)) ∧ ∀ (a : Unit), True → bsplit (decide (atI (VS.ms v) n ≥ (0 : Int))) (b1 = b1 ∧ ((10 : Nat) = nat_lit 10 ∧ List.all [T.v (Value.int IntKind.u32 (VS.e v)), T.sl (3 : Nat) (mems (VS.ms v)), T.v (Value.int IntKind.u8 (↑(VS.L v (0 : Nat)) : Int)), T.v (Value.int IntKind.u8 (↑(VS.L v (1 : Nat)) : Int)), T.v (Value.int IntKind.u8 (↑(VS.L v (2 : Nat)) : Int)), T.v (Value.int IntKind.u8 (↑(VS.L v (3 : Nat)) : Int)), T.v (Value.int IntKind.u8 (↑(VS.L v (4 : Nat)) : Int)), T.v (Value.int IntKind.u8 (↑(VS.L v (5 : Nat)) : Int)), T.v (Value.int IntKind.u8 (↑(VS.L v (6 : Nat)) : Int)), T.v (Value.int IntKind.u8 (↑(VS.L v (7 : Nat)) : Int))] T.one = true) ∧ b3 = b3 ∧ (0 : Nat) + nat_lit 10 ≤ (10 : Nat) ∧ b3 = b3 ∧ Q (T.tup [T.agg [T.v (Value.int IntKind.u32 (VS.e v)), T.sl (3 : Nat) (mems (VS.ms v)), T.v (Value.int IntKind.u8 (↑(VS.L v (0 : Nat)) : Int)), T.v (Value.int IntKind.u8 (↑(VS.L v (1 : Nat)) : Int)), T.v (Value.int IntKind.u8 (↑(VS.L v (2 : Nat)) : Int)), T.v (Value.int IntKind.u8 (↑(VS.L v (3 : Nat)) : Int)), T.v (Value.int IntKind.u8 (↑(VS.L v (4 : Nat)) : Int)), T.v (Value.int IntKind.u8 (↑(VS.L v (5 : Nat)) : Int)), T.v (Value.int IntKind.u8 (↑(VS.L v (6 : Nat)) : Int)), T.v (Value.int IntKind.u8 (↑(VS.L v (7 : Nat)) : Int))], T.v (Value.bool false)]) [] fun x => none) (b1 = b1 ∧ bsplit (decide ((↑(List.length (mems (VS.ms v))) : Int) ≥ (8 : Int))) (b1 = b1 ∧ ((10 : Nat) = nat_lit 10 ∧ List.all [T.v (Value.int IntKind.u32 (VS.e v)), T.sl (3 : Nat) (mems (VS.ms v)), T.v (Value.int IntKind.u8 (↑(VS.L v (0 : Nat)) : Int)), T.v (Value.int IntKind.u8 (↑(VS.L v (1 : Nat)) : Int)), T.v (Value.int IntKind.u8 (↑(VS.L v (2 : Nat)) : Int)), T.v (Value.int IntKind.u8 (↑(VS.L v (3 : Nat)) : Int)), T.v (Value.int IntKind.u8 (↑(VS.L v (4 : Nat)) : Int)), T.v (Value.int IntKind.u8 (↑(VS.L v (5 : Nat)) : Int)), T.v (Value.int IntKind.u8 (↑(VS.L v (6 : Nat)) : Int)), T.v (Value.int IntKind.u8 (↑(VS.L v (7 : Nat)) : Int))] T.one = true) ∧ b3 = b3 ∧ (0 : Nat) + nat_lit 10 ≤ (10 : Nat) ∧ b3 = b3 ∧ Q (T.tup [T.agg [T.v (Value.int IntKind.u32 (VS.e v)), T.sl (3 : Nat) (mems (VS.ms v)), T.v (Value.int IntKind.u8 (↑(VS.L v (0 : Nat)) : Int)), T.v (Value.int IntKind.u8 (↑(VS.L v (1 : Nat)) : Int)), T.v (Value.int IntKind.u8 (↑(VS.L v (2 : Nat)) : Int)), T.v (Value.int IntKind.u8 (↑(VS.L v (3 : Nat)) : Int)), T.v (Value.int IntKind.u8 (↑(VS.L v (4 : Nat)) : Int)), T.v (Value.int IntKind.u8 (↑(VS.L v (5 : Nat)) : Int)), T.v (Value.int IntKind.u8 (↑(VS.L v (6 : Nat)) : Int)), T.v (Value.int IntKind.u8 (↑(VS.L v (7 : Nat)) : Int))], T.v (Value.bool false)]) [] fun x => none) (b2 = b2 ∧ b2 = b2 ∧ ((0 : Int) ≤ IntKind.wrap IntKind.u8 ((↑n : Int) - (1 : Int)) ∧ IntKind.wrap IntKind.u8 ((↑n : Int) - (1 : Int)) < (↑(8 : Nat) : Int)) ∧ b1 = b1 ∧ (List.drop ((2 : Nat) + Int.toNat (IntKind.wrap IntKind.u8 ((↑n : Int) - (1 : Int))) * nat_lit 1) [T.v (Value.int IntKind.u32 (VS.e v)), T.sl (3 : Nat) (mems (VS.ms v)), T.v (Value.int IntKind.u8 (↑(VS.L v (0 : Nat)) : Int)), T.v (Value.int IntKind.u8 (↑(VS.L v (1 : Nat)) : Int)), T.v (Value.int IntKind.u8 (↑(VS.L v (2 : Nat)) : Int)), T.v (Value.int IntKind.u8 (↑(VS.L v (3 : Nat)) : Int)), T.v (Value.int IntKind.u8 (↑(VS.L v (4 : Nat)) : Int)), T.v (Value.int IntKind.u8 (↑(VS.L v (5 : Nat)) : Int)), T.v (Value.int IntKind.u8 (↑(VS.L v (6 : Nat)) : Int)), T.v (Value.int IntKind.u8 (↑(VS.L v (7 : Nat)) : Int))])[(0 : Nat)]? = some (T.v (Value.int IntKind.u8 (↑(VS.L v (n - (1 : Nat))) : Int))) ∧ bsplit (decide ((↑l : Int) ≤ (↑(VS.L v (n - (1 : Nat))) : Int))) (b1 = b1 ∧ ((10 : Nat) = nat_lit 10 ∧ List.all [T.v (Value.int IntKind.u32 (VS.e v)), T.sl (3 : Nat) (mems (VS.ms v)), T.v (Value.int IntKind.u8 (↑(VS.L v (0 : Nat)) : Int)), T.v (Value.int IntKind.u8 (↑(VS.L v (1 : Nat)) : Int)), T.v (Value.int IntKind.u8 (↑(VS.L v (2 : Nat)) : Int)), T.v (Value.int IntKind.u8 (↑(VS.L v (3 : Nat)) : Int)), T.v (Value.int IntKind.u8 (↑(VS.L v (4 : Nat)) : Int)), T.v (Value.int IntKind.u8 (↑(VS.L v (5 : Nat)) : Int)), T.v (Value.int IntKind.u8 (↑(VS.L v (6 : Nat)) : Int)), T.v (Value.int IntKind.u8 (↑(VS.L v (7 : Nat)) : Int))] T.one = true) ∧ b3 = b3 ∧ (0 : Nat) + nat_lit 10 ≤ (10 : Nat) ∧ b3 = b3 ∧ Q (T.tup [T.agg [T.v (Value.int IntKind.u32 (VS.e v)), T.sl (3 : Nat) (mems (VS.ms v)), T.v (Value.int IntKind.u8 (↑(VS.L v (0 : Nat)) : Int)), T.v (Value.int IntKind.u8 (↑(VS.L v (1 : Nat)) : Int)), T.v (Value.int IntKind.u8 (↑(VS.L v (2 : Nat)) : Int)), T.v (Value.int IntKind.u8 (↑(VS.L v (3 : Nat)) : Int)), T.v (Value.int IntKind.u8 (↑(VS.L v (4 : Nat)) : Int)), T.v (Value.int IntKind.u8 (↑(VS.L v (5 : Nat)) : Int)), T.v (Value.int IntKind.u8 (↑(VS.L v (6 : Nat)) : Int)), T.v (Value.int IntKind.u8 (↑(VS.L v (7 : Nat)) : Int))], T.v (Value.bool false)]) [] fun x => none) (wVC1 Γ Q [It.code (sub (bd Tryz.f159) [(1 : Nat), (1 : Nat), (1 : Nat)])] { fr := [T.und, T.und, T.ptr (0 : Nat) b1 (0 : Nat), T.ptr (1 : Nat) b2 (0 : Nat), T.ptr (2 : Nat) b3 (0 : Nat), T.und, T.und, T.und, T.und, T.und, T.und, T.und, T.und, T.und, T.und, T.und, T.und, T.und, T.und, T.und, T.und, T.und, T.und, T.und, T.und, T.und, T.und, T.und, T.und, T.und, T.und, T.und, T.und, T.und, T.und, T.und, T.und, T.und, T.und, T.und, T.und, T.und, T.und, T.und, T.und, T.und, T.und, T.und, T.und, T.und, T.und, T.und, T.und, T.und, T.und, T.und, T.und, T.und, T.und, T.und, T.und, T.und, T.und, T.und, T.und, T.und, T.und, T.und, T.und, T.und, T.und, T.und, T.und, T.und, T.und, T.und, T.und, T.und, T.und], ob := [(b1, Ob.cells [T.v (Value.int IntKind.u32 (VS.e v)), T.sl (3 : Nat) (mems (VS.ms v)), T.v (Value.int IntKind.u8 (↑(VS.L v (0 : Nat)) : Int)), T.v (Value.int IntKind.u8 (↑(VS.L v (1 : Nat)) : Int)), T.v (Value.int IntKind.u8 (↑(VS.L v (2 : Nat)) : Int)), T.v (Value.int IntKind.u8 (↑(VS.L v (3 : Nat)) : Int)), T.v (Value.int IntKind.u8 (↑(VS.L v (4 : Nat)) : Int)), T.v (Value.int IntKind.u8 (↑(VS.L v (5 : Nat)) : Int)), T.v (Value.int IntKind.u8 (↑(VS.L v (6 : Nat)) : Int)), T.v (Value.int IntKind.u8 (↑(VS.L v (7 : Nat)) : Int))]), (b2, Ob.cells [T.v (Value.int IntKind.u8 (↑k : Int)), T.v (Value.int IntKind.u8 (↑n : Int)), T.v (Value.int IntKind.u8 (↑l : Int)), T.v (Value.int IntKind.u32 e), T.v (Value.int IntKind.u32 q)]), (b3, Ob.cells [T.v (Value.int IntKind.u32 (0 : Int)), T.v (Value.slice none (0 : Nat) (0 : Nat)), T.v (Value.int IntKind.u8 (0 : Int)), T.v (Value.int IntKind.u8 (0 : Int)), T.v (Value.int IntKind.u8 (0 : Int)), T.v (Value.int IntKind.u8 (0 : Int)), T.v (Value.int IntKind.u8 (0 : Int)), T.v (Value.int IntKind.u8 (0 : Int)), T.v (Value.int IntKind.u8 (0 : Int)), T.v (Value.int IntKind.u8 (0 : Int))])], gl := fun x => none })))) (by kernel_rfl) ?_
  have hno : View.may v n l = false → Q (vwR (v, false)) [] none_ := fun h => hQ _ (by rw [View.addV, if_neg (by rw [h]; simp)])
  have hno2 : v.e = 4294967295 → View.may v n l = true → Q (vwR (v, false)) [] none_ := fun h hm => hQ _ (by rw [View.addV, if_pos hm, if_pos h])
  have hw : IntKind.wrap .u8 ((n : Int) - 1) = ((n - 1 : Nat) : Int) := by rw [IntWalk.u8_in _ (by omega)]; omega
  repeat' (first | exact rfl | exact Nat.le_of_ble_eq_true rfl | refine And.intro ?_ ?_ | intro _ | refine bsplit_mk (fun _ => ?_) (fun _ => ?_))
  · exact at_any v n hl _ (fun r h => told_post h)
  · rename_i h
    exact hno (by
      rw [View.may, decide_eq_false_iff_not]
      rintro ⟨_, _, _, _, h5, _⟩
      simp [atI, h5] at h)
  · rename_i h
    exact hno (by
      rw [View.may, decide_eq_false_iff_not]
      rintro ⟨_, _, _, _, _, h6, _⟩
      rw [mems_len] at h
      simp at h; omega)
  · omega
  · omega
  · rw [hw]
    have h8 : n = 1 ∨ n = 2 ∨ n = 3 ∨ n = 4 ∨ n = 5 ∨ n = 6 ∨ n = 7 ∨ n = 8 := by omega
    rcases h8 with rfl | rfl | rfl | rfl | rfl | rfl | rfl | rfl <;> rfl
  · rename_i h
    exact hno (by
      rw [View.may, decide_eq_false_iff_not]
      rintro ⟨_, _, _, _, _, _, h7⟩
      simp at h; omega)
  · rename_i h6 h5 h7
    have hm : View.may v n l = true := by
      rw [View.may, decide_eq_true_eq]
      refine ⟨hn.1, hn.2, hl2.1, hl2.2, ?_, ?_, ?_⟩
      · cases hx : atN v.ms n with
        | none => rfl
        | some x => simp [atI, hx] at h6
      · rw [mems_len] at h5; simp at h5; omega
      · simp at h7; omega
    by_cases he : v.e = 4294967295
    · have hq := hno2 he
      by_cases hne : v.ms = []
      · exact add_core0_max Γ b1 b2 b3 v hv hl hne k n l hn e q he Q (fun r h => h ▸ hq hm)
      · exact add_core_max Γ b1 b2 b3 v hv hl hne k n l hn e q he Q (fun r h => h ▸ hq hm)
    · have hq : ∀ r, r = vwR (⟨v.e + 1, v.ms ++ [⟨n, l, false⟩], View.upd v.L (n - 1) l⟩, true) → Q r [] none_ := fun r h => hQ r (by rw [h, View.addV, if_pos hm, if_neg he])
      by_cases hne : v.ms = []
      · exact add_core0 Γ b1 b2 b3 v hv hl hne k n l hn e q he Q hq
      · exact add_core Γ b1 b2 b3 v hv hl hne k n l hn e q he Q hq
theorem add_any (v : VS) (hv : vB v) (hl : lim v.ms) (k n l : Nat) (e q : Int) (Q : T → Obs → Glb → Prop) (hQ : ∀ r, r = vwR (View.addV v n l) → Q r [] none_) : TCalls Tryz.prog 159 [.agg (viewC v), .agg (vcmd k n l e q)] [] none_ Q := by
  refine TCalls.of Tryz.func159 rfl (CanCall.of Tryz.func159 rfl (by decide)) [] fun Γ => ?_
  refine run_sound (⟨fun  | _, _ => .no, [((0, 2), ([2,3,4,6], 3))], fun | 2 => some ⟨[], [], .take true [0,1,2,3,4,5] (.one 6 (.take true [7,8,9,10,11,12,13,14,15,16,17,18,19,20,21,22,23,24,25] .done))⟩ | 4 => some ⟨[], [11,16], .take true [0,1,2,4,5,6,7,8] (.three 3 9 15 (.two 9 15 (.two 10 15 (.two 11 15 (.take false [12,13,14] (.one 15 (.one 16 (.take false [17] .done)))) (.one 11 (.take false [12,13,14] (.one 16 (.take false [17] .done))))) (.one 10 (.one 11 (.take false [12,13,14] (.one 16 (.take false [17] .done)))))) (.one 9 (.one 10 (.one 11 (.take false [12,13,14] (.one 16 (.take false [17] .done))))))) (.two 3 15 (.two 10 15 (.two 11 15 (.take false [12,13,14] (.one 15 (.one 16 (.take false [17] .done)))) (.one 11 (.take false [12,13,14] (.one 16 (.take false [17] .done))))) (.one 10 (.one 11 (.take false [12,13,14] (.one 16 (.take false [17] .done)))))) (.one 3 (.one 10 (.one 11 (.take false [12,13,14] (.one 16 (.take false [17] .done))))))) (.two 3 9 (.one 9 (.one 10 (.one 11 (.take false [12,13,14] (.one 16 (.take false [17] .done)))))) (.one 3 (.one 10 (.one 11 (.take false [12,13,14] (.one 16 (.take false [17] .done))))))))⟩ | _ => none⟩) 400 (B := ∀ (b b_1 b_2 : Nat), b_1 = b_1 ∧ bsplit (decide ((↑n : Int) ≥ (1 : Int))) (b_1 = b_1 ∧ bsplit (decide ((↑n : Int) ≤ (8 : Int))) (b_1 = b_1 ∧ bsplit (decide ((↑l : Int) ≥ (1 : Int))) (b_1 = b_1 ∧ wVC1 Γ Q [It.code (sub (bd Tryz.f159) [(1 : Nat), (1 : Nat)])] { fr := [T.und, T.und, T.ptr (0 : Nat) b (0 : Nat), T.ptr (1 : Nat) b_1 (0 : Nat), T.ptr (2 : Nat) b_2 (0 : Nat), T.und, T.v (Value.bool (decide ((↑l : Int) ≤ (200 : Int)))), T.und, T.und, T.und, T.und, T.und, T.und, T.und, T.und, T.und, T.und, T.und, T.und, T.und, T.und, T.und, T.und, T.und, T.und, T.und, T.und, T.und, T.und, T.und, T.und, T.und, T.und, T.und, T.und, T.und, T.und, T.und, T.und, T.und, T.und, T.und, T.und, T.und, T.und, T.und, T.und, T.und, T.und, T.und, T.und, T.und, T.und, T.und, T.und, T.und, T.und, T.und, T.und, T.und, T.und, T.und, T.und, T.und, T.und, T.und, T.und, T.und, T.und, T.und, T.und, T.und, T.und, T.und, T.und, T.und, T.und, T.und, T.und], ob := [(b, Ob.cells [T.v (Value.int IntKind.u32 (VS.e v)), T.sl (3 : Nat) (mems (VS.ms v)), T.v (Value.int IntKind.u8 (↑(VS.L v (0 : Nat)) : Int)), T.v (Value.int IntKind.u8 (↑(VS.L v (1 : Nat)) : Int)), T.v (Value.int IntKind.u8 (↑(VS.L v (2 : Nat)) : Int)), T.v (Value.int IntKind.u8 (↑(VS.L v (3 : Nat)) : Int)), T.v (Value.int IntKind.u8 (↑(VS.L v (4 : Nat)) : Int)), T.v (Value.int IntKind.u8 (↑(VS.L v (5 : Nat)) : Int)), T.v (Value.int IntKind.u8 (↑(VS.L v (6 : Nat)) : Int)), T.v (Value.int IntKind.u8 (↑(VS.L v (7 : Nat)) : Int))]), (b_1, Ob.cells [T.v (Value.int IntKind.u8 (↑k : Int)), T.v (Value.int IntKind.u8 (↑n : Int)), T.v (Value.int IntKind.u8 (↑l : Int)), T.v (Value.int IntKind.u32 e), T.v (Value.int IntKind.u32 q)]), (b_2, Ob.cells [T.v (Value.int IntKind.u32 (0 : Int)), T.v (Value.slice none (0 : Nat) (0 : Nat)), T.v (Value.int IntKind.u8 (0 : Int)), T.v (Value.int IntKind.u8 (0 : Int)), T.v (Value.int IntKind.u8 (0 : Int)), T.v (Value.int IntKind.u8 (0 : Int)), T.v (Value.int IntKind.u8 (0 : Int)), T.v (Value.int IntKind.u8 (0 : Int)), T.v (Value.int IntKind.u8 (0 : Int)), T.v (Value.int IntKind.u8 (0 : Int))])], gl := fun x => none }) (wVC1 Γ Q [It.code (sub (bd Tryz.f159) [(1 : Nat), (1 : Nat)])] { fr := [T.und, T.und, T.ptr (0 : Nat) b (0 : Nat), T.ptr (1 : Nat) b_1 (0 : Nat), T.ptr (2 : Nat) b_2 (0 : Nat), T.und, T.v (Value.bool false), T.und, T.und, T.und, T.und, T.und, T.und, T.und, T.und, T.und, T.und, T.und, T.und, T.und, T.und, T.und, T.und, T.und, T.und, T.und, T.und, T.und, T.und, T.und, T.und, T.und, T.und, T.und, T.und, T.und, T.und, T.und, T.und, T.und, T.und, T.und, T.und, T.und, T.und, T.und, T.und, T.und, T.und, T.und, T.und, T.und, T.und, T.und, T.und, T.und, T.und, T.und, T.und, T.und, T.und, T.und, T.und, T.und, T.und, T.und, T.und, T.und, T.und, T.und, T.und, T.und, T.und, T.und, T.und, T.und, T.und, T.und, T.und], ob := [(b, Ob.cells [T.v (Value.int IntKind.u32 (VS.e v)), T.sl (3 : Nat) (mems (VS.ms v)), T.v (Value.int IntKind.u8 (↑(VS.L v (0 : Nat)) : Int)), T.v (Value.int IntKind.u8 (↑(VS.L v (1 : Nat)) : Int)), T.v (Value.int IntKind.u8 (↑(VS.L v (2 : Nat)) : Int)), T.v (Value.int IntKind.u8 (↑(VS.L v (3 : Nat)) : Int)), T.v (Value.int IntKind.u8 (↑(VS.L v (4 : Nat)) : Int)), T.v (Value.int IntKind.u8 (↑(VS.L v (5 : Nat)) : Int)), T.v (Value.int IntKind.u8 (↑(VS.L v (6 : Nat)) : Int)), T.v (Value.int IntKind.u8 (↑(VS.L v (7 : Nat)) : Int))]), (b_1, Ob.cells [T.v (Value.int IntKind.u8 (↑k : Int)), T.v (Value.int IntKind.u8 (↑n : Int)), T.v (Value.int IntKind.u8 (↑l : Int)), T.v (Value.int IntKind.u32 e), T.v (Value.int IntKind.u32 q)]), (b_2, Ob.cells [T.v (Value.int IntKind.u32 (0 : Int)), T.v (Value.slice none (0 : Nat) (0 : Nat)), T.v (Value.int IntKind.u8 (0 : Int)), T.v (Value.int IntKind.u8 (0 : Int)), T.v (Value.int IntKind.u8 (0 : Int)), T.v (Value.int IntKind.u8 (0 : Int)), T.v (Value.int IntKind.u8 (0 : Int)), T.v (Value.int IntKind.u8 (0 : Int)), T.v (Value.int IntKind.u8 (0 : Int)), T.v (Value.int IntKind.u8 (0 : Int))])], gl := fun x => none })) (wVC1 Γ Q [It.code (sub (bd Tryz.f159) [(1 : Nat), (1 : Nat)])] { fr := [T.und, T.und, T.ptr (0 : Nat) b (0 : Nat), T.ptr (1 : Nat) b_1 (0 : Nat), T.ptr (2 : Nat) b_2 (0 : Nat), T.und, T.v (Value.bool false), T.und, T.und, T.und, T.und, T.und, T.und, T.und, T.und, T.und, T.und, T.und, T.und, T.und, T.und, T.und, T.und, T.und, T.und, T.und, T.und, T.und, T.und, T.und, T.und, T.und, T.und, T.und, T.und, T.und, T.und, T.und, T.und, T.und, T.und, T.und, T.und, T.und, T.und, T.und, T.und, T.und, T.und, T.und, T.und, T.und, T.und, T.und, T.und, T.und, T.und, T.und, T.und, T.und, T.und, T.und, T.und, T.und, T.und, T.und, T.und, T.und, T.und, T.und, T.und, T.und, T.und, T.und, T.und, T.und, T.und, T.und, T.und], ob := [(b, Ob.cells [T.v (Value.int IntKind.u32 (VS.e v)), T.sl (3 : Nat) (mems (VS.ms v)), T.v (Value.int IntKind.u8 (↑(VS.L v (0 : Nat)) : Int)), T.v (Value.int IntKind.u8 (↑(VS.L v (1 : Nat)) : Int)), T.v (Value.int IntKind.u8 (↑(VS.L v (2 : Nat)) : Int)), T.v (Value.int IntKind.u8 (↑(VS.L v (3 : Nat)) : Int)), T.v (Value.int IntKind.u8 (↑(VS.L v (4 : Nat)) : Int)), T.v (Value.int IntKind.u8 (↑(VS.L v (5 : Nat)) : Int)), T.v (Value.int IntKind.u8 (↑(VS.L v (6 : Nat)) : Int)), T.v (Value.int IntKind.u8 (↑(VS.L v (7 : Nat)) : Int))]), (b_1, Ob.cells [T.v (Value.int IntKind.u8 (↑k : Int)), T.v (Value.int IntKind.u8 (↑n : Int)), T.v (Value.int IntKind.u8 (↑l : Int)), T.v (Value.int IntKind.u32 e), T.v (Value.int IntKind.u32 q)]), (b_2, Ob.cells [T.v (Value.int IntKind.u32 (0 : Int)), T.v (Value.slice none (0 : Nat) (0 : Nat)), T.v (Value.int IntKind.u8 (0 : Int)), T.v (Value.int IntKind.u8 (0 : Int)), T.v (Value.int IntKind.u8 (0 : Int)), T.v (Value.int IntKind.u8 (0 : Int)), T.v (Value.int IntKind.u8 (0 : Int)), T.v (Value.int IntKind.u8 (0 : Int)), T.v (Value.int IntKind.u8 (0 : Int)), T.v (Value.int IntKind.u8 (0 : Int))])], gl := fun x => none })) (wVC1 Γ Q [It.code (sub (bd Tryz.f159) [(1 : Nat), (1 : Nat)])] { fr := [T.und, T.und, T.ptr (0 : Nat) b (0 : Nat), T.ptr (1 : Nat) b_1 (0 : Nat), T.ptr (2 : Nat) b_2 (0 : Nat), T.und, T.v (Value.bool false), T.und, T.und, T.und, T.und, T.und, T.und, T.und, T.und, T.und, T.und, T.und, T.und, T.und, T.und, T.und, T.und, T.und, T.und, T.und, T.und, T.und, T.und, T.und, T.und, T.und, T.und, T.und, T.und, T.und, T.und, T.und, T.und, T.und, T.und, T.und, T.und, T.und, T.und, T.und, T.und, T.und, T.und, T.und, T.und, T.und, T.und, T.und, T.und, T.und, T.und, T.und, T.und, T.und, T.und, T.und, T.und, T.und, T.und, T.und, T.und, T.und, T.und, T.und, T.und, T.und, T.und, T.und, T.und, T.und, T.und, T.und, T.und], ob := [(b, Ob.cells [T.v (Value.int IntKind.u32 (VS.e v)), T.sl (3 : Nat) (mems (VS.ms v)), T.v (Value.int IntKind.u8 (↑(VS.L v (0 : Nat)) : Int)), T.v (Value.int IntKind.u8 (↑(VS.L v (1 : Nat)) : Int)), T.v (Value.int IntKind.u8 (↑(VS.L v (2 : Nat)) : Int)), T.v (Value.int IntKind.u8 (↑(VS.L v (3 : Nat)) : Int)), T.v (Value.int IntKind.u8 (↑(VS.L v (4 : Nat)) : Int)), T.v (Value.int IntKind.u8 (↑(VS.L v (5 : Nat)) : Int)), T.v (Value.int IntKind.u8 (↑(VS.L v (6 : Nat)) : Int)), T.v (Value.int IntKind.u8 (↑(VS.L v (7 : Nat)) : Int))]), (b_1, Ob.cells [T.v (Value.int IntKind.u8 (↑k : Int)), T.v (Value.int IntKind.u8 (↑n : Int)), T.v (Value.int IntKind.u8 (↑l : Int)), T.v (Value.int IntKind.u32 e), T.v (Value.int IntKind.u32 q)]), (b_2, Ob.cells [T.v (Value.int IntKind.u32 (0 : Int)), T.v (Value.slice none (0 : Nat) (0 : Nat)), T.v (Value.int IntKind.u8 (0 : Int)), T.v (Value.int IntKind.u8 (0 : Int)), T.v (Value.int IntKind.u8 (0 : Int)), T.v (Value.int IntKind.u8 (0 : Int)), T.v (Value.int IntKind.u8 (0 : Int)), T.v (Value.int IntKind.u8 (0 : Int)), T.v (Value.int IntKind.u8 (0 : Int)), T.v (Value.int IntKind.u8 (0 : Int))])], gl := fun x => none })) (by kernel_rfl) ?_
  have hno : ∀ b1 b2 b3, (¬ (1 ≤ n ∧ n ≤ 8 ∧ 1 ≤ l ∧ l ≤ 200)) → wVC1 Γ Q [kVC0 [1,1]] ⟨frame 79 [(2, .ptr 0 b1 0), (3, .ptr 1 b2 0), (4, .ptr 2 b3 0), (6, bool false)], obsA b1 b2 b3 v k n l e q, none_⟩ := fun b1 b2 b3 h => add_no Γ b1 b2 b3 v k n l e q Q (fun r hr => hQ r (by
    rw [hr, View.addV, if_neg]
    rw [View.may, decide_eq_true_eq]
    exact fun ⟨g1, g2, g3, g4, _⟩ => h ⟨g1, g2, g3, g4⟩))
  refine fun b1 b2 b3 => ⟨rfl, bsplit_mk (fun h1 => ⟨rfl, bsplit_mk (fun h2 => ⟨rfl, bsplit_mk (fun h3 => ⟨rfl, ?_⟩) (fun h3 => hno b1 b2 b3 ?_)⟩) (fun h2 => hno b1 b2 b3 ?_)⟩) (fun h1 => hno b1 b2 b3 ?_)⟩
  · simp only [decide_eq_true_eq] at h1 h2 h3
    by_cases h4 : (l : Int) ≤ 200
    · rw [decide_eq_true h4]
      exact add_yes Γ b1 b2 b3 v hv hl k n l e q (by omega) (by omega) Q hQ
    · rw [decide_eq_false h4]
      exact hno b1 b2 b3 (by omega)
  · simp only [decide_eq_false_iff_not, decide_eq_true_eq] at h1 h2 h3; omega
  · simp only [decide_eq_false_iff_not, decide_eq_true_eq] at h1 h2; omega
  · simp only [decide_eq_false_iff_not, decide_eq_true_eq] at h1; omega
end X5
end Go.Proofs.YtpjkdcbogjigeaaGreat.Vm
namespace Go.Proofs.YtpjkdcbogjigeaaGreat.Vm
open Go Go.RowKit
set_option maxRecDepth 100000
noncomputable abbrev kVD0 (l : List Nat) : It := .code (sub (bd Tryz.f143) l)
def plVD0 : Nat → Option RPlan := fun | 6 => some ⟨[0, 1], [], .take true [0,1,2,3,4,5,6,7,8,9,10,11,12,13] .done⟩ | 15 => some ⟨[], [], .take true [0,1,2,3,4,5,6,7,8,9,10] (.one 11 (.take true [12] .done))⟩ | _ => none
namespace X5
open View (Mem VS atN atI ready)
def memAt (v : VS) (n : Nat) : Mem := (v.ms[(atI v.ms n).toNat]?).getD ⟨0, 0, false⟩
theorem at_pos {v : VS} {n : Nat} (h : decide (atI v.ms n < 0) = false) : ∃ i : Nat, atN v.ms n = some i ∧ atI v.ms n = i ∧ i < v.ms.length ∧ v.ms[i]? = some (memAt v n) := by
  cases hx : atN v.ms n with
  | none => simp [atI, hx] at h
  | some i =>
    obtain ⟨hi, _⟩ := View.atN_some hx
    have e : atI v.ms n = i := by simp [atI, hx]
    refine ⟨i, rfl, e, hi, ?_⟩
    rw [memAt, e, Int.toNat_natCast, List.getElem?_eq_getElem hi, Option.getD_some]
theorem set_flat (l : List Mem) (i : Nat) (hi : i < l.length) (R : List T) : (flat l ++ R).take (0 + i * 3 + 2) ++ [bool true] ++ (flat l ++ R).drop (0 + i * 3 + 2 + 1) = flat (l.set i { l[i] with ready := true }) ++ R := by
  have hl : l.take i ++ l[i] :: l.drop (i + 1) = l := by rw [← List.drop_eq_getElem_cons hi, List.take_append_drop]
  have ht : (l.take i).length = i := by rw [List.length_take]; omega
  have hf : (flat (l.take i)).length = i * 3 := by rw [flat_len, ht]
  have e1 : flat l ++ R = flat (l.take i) ++ (u8 l[i].node :: u8 l[i].life :: bool l[i].ready :: (flat (l.drop (i + 1)) ++ R)) := by
    have : flat l = flat (l.take i ++ l[i] :: l.drop (i + 1)) := by rw [hl]
    rw [this, flat_append, List.append_assoc]; rfl
  have e2 : flat (l.set i { l[i] with ready := true }) ++ R = flat (l.take i) ++ (u8 l[i].node :: u8 l[i].life :: bool true :: (flat (l.drop (i + 1)) ++ R)) := by
    rw [List.set_eq_take_append_cons_drop, if_pos hi, flat_append]; simp [flat, memC]
  rw [e1, e2, show 0 + i * 3 + 2 = (flat (l.take i)).length + 2 by omega, List.take_append, List.take_of_length_le (by omega), show (flat (l.take i)).length + 2 + 1 = (flat (l.take i)).length + 3 by omega, List.drop_append, List.drop_of_length_le (show (flat (l.take i)).length ≤ (flat (l.take i)).length + 3 by omega)]
  simp
theorem apply_end (Γ : Ctx) (b1 b2 b3 : Nat) (v : VS) (ms : List Mem) (k n l : Nat) (e q : Int) (Q : T → Obs → Glb → Prop) (hQ : ∀ r, r = vwR (⟨v.e, ms, v.L⟩, true) → Q r [] none_) :
    TWk Tryz.prog Γ (fin Tryz.prog Tryz.f143 [] Q) [kVD0 [1,1,0,0,1,1,1,1,1,1,1,1,1,0,1,1], .blk 0, kVD0 [1,1,1]] ⟨frame 75 [(2, .ptr 0 b1 0), (4, .ptr 2 b3 0), (7, .sl 3 (mems ms))], [(b1, .cells (viewC v)), (b2, .cells (vcmd k n l e q)), (b3, .cells zc), (0, .gone)], none_⟩ := by
  let HH : Nat → Nat → Hint := fun  | _, _ => .no
  exact run_sound ⟨HH, [], fun | 6 => none | n => plVD0 n⟩ 400 (by kernel_rfl) (Yl 1 (Yb b1 (Ya (Yn (2) (10) rfl) (Yb b1 (Yk 10 b3 (Yb b3 (hQ (T.tup [T.agg [u32 v.e, T.sl 3 (mems ms), u8 (v.L 0), u8 (v.L 1), u8 (v.L 2), u8 (v.L 3), u8 (v.L 4), u8 (v.L 5), u8 (v.L 6), u8 (v.L 7)], bool true]) rfl)))))))
theorem nk {k : Nat} {c : Nat} (h : ((k : Int) == (c : Int)) = false) : k ≠ c := fun e => by simp [e] at h
theorem nk2 {a b : Nat} : ((a : Int) == (b : Int)) = (a == b) := by rw [Bool.eq_iff_iff]; simp only [beq_iff_eq]; omega
theorem room_fit2 (l : List Mem) (cap i : Nat) (hi : i < l.length) (h : l.length ≤ cap) : 0 + i * 3 + 2 + 1 ≤ (flat l ++ List.replicate ((cap - l.length) * 3) T.und).length := by rw [room_len l cap h]; omega
theorem atN_none {ms : List Mem} {n : Nat} (h2 : decide (atI ms n < 0) = true) : atN ms n = none := by
  cases hx : atN ms n with
  | none => rfl
  | some i => simp [atI, hx] at h2; omega
theorem applyV_of {v : VS} {k n l i : Nat} {e : Int} {m : Mem} (h0 : k ≠ 0) (h1 : k ≠ 1) (ha : atN v.ms n = some i) (hm : v.ms[i]? = some m) : View.applyV v k n l e = if m.life ≠ l then (v, false) else if k = 2 then View.removeV v i else if k = 3 then (⟨v.e, v.ms.set i { m with ready := true }, v.L⟩, true) else (v, decide (k = 4 ∧ e = v.e)) := by
  simp only [View.applyV, if_neg h0, if_neg h1, ha, hm]
theorem apply_any (v : VS) (hv : vB v) (hl : lim v.ms) (k n l : Nat) (e q : Int) (Q : T → Obs → Glb → Prop) (hQ : ∀ r, r = vwR (View.applyV v k n l e) → Q r [] none_) : TCalls Tryz.prog 143 [.agg (viewC v), .agg (vcmd k n l e q)] [] none_ Q := by
  refine TCalls.of Tryz.func143 rfl (CanCall.of Tryz.func143 rfl (by decide)) [] fun Γ => ?_
  let HH : Nat → Nat → Hint := fun | 1, 3 => told (int (atI v.ms n)) [] [] | 5, 2 => told (vwR (View.addV v n l)) [] [] | 6, 6 => .res (.agg (memC (memAt v n))) | 9, 2 => told (vwR (View.removeV v (atI v.ms n).toNat)) [] [] | 11, 2 => cloneH v.ms | _, _ => .no
  exact run_sound ⟨HH, [((0, 13), ([2,4,7], 4))], fun | 15 => some ⟨[0,1], [], .take true [0,1,2,3,4,5,6,7,8,9,10] (.one 11 (.take true [12] .done))⟩ | n => plVD0 n⟩ 400 (by kernel_rfl) (fun (Z0 : Nat) => (fun (Z1 : Nat) => (fun (Z2 : Nat) => (Yb Z0 (Yb Z1 (Ya (at_any v n hl (HH 1 3).P (fun r h => told_post h)) (Yu (Yb Z1 (Ys ((↑k : Int) == (0 : Int)) (fun Z3 => (Yb Z0 (Yk 10 Z2 (Yb Z2 (show Q (T.tup [T.agg (viewC v), bool true]) [] fun x => none from hQ _ (by rw [View.applyV, if_pos (by simpa using Z3)]; rfl)))))) (fun Z4 => (Yb Z1 (Ys ((↑k : Int) == (1 : Int)) (fun Z5 => (Yb Z0 (Yb Z1 (Ya (add_any v hv hl k n l e q (HH 5 2).P (fun r h => told_post h)) (Yu (Yk 10 Z2 (Yb Z2 (show Q (T.tup [T.agg [u32 ((View.addV v n l).fst.e), T.sl 3 (mems (View.addV v n l).fst.ms), u8 ((View.addV v n l).fst.L 0), u8 ((View.addV v n l).fst.L 1), u8 ((View.addV v n l).fst.L 2), u8 ((View.addV v n l).fst.L 3), u8 ((View.addV v n l).fst.L 4), u8 ((View.addV v n l).fst.L 5), u8 ((View.addV v n l).fst.L 6), u8 ((View.addV v n l).fst.L 7)], bool ((View.addV v n l).snd)]) [] fun x => none from hQ _ (by rw [View.applyV, if_neg (by simpa using Z4), if_pos (by simp at Z5; omega)]; rfl))))))))) (fun Z6 => (Ys (decide (atI v.ms n < (0 : Int))) (fun Z7 => (Yb Z0 (Yk 10 Z2 (Yb Z2 (show Q (T.tup [T.agg (viewC v), bool false]) [] fun x => none from hQ _ (by rw [View.applyV, if_neg (nk Z4), if_neg (nk Z6), atN_none Z7]; rfl)))))) (fun Z8 => (Yb Z0 (Ya (show (0 : Int) ≤ atI v.ms n by obtain ⟨i, _, h2, _⟩ := at_pos Z8; omega) (Ya (show (mems v.ms)[Int.toNat (atI v.ms n)]? = some (T.agg [u8 (memAt v n).node, u8 (memAt v n).life, bool ((memAt v n).ready)]) by obtain ⟨i, _, h2, _, h4⟩ := at_pos Z8; rw [h2, Int.toNat_natCast, mems, List.getElem?_map, h4]; rfl) (Yb Z1 (Ys ((↑(memAt v n).life : Int) != (↑l : Int)) (fun Z9 => (Yb Z0 (Yk 10 Z2 (Yb Z2 (show Q (T.tup [T.agg (viewC v), bool false]) [] fun x => none by obtain ⟨i, g1, _, _, g4⟩ := at_pos Z8; exact hQ _ (by rw [applyV_of (nk Z4) (nk Z6) g1 g4, if_pos (by simpa [bne, nk2] using Z9)]; rfl)))))) (fun Z10 => (Yb Z1 (Ys ((↑k : Int) == (2 : Int)) (fun Z11 => (Yb Z0 (Ya (show TCalls Tryz.prog 160 [T.agg (viewC v), int (atI v.ms n)] [] none_ (callPost (told (vwR (View.removeV v (Int.toNat (atI v.ms n)))) [] [])) by obtain ⟨i, g1, g2, g3, g4⟩ := at_pos Z8; rw [g2, Int.toNat_natCast]; exact remove_any v hv hl i g3 _ (fun r Z8 => told_post Z8)) (Yu (Yk 10 Z2 (Yb Z2 (show Q (T.tup [T.agg [u32 ((View.removeV v (Int.toNat (atI v.ms n))).fst.e), T.sl 3 (mems (View.removeV v (Int.toNat (atI v.ms n))).fst.ms), u8 ((View.removeV v (Int.toNat (atI v.ms n))).fst.L 0), u8 ((View.removeV v (Int.toNat (atI v.ms n))).fst.L 1), u8 ((View.removeV v (Int.toNat (atI v.ms n))).fst.L 2), u8 ((View.removeV v (Int.toNat (atI v.ms n))).fst.L 3), u8 ((View.removeV v (Int.toNat (atI v.ms n))).fst.L 4), u8 ((View.removeV v (Int.toNat (atI v.ms n))).fst.L 5), u8 ((View.removeV v (Int.toNat (atI v.ms n))).fst.L 6), u8 ((View.removeV v (Int.toNat (atI v.ms n))).fst.L 7)], bool ((View.removeV v (Int.toNat (atI v.ms n))).snd)]) [] fun x => none by obtain ⟨i, g1, g2, _, g4⟩ := at_pos Z8; exact hQ _ (by rw [applyV_of (nk Z4) (nk Z6) g1 g4, if_neg (by simpa [bne, nk2] using Z10), if_pos (by simp at Z11; omega), g2, Int.toNat_natCast]; rfl)))))))) (fun Z12 => (Yb Z1 (Ys ((↑k : Int) == (3 : Int)) (fun Z13 => (Yb Z0 (Ya Yt (Ya (show TCalls Tryz.prog 97 [T.sl 3 (mems v.ms)] [] none_ (callPost (Hint.call false (Nat × Nat) (fun a => List.length v.ms ≤ a.snd ∧ a.snd ≤ 9223372036854775807) [] false (fun a => T.sa 0 a.fst 0 (List.length v.ms) a.snd) (fun a => [(a.fst, Ob.cells (flat v.ms ++ List.replicate ((a.snd - List.length v.ms) * 3) T.und))]) fun x => none_)) by obtain ⟨i, g1, g2, g3, g4⟩ := at_pos Z8; have hne : v.ms ≠ [] := (fun Z8 => by rw [Z8] at g3; simp at g3); exact clone_any v.ms hl _ (fun Z8 => absurd Z8 hne) (fun Z8 => absurd Z8 hne) (fun _ g cap h1 h2 => ⟨(g, cap), ⟨h1, h2⟩, rfl, rfl, Nat.zero_le _, fun Z8 => by cases Z8⟩)) (fun (Z14 : Nat × Nat) => (fun (Z15 : List.length v.ms ≤ Z14.snd ∧ Z14.snd ≤ 9223372036854775807) => (Ya (Ya (room_plain v.ms ((Z14.snd - List.length v.ms) * 3)) Yt) (Ya (Ya (show (0 : Int) ≤ atI v.ms n by obtain ⟨i, _, h2, _⟩ := at_pos Z8; omega) (show atI v.ms n < (↑(List.length v.ms) : Int) by obtain ⟨i, _, h2, _⟩ := at_pos Z8; omega)) (Yl 1 (Yb Z14.fst (Ya (show 0 + Int.toNat (atI v.ms n) * nat_lit 3 + nat_lit 2 + nat_lit 1 ≤ List.length (flat v.ms ++ List.replicate ((Z14.snd - List.length v.ms) * 3) T.und) by obtain ⟨i, _, h2, h3, _⟩ := at_pos Z8; rw [h2, Int.toNat_natCast]; exact room_fit2 _ _ _ h3 Z15.1) (show TWk Tryz.prog Γ (fin Tryz.prog Tryz.f143 [] Q) [kVD0 [1,1,0,0,1,1,1,1,1,1,1,1,1,0,1,1], It.blk 0, kVD0 [1,1,1]] (S.mk (frame 75 [(2, T.ptr 0 Z0 0), (4, T.ptr 2 Z2 0), (7, T.sa 3 Z14.fst 0 (List.length v.ms) Z14.snd)]) [(Z0, Ob.cells (viewC v)), (Z1, Ob.cells [u8 k, u8 n, u8 l, u32 e, u32 q]), (Z2, Ob.cells [u32 (0 : Int), T.v (Value.slice none 0 0), u8 (0 : Int), u8 (0 : Int), u8 (0 : Int), u8 (0 : Int), u8 (0 : Int), u8 (0 : Int), u8 (0 : Int), u8 (0 : Int)]), (Z14.fst, Ob.cells (List.take (0 + Int.toNat (atI v.ms n) * nat_lit 3 + nat_lit 2) (flat v.ms ++ List.replicate ((Z14.snd - List.length v.ms) * 3) T.und) ++ List.map T.v #[Value.bool true].toList ++ List.drop (0 + Int.toNat (atI v.ms n) * nat_lit 3 + nat_lit 2 + 1) (flat v.ms ++ List.replicate ((Z14.snd - List.length v.ms) * 3) T.und)))] fun x => none) by obtain ⟨i, g1, g2, g3, g4⟩ := at_pos Z8; have gm : memAt v n = v.ms[i] := (by rw [List.getElem?_eq_getElem g3] at g4; injection g4 with g4; exact g4.symm); have he : (flat v.ms ++ List.replicate ((Z14.2 - v.ms.length) * 3) T.und).take (0 + (atI v.ms n).toNat * 3 + 2) ++ List.map T.v #[Value.bool true].toList ++ (flat v.ms ++ List.replicate ((Z14.2 - v.ms.length) * 3) T.und).drop (0 + (atI v.ms n).toNat * 3 + 2 + 1) = flat (v.ms.set i { v.ms[i] with ready := true }) ++ List.replicate ((Z14.2 - v.ms.length) * 3) T.und := (by rw [g2, Int.toNat_natCast]; exact set_flat v.ms i g3 _); have hl2 : v.ms.length = (v.ms.set i { v.ms[i] with ready := true }).length := (by simp); exact TWk.impM (apply_end Γ Z0 Z1 Z2 v (v.ms.set i { v.ms[i] with ready := true }) k n l e q Q (fun r hr => hQ r (by rw [hr, applyV_of (nk Z4) (nk Z6) g1 g4, if_neg (by simpa [bne, nk2] using Z10), if_neg (nk Z12), if_pos (by simp at Z13; omega), gm]))) (ImpM.slot (i := 3) (b := Z14.1) true 3 7 _ rfl rfl (fun Z8 => by cases Z8) (fz_len he hl2) (fz_one he hl2) (fz_es he hl2)))))))))))))) (fun Z16 => (Yb Z0 (Yb Z1 (Ys ((↑k : Int) == (4 : Int)) (fun Z17 => (Yb Z1 (Yb Z0 (Yk 10 Z2 (Yb Z2 (show Q (T.tup [T.agg (viewC v), bool (e == v.e)]) [] fun x => none by obtain ⟨i, g1, g2, _, g4⟩ := at_pos Z8; exact hQ _ (by rw [applyV_of (nk Z4) (nk Z6) g1 g4, if_neg (by simpa [bne, nk2] using Z10), if_neg (nk Z12), if_neg (nk Z16)]; have h7 : k = 4 := (by simp at Z17; omega); rw [show decide (k = 4 ∧ e = v.e) = (e == v.e) by rw [Bool.eq_iff_iff]; simp [h7]]; rfl))))))) (fun Z18 => (Yk 10 Z2 (Yb Z2 (show Q (T.tup [T.agg (viewC v), bool false]) [] fun x => none by obtain ⟨i, g1, g2, _, g4⟩ := at_pos Z8; exact hQ _ (by rw [applyV_of (nk Z4) (nk Z6) g1 g4, if_neg (by simpa [bne, nk2] using Z10), if_neg (nk Z12), if_neg (nk Z16), decide_eq_false (fun Z8 => nk Z18 Z8.1)]; rfl)))))))))))))))))))))))))))))))))))
end X5
end Go.Proofs.YtpjkdcbogjigeaaGreat.Vm
namespace Go.Proofs.YtpjkdcbogjigeaaGreat
namespace View
structure WF (v : VS) : Prop where
  len : v.ms.length ≤ 8
  nd : (v.ms.map (·.node)).Nodup
  mem : ∀ m ∈ v.ms, 1 ≤ m.node ∧ m.node ≤ 8 ∧ m.life < 256 ∧ v.L (m.node - 1) = m.life
  rdy : 0 < ready v.ms
  e0 : 0 ≤ v.e
  e1 : v.e ≤ 4294967295
  L : ∀ k, v.L k < 256
theorem map_set_node {ms : List Mem} {i : Nat} (h : i < ms.length) (m : Mem) (hm : m.node = ms[i].node) : (ms.set i m).map (·.node) = ms.map (·.node) := by
  rw [List.map_set, hm]
  exact List.ext_getElem (by simp) (fun k h1 h2 => by
    rw [List.getElem_set]; split
    · subst_vars; simp
    · rfl)
theorem ready_pos {ms : List Mem} {m : Mem} (h : m ∈ ms) (hr : m.ready = true) : 0 < ready ms := by
  unfold ready
  exact List.length_pos_of_mem (List.mem_filter.2 ⟨h, hr⟩)
inductive Step (v : VS) : VS → Bool → Prop where
  | same (b : Bool) : Step v v b
  | more (node life : Nat) (h1 : 1 ≤ node) (h2 : node ≤ 8) (h3 : life ≤ 200) (hat : ∀ m ∈ v.ms, m.node ≠ node) (hl : v.ms.length < 8) (hL : v.L (node - 1) < life) (he : v.e ≠ 4294967295) :
      Step v ⟨v.e + 1, v.ms ++ [⟨node, life, false⟩], upd v.L (node - 1) life⟩ true
  | less (i : Nat) (hi : i < v.ms.length) (hr : 0 < ready (v.ms.eraseIdx i)) (he : v.e ≠ 4294967295) : Step v ⟨v.e + 1, v.ms.eraseIdx i, v.L⟩ true
  | settle (i : Nat) (hi : i < v.ms.length) : Step v ⟨v.e, v.ms.set i { v.ms[i] with ready := true }, v.L⟩ true
theorem step_apply (v : VS) (kind node life : Nat) (ep : Int) : Step v (applyV v kind node life ep).1 (applyV v kind node life ep).2 := by
  unfold applyV
  split
  · exact .same _
  split
  · unfold addV
    split
    · rename_i h
      split
      · exact .same _
      · rename_i he
        unfold may at h
        obtain ⟨a, b, c, d, e, f, g⟩ := of_decide_eq_true h
        exact .more node life a b d (fun m hm hx => by
          obtain ⟨k, hk, rfl⟩ := List.mem_iff_getElem.1 hm
          exact atN_none e k hk hx) f g he
    · exact .same _
  split
  · exact .same _
  · rename_i i hat
    obtain ⟨hi, h1, h2⟩ := atN_some hat
    split
    · exact .same _
    · rename_i m hm
      rw [List.getElem?_eq_getElem hi] at hm
      injection hm with hm
      subst hm
      split
      · exact .same _
      split
      · unfold removeV
        split
        · exact .same _
        · unfold next
          split
          · exact .same _
          · exact .less i hi (by omega) (by assumption)
      split
      · exact .settle i hi
      · exact .same _
theorem WF.step {v v' : VS} {b : Bool} (h : WF v) (hs : Step v v' b) : WF v' := by
  cases hs with
  | same => exact h
  | more node life h1 h2 h3 hat hl hL he =>
    refine ⟨by simp; omega, ?_, ?_, ?_, by have := h.e0; simp; omega, by have := h.e1; simp; omega, ?_⟩
    · simp only [List.map_append, List.map_cons, List.map_nil]
      rw [List.nodup_append]
      refine ⟨h.nd, by simp, ?_⟩
      intro a ha b hb
      obtain ⟨m, hm, rfl⟩ := List.mem_map.1 ha
      simp at hb
      subst hb
      exact hat m hm
    · intro m hm
      simp only [List.mem_append, List.mem_singleton] at hm
      rcases hm with hm | rfl
      · obtain ⟨a, b, c, d⟩ := h.mem m hm
        refine ⟨a, b, c, ?_⟩
        have := hat m hm
        simp only [upd]
        rw [if_neg (by omega)]
        exact d
      · exact ⟨h1, h2, by simp; omega, by simp [upd]⟩
    · have := h.rdy
      unfold ready at *
      rw [List.filter_append, List.length_append]; omega
    · intro k
      simp only [upd]
      split
      · omega
      · exact h.L k
  | less i hi hr he =>
    refine ⟨by have := List.length_eraseIdx_of_lt hi; have := h.len; simp only; omega, ?_, ?_, hr, by have := h.e0; simp; omega, by have := h.e1; simp; omega, h.L⟩
    · exact List.Sublist.nodup ((List.eraseIdx_sublist _ _).map _) h.nd
    · intro m hm
      exact h.mem m (List.mem_of_mem_eraseIdx hm)
  | settle i hi =>
    refine ⟨by simpa using h.len, ?_, ?_, ?_, h.e0, h.e1, h.L⟩
    · show ((v.ms.set i { v.ms[i] with ready := true }).map (·.node)).Nodup
      rw [map_set_node hi { v.ms[i] with ready := true } rfl]
      exact h.nd
    · intro m hm
      rcases List.mem_or_eq_of_mem_set hm with hm | rfl
      · exact h.mem m hm
      · exact h.mem v.ms[i] (by simp)
    · exact ready_pos (List.mem_set hi _) rfl
end View
end Go.Proofs.YtpjkdcbogjigeaaGreat
