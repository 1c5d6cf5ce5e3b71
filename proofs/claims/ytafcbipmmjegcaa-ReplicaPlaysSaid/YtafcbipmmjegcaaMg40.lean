/- Texts of this claim: VC, VD. -/
import Derived.Test.YtafcbipmmjegcaaMg15
import Derived.Test.YtafcbipmmjegcaaMg39
namespace Go.Proofs.Ytafcbipmmjegcaa.Vm
open Go Go.RowKit
set_option maxRecDepth 100000
noncomputable abbrev kVC0 (l : List Nat) : It := .code (sub (bd Try.f59) l)
noncomputable abbrev wVC1 (Γ : Ctx) (Q : T → Obs → Glb → Prop) : List It → S → Prop := TWk Try.prog Γ (fin Try.prog Try.f59 [] Q)
namespace X5
open View (Mem VS atN atI ready)
theorem add_no (Γ : Ctx) (b1 b2 b3 : Nat) (v : VS) (k n l : Nat) (e q : Int) (Q : T → Obs → Glb → Prop) (hQ : ∀ r, r = vwR (v, false) → Q r [] none_) :
    wVC1 Γ Q [kVC0 [1,1]] ⟨frame 79 [(2, .ptr 0 b1 0), (3, .ptr 1 b2 0), (4, .ptr 2 b3 0), (6, bool false)], obsA b1 b2 b3 v k n l e q, none_⟩ := by
  let HH : Nat → Nat → Hint := fun  | _, _ => .no
  exact run_sound ⟨HH, [((0, 4), ([2,3,4], 3))], fun | 2 => some ⟨[], [], .take true [0,1,2,3,4,5] (.one 6 (.take true [7,8,9,10,11,12,13,14,15,16,17,18,19,20,21,22,23,24,25] .done))⟩ | 4 => some ⟨[], [11,16], .take true [0,1,2,4,5,6,7,8] (.three 3 9 15 (.two 9 15 (.two 10 15 (.two 11 15 (.take false [12,13,14] (.one 15 (.one 16 (.take false [17] .done)))) (.one 11 (.take false [12,13,14] (.one 16 (.take false [17] .done))))) (.one 10 (.one 11 (.take false [12,13,14] (.one 16 (.take false [17] .done)))))) (.one 9 (.one 10 (.one 11 (.take false [12,13,14] (.one 16 (.take false [17] .done))))))) (.two 3 15 (.two 10 15 (.two 11 15 (.take false [12,13,14] (.one 15 (.one 16 (.take false [17] .done)))) (.one 11 (.take false [12,13,14] (.one 16 (.take false [17] .done))))) (.one 10 (.one 11 (.take false [12,13,14] (.one 16 (.take false [17] .done)))))) (.one 3 (.one 10 (.one 11 (.take false [12,13,14] (.one 16 (.take false [17] .done))))))) (.two 3 9 (.one 9 (.one 10 (.one 11 (.take false [12,13,14] (.one 16 (.take false [17] .done)))))) (.one 3 (.one 10 (.one 11 (.take false [12,13,14] (.one 16 (.take false [17] .done))))))))⟩ | _ => none⟩ 400 (by kernel_rfl) (Yb b1 (Yk 10 b3 (Yb b3 (hQ (T.tup [T.agg (viewC v), bool false]) rfl))))
theorem add_yes (Γ : Ctx) (b1 b2 b3 : Nat) (v : VS) (hv : vB v) (hl : lim v.ms) (k n l : Nat) (e q : Int) (hn : 1 ≤ n ∧ n ≤ 8) (hl2 : 1 ≤ l ∧ l ≤ 200) (Q : T → Obs → Glb → Prop) (hQ : ∀ r, r = vwR (View.addV v n l) → Q r [] none_) :
    wVC1 Γ Q [kVC0 [1,1]] ⟨frame 79 [(2, .ptr 0 b1 0), (3, .ptr 1 b2 0), (4, .ptr 2 b3 0), (6, bool true)], obsA b1 b2 b3 v k n l e q, none_⟩ := by
  refine run_sound (⟨fun | 2, 6 => told (int (atI v.ms n)) [] [] | 2, 23 => .res (u8 (v.L (n - 1))) | _, _ => .no, [((0, 4), ([2,3,4], 3))], fun | 2 => some ⟨[0,1], [], .take true [0,1,2,3,4,5] (.one 6 (.take true [7,8,9,10,11,12,13,14,15,16,17,18,19,20,21,22,23,24,25] .done))⟩ | 4 => some ⟨[], [11,16], .take true [0,1,2,4,5,6,7,8] (.three 3 9 15 (.two 9 15 (.two 10 15 (.two 11 15 (.take false [12,13,14] (.one 15 (.one 16 (.take false [17] .done)))) (.one 11 (.take false [12,13,14] (.one 16 (.take false [17] .done))))) (.one 10 (.one 11 (.take false [12,13,14] (.one 16 (.take false [17] .done)))))) (.one 9 (.one 10 (.one 11 (.take false [12,13,14] (.one 16 (.take false [17] .done))))))) (.two 3 15 (.two 10 15 (.two 11 15 (.take false [12,13,14] (.one 15 (.one 16 (.take false [17] .done)))) (.one 11 (.take false [12,13,14] (.one 16 (.take false [17] .done))))) (.one 10 (.one 11 (.take false [12,13,14] (.one 16 (.take false [17] .done)))))) (.one 3 (.one 10 (.one 11 (.take false [12,13,14] (.one 16 (.take false [17] .done))))))) (.two 3 9 (.one 9 (.one 10 (.one 11 (.take false [12,13,14] (.one 16 (.take false [17] .done)))))) (.one 3 (.one 10 (.one 11 (.take false [12,13,14] (.one 16 (.take false [17] .done))))))))⟩ | _ => none⟩) 400 (B := b1 = b1 ∧ b2 = b2 ∧ TCalls Try.prog 58 [T.agg [u32 (VS.e v), T.sl 3 (mems (VS.ms v)), u8 (VS.L v 0), u8 (VS.L v 1), u8 (VS.L v 2), u8 (VS.L v 3), u8 (VS.L v 4), u8 (VS.L v 5), u8 (VS.L v 6), u8 (VS.L v 7)], u8 n] [] (fun x => none) (callPost (Hint.call false Unit (fun x => True) [] false (fun x => int (atI (VS.ms v) n)) (fun x => []) fun x => none_)) ∧ ∀ (a : Unit), True → bsplit (decide (atI (VS.ms v) n ≥ (0 : Int))) (b1 = b1 ∧ (10 = nat_lit 10 ∧ List.all [u32 (VS.e v), T.sl 3 (mems (VS.ms v)), u8 (VS.L v 0), u8 (VS.L v 1), u8 (VS.L v 2), u8 (VS.L v 3), u8 (VS.L v 4), u8 (VS.L v 5), u8 (VS.L v 6), u8 (VS.L v 7)] T.one = true) ∧ b3 = b3 ∧ 0 + nat_lit 10 ≤ 10 ∧ b3 = b3 ∧ Q (T.tup [T.agg [u32 (VS.e v), T.sl 3 (mems (VS.ms v)), u8 (VS.L v 0), u8 (VS.L v 1), u8 (VS.L v 2), u8 (VS.L v 3), u8 (VS.L v 4), u8 (VS.L v 5), u8 (VS.L v 6), u8 (VS.L v 7)], bool false]) [] fun x => none) (b1 = b1 ∧ bsplit (decide ((↑(List.length (mems (VS.ms v))) : Int) ≥ (8 : Int))) (b1 = b1 ∧ (10 = nat_lit 10 ∧ List.all [u32 (VS.e v), T.sl 3 (mems (VS.ms v)), u8 (VS.L v 0), u8 (VS.L v 1), u8 (VS.L v 2), u8 (VS.L v 3), u8 (VS.L v 4), u8 (VS.L v 5), u8 (VS.L v 6), u8 (VS.L v 7)] T.one = true) ∧ b3 = b3 ∧ 0 + nat_lit 10 ≤ 10 ∧ b3 = b3 ∧ Q (T.tup [T.agg [u32 (VS.e v), T.sl 3 (mems (VS.ms v)), u8 (VS.L v 0), u8 (VS.L v 1), u8 (VS.L v 2), u8 (VS.L v 3), u8 (VS.L v 4), u8 (VS.L v 5), u8 (VS.L v 6), u8 (VS.L v 7)], bool false]) [] fun x => none) (b2 = b2 ∧ b2 = b2 ∧ ((0 : Int) ≤ IntKind.wrap IntKind.u8 ((↑n : Int) - (1 : Int)) ∧ IntKind.wrap IntKind.u8 ((↑n : Int) - (1 : Int)) < (↑(8 : Nat) : Int)) ∧ b1 = b1 ∧ (List.drop (2 + Int.toNat (IntKind.wrap IntKind.u8 ((↑n : Int) - (1 : Int))) * nat_lit 1) [u32 (VS.e v), T.sl 3 (mems (VS.ms v)), u8 (VS.L v 0), u8 (VS.L v 1), u8 (VS.L v 2), u8 (VS.L v 3), u8 (VS.L v 4), u8 (VS.L v 5), u8 (VS.L v 6), u8 (VS.L v 7)])[0]? = some (u8 (↑(VS.L v (n - 1)) : Int)) ∧ bsplit (decide ((↑l : Int) ≤ (↑(VS.L v (n - 1)) : Int))) (b1 = b1 ∧ (10 = nat_lit 10 ∧ List.all [u32 (VS.e v), T.sl 3 (mems (VS.ms v)), u8 (VS.L v 0), u8 (VS.L v 1), u8 (VS.L v 2), u8 (VS.L v 3), u8 (VS.L v 4), u8 (VS.L v 5), u8 (VS.L v 6), u8 (VS.L v 7)] T.one = true) ∧ b3 = b3 ∧ 0 + nat_lit 10 ≤ 10 ∧ b3 = b3 ∧ Q (T.tup [T.agg [u32 (VS.e v), T.sl 3 (mems (VS.ms v)), u8 (VS.L v 0), u8 (VS.L v 1), u8 (VS.L v 2), u8 (VS.L v 3), u8 (VS.L v 4), u8 (VS.L v 5), u8 (VS.L v 6), u8 (VS.L v 7)], bool false]) [] fun x => none) (wVC1 Γ Q [It.code (sub (bd Try.f59) [1, 1, 1])] { fr := frame 79 [(2, T.ptr 0 b1 0), (3, T.ptr 1 b2 0), (4, T.ptr 2 b3 0)], ob := [(b1, Ob.cells [u32 (VS.e v), T.sl 3 (mems (VS.ms v)), u8 (VS.L v 0), u8 (VS.L v 1), u8 (VS.L v 2), u8 (VS.L v 3), u8 (VS.L v 4), u8 (VS.L v 5), u8 (VS.L v 6), u8 (VS.L v 7)]), (b2, Ob.cells [u8 k, u8 n, u8 l, u32 e, u32 q]), (b3, Ob.cells [u32 (0 : Int), T.v (Value.slice none 0 0), u8 (0 : Int), u8 (0 : Int), u8 (0 : Int), u8 (0 : Int), u8 (0 : Int), u8 (0 : Int), u8 (0 : Int), u8 (0 : Int)])], gl := fun x => none })))) (by kernel_rfl) ?_
  have hno : View.may v n l = false → Q (vwR (v, false)) [] none_ := fun h => hQ _ (by rw [View.addV, if_neg (by rw [h]; simp)])
  have hno2 : v.e = 4294967295 → View.may v n l = true → Q (vwR (v, false)) [] none_ := fun h hm => hQ _ (by rw [View.addV, if_pos hm, if_pos h])
  have hw : IntKind.wrap .u8 ((n : Int) - 1) = ((n - 1 : Nat) : Int) := by rw [IntWalk.u8_in _ (by omega)]; omega
  repeat' (first | exact rfl | exact Nat.le_of_ble_eq_true rfl | refine And.intro ?_ ?_ | intro _ | refine bsplit_mk (fun _ => ?_) (fun _ => ?_))
  · exact at_any v n hl _ (fun r h => told_post h)
  · rename_i h
    exact hno (by
      rw [View.may, decide_eq_false_iff_not]
      rintro ⟨_, _, _, _, h5, _⟩
      simp [atI, h5] at h)
  · rename_i h
    exact hno (by
      rw [View.may, decide_eq_false_iff_not]
      rintro ⟨_, _, _, _, _, h6, _⟩
      rw [mems_len] at h
      simp at h; omega)
  · omega
  · omega
  · rw [hw]
    have h8 : n = 1 ∨ n = 2 ∨ n = 3 ∨ n = 4 ∨ n = 5 ∨ n = 6 ∨ n = 7 ∨ n = 8 := by omega
    rcases h8 with rfl | rfl | rfl | rfl | rfl | rfl | rfl | rfl <;> rfl
  · rename_i h
    exact hno (by
      rw [View.may, decide_eq_false_iff_not]
      rintro ⟨_, _, _, _, _, _, h7⟩
      simp at h; omega)
  · rename_i h6 h5 h7
    have hm : View.may v n l = true := by
      rw [View.may, decide_eq_true_eq]
      refine ⟨hn.1, hn.2, hl2.1, hl2.2, ?_, ?_, ?_⟩
      · cases hx : atN v.ms n with
        | none => rfl
        | some x => simp [atI, hx] at h6
      · rw [mems_len] at h5; simp at h5; omega
      · simp at h7; omega
    by_cases he : v.e = 4294967295
    · have hq := hno2 he
      by_cases hne : v.ms = []
      · exact add_core0_max Γ b1 b2 b3 v hv hl hne k n l hn e q he Q (fun r h => h ▸ hq hm)
      · exact add_core_max Γ b1 b2 b3 v hv hl hne k n l hn e q he Q (fun r h => h ▸ hq hm)
    · have hq : ∀ r, r = vwR (⟨v.e + 1, v.ms ++ [⟨n, l, false⟩], View.upd v.L (n - 1) l⟩, true) → Q r [] none_ := fun r h => hQ r (by rw [h, View.addV, if_pos hm, if_neg he])
      by_cases hne : v.ms = []
      · exact add_core0 Γ b1 b2 b3 v hv hl hne k n l hn e q he Q hq
      · exact add_core Γ b1 b2 b3 v hv hl hne k n l hn e q he Q hq
theorem add_any (v : VS) (hv : vB v) (hl : lim v.ms) (k n l : Nat) (e q : Int) (Q : T → Obs → Glb → Prop) (hQ : ∀ r, r = vwR (View.addV v n l) → Q r [] none_) : TCalls Try.prog 59 [.agg (viewC v), .agg (vcmd k n l e q)] [] none_ Q := by
  refine TCalls.of Try.func59 rfl (CanCall.of Try.func59 rfl (by decide)) [] fun Γ => ?_
  refine run_sound (⟨fun  | _, _ => .no, [((0, 2), ([2,3,4,6], 3))], fun | 2 => some ⟨[], [], .take true [0,1,2,3,4,5] (.one 6 (.take true [7,8,9,10,11,12,13,14,15,16,17,18,19,20,21,22,23,24,25] .done))⟩ | 4 => some ⟨[], [11,16], .take true [0,1,2,4,5,6,7,8] (.three 3 9 15 (.two 9 15 (.two 10 15 (.two 11 15 (.take false [12,13,14] (.one 15 (.one 16 (.take false [17] .done)))) (.one 11 (.take false [12,13,14] (.one 16 (.take false [17] .done))))) (.one 10 (.one 11 (.take false [12,13,14] (.one 16 (.take false [17] .done)))))) (.one 9 (.one 10 (.one 11 (.take false [12,13,14] (.one 16 (.take false [17] .done))))))) (.two 3 15 (.two 10 15 (.two 11 15 (.take false [12,13,14] (.one 15 (.one 16 (.take false [17] .done)))) (.one 11 (.take false [12,13,14] (.one 16 (.take false [17] .done))))) (.one 10 (.one 11 (.take false [12,13,14] (.one 16 (.take false [17] .done)))))) (.one 3 (.one 10 (.one 11 (.take false [12,13,14] (.one 16 (.take false [17] .done))))))) (.two 3 9 (.one 9 (.one 10 (.one 11 (.take false [12,13,14] (.one 16 (.take false [17] .done)))))) (.one 3 (.one 10 (.one 11 (.take false [12,13,14] (.one 16 (.take false [17] .done))))))))⟩ | _ => none⟩) 400 (B := ∀ (b b_1 b_2 : Nat), b_1 = b_1 ∧ bsplit (decide ((↑n : Int) ≥ (1 : Int))) (b_1 = b_1 ∧ bsplit (decide ((↑n : Int) ≤ (8 : Int))) (b_1 = b_1 ∧ bsplit (decide ((↑l : Int) ≥ (1 : Int))) (b_1 = b_1 ∧ wVC1 Γ Q [It.code (sub (bd Try.f59) [1, 1])] { fr := frame 79 [(2, T.ptr 0 b 0), (3, T.ptr 1 b_1 0), (4, T.ptr 2 b_2 0), (6, bool (decide ((↑l : Int) ≤ (200 : Int))))], ob := [(b, Ob.cells [u32 (VS.e v), T.sl 3 (mems (VS.ms v)), u8 (VS.L v 0), u8 (VS.L v 1), u8 (VS.L v 2), u8 (VS.L v 3), u8 (VS.L v 4), u8 (VS.L v 5), u8 (VS.L v 6), u8 (VS.L v 7)]), (b_1, Ob.cells [u8 k, u8 n, u8 l, u32 e, u32 q]), (b_2, Ob.cells [u32 (0 : Int), T.v (Value.slice none 0 0), u8 (0 : Int), u8 (0 : Int), u8 (0 : Int), u8 (0 : Int), u8 (0 : Int), u8 (0 : Int), u8 (0 : Int), u8 (0 : Int)])], gl := fun x => none }) (wVC1 Γ Q [It.code (sub (bd Try.f59) [1, 1])] { fr := frame 79 [(2, T.ptr 0 b 0), (3, T.ptr 1 b_1 0), (4, T.ptr 2 b_2 0), (6, bool false)], ob := [(b, Ob.cells [u32 (VS.e v), T.sl 3 (mems (VS.ms v)), u8 (VS.L v 0), u8 (VS.L v 1), u8 (VS.L v 2), u8 (VS.L v 3), u8 (VS.L v 4), u8 (VS.L v 5), u8 (VS.L v 6), u8 (VS.L v 7)]), (b_1, Ob.cells [u8 k, u8 n, u8 l, u32 e, u32 q]), (b_2, Ob.cells [u32 (0 : Int), T.v (Value.slice none 0 0), u8 (0 : Int), u8 (0 : Int), u8 (0 : Int), u8 (0 : Int), u8 (0 : Int), u8 (0 : Int), u8 (0 : Int), u8 (0 : Int)])], gl := fun x => none })) (wVC1 Γ Q [It.code (sub (bd Try.f59) [1, 1])] { fr := frame 79 [(2, T.ptr 0 b 0), (3, T.ptr 1 b_1 0), (4, T.ptr 2 b_2 0), (6, bool false)], ob := [(b, Ob.cells [u32 (VS.e v), T.sl 3 (mems (VS.ms v)), u8 (VS.L v 0), u8 (VS.L v 1), u8 (VS.L v 2), u8 (VS.L v 3), u8 (VS.L v 4), u8 (VS.L v 5), u8 (VS.L v 6), u8 (VS.L v 7)]), (b_1, Ob.cells [u8 k, u8 n, u8 l, u32 e, u32 q]), (b_2, Ob.cells [u32 (0 : Int), T.v (Value.slice none 0 0), u8 (0 : Int), u8 (0 : Int), u8 (0 : Int), u8 (0 : Int), u8 (0 : Int), u8 (0 : Int), u8 (0 : Int), u8 (0 : Int)])], gl := fun x => none })) (wVC1 Γ Q [It.code (sub (bd Try.f59) [1, 1])] { fr := frame 79 [(2, T.ptr 0 b 0), (3, T.ptr 1 b_1 0), (4, T.ptr 2 b_2 0), (6, bool false)], ob := [(b, Ob.cells [u32 (VS.e v), T.sl 3 (mems (VS.ms v)), u8 (VS.L v 0), u8 (VS.L v 1), u8 (VS.L v 2), u8 (VS.L v 3), u8 (VS.L v 4), u8 (VS.L v 5), u8 (VS.L v 6), u8 (VS.L v 7)]), (b_1, Ob.cells [u8 k, u8 n, u8 l, u32 e, u32 q]), (b_2, Ob.cells [u32 (0 : Int), T.v (Value.slice none 0 0), u8 (0 : Int), u8 (0 : Int), u8 (0 : Int), u8 (0 : Int), u8 (0 : Int), u8 (0 : Int), u8 (0 : Int), u8 (0 : Int)])], gl := fun x => none })) (by kernel_rfl) ?_
  have hno : ∀ b1 b2 b3, (¬ (1 ≤ n ∧ n ≤ 8 ∧ 1 ≤ l ∧ l ≤ 200)) → wVC1 Γ Q [kVC0 [1,1]] ⟨frame 79 [(2, .ptr 0 b1 0), (3, .ptr 1 b2 0), (4, .ptr 2 b3 0), (6, bool false)], obsA b1 b2 b3 v k n l e q, none_⟩ := fun b1 b2 b3 h => add_no Γ b1 b2 b3 v k n l e q Q (fun r hr => hQ r (by
    rw [hr, View.addV, if_neg]
    rw [View.may, decide_eq_true_eq]
    exact fun ⟨g1, g2, g3, g4, _⟩ => h ⟨g1, g2, g3, g4⟩))
  refine fun b1 b2 b3 => ⟨rfl, bsplit_mk (fun h1 => ⟨rfl, bsplit_mk (fun h2 => ⟨rfl, bsplit_mk (fun h3 => ⟨rfl, ?_⟩) (fun h3 => hno b1 b2 b3 ?_)⟩) (fun h2 => hno b1 b2 b3 ?_)⟩) (fun h1 => hno b1 b2 b3 ?_)⟩
  · simp only [decide_eq_true_eq] at h1 h2 h3
    by_cases h4 : (l : Int) ≤ 200
    · rw [decide_eq_true h4]
      exact add_yes Γ b1 b2 b3 v hv hl k n l e q (by omega) (by omega) Q hQ
    · rw [decide_eq_false h4]
      exact hno b1 b2 b3 (by omega)
  · simp only [decide_eq_false_iff_not, decide_eq_true_eq] at h1 h2 h3; omega
  · simp only [decide_eq_false_iff_not, decide_eq_true_eq] at h1 h2; omega
  · simp only [decide_eq_false_iff_not, decide_eq_true_eq] at h1; omega
end X5
end Go.Proofs.Ytafcbipmmjegcaa.Vm
namespace Go.Proofs.Ytafcbipmmjegcaa.Vm
open Go Go.RowKit
set_option maxRecDepth 100000
namespace X5
open View (Mem VS atN atI ready)
def memAt (v : VS) (n : Nat) : Mem := (v.ms[(atI v.ms n).toNat]?).getD ⟨0, 0, false⟩
theorem at_pos {v : VS} {n : Nat} (h : decide (atI v.ms n < 0) = false) : ∃ i : Nat, atN v.ms n = some i ∧ atI v.ms n = i ∧ i < v.ms.length ∧ v.ms[i]? = some (memAt v n) := by
  cases hx : atN v.ms n with
  | none => simp [atI, hx] at h
  | some i =>
    obtain ⟨hi, _⟩ := View.atN_some hx
    have e : atI v.ms n = i := by simp [atI, hx]
    refine ⟨i, rfl, e, hi, ?_⟩
    rw [memAt, e, Int.toNat_natCast, List.getElem?_eq_getElem hi, Option.getD_some]
theorem set_flat (l : List Mem) (i : Nat) (hi : i < l.length) (R : List T) : (flat l ++ R).take (0 + i * 3 + 2) ++ [bool true] ++ (flat l ++ R).drop (0 + i * 3 + 2 + 1) = flat (l.set i { l[i] with ready := true }) ++ R := by
  have hl : l.take i ++ l[i] :: l.drop (i + 1) = l := by rw [← List.drop_eq_getElem_cons hi, List.take_append_drop]
  have ht : (l.take i).length = i := by rw [List.length_take]; omega
  have hf : (flat (l.take i)).length = i * 3 := by rw [flat_len, ht]
  have e1 : flat l ++ R = flat (l.take i) ++ (u8 l[i].node :: u8 l[i].life :: bool l[i].ready :: (flat (l.drop (i + 1)) ++ R)) := by
    have : flat l = flat (l.take i ++ l[i] :: l.drop (i + 1)) := by rw [hl]
    rw [this, flat_append, List.append_assoc]; rfl
  have e2 : flat (l.set i { l[i] with ready := true }) ++ R = flat (l.take i) ++ (u8 l[i].node :: u8 l[i].life :: bool true :: (flat (l.drop (i + 1)) ++ R)) := by
    rw [List.set_eq_take_append_cons_drop, if_pos hi, flat_append]; simp [flat, memC]
  rw [e1, e2, show 0 + i * 3 + 2 = (flat (l.take i)).length + 2 by omega, List.take_append, List.take_of_length_le (by omega), show (flat (l.take i)).length + 2 + 1 = (flat (l.take i)).length + 3 by omega, List.drop_append, List.drop_of_length_le (show (flat (l.take i)).length ≤ (flat (l.take i)).length + 3 by omega)]
  simp
theorem apply_end (Γ : Ctx) (b1 b2 b3 : Nat) (v : VS) (ms : List Mem) (k n l : Nat) (e q : Int) (Q : T → Obs → Glb → Prop) (hQ : ∀ r, r = vwR (⟨v.e, ms, v.L⟩, true) → Q r [] none_) :
    TWk Try.prog Γ (fin Try.prog Try.f24 [] Q) [.code (sub (bd Try.f24) [1, 1, 0, 0, 1, 1, 1, 1, 1, 1, 1, 1, 1, 0, 1, 1]), .blk 0, .code (sub (bd Try.f24) [1, 1, 1])] ⟨frame 75 [(2, .ptr 0 b1 0), (4, .ptr 2 b3 0), (7, .sl 3 (mems ms))], [(b1, .cells (viewC v)), (b2, .cells (vcmd k n l e q)), (b3, .cells zc), (0, .gone)], none_⟩ := by
  refine run_sound (⟨fun  | _, _ => .no, [], fun | 15 => some ⟨[], [], .take true [0,1,2,3,4,5,6,7,8,9,10] (.one 11 (.take true [12] .done))⟩ | _ => none⟩) 400 (B := (1 = nat_lit 1 ∧ List.all [T.sl 3 (mems ms)] T.one = true) ∧ b1 = b1 ∧ 1 + nat_lit 1 ≤ 10 ∧ b1 = b1 ∧ (10 = nat_lit 10 ∧ List.all [u32 (VS.e v), T.sl 3 (mems ms), u8 (VS.L v 0), u8 (VS.L v 1), u8 (VS.L v 2), u8 (VS.L v 3), u8 (VS.L v 4), u8 (VS.L v 5), u8 (VS.L v 6), u8 (VS.L v 7)] T.one = true) ∧ b3 = b3 ∧ 0 + nat_lit 10 ≤ 10 ∧ b3 = b3 ∧ Q (T.tup [T.agg [u32 (VS.e v), T.sl 3 (mems ms), u8 (VS.L v 0), u8 (VS.L v 1), u8 (VS.L v 2), u8 (VS.L v 3), u8 (VS.L v 4), u8 (VS.L v 5), u8 (VS.L v 6), u8 (VS.L v 7)], bool true]) [] fun x => none) (by kernel_rfl) ?_
  repeat' (first | exact rfl | exact Nat.le_of_ble_eq_true rfl | refine And.intro ?_ ?_ | intro _ | refine bsplit_mk (fun _ => ?_) (fun _ => ?_))
  exact hQ _ rfl
theorem nk {k : Nat} {c : Nat} (h : ((k : Int) == (c : Int)) = false) : k ≠ c := fun e => by simp [e] at h
theorem nk2 {a b : Nat} : ((a : Int) == (b : Int)) = (a == b) := by rw [Bool.eq_iff_iff]; simp only [beq_iff_eq]; omega
theorem room_fit2 (l : List Mem) (cap i : Nat) (hi : i < l.length) (h : l.length ≤ cap) : 0 + i * 3 + 2 + 1 ≤ (flat l ++ List.replicate ((cap - l.length) * 3) T.und).length := by rw [room_len l cap h]; omega
theorem applyV_of {v : VS} {k n l i : Nat} {e : Int} {m : Mem} (h0 : k ≠ 0) (h1 : k ≠ 1) (ha : atN v.ms n = some i) (hm : v.ms[i]? = some m) : View.applyV v k n l e = if m.life ≠ l then (v, false) else if k = 2 then View.removeV v i else if k = 3 then (⟨v.e, v.ms.set i { m with ready := true }, v.L⟩, true) else (v, decide (k = 4 ∧ e = v.e)) := by
  simp only [View.applyV, if_neg h0, if_neg h1, ha, hm]
theorem apply_any (v : VS) (hv : vB v) (hl : lim v.ms) (k n l : Nat) (e q : Int) (Q : T → Obs → Glb → Prop) (hQ : ∀ r, r = vwR (View.applyV v k n l e) → Q r [] none_) : TCalls Try.prog 24 [.agg (viewC v), .agg (vcmd k n l e q)] [] none_ Q := by
  refine TCalls.of Try.func24 rfl (CanCall.of Try.func24 rfl (by decide)) [] fun Γ => ?_
  refine run_sound (⟨fun | 1, 3 => told (int (atI v.ms n)) [] [] | 5, 2 => told (vwR (View.addV v n l)) [] [] | 6, 6 => .res (.agg (memC (memAt v n))) | 9, 2 => told (vwR (View.removeV v (atI v.ms n).toNat)) [] [] | 11, 2 => cloneH v.ms | _, _ => .no, [((0, 13), ([2, 4, 7], 4))], fun | 6 => some ⟨[0, 1], [], .take true [0,1,2,3,4,5,6,7,8,9,10,11,12,13] .done⟩ | 15 => some ⟨[0, 1], [], .take true [0,1,2,3,4,5,6,7,8,9,10] (.one 11 (.take true [12] .done))⟩ | _ => none⟩) 400 (B := ∀ (b b_1 b_2 : Nat), b = b ∧ b_1 = b_1 ∧ TCalls Try.prog 58 [T.agg [u32 (VS.e v), T.sl 3 (mems (VS.ms v)), u8 (VS.L v 0), u8 (VS.L v 1), u8 (VS.L v 2), u8 (VS.L v 3), u8 (VS.L v 4), u8 (VS.L v 5), u8 (VS.L v 6), u8 (VS.L v 7)], u8 n] [] (fun x => none) (callPost (Hint.call false Unit (fun x => True) [] false (fun x => int (atI (VS.ms v) n)) (fun x => []) fun x => none_)) ∧ ∀ (a : Unit), True → b_1 = b_1 ∧ bsplit ((↑k : Int) == (0 : Int)) (b = b ∧ (10 = nat_lit 10 ∧ List.all [u32 (VS.e v), T.sl 3 (mems (VS.ms v)), u8 (VS.L v 0), u8 (VS.L v 1), u8 (VS.L v 2), u8 (VS.L v 3), u8 (VS.L v 4), u8 (VS.L v 5), u8 (VS.L v 6), u8 (VS.L v 7)] T.one = true) ∧ b_2 = b_2 ∧ 0 + nat_lit 10 ≤ 10 ∧ b_2 = b_2 ∧ Q (T.tup [T.agg [u32 (VS.e v), T.sl 3 (mems (VS.ms v)), u8 (VS.L v 0), u8 (VS.L v 1), u8 (VS.L v 2), u8 (VS.L v 3), u8 (VS.L v 4), u8 (VS.L v 5), u8 (VS.L v 6), u8 (VS.L v 7)], bool true]) [] fun x => none) (b_1 = b_1 ∧ bsplit ((↑k : Int) == (1 : Int)) (b = b ∧ b_1 = b_1 ∧ TCalls Try.prog 59 [T.agg [u32 (VS.e v), T.sl 3 (mems (VS.ms v)), u8 (VS.L v 0), u8 (VS.L v 1), u8 (VS.L v 2), u8 (VS.L v 3), u8 (VS.L v 4), u8 (VS.L v 5), u8 (VS.L v 6), u8 (VS.L v 7)], T.agg [u8 k, u8 n, u8 l, u32 e, u32 q]] [] (fun x => none) (callPost (Hint.call false Unit (fun x => True) [] false (fun x => vwR (View.addV v n l)) (fun x => []) fun x => none_)) ∧ ∀ (a : Unit), True → (10 = nat_lit 10 ∧ List.all [u32 (VS.e (Prod.fst (View.addV v n l))), T.sl 3 (mems (VS.ms (Prod.fst (View.addV v n l)))), u8 (VS.L (Prod.fst (View.addV v n l)) 0), u8 (VS.L (Prod.fst (View.addV v n l)) 1), u8 (VS.L (Prod.fst (View.addV v n l)) 2), u8 (VS.L (Prod.fst (View.addV v n l)) 3), u8 (VS.L (Prod.fst (View.addV v n l)) 4), u8 (VS.L (Prod.fst (View.addV v n l)) 5), u8 (VS.L (Prod.fst (View.addV v n l)) 6), u8 (VS.L (Prod.fst (View.addV v n l)) 7)] T.one = true) ∧ b_2 = b_2 ∧ 0 + nat_lit 10 ≤ 10 ∧ b_2 = b_2 ∧ Q (T.tup [T.agg [u32 (VS.e (Prod.fst (View.addV v n l))), T.sl 3 (mems (VS.ms (Prod.fst (View.addV v n l)))), u8 (VS.L (Prod.fst (View.addV v n l)) 0), u8 (VS.L (Prod.fst (View.addV v n l)) 1), u8 (VS.L (Prod.fst (View.addV v n l)) 2), u8 (VS.L (Prod.fst (View.addV v n l)) 3), u8 (VS.L (Prod.fst (View.addV v n l)) 4), u8 (VS.L (Prod.fst (View.addV v n l)) 5), u8 (VS.L (Prod.fst (View.addV v n l)) 6), u8 (VS.L (Prod.fst (View.addV v n l)) 7)], bool (Prod.snd (View.addV v n l))]) [] fun x => none) (bsplit (decide (atI (VS.ms v) n < (0 : Int))) (b = b ∧ (10 = nat_lit 10 ∧ List.all [u32 (VS.e v), T.sl 3 (mems (VS.ms v)), u8 (VS.L v 0), u8 (VS.L v 1), u8 (VS.L v 2), u8 (VS.L v 3), u8 (VS.L v 4), u8 (VS.L v 5), u8 (VS.L v 6), u8 (VS.L v 7)] T.one = true) ∧ b_2 = b_2 ∧ 0 + nat_lit 10 ≤ 10 ∧ b_2 = b_2 ∧ Q (T.tup [T.agg [u32 (VS.e v), T.sl 3 (mems (VS.ms v)), u8 (VS.L v 0), u8 (VS.L v 1), u8 (VS.L v 2), u8 (VS.L v 3), u8 (VS.L v 4), u8 (VS.L v 5), u8 (VS.L v 6), u8 (VS.L v 7)], bool false]) [] fun x => none) (b = b ∧ (0 : Int) ≤ atI (VS.ms v) n ∧ (mems (VS.ms v))[Int.toNat (atI (VS.ms v) n)]? = some (T.agg [u8 (Mem.node (memAt v n)), u8 (Mem.life (memAt v n)), bool (Mem.ready (memAt v n))]) ∧ b_1 = b_1 ∧ bsplit ((↑(Mem.life (memAt v n)) : Int) != (↑l : Int)) (b = b ∧ (10 = nat_lit 10 ∧ List.all [u32 (VS.e v), T.sl 3 (mems (VS.ms v)), u8 (VS.L v 0), u8 (VS.L v 1), u8 (VS.L v 2), u8 (VS.L v 3), u8 (VS.L v 4), u8 (VS.L v 5), u8 (VS.L v 6), u8 (VS.L v 7)] T.one = true) ∧ b_2 = b_2 ∧ 0 + nat_lit 10 ≤ 10 ∧ b_2 = b_2 ∧ Q (T.tup [T.agg [u32 (VS.e v), T.sl 3 (mems (VS.ms v)), u8 (VS.L v 0), u8 (VS.L v 1), u8 (VS.L v 2), u8 (VS.L v 3), u8 (VS.L v 4), u8 (VS.L v 5), u8 (VS.L v 6), u8 (VS.L v 7)], bool false]) [] fun x => none) (b_1 = b_1 ∧ bsplit ((↑k : Int) == (2 : Int)) (b = b ∧ TCalls Try.prog 60 [T.agg [u32 (VS.e v), T.sl 3 (mems (VS.ms v)), u8 (VS.L v 0), u8 (VS.L v 1), u8 (VS.L v 2), u8 (VS.L v 3), u8 (VS.L v 4), u8 (VS.L v 5), u8 (VS.L v 6), u8 (VS.L v 7)], int (atI (VS.ms v) n)] [] (fun x => none) (callPost (Hint.call false Unit (fun x => True) [] false (fun x => vwR (View.removeV v (Int.toNat (atI (VS.ms v) n)))) (fun x => []) fun x => none_)) ∧ ∀ (a : Unit), True → (10 = nat_lit 10 ∧ List.all [u32 (VS.e (Prod.fst (View.removeV v (Int.toNat (atI (VS.ms v) n))))), T.sl 3 (mems (VS.ms (Prod.fst (View.removeV v (Int.toNat (atI (VS.ms v) n)))))), u8 (VS.L (Prod.fst (View.removeV v (Int.toNat (atI (VS.ms v) n)))) 0), u8 (VS.L (Prod.fst (View.removeV v (Int.toNat (atI (VS.ms v) n)))) 1), u8 (VS.L (Prod.fst (View.removeV v (Int.toNat (atI (VS.ms v) n)))) 2), u8 (VS.L (Prod.fst (View.removeV v (Int.toNat (atI (VS.ms v) n)))) 3), u8 (VS.L (Prod.fst (View.removeV v (Int.toNat (atI (VS.ms v) n)))) 4), u8 (VS.L (Prod.fst (View.removeV v (Int.toNat (atI (VS.ms v) n)))) 5), u8 (VS.L (Prod.fst (View.removeV v (Int.toNat (atI (VS.ms v) n)))) 6), u8 (VS.L (Prod.fst (View.removeV v (Int.toNat (atI (VS.ms v) n)))) 7)] T.one = true) ∧ b_2 = b_2 ∧ 0 + nat_lit 10 ≤ 10 ∧ b_2 = b_2 ∧ Q (T.tup [T.agg [u32 (VS.e (Prod.fst (View.removeV v (Int.toNat (atI (VS.ms v) n))))), T.sl 3 (mems (VS.ms (Prod.fst (View.removeV v (Int.toNat (atI (VS.ms v) n)))))), u8 (VS.L (Prod.fst (View.removeV v (Int.toNat (atI (VS.ms v) n)))) 0), u8 (VS.L (Prod.fst (View.removeV v (Int.toNat (atI (VS.ms v) n)))) 1), u8 (VS.L (Prod.fst (View.removeV v (Int.toNat (atI (VS.ms v) n)))) 2), u8 (VS.L (Prod.fst (View.removeV v (Int.toNat (atI (VS.ms v) n)))) 3), u8 (VS.L (Prod.fst (View.removeV v (Int.toNat (atI (VS.ms v) n)))) 4), u8 (VS.L (Prod.fst (View.removeV v (Int.toNat (atI (VS.ms v) n)))) 5), u8 (VS.L (Prod.fst (View.removeV v (Int.toNat (atI (VS.ms v) n)))) 6), u8 (VS.L (Prod.fst (View.removeV v (Int.toNat (atI (VS.ms v) n)))) 7)], bool (Prod.snd (View.removeV v (Int.toNat (atI (VS.ms v) n))))]) [] fun x => none) (b_1 = b_1 ∧ bsplit ((↑k : Int) == (3 : Int)) (b = b ∧ True ∧ TCalls Try.prog 32 [T.sl 3 (mems (VS.ms v))] [] (fun x => none) (callPost (Hint.call false (Nat × Nat) (fun a => List.length (VS.ms v) ≤ Prod.snd a ∧ Prod.snd a ≤ 9223372036854775807) [] false (fun a => T.sa 0 (Prod.fst a) 0 (List.length (VS.ms v)) (Prod.snd a)) (fun a => [(Prod.fst a, Ob.cells (flat (VS.ms v) ++ List.replicate ((Prod.snd a - List.length (VS.ms v)) * 3) T.und))]) fun x => none_)) ∧ ∀ (a : Nat × Nat), List.length (VS.ms v) ≤ Prod.snd a ∧ Prod.snd a ≤ 9223372036854775807 → (List.all (flat (VS.ms v) ++ List.replicate ((Prod.snd a - List.length (VS.ms v)) * 3) T.und) noIx = true ∧ True) ∧ ((0 : Int) ≤ atI (VS.ms v) n ∧ atI (VS.ms v) n < (↑(List.length (VS.ms v)) : Int)) ∧ (1 = nat_lit 1 ∧ List.all (List.map T.v (Array.toList #[Value.bool true])) T.one = true) ∧ Prod.fst a = Prod.fst a ∧ 0 + Int.toNat (atI (VS.ms v) n) * nat_lit 3 + nat_lit 2 + nat_lit 1 ≤ List.length (flat (VS.ms v) ++ List.replicate ((Prod.snd a - List.length (VS.ms v)) * 3) T.und) ∧ TWk Try.prog Γ (fin Try.prog Try.f24 [] Q) [It.code (sub (bd Try.f24) [1, 1, 0, 0, 1, 1, 1, 1, 1, 1, 1, 1, 1, 0, 1, 1]), It.blk 0, It.code (sub (bd Try.f24) [1, 1, 1])] { fr := frame 75 [(2, T.ptr 0 b 0), (4, T.ptr 2 b_2 0), (7, T.sa 3 (Prod.fst a) 0 (List.length (VS.ms v)) (Prod.snd a))], ob := [(b, Ob.cells [u32 (VS.e v), T.sl 3 (mems (VS.ms v)), u8 (VS.L v 0), u8 (VS.L v 1), u8 (VS.L v 2), u8 (VS.L v 3), u8 (VS.L v 4), u8 (VS.L v 5), u8 (VS.L v 6), u8 (VS.L v 7)]), (b_1, Ob.cells [u8 k, u8 n, u8 l, u32 e, u32 q]), (b_2, Ob.cells [u32 (0 : Int), T.v (Value.slice none 0 0), u8 (0 : Int), u8 (0 : Int), u8 (0 : Int), u8 (0 : Int), u8 (0 : Int), u8 (0 : Int), u8 (0 : Int), u8 (0 : Int)]), (Prod.fst a, Ob.cells (List.take (0 + Int.toNat (atI (VS.ms v) n) * nat_lit 3 + nat_lit 2) (flat (VS.ms v) ++ List.replicate ((Prod.snd a - List.length (VS.ms v)) * 3) T.und) ++ List.map T.v (Array.toList #[Value.bool true]) ++ List.drop (0 + Int.toNat (atI (VS.ms v) n) * nat_lit 3 + nat_lit 2 + 1) (flat (VS.ms v) ++ List.replicate ((Prod.snd a - List.length (VS.ms v)) * 3) T.und)))], gl := fun x => none }) (b = b ∧ b_1 = b_1 ∧ bsplit ((↑k : Int) == (4 : Int)) (b_1 = b_1 ∧ b = b ∧ (10 = nat_lit 10 ∧ List.all [u32 (VS.e v), T.sl 3 (mems (VS.ms v)), u8 (VS.L v 0), u8 (VS.L v 1), u8 (VS.L v 2), u8 (VS.L v 3), u8 (VS.L v 4), u8 (VS.L v 5), u8 (VS.L v 6), u8 (VS.L v 7)] T.one = true) ∧ b_2 = b_2 ∧ 0 + nat_lit 10 ≤ 10 ∧ b_2 = b_2 ∧ Q (T.tup [T.agg [u32 (VS.e v), T.sl 3 (mems (VS.ms v)), u8 (VS.L v 0), u8 (VS.L v 1), u8 (VS.L v 2), u8 (VS.L v 3), u8 (VS.L v 4), u8 (VS.L v 5), u8 (VS.L v 6), u8 (VS.L v 7)], bool (e == VS.e v)]) [] fun x => none) ((10 = nat_lit 10 ∧ List.all [u32 (VS.e v), T.sl 3 (mems (VS.ms v)), u8 (VS.L v 0), u8 (VS.L v 1), u8 (VS.L v 2), u8 (VS.L v 3), u8 (VS.L v 4), u8 (VS.L v 5), u8 (VS.L v 6), u8 (VS.L v 7)] T.one = true) ∧ b_2 = b_2 ∧ 0 + nat_lit 10 ≤ 10 ∧ b_2 = b_2 ∧ Q (T.tup [T.agg [u32 (VS.e v), T.sl 3 (mems (VS.ms v)), u8 (VS.L v 0), u8 (VS.L v 1), u8 (VS.L v 2), u8 (VS.L v 3), u8 (VS.L v 4), u8 (VS.L v 5), u8 (VS.L v 6), u8 (VS.L v 7)], bool false]) [] fun x => none)))))))) (by kernel_rfl) ?_
  repeat' (first | exact rfl | exact Nat.le_of_ble_eq_true rfl | refine And.intro ?_ ?_ | intro _ | refine bsplit_mk (fun _ => ?_) (fun _ => ?_))
  · exact at_any v n hl _ (fun r h => told_post h)
  · rename_i h; exact hQ _ (by rw [View.applyV, if_pos (by simpa using h)]; rfl)
  · exact add_any v hv hl k n l e q _ (fun r h => told_post h)
  · rename_i h0 h1 _ _
    exact hQ _ (by rw [View.applyV, if_neg (by simpa using h0), if_pos (by simp at h1; omega)]; rfl)
  · rename_i h0 h1 h2
    exact hQ _ (by
      have : atN v.ms n = none := by
        cases hx : atN v.ms n with
        | none => rfl
        | some i => simp [atI, hx] at h2; omega
      rw [View.applyV, if_neg (nk h0), if_neg (nk h1), this]; rfl)
  · rename_i h; obtain ⟨i, _, h2, _⟩ := at_pos h; omega
  · rename_i h
    obtain ⟨i, _, h2, _, h4⟩ := at_pos h
    rw [h2, Int.toNat_natCast, mems, List.getElem?_map, h4]; rfl
  · rename_i h0 h1 h h3
    obtain ⟨i, g1, _, _, g4⟩ := at_pos h
    exact hQ _ (by rw [applyV_of (nk h0) (nk h1) g1 g4, if_pos (by simpa [bne, nk2] using h3)]; rfl)
  · rename_i h _ _
    obtain ⟨i, g1, g2, g3, g4⟩ := at_pos h
    rw [g2, Int.toNat_natCast]
    exact remove_any v hv hl i g3 _ (fun r h => told_post h)
  · rename_i h0 h1 h h3 h4 _ _
    obtain ⟨i, g1, g2, _, g4⟩ := at_pos h
    exact hQ _ (by rw [applyV_of (nk h0) (nk h1) g1 g4, if_neg (by simpa [bne, nk2] using h3), if_pos (by simp at h4; omega), g2, Int.toNat_natCast]; rfl)
  · trivial
  · rename_i h _ _ _
    obtain ⟨i, g1, g2, g3, g4⟩ := at_pos h
    have hne : v.ms ≠ [] := fun h => by rw [h] at g3; simp at g3
    exact clone_any v.ms hl _ (fun h => absurd h hne) (fun h => absurd h hne) (fun _ g cap h1 h2 => ⟨(g, cap), ⟨h1, h2⟩, rfl, rfl, Nat.zero_le _, fun h => by cases h⟩)
  · exact room_plain _ _
  · trivial
  · rename_i h _ _ _ _ _; obtain ⟨i, _, h2, _⟩ := at_pos h; omega
  · rename_i h _ _ _ _ _; obtain ⟨i, _, h2, h3, _⟩ := at_pos h; omega
  · rename_i h _ _ _ a ha
    obtain ⟨i, _, h2, h3, _⟩ := at_pos h
    rw [h2, Int.toNat_natCast]; exact room_fit2 _ _ _ h3 ha.1
  · rename_i b1 b2 b3 _ _ h0 h1 h h3 h4 h5 a ha
    obtain ⟨i, g1, g2, g3, g4⟩ := at_pos h
    have gm : memAt v n = v.ms[i] := by rw [List.getElem?_eq_getElem g3] at g4; injection g4 with g4; exact g4.symm
    have he : (flat v.ms ++ List.replicate ((a.2 - v.ms.length) * 3) T.und).take (0 + (atI v.ms n).toNat * 3 + 2) ++ List.map T.v #[Value.bool true].toList ++ (flat v.ms ++ List.replicate ((a.2 - v.ms.length) * 3) T.und).drop (0 + (atI v.ms n).toNat * 3 + 2 + 1) = flat (v.ms.set i { v.ms[i] with ready := true }) ++ List.replicate ((a.2 - v.ms.length) * 3) T.und := by
      rw [g2, Int.toNat_natCast]; exact set_flat v.ms i g3 _
    have hl2 : v.ms.length = (v.ms.set i { v.ms[i] with ready := true }).length := by simp
    exact TWk.impM (apply_end Γ b1 b2 b3 v (v.ms.set i { v.ms[i] with ready := true }) k n l e q Q (fun r hr => hQ r (by
      rw [hr, applyV_of (nk h0) (nk h1) g1 g4, if_neg (by simpa [bne, nk2] using h3), if_neg (nk h4), if_pos (by simp at h5; omega), gm])))
      (ImpM.slot (i := 3) (b := a.1) true 3 7 _ rfl rfl (fun h => by cases h) (fz_len he hl2) (fz_one he hl2) (fz_es he hl2))
  · rename_i h0 h1 h h3 h4 h5 h6
    obtain ⟨i, g1, g2, _, g4⟩ := at_pos h
    exact hQ _ (by
      rw [applyV_of (nk h0) (nk h1) g1 g4, if_neg (by simpa [bne, nk2] using h3), if_neg (nk h4), if_neg (nk h5)]
      have h7 : k = 4 := by simp at h6; omega
      rw [show decide (k = 4 ∧ e = v.e) = (e == v.e) by rw [Bool.eq_iff_iff]; simp [h7]]; rfl)
  · rename_i h0 h1 h h3 h4 h5 h6
    obtain ⟨i, g1, g2, _, g4⟩ := at_pos h
    exact hQ _ (by
      rw [applyV_of (nk h0) (nk h1) g1 g4, if_neg (by simpa [bne, nk2] using h3), if_neg (nk h4), if_neg (nk h5), decide_eq_false (fun h => nk h6 h.1)]; rfl)
end X5
end Go.Proofs.Ytafcbipmmjegcaa.Vm
