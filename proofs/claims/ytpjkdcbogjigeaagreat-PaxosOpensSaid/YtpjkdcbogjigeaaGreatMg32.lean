/- Texts of this claim: LA. -/
import Derived.Test.YtpjkdcbogjigeaaGreatMg15
import Derived.Test.YtpjkdcbogjigeaaGreatMg29
import Derived.Test.YtpjkdcbogjigeaaGreatMg31
namespace Go.Proofs.YtpjkdcbogjigeaaGreat.Vm
open Go Go.RowKit
set_option maxRecDepth 100000
noncomputable abbrev kLA0 (l : List Nat) : It := .code (sub (bd Tryz.f83) l)
noncomputable abbrev kLA1 (l : List Nat) : It := .code (sub (bd Tryz.f98) l)
noncomputable abbrev wLA2 (Γ : Ctx) (Q : T → Obs → Glb → Prop) : List It → S → Prop := TWk Tryz.prog Γ (fin Tryz.prog Tryz.f83 [] Q)
noncomputable abbrev wLA3 (Γ : Ctx) (Q : T → Obs → Glb → Prop) : List It → S → Prop := TWk Tryz.prog Γ (fin Tryz.prog Tryz.f98 [0, 1] Q)
def plLA0 : Nat → Option RPlan := fun | 3 => some ⟨[], [6, 10], .take false [0,1,2,4,5] (.two 3 6 (.one 6 (.take false [7,8] (.one 9 (.one 10 (.take false [11] .done))))) (.take false [7] (.one 3 (.take false [8] (.one 9 (.one 10 (.take false [11] .done)))))))⟩ | _ => none
namespace X13
open View (Mem VS WF)
open Lrn (Cmd App LS)
open X5 (memC mems vwT viewC lim vcmd vB flat zc clone_any room_plain fz_len fz_one fz_es)
def cmdC (c : Cmd) : List T := vcmd c.k c.n c.l c.e c.q
def cmds (l : List Cmd) : List T := l.map fun c => .agg (cmdC c)
theorem cmds_len (l : List Cmd) : (cmds l).length = l.length := by simp [cmds]
def wT (W : Int → Option Cmd) : Int → Option T := fun z => (W z).map fun c => .agg (cmdC c)
def lrC (v : VS) (nx : Int) (mb : Nat) (l : T) : List T := [u32 v.e, .sl 3 (mems v.ms), u8 (v.L 0), u8 (v.L 1), u8 (v.L 2), u8 (v.L 3), u8 (v.L 4), u8 (v.L 5), u8 (v.L 6), u8 (v.L 7), u32 nx, .mp 1 mb, l]
def lrooms (l : List Cmd) (hd : Value) : Nat × Ob := (0, .room 5 43 (cmds l).length hd)
def obsL (b mb : Nat) (s : LS) (es : Array MapEntry) (ck : Nat) (hd : Value) : Obs := [(b, .cells (lrC s.v s.nx mb (.slx 5 2 (cmds s.kp) hd))), (mb, .map .u32 (wT s.W) es ck), lrooms s.kp hd]
theorem rel_s0_sl {M : Pm} {k : Nat} {v : Value} (h : Rel M .s0 v) : Rel M (.sl k []) v := by
  simp only [Rel] at h ⊢
  obtain ⟨A, h⟩ := h
  exact ⟨A, 0, h, ⟨Nat.le_refl _, by omega, fun _ => ⟨rfl, rfl⟩, fun a _ h => absurd h (by omega)⟩, by simp [El], fun _ _ _ => by simp only [RelE]⟩
theorem relL_set {M : Pm} {j : Nat} {ts : List T} {xs : List Value} {t t' : T} (hj : ts[j]? = some t) (ht : ∀ v, Rel M t v → Rel M t' v) (h : RelL M ts xs) : RelL M (ts.set j t') xs := by
  obtain ⟨y, h1, h2⟩ := h.get hj
  have h3 := h.set j (ht y h2)
  have e : xs.set j y = xs := by
    obtain ⟨hl, he⟩ := List.getElem?_eq_some_iff.1 h1
    rw [← he, List.set_getElem_self]
  rwa [e] at h3
theorem Imp.cellR {ts : List T} {ob : Obs} {gl : Glb} {i b j : Nat} {cs : List T} {t t' : T} (hi : ob[i]? = some (b, .cells cs)) (hj : cs[j]? = some t) (ht : ∀ M v, Rel M t v → Rel M t' v) : Imp ts ob gl ts (ob.set i (b, .cells (cs.set j t'))) gl :=
  Imp.ob hi (fun M _ ⟨C, ty, h1, h2, h3⟩ => ⟨C, ty, h1, relL_set hj (ht M) h2, h3⟩) (fun _ h => h)
theorem owned_end (Γ : Ctx) (b1 b2 : Nat) (v : VS) (Q : T → Obs → Glb → Prop) (hQ : ∀ r, r = .agg (viewC v) → Q r [] none_) :
    wLA2 Γ Q [kLA0 [1,1]] ⟨frame 8 [(1, .ptr 0 b1 0), (2, .ptr 1 b2 0)], [(b1, .cells (viewC v)), (b2, .cells zc)], none_⟩ := by
  let HH : Nat → Nat → Hint := fun _ _ => .no
  exact run_sound ⟨HH, [], fun _ => none⟩ 400 (by kernel_rfl) (Yb b1 (Yk 10 b2 (Yb b2 (hQ (T.agg (viewC v)) rfl))))
theorem owned_end2 (Γ : Ctx) (b1 b2 : Nat) (v : VS) (Q : T → Obs → Glb → Prop) (hQ : ∀ r, r = .agg (viewC v) → Q r [] none_) :
    wLA2 Γ Q [kLA0 [1,1]] ⟨frame 8 [(1, .ptr 0 b1 0), (2, .ptr 1 b2 0)], [(b1, .cells (viewC v)), (b2, .cells zc), (0, .gone)], none_⟩ := by
  let HH : Nat → Nat → Hint := fun _ _ => .no
  exact run_sound ⟨HH, [], fun _ => none⟩ 400 (by kernel_rfl) (Yb b1 (Yk 10 b2 (Yb b2 (hQ (T.agg (viewC v)) rfl))))
theorem owned_any (v : VS) (hl : lim v.ms) (Q : T → Obs → Glb → Prop) (hQ : ∀ r, r = .agg (viewC v) → Q r [] none_) : TCalls Tryz.prog 83 [.agg (viewC v)] [] none_ Q := by
  by_cases he : v.ms = []
  · obtain ⟨e, ms, L⟩ := v
    dsimp only at he
    subst he
    refine TCalls.of Tryz.func83 rfl (CanCall.of Tryz.func83 rfl (by decide)) [] fun Γ => ?_
    let HH : Nat → Nat → Hint := fun | 1, 2 => told .s0 [] [] | _, _ => .no
    exact run_sound ⟨HH, [((0, 2), ([1,2], 2))], fun  | _ => none⟩ 400 (by kernel_rfl) (fun (Z0 : Nat) => (fun (Z1 : Nat) => (Yb Z0 (Ya (X5.clone_nil (HH 1 2).P (told_post rfl)) (Yu (Yl 1 (Yb Z0 (Ya (Yn (2) (10) rfl) (show wLA2 Γ Q [kLA0 [1,1]] (S.mk (frame 8 [(1, T.ptr 0 Z0 0), (2, T.ptr 1 Z1 0)]) [(Z0, Ob.cells [u32 ((VS.mk e [] L).e), T.s0, u8 ((VS.mk e [] L).L 0), u8 ((VS.mk e [] L).L 1), u8 ((VS.mk e [] L).L 2), u8 ((VS.mk e [] L).L 3), u8 ((VS.mk e [] L).L 4), u8 ((VS.mk e [] L).L 5), u8 ((VS.mk e [] L).L 6), u8 ((VS.mk e [] L).L 7)]), (Z1, Ob.cells [u32 (0 : Int), T.v (Value.slice none 0 0), u8 (0 : Int), u8 (0 : Int), u8 (0 : Int), u8 (0 : Int), u8 (0 : Int), u8 (0 : Int), u8 (0 : Int), u8 (0 : Int)])] fun x => none) from (TWk.imp (owned_end Γ _ _ ⟨e, [], L⟩ Q hQ) (Imp.cellR (ob := [(_, .cells (vwT e .s0 L)), (_, .cells zc)]) (i := 0) (j := 1) (t := .s0) (t' := .sl 3 []) rfl rfl fun _ _ h => rel_s0_sl h)))))))))))
  · have hne := he
    refine TCalls.of Tryz.func83 rfl (CanCall.of Tryz.func83 rfl (by decide)) [] fun Γ => ?_
    let HH : Nat → Nat → Hint := fun | 1, 2 => cloneH v.ms | _, _ => .no
    exact run_sound ⟨HH, [((0, 2), ([1,2], 3))], fun  | _ => none⟩ 400 (by kernel_rfl) (fun (Z0 : Nat) => (fun (Z1 : Nat) => (Yb Z0 (Ya Yt (Ya (clone_any v.ms hl (HH 1 2).P (fun h => absurd h he) (fun h => absurd h he) (fun _ g cap h1 h2 => ⟨(g, cap), ⟨h1, h2⟩, rfl, rfl, Nat.zero_le _, fun h => by cases h⟩)) (fun (Z2 : Nat × Nat) => (fun (Z3 : List.length v.ms ≤ Z2.snd ∧ Z2.snd ≤ 9223372036854775807) => (Ya (Ya (room_plain v.ms ((Z2.snd - List.length v.ms) * 3)) Yt) (Yl 1 (Yb Z0 (Ya (Yn (2) (10) rfl) (show wLA2 Γ Q [kLA0 [1,1]] (S.mk (frame 8 [(1, T.ptr 0 Z0 0), (2, T.ptr 1 Z1 0)]) [(Z0, Ob.cells [u32 v.e, T.sa 2 Z2.fst 0 (List.length v.ms) Z2.snd, u8 (v.L 0), u8 (v.L 1), u8 (v.L 2), u8 (v.L 3), u8 (v.L 4), u8 (v.L 5), u8 (v.L 6), u8 (v.L 7)]), (Z1, Ob.cells [u32 (0 : Int), T.v (Value.slice none 0 0), u8 (0 : Int), u8 (0 : Int), u8 (0 : Int), u8 (0 : Int), u8 (0 : Int), u8 (0 : Int), u8 (0 : Int), u8 (0 : Int)]), (Z2.fst, Ob.cells (flat v.ms ++ List.replicate ((Z2.snd - List.length v.ms) * 3) T.und))] fun x => none) from (TWk.impM (owned_end2 Γ _ _ v Q hQ) (ImpM.cell (p := 0) (i := 2) (q := 1) (ob := [(Z0, .cells (vwT v.e (.sa 2 Z2.1 0 v.ms.length Z2.2) v.L)), (Z1, .cells zc), (Z2.1, .cells (flat v.ms ++ List.replicate ((Z2.2 - v.ms.length) * 3) T.und))]) true 3 (mems v.ms) rfl rfl rfl (by decide) (fun h => by cases h) (fz_len rfl rfl) (fz_one rfl rfl) (fz_es rfl rfl)))))))))))))))
def c0 : Cmd := ⟨0, 0, 0, 0, 0⟩
def resC : Option Cmd → T
  | some c => .tup [.agg (cmdC c), bool true]
  | none => .tup [.agg (cmdC c0), bool false]
theorem wrap_u32 {x : Int} (h0 : 0 ≤ x) (h1 : x ≤ 4294967295) : IntKind.wrap .u32 x = x := IntWalk.u32_in _ (by omega)
theorem low_any (b mb : Nat) (s : LS) (es : Array MapEntry) (ck : Nat) (hd : Value) (hn : s.kp.length ≤ s.nx) (h1 : s.nx ≤ 4294967295) (Q : T → Obs → Glb → Prop) (hQ : ∀ r, r = u32 (Lrn.low s) → Q r (obsL b mb s es ck hd) none_) : TCalls Tryz.prog 148 [.ptr 0 b 0] (obsL b mb s es ck hd) none_ Q := by
  refine TCalls.of Tryz.func148 rfl (CanCall.of Tryz.func148 rfl (by decide)) [0,1,2] fun Γ => ?_
  refine run_sound (⟨fun _ _ => .no, [], fun _ => none⟩) 400 (B := b = b ∧ b = b ∧ Q (T.v (Value.int IntKind.u32 (IntKind.wrap IntKind.u32 (LS.nx s - IntKind.wrap IntKind.u32 (↑(List.length (cmds (LS.kp s))) : Int))))) [(b, Ob.cells [T.v (Value.int IntKind.u32 (VS.e (LS.v s))), T.sl (3 : Nat) (mems (VS.ms (LS.v s))), T.v (Value.int IntKind.u8 (↑(VS.L (LS.v s) (0 : Nat)) : Int)), T.v (Value.int IntKind.u8 (↑(VS.L (LS.v s) (1 : Nat)) : Int)), T.v (Value.int IntKind.u8 (↑(VS.L (LS.v s) (2 : Nat)) : Int)), T.v (Value.int IntKind.u8 (↑(VS.L (LS.v s) (3 : Nat)) : Int)), T.v (Value.int IntKind.u8 (↑(VS.L (LS.v s) (4 : Nat)) : Int)), T.v (Value.int IntKind.u8 (↑(VS.L (LS.v s) (5 : Nat)) : Int)), T.v (Value.int IntKind.u8 (↑(VS.L (LS.v s) (6 : Nat)) : Int)), T.v (Value.int IntKind.u8 (↑(VS.L (LS.v s) (7 : Nat)) : Int)), T.v (Value.int IntKind.u32 (LS.nx s)), T.mp (1 : Nat) mb, T.slx (5 : Nat) (2 : Nat) (cmds (LS.kp s)) hd]), (mb, Ob.map IntKind.u32 (wT (LS.W s)) es ck), ((0 : Nat), Ob.room (5 : Nat) (43 : Nat) (List.length (cmds (LS.kp s))) hd)] fun x => none) (by kernel_rfl) ?_
  have e1 : IntKind.wrap .u32 ((cmds s.kp).length : Int) = s.kp.length := by rw [cmds_len]; exact wrap_u32 (by omega) (by omega)
  have e2 : IntKind.wrap .u32 (s.nx - s.kp.length) = Lrn.low s := wrap_u32 (by omega) (by omega)
  rw [e1, e2]
  repeat' (first | exact rfl | exact Nat.le_of_ble_eq_true rfl | refine And.intro ?_ ?_ | intro _ | refine bsplit_mk (fun _ => ?_) (fun _ => ?_))
  exact hQ _ rfl
theorem next_any (b mb : Nat) (s : LS) (es : Array MapEntry) (ck : Nat) (hd : Value) (Q : T → Obs → Glb → Prop) (hQ : ∀ r, r = u32 s.nx → Q r (obsL b mb s es ck hd) none_) : TCalls Tryz.prog 29 [.ptr 0 b 0] (obsL b mb s es ck hd) none_ Q := by
  refine TCalls.of Tryz.func29 rfl (CanCall.of Tryz.func29 rfl (by decide)) [0,1,2] fun Γ => ?_
  let HH : Nat → Nat → Hint := fun _ _ => .no
  exact run_sound ⟨HH, [], fun _ => none⟩ 400 (by kernel_rfl) (Yb b (hQ (u32 s.nx) rfl))
theorem view_any (b mb : Nat) (s : LS) (es : Array MapEntry) (ck : Nat) (hd : Value) (hl : lim s.v.ms) (Q : T → Obs → Glb → Prop) (hQ : ∀ r, r = .agg (viewC s.v) → Q r (obsL b mb s es ck hd) none_) : TCalls Tryz.prog 30 [.ptr 0 b 0] (obsL b mb s es ck hd) none_ Q := by
  refine TCalls.of Tryz.func30 rfl (CanCall.of Tryz.func30 rfl (by decide)) [0,1,2] fun Γ => ?_
  let HH : Nat → Nat → Hint := fun | 3, 4 => told (.agg (viewC s.v)) [] [] | _, _ => .no
  exact run_sound ⟨HH, [], fun  | _ => none⟩ 400 (by kernel_rfl) (fun (Z0 : Nat) => (Yb b (Ya (owned_any s.v hl (HH 3 4).P (fun r h => told_post h)) (Yu (Yk 10 Z0 (Yb Z0 (hQ (T.agg (viewC s.v)) rfl)))))))
theorem getL_some {s : LS} {z : Int} (h1 : Lrn.low s ≤ z) (h2 : z < s.nx) : (Lrn.getL s z).isSome = true := by
  have hl : Lrn.low s = s.nx - s.kp.length := rfl
  rw [Lrn.getL, if_pos ⟨h1, h2⟩, List.getElem?_eq_getElem (by omega)]; rfl
theorem get_any (b mb : Nat) (s : LS) (es : Array MapEntry) (ck : Nat) (hd : Value) (ho : Lrn.Ok s) (z : Int) (Q : T → Obs → Glb → Prop) (hQ : ∀ r, r = resC (Lrn.getL s z) → Q r (obsL b mb s es ck hd) none_) : TCalls Tryz.prog 121 [.ptr 0 b 0, u32 z] (obsL b mb s es ck hd) none_ Q := by
  cases hg : Lrn.getL s z with
  | none =>
    have hn : ¬ (Lrn.low s ≤ z ∧ z < s.nx) := fun h => by have h3 := getL_some h.1 h.2; rw [hg] at h3; cases h3
    refine TCalls.of Tryz.func121 rfl (CanCall.of Tryz.func121 rfl (by decide)) [0,1,2] fun Γ => ?_
    let HH : Nat → Nat → Hint := fun | 1, 5 => told (u32 (Lrn.low s)) [0,1,2] (obsL b mb s es ck hd) | 3, 6 => told (u32 (Lrn.low s)) [0,1,2] (obsL b mb s es ck hd) | 3, 8 => .res (.agg (cmdC c0)) | _, _ => .no
    let z0 := [(b, Ob.cells [u32 s.v.e, T.sl 3 (mems s.v.ms), u8 (s.v.L 0), u8 (s.v.L 1), u8 (s.v.L 2), u8 (s.v.L 3), u8 (s.v.L 4), u8 (s.v.L 5), u8 (s.v.L 6), u8 (s.v.L 7), u32 s.nx, T.mp 1 mb, T.slx 5 2 (cmds s.kp) hd]), (mb, Ob.map IntKind.u32 (wT s.W) es ck), (0, Ob.room 5 43 (List.length (cmds s.kp)) hd)]
    let z1 := [u8 c0.k, u8 c0.n, u8 c0.l, u32 c0.e, u32 c0.q]
    let z2 := T.tup [T.agg [u8 (0 : Int), u8 (0 : Int), u8 (0 : Int), u32 (0 : Int), u32 (0 : Int)], bool false]
    exact run_sound ⟨HH, [], plLA0⟩ 400 (by kernel_rfl) (fun (Z0 : Nat) => (Ya (low_any b mb s es ck hd ho.kn ho.n1 (HH 1 5).P (fun r h => told_post h)) (Yu (Ys (decide (z < Lrn.low s)) (fun Z1 => (Yk 5 Z0 (Yb Z0 (show Q z2 z0 fun x => none from hQ _ (by rw [hg]; rfl))))) (fun Z2 => (Yb b (Ys (decide (z ≥ s.nx)) (fun Z3 => (Yk 5 Z0 (Yb Z0 (show Q z2 z0 fun x => none from hQ _ (by rw [hg]; rfl))))) (fun Z4 => (Ya (Yb b (Ya (low_any b mb s es ck hd ho.kn ho.n1 (HH 1 5).P (fun r h => told_post h)) (Yu (Ya (show (0 : Int) ≤ IntKind.wrap IntKind.u32 (z - Lrn.low s) by exfalso; simp only [decide_eq_true_eq, decide_eq_false_iff_not] at *; omega) (Ya (show (cmds s.kp)[Int.toNat (IntKind.wrap IntKind.u32 (z - Lrn.low s))]? = some (T.agg z1) by exfalso; simp only [decide_eq_true_eq, decide_eq_false_iff_not] at *; omega) (Yk 5 Z0 (Yb Z0 (show Q (T.tup [T.agg z1, bool true]) z0 fun x => none by exfalso; simp only [decide_eq_true_eq, decide_eq_false_iff_not] at *; omega)))))))) (Ya (low_any b mb s es ck hd ho.kn ho.n1 (HH 1 5).P (fun r h => told_post h)) (Yu (Yb b (Ya (show (0 : Int) ≤ IntKind.wrap IntKind.u32 (z - Lrn.low s) by exfalso; simp only [decide_eq_true_eq, decide_eq_false_iff_not] at *; omega) (Ya (show (cmds s.kp)[Int.toNat (IntKind.wrap IntKind.u32 (z - Lrn.low s))]? = some (T.agg z1) by exfalso; simp only [decide_eq_true_eq, decide_eq_false_iff_not] at *; omega) (Yk 5 Z0 (Yb Z0 (show Q (T.tup [T.agg z1, bool true]) z0 fun x => none by exfalso; simp only [decide_eq_true_eq, decide_eq_false_iff_not] at *; omega)))))))))))))))))
  | some c =>
    have hi : Lrn.low s ≤ z ∧ z < s.nx := by
      by_cases h : Lrn.low s ≤ z ∧ z < s.nx
      · exact h
      · rw [Lrn.getL, if_neg h] at hg; cases hg
    have hk : s.kp[(z - Lrn.low s).toNat]? = some c := by rw [Lrn.getL, if_pos hi] at hg; exact hg
    have hl : Lrn.low s = s.nx - s.kp.length := rfl
    have hw : IntKind.wrap .u32 (z - Lrn.low s) = z - Lrn.low s := wrap_u32 (by omega) (by have := ho.n1; have := ho.kn; omega)
    refine TCalls.of Tryz.func121 rfl (CanCall.of Tryz.func121 rfl (by decide)) [0,1,2] fun Γ => ?_
    let HH : Nat → Nat → Hint := fun | 1, 5 => told (u32 (Lrn.low s)) [0,1,2] (obsL b mb s es ck hd) | 3, 6 => told (u32 (Lrn.low s)) [0,1,2] (obsL b mb s es ck hd) | 3, 8 => .res (.agg (cmdC c)) | _, _ => .no
    let z0 := [(b, Ob.cells [u32 s.v.e, T.sl 3 (mems s.v.ms), u8 (s.v.L 0), u8 (s.v.L 1), u8 (s.v.L 2), u8 (s.v.L 3), u8 (s.v.L 4), u8 (s.v.L 5), u8 (s.v.L 6), u8 (s.v.L 7), u32 s.nx, T.mp 1 mb, T.slx 5 2 (cmds s.kp) hd]), (mb, Ob.map IntKind.u32 (wT s.W) es ck), (0, Ob.room 5 43 (List.length (cmds s.kp)) hd)]
    let z1 := T.tup [T.agg [u8 (0 : Int), u8 (0 : Int), u8 (0 : Int), u32 (0 : Int), u32 (0 : Int)], bool false]
    let z2 := T.tup [T.agg [u8 c.k, u8 c.n, u8 c.l, u32 c.e, u32 c.q], bool true]
    exact run_sound ⟨HH, [], plLA0⟩ 400 (by kernel_rfl) (fun (Z0 : Nat) => (Ya (low_any b mb s es ck hd ho.kn ho.n1 (HH 1 5).P (fun r h => told_post h)) (Yu (Ys (decide (z < Lrn.low s)) (fun Z1 => (Yk 5 Z0 (Yb Z0 (show Q z1 z0 fun x => none by exfalso; simp only [decide_eq_true_eq, decide_eq_false_iff_not] at *; omega)))) (fun Z2 => (Yb b (Ys (decide (z ≥ s.nx)) (fun Z3 => (Yk 5 Z0 (Yb Z0 (show Q z1 z0 fun x => none by exfalso; simp only [decide_eq_true_eq, decide_eq_false_iff_not] at *; omega)))) (fun Z4 => (Ya (Yb b (Ya (low_any b mb s es ck hd ho.kn ho.n1 (HH 1 5).P (fun r h => told_post h)) (Yu (Ya (show (0 : Int) ≤ IntKind.wrap IntKind.u32 (z - Lrn.low s) by omega) (Ya (show (cmds s.kp)[Int.toNat (IntKind.wrap IntKind.u32 (z - Lrn.low s))]? = some (T.agg [u8 c.k, u8 c.n, u8 c.l, u32 c.e, u32 c.q]) by simp only [hw] at *; rw [cmds, List.getElem?_map, hk]; rfl) (Yk 5 Z0 (Yb Z0 (show Q z2 z0 fun x => none from hQ _ (by rw [hg]; rfl))))))))) (Ya (low_any b mb s es ck hd ho.kn ho.n1 (HH 1 5).P (fun r h => told_post h)) (Yu (Yb b (Ya (show (0 : Int) ≤ IntKind.wrap IntKind.u32 (z - Lrn.low s) by omega) (Ya (show (cmds s.kp)[Int.toNat (IntKind.wrap IntKind.u32 (z - Lrn.low s))]? = some (T.agg [u8 c.k, u8 c.n, u8 c.l, u32 c.e, u32 c.q]) by simp only [hw] at *; rw [cmds, List.getElem?_map, hk]; rfl) (Yk 5 Z0 (Yb Z0 (show Q z2 z0 fun x => none from hQ _ (by rw [hg]; rfl))))))))))))))))))
theorem look_none {W : Int → Option Cmd} {z : Int} (h : W z = none) (t : T) : some (T.tup [(wT W z).getD t, T.v (Value.bool (wT W z).isSome)]) = some (T.tup [t, bool false]) := by
  rw [show wT W z = none by simp [wT, h]]; rfl
theorem look_some {W : Int → Option Cmd} {z : Int} {c : Cmd} (h : W z = some c) (t : T) : some (T.tup [(wT W z).getD t, T.v (Value.bool (wT W z).isSome)]) = some (T.tup [.agg (cmdC c), bool true]) := by
  rw [show wT W z = some (.agg (cmdC c)) by simp [wT, h]]; rfl
theorem known_any (b mb : Nat) (s : LS) (es : Array MapEntry) (ck : Nat) (hd : Value) (ho : Lrn.Ok s) (z : Int) (Q : T → Obs → Glb → Prop) (hQ : ∀ r, r = resC (Lrn.knownL s z) → Q r (obsL b mb s es ck hd) none_) : TCalls Tryz.prog 147 [.ptr 0 b 0, u32 z] (obsL b mb s es ck hd) none_ Q := by
  cases hw : s.W z with
  | none =>
    have hk : Lrn.knownL s z = Lrn.getL s z := by unfold Lrn.knownL; rw [hw]
    rw [hk] at hQ
    cases hg : Lrn.getL s z with
    | none =>
      refine TCalls.of Tryz.func147 rfl (CanCall.of Tryz.func147 rfl (by decide)) [0,1,2] fun Γ => ?_
      let HH : Nat → Nat → Hint := fun | 1, 5 => .res (.tup [.agg (cmdC c0), bool false]) | 4, 2 => told (.tup [.agg (cmdC c0), bool false]) [0,1,2] (obsL b mb s es ck hd) | _, _ => .no
      exact run_sound ⟨HH, [], fun  | _ => none⟩ 400 (by kernel_rfl) (fun (Z0 : Nat) => (Yb b (Yb mb (Ya (look_none hw (T.agg (List.map T.v #[Value.int IntKind.u8 (0 : Int), Value.int IntKind.u8 (0 : Int), Value.int IntKind.u8 (0 : Int), Value.int IntKind.u32 (0 : Int), Value.int IntKind.u32 (0 : Int)].toList))) (fun (Z1 : Nat) => (Yk 5 Z1 (Ya (get_any b mb s es ck hd ho z (HH 4 2).P (fun r h => told_post (by rw [h, hg]; rfl))) (Yu (Yk 5 Z0 (Yb Z0 (show Q (T.tup [T.agg [u8 c0.k, u8 c0.n, u8 c0.l, u32 c0.e, u32 c0.q], bool false]) [(b, Ob.cells [u32 s.v.e, T.sl 3 (mems s.v.ms), u8 (s.v.L 0), u8 (s.v.L 1), u8 (s.v.L 2), u8 (s.v.L 3), u8 (s.v.L 4), u8 (s.v.L 5), u8 (s.v.L 6), u8 (s.v.L 7), u32 s.nx, T.mp 1 mb, T.slx 5 2 (cmds s.kp) hd]), (mb, Ob.map IntKind.u32 (wT s.W) es ck), (0, Ob.room 5 43 (List.length (cmds s.kp)) hd)] fun x => none from hQ _ (by rw [hg]; rfl))))))))))))
    | some c =>
      refine TCalls.of Tryz.func147 rfl (CanCall.of Tryz.func147 rfl (by decide)) [0,1,2] fun Γ => ?_
      let HH : Nat → Nat → Hint := fun | 1, 5 => .res (.tup [.agg (cmdC c0), bool false]) | 4, 2 => told (.tup [.agg (cmdC c), bool true]) [0,1,2] (obsL b mb s es ck hd) | _, _ => .no
      exact run_sound ⟨HH, [], fun  | _ => none⟩ 400 (by kernel_rfl) (fun (Z0 : Nat) => (Yb b (Yb mb (Ya (look_none hw (T.agg (List.map T.v #[Value.int IntKind.u8 (0 : Int), Value.int IntKind.u8 (0 : Int), Value.int IntKind.u8 (0 : Int), Value.int IntKind.u32 (0 : Int), Value.int IntKind.u32 (0 : Int)].toList))) (fun (Z1 : Nat) => (Yk 5 Z1 (Ya (get_any b mb s es ck hd ho z (HH 4 2).P (fun r h => told_post (by rw [h, hg]; rfl))) (Yu (Yk 5 Z0 (Yb Z0 (show Q (T.tup [T.agg [u8 c.k, u8 c.n, u8 c.l, u32 c.e, u32 c.q], bool true]) [(b, Ob.cells [u32 s.v.e, T.sl 3 (mems s.v.ms), u8 (s.v.L 0), u8 (s.v.L 1), u8 (s.v.L 2), u8 (s.v.L 3), u8 (s.v.L 4), u8 (s.v.L 5), u8 (s.v.L 6), u8 (s.v.L 7), u32 s.nx, T.mp 1 mb, T.slx 5 2 (cmds s.kp) hd]), (mb, Ob.map IntKind.u32 (wT s.W) es ck), (0, Ob.room 5 43 (List.length (cmds s.kp)) hd)] fun x => none from hQ _ (by rw [hg]; rfl))))))))))))
  | some c =>
    refine TCalls.of Tryz.func147 rfl (CanCall.of Tryz.func147 rfl (by decide)) [0,1,2] fun Γ => ?_
    let HH : Nat → Nat → Hint := fun | 1, 5 => .res (.tup [.agg (cmdC c), bool true]) | 4, 2 => .no | _, _ => .no
    exact run_sound ⟨HH, [], fun  | _ => none⟩ 400 (by kernel_rfl) (fun (Z0 : Nat) => (Yb b (Yb mb (Ya (look_some hw (T.agg (List.map T.v #[Value.int IntKind.u8 (0 : Int), Value.int IntKind.u8 (0 : Int), Value.int IntKind.u8 (0 : Int), Value.int IntKind.u32 (0 : Int), Value.int IntKind.u32 (0 : Int)].toList))) (fun (Z1 : Nat) => (Yk 5 Z1 (Yb Z1 (Yk 5 Z0 (Yb Z0 (show Q (T.tup [T.agg [u8 c.k, u8 c.n, u8 c.l, u32 c.e, u32 c.q], bool true]) [(b, Ob.cells [u32 s.v.e, T.sl 3 (mems s.v.ms), u8 (s.v.L 0), u8 (s.v.L 1), u8 (s.v.L 2), u8 (s.v.L 3), u8 (s.v.L 4), u8 (s.v.L 5), u8 (s.v.L 6), u8 (s.v.L 7), u32 s.nx, T.mp 1 mb, T.slx 5 2 (cmds s.kp) hd]), (mb, Ob.map IntKind.u32 (wT s.W) es ck), (0, Ob.room 5 43 (List.length (cmds s.kp)) hd)] fun x => none from hQ _ (by unfold Lrn.knownL; rw [hw]; rfl)))))))))))
theorem snapF_any (y : Int) (c : Cmd) (b : Nat) (z : Int) (Q : T → Obs → Glb → Prop) (hQ : ∀ r, r = bool (decide (y < z)) → Q r [(b, .cells [u32 z])] none_) : TCalls Tryz.prog 99 [u32 y, .agg (cmdC c), .ptr 0 b 0] [(b, .cells [u32 z])] none_ Q := by
  refine TCalls.of Tryz.func99 rfl (CanCall.of Tryz.func99 rfl (by decide)) [0] fun Γ => ?_
  let HH : Nat → Nat → Hint := fun _ _ => .no
  exact run_sound ⟨HH, [], fun _ => none⟩ 400 (by kernel_rfl) (fun (Z0 : Nat) => (Yb b (hQ (bool (decide (y < z))) rfl)))
theorem look_at {W : Int → Option Cmd} {z : Int} {c : Cmd} (h : W z = some c) : wT W z = some (.agg (cmdC c)) := by simp [wT, h]
theorem del_wT (W : Int → Option Cmd) (z y : Int) : delT (wT W) z y = wT (Lrn.del W z) y := by
  unfold delT wT Lrn.del
  split <;> rfl
theorem delF_body (Γ : Ctx) (mb bz ib : Nat) (z : Int) (W : Int → Option Cmd) (es : Array MapEntry) (ck : Nat) (left : List Int) (y : Int) (c : Cmd) (hc : W y = some c) (Q : T → Obs → Glb → Prop)
    (h1 : y < z → ∀ es', DelE es es' (.int .u32 y) → wLA3 Γ Q [kLA1 [1,0], .blk 0] ⟨frame 19 [(0, .mp 0 mb), (1, .fn 99 [.ptr 1 bz 0]), (7, .ptr 2 ib 0)], [(mb, .map .u32 (wT (Lrn.del W y)) es' ck), (bz, .cells [u32 z]), (ib, .iter 0 mb .u32 es ck left (some y))], none_⟩)
    (h2 : ¬ y < z → wLA3 Γ Q [kLA1 [1,0], .blk 0] ⟨frame 19 [(0, .mp 0 mb), (1, .fn 99 [.ptr 1 bz 0]), (7, .ptr 2 ib 0)], [(mb, .map .u32 (wT W) es ck), (bz, .cells [u32 z]), (ib, .iter 0 mb .u32 es ck left (some y))], none_⟩) :
    wLA3 Γ Q [kLA1 [1,0,0,1,1,0], .blk 1, kLA1 [1,0], .blk 0] ⟨frame 19 [(0, .mp 0 mb), (1, .fn 99 [.ptr 1 bz 0]), (7, .ptr 2 ib 0)], [(mb, .map .u32 (wT W) es ck), (bz, .cells [u32 z]), (ib, .iter 0 mb .u32 es ck left (some y))], none_⟩ := by
  let HH : Nat → Nat → Hint := fun | 2, 0 => .res (.agg (cmdC c)) | 3, 3 => told (bool (decide (y < z))) [1] [(bz, .cells [u32 z])] | 4, 2 => .fn (wT (Lrn.del W y)) | _, _ => .no
  let z0 := frame 19 [(0, T.mp 0 mb), (1, T.fn 99 [T.ptr 1 bz 0]), (7, T.ptr 2 ib 0)]
  let z1 := (ib, Ob.iter 0 mb IntKind.u32 es ck left (some y))
  let z2 := [kLA1 [1,0], It.blk 0]
  exact run_sound ⟨HH, [((2, 1), ([0,1,7], 3))], fun  | _ => none⟩ 400 (by kernel_rfl) (Ya (Yb ib (Yb mb (Yb es (Ye ck)))) (Ya (look_at hc) (fun (Z0 : Nat) => (Yk 5 Z0 (Yb Z0 (Ya (snapF_any y c bz z (HH 3 3).P (fun r h => told_post h)) (Yu (Ys (decide (y < z)) (fun Z1 => (Yb mb (Ya (fun (Z2 : Int) => (show wT (Lrn.del W y) Z2 = delT (wT W) y Z2 from ((del_wT W y _).symm))) (fun (Z3 : Array MapEntry) => (fun (Z4 : DelE es Z3 (Value.int IntKind.u32 y)) => (show wLA3 Γ Q z2 (S.mk z0 [(mb, Ob.map IntKind.u32 (wT (Lrn.del W y)) Z3 ck), (bz, Ob.cells [u32 z]), z1] fun x => none) from h1 (by simpa using ‹decide (y < z) = true›) _ ‹_›)))))) (fun Z5 => (show wLA3 Γ Q z2 (S.mk z0 [(mb, Ob.map IntKind.u32 (wT W) es ck), (bz, Ob.cells [u32 z]), z1] fun x => none) from h2 (by simpa using ‹decide (y < z) = false›)))))))))))
theorem delF_loop (Γ : Ctx) (mb bz ib : Nat) (z : Int) (W : Int → Option Cmd) (ck : Nat) (Q : T → Obs → Glb → Prop) (hQ : ∀ es, Q (.tup []) [(mb, .map .u32 (wT (Lrn.cut W z)) es ck), (bz, .cells [u32 z])] none_) : ∀ (n : Nat) (left : List Int) (W' : Int → Option Cmd) (es : Array MapEntry) (cur : Option Int), left.length = n → left.Nodup → (∀ y ∈ left, W' y = W y) → (∀ y, y < z → W' y = none ∨ y ∈ left) → (∀ y, z ≤ y → W' y = W y) →
    wLA3 Γ Q [kLA1 [1,0], .blk 0] ⟨frame 19 [(0, .mp 0 mb), (1, .fn 99 [.ptr 1 bz 0]), (7, .ptr 2 ib 0)], [(mb, .map .u32 (wT W') es ck), (bz, .cells [u32 z]), (ib, .iter 0 mb .u32 es ck left cur)], none_⟩ := by
  intro n
  induction n with
  | zero =>
    intro left W' es cur hn _ h1 h2 h3
    have hl0 : left = [] := List.eq_nil_of_length_eq_zero hn
    have e : W' = Lrn.cut W z := by
      funext y
      unfold Lrn.cut
      split
      · rename_i h; rcases h2 y h with h4 | h4
        · exact h4
        · rw [hl0] at h4; simp at h4
      · exact h3 y (by omega)
    subst e
    let HH : Nat → Nat → Hint := fun _ _ => .no
    exact run_sound ⟨HH, [((0, 2), ([0,1,7], 3))], fun _ => none⟩ 400 (by kernel_rfl) (Ya (Yb ib (Yb mb (Yb es (Ye ck)))) (Ya (fun (Z0 : left = []) => (hQ es)) (fun (Z1 : Int) => (fun (Z2 : T) => (fun (Z3 : Z1 ∈ left) => (fun (Z4 : wT (Lrn.cut W z) Z1 = some Z2) => (show wLA3 Γ Q [kLA1 [1,0,0,1,1,0], It.blk 1, kLA1 [1,0], It.blk 0] (S.mk (frame 19 [(0, T.mp 0 mb), (1, T.fn 99 [T.ptr 1 bz 0]), (7, T.ptr 2 ib 0)]) [(mb, Ob.map IntKind.u32 (wT (Lrn.cut W z)) es ck), (bz, Ob.cells [u32 z]), (ib, Ob.iter 0 mb IntKind.u32 es ck (List.erase left Z1) (some Z1))] fun x => none) by exfalso; rw [hl0] at Z3; simp at Z3; done)))))))
  | succ n ih =>
    intro left W' es cur hn hd h1 h2 h3
    refine run_sound (⟨fun _ _ => .no, [((0, 2), ([0,1,7], 3))], fun _ => none⟩) 400 (B := (ib = ib ∧ mb = mb ∧ es = es ∧ ck = ck) ∧ (left = [] → Q (T.tup []) [(mb, Ob.map IntKind.u32 (wT W') es ck), (bz, Ob.cells [T.v (Value.int IntKind.u32 z)])] fun x => none) ∧ ∀ (z_1 : Int) (t : T), z_1 ∈ left → wT W' z_1 = some t → TWk Tryz.prog Γ (fin Tryz.prog Tryz.f98 [(0 : Nat), (1 : Nat)] Q) [It.code (sub (bd Tryz.f98) [(1 : Nat), (0 : Nat), (0 : Nat), (1 : Nat), (1 : Nat), (0 : Nat)]), It.blk (1 : Nat), It.code (sub (bd Tryz.f98) [(1 : Nat), (0 : Nat)]), It.blk (0 : Nat)] { fr := [T.mp (0 : Nat) mb, T.fn (99 : Nat) [T.ptr (1 : Nat) bz (0 : Nat)], T.und, T.und, T.und, T.und, T.und, T.ptr (2 : Nat) ib (0 : Nat), T.und, T.und, T.und, T.und, T.und, T.und, T.und, T.und, T.und, T.und, T.und], ob := [(mb, Ob.map IntKind.u32 (wT W') es ck), (bz, Ob.cells [T.v (Value.int IntKind.u32 z)]), (ib, Ob.iter (0 : Nat) mb IntKind.u32 es ck (List.erase left z_1) (some z_1))], gl := fun x => none }) (by kernel_rfl) ?_
    repeat' (first | exact rfl | exact Nat.le_of_ble_eq_true rfl | refine And.intro ?_ ?_ | intro _ | refine bsplit_mk (fun _ => ?_) (fun _ => ?_))
    all_goals first
      | (exfalso; rename_i h; rw [h] at hn; simp at hn; done)
      | skip
    rename_i y t hy ht
    have hWy := h1 y hy
    obtain ⟨c, hc⟩ : ∃ c, W' y = some c := by
      cases hw : W' y with
      | none => rw [wT, hw] at ht; cases ht
      | some c => exact ⟨c, rfl⟩
    have hlen : (left.erase y).length = n := by rw [List.length_erase_of_mem hy]; omega
    refine delF_body Γ mb bz ib z W' es ck _ y c hc Q (fun hlt es' hD => ?_) (fun hge => ?_)
    · have hf : (left.erase y).filter (fun x => decide (x ≠ y)) = left.erase y := List.filter_eq_self.2 fun x hx => by
        have : x ≠ y := fun e => by subst e; exact (List.Nodup.not_mem_erase hd) hx
        simpa using this
      have nx := ih (left.erase y) (Lrn.del W' y) es' none hlen (hd.erase y) (fun x hx => ?_) (fun x hx => ?_) (fun x hx => ?_)
      · have im := Imp.iterDel (ts := frame 19 [(0, .mp 0 mb), (1, .fn 99 [.ptr 1 bz 0]), (7, .ptr 2 ib 0)]) (ob := [(mb, .map .u32 (wT (Lrn.del W' y)) es' ck), (bz, .cells [u32 z]), (ib, .iter 0 mb .u32 es ck (left.erase y) (some y))]) (gl := none_) (j := 2) (i := 0) rfl hD
        rw [hf] at im
        exact TWk.imp nx im
      · have : x ≠ y := fun e => by subst e; exact (List.Nodup.not_mem_erase hd) hx
        rw [Lrn.del, if_neg this]; exact h1 x (List.mem_of_mem_erase hx)
      · by_cases e : x = y
        · left; rw [Lrn.del, if_pos e]
        · rw [Lrn.del, if_neg e]
          rcases h2 x hx with h4 | h4
          · exact .inl h4
          · exact .inr ((List.mem_erase_of_ne e).2 h4)
      · rw [Lrn.del, if_neg (by omega)]; exact h3 x hx
    · exact ih (left.erase y) W' es (some y) hlen (hd.erase y) (fun x hx => h1 x (List.mem_of_mem_erase hx)) (fun x hx => by
        rcases h2 x hx with h4 | h4
        · exact .inl h4
        · exact .inr ((List.mem_erase_of_ne (by omega)).2 h4)) h3
theorem delF_any (mb bz : Nat) (z : Int) (W : Int → Option Cmd) (es : Array MapEntry) (ck : Nat) (Q : T → Obs → Glb → Prop) (hQ : ∀ es, Q (.tup []) [(mb, .map .u32 (wT (Lrn.cut W z)) es ck), (bz, .cells [u32 z])] none_) : TCalls Tryz.prog 98 [.mp 0 mb, .fn 99 [.ptr 1 bz 0]] [(mb, .map .u32 (wT W) es ck), (bz, .cells [u32 z])] none_ Q := by
  refine TCalls.of Tryz.func98 rfl (CanCall.of Tryz.func98 rfl (by decide)) [0,1] fun Γ => ?_
  refine run_sound (⟨fun _ _ => .no, [((2, 1), ([0,1,7], 3))], fun _ => none⟩) 400 (B := mb = mb ∧ ∀ (c : Nat) (ks : List Int), List.Nodup ks → (∀ (z : Int), z ∈ ks ↔ Option.isSome (wT W z) = true) → TWk Tryz.prog Γ (fin Tryz.prog Tryz.f98 [(0 : Nat), (1 : Nat)] Q) [It.code (sub (bd Tryz.f98) [(1 : Nat), (0 : Nat)]), It.blk (0 : Nat)] { fr := [T.mp (0 : Nat) mb, T.fn (99 : Nat) [T.ptr (1 : Nat) bz (0 : Nat)], T.und, T.und, T.und, T.und, T.und, T.ptr (2 : Nat) c (0 : Nat), T.und, T.und, T.und, T.und, T.und, T.und, T.und, T.und, T.und, T.und, T.und], ob := [(mb, Ob.map IntKind.u32 (wT W) es ck), (bz, Ob.cells [T.v (Value.int IntKind.u32 z)]), (c, Ob.iter (0 : Nat) mb IntKind.u32 es ck ks none)], gl := fun x => none }) (by kernel_rfl) ?_
  repeat' (first | exact rfl | exact Nat.le_of_ble_eq_true rfl | refine And.intro ?_ ?_ | intro _ | refine bsplit_mk (fun _ => ?_) (fun _ => ?_))
  rename_i ib ks hd hk
  refine delF_loop Γ mb bz ib z W ck Q hQ _ ks W es none rfl hd (fun _ _ => rfl) (fun y _ => ?_) (fun _ _ => rfl)
  cases hw : W y with
  | none => exact .inl rfl
  | some c => exact .inr ((hk y).2 (by rw [look_at hw]; rfl))
end X13
end Go.Proofs.YtpjkdcbogjigeaaGreat.Vm
