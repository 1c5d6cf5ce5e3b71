/- Texts of this claim: LC, PxA. -/
import Derived.Test.YtpjkdcbogjigeaaGreatMg15
import Derived.Test.YtpjkdcbogjigeaaGreatMg33
import Derived.Test.YtpjkdcbogjigeaaGreatMg24
import Derived.Test.YtpjkdcbogjigeaaGreatMg28
namespace Go.Proofs.YtpjkdcbogjigeaaGreat.Vm
open Go Go.RowKit
set_option maxRecDepth 100000
noncomputable abbrev kLC0 (l : List Nat) : It := .code (sub (bd Tryz.f118) l)
noncomputable abbrev kLC1 (l : List Nat) : It := .code (sub (bd Tryz.f44) l)
noncomputable abbrev wLC2 (Γ : Ctx) (Q : T → Obs → Glb → Prop) : List It → S → Prop := TWk Tryz.prog Γ (fin Tryz.prog Tryz.f118 [0, 1, 2] Q)
noncomputable abbrev wLC3 (Γ : Ctx) (Q : T → Obs → Glb → Prop) : List It → S → Prop := TWk Tryz.prog Γ (fin Tryz.prog Tryz.f44 [0, 1, 2] Q)
def plLC0 : Nat → Option RPlan := fun | 2 => some ⟨[0, 1], [13], .take true [0,1,2,3,4,5,6,7,8,9,10] (.take false [11] (.one 12 (.one 13 (.take false [14] .done))))⟩ | 4 => some ⟨[], [12], .take true [0,1,2,3,4,5,6,7,8,9,10] (.take false [11] (.one 12 (.take false [13] .done)))⟩ | 5 => some ⟨[], [5, 10], .take true [0,1,2,3,4] (.two 5 9 (.take false [6,7,8] (.one 9 (.one 10 (.take false [11] .done)))) (.one 5 (.take false [6,7,8] (.one 10 (.take false [11] .done)))))⟩ | 6 => some ⟨[], [10, 11], .take false [0,1,2,3,6] (.take true [4,5,7] (.one 8 (.take true [9] (.one 10 (.one 11 (.take false [12] .done))))))⟩ | 7 => some ⟨[], [8], .take true [0,1,2,3,4,5,6,7] (.one 8 .done)⟩ | 10 => some ⟨[], [7, 10], .take false [0,1,2,3] (.take true [4,5] (.one 6 (.one 7 (.take false [8,9] (.one 10 .done)))))⟩ | _ => none
def plLC1 : Nat → Option RPlan := fun | 3 => some ⟨[3, 4], [11, 14], .take true [0,1,3,5] (.take false [2] (.one 4 (.take true [6,7] (.one 8 (.take true [9,10] (.one 11 (.take false [12,13] (.one 14 .done))))))))⟩ | _ => none
def applyH (sel : List Nat) (b mb : Nat) (s : Lrn.LS) : Hint := .call false (Array MapEntry × Nat × Value) (fun _ => True) sel false (fun _ => .sl 17 (X13.apps (Lrn.applyL s).1)) (fun a => X13.obsL b mb (Lrn.applyL s).2 a.1 a.2.1 a.2.2) (fun _ => none_)
namespace X13
open View (Mem VS WF)
open Lrn (Cmd App LS)
open X5 (memC mems vwT viewC lim vcmd vB vwR flat zc apply_any)
theorem ap2 (Γ : Ctx) (b mb : Nat) (s : LS) (es : Array MapEntry) (ck : Nat) (hd : Value) (ho : Lrn.OkN 16 s) (hk : s.kp.length ≤ 8) (Q : T → Obs → Glb → Prop) (hQ : ∀ es ck hd, Q (.sl 17 (apps (Lrn.applyL s).1)) (obsL b mb (Lrn.applyL s).2 es ck hd) none_) :
    TWk Tryz.prog Γ (fin Tryz.prog Tryz.f100 [0,1,2] Q) [.code (sub (bd Tryz.f100) [1,1])] ⟨frame 104 [(0, .ptr 0 b 0), (3, .slx 17 3 (apps []) nilS)], obsK b mb s es ck hd [] nilS, none_⟩ := by
  have hh := fun bc => ap_head Γ b mb Q 16 s es ck hd [] nilS bc 17 ho (by decide) (by omega) (by decide) (fun es ck hd => hQ es ck hd)
  cases hc : s.W s.nx with
  | none =>
    rw [hc] at hh
    let HH : Nat → Nat → Hint := fun | 2, 8 => .res (.tup [.agg (cmdC c0), bool false]) | _, _ => .no
    exact run_sound ⟨HH, [((2, 3), ([0,3,4,5], 5))], plLC0⟩ 400 (by kernel_rfl) (Yb b (Yb b (Yb mb (Ya (look_none hc (T.agg (List.map T.v #[Value.int IntKind.u8 (0 : Int), Value.int IntKind.u8 (0 : Int), Value.int IntKind.u8 (0 : Int), Value.int IntKind.u32 (0 : Int), Value.int IntKind.u32 (0 : Int)].toList))) (fun (Z0 : Nat) => (Yk 5 Z0 (hh Z0)))))))
  | some c =>
    rw [hc] at hh
    let HH : Nat → Nat → Hint := fun | 2, 8 => .res (.tup [.agg (cmdC c), bool true]) | _, _ => .no
    exact run_sound ⟨HH, [((2, 3), ([0,3,4,5], 5))], plLC0⟩ 400 (by kernel_rfl) (Yb b (Yb b (Yb mb (Ya (look_some hc (T.agg (List.map T.v #[Value.int IntKind.u8 (0 : Int), Value.int IntKind.u8 (0 : Int), Value.int IntKind.u8 (0 : Int), Value.int IntKind.u32 (0 : Int), Value.int IntKind.u32 (0 : Int)].toList))) (fun (Z0 : Nat) => (Yk 5 Z0 (hh Z0)))))))
theorem applyR_any (b mb : Nat) (s : LS) (es : Array MapEntry) (ck : Nat) (hd : Value) (ho : Lrn.OkN 16 s) (hk : s.kp.length ≤ 8) (Q : T → Obs → Glb → Prop) (hQ : ∀ es ck hd, Q (.sl 17 (apps (Lrn.applyL s).1)) (obsL b mb (Lrn.applyL s).2 es ck hd) none_) : TCalls Tryz.prog 100 [.ptr 0 b 0] (obsL b mb s es ck hd) none_ Q := by
  refine TCalls.of Tryz.func100 rfl (CanCall.of Tryz.func100 rfl (by decide)) [0,1,2] fun Γ => ?_
  let HH : Nat → Nat → Hint := fun  | _, _ => .no
  exact run_sound ⟨HH, [((0, 2), ([0,3], 3))], fun | 2 => some ⟨[], [13], .take true [0,1,2,3,4,5,6,7,8,9,10] (.take false [11] (.one 12 (.one 13 (.take false [14] .done))))⟩ | n => plLC0 n⟩ 400 (by kernel_rfl) (show TWk Tryz.prog Γ (fin Tryz.prog Tryz.f100 [0,1,2] Q) [It.code (sub (bd Tryz.f100) [1,1])] (S.mk (frame 104 [(0, T.ptr 0 b 0), (3, T.v (Value.slice none 0 0))]) [(b, Ob.cells [u32 s.v.e, T.sl 3 (mems s.v.ms), u8 (s.v.L 0), u8 (s.v.L 1), u8 (s.v.L 2), u8 (s.v.L 3), u8 (s.v.L 4), u8 (s.v.L 5), u8 (s.v.L 6), u8 (s.v.L 7), u32 s.nx, T.mp 1 mb, T.slx 5 2 (cmds s.kp) hd]), (mb, Ob.map IntKind.u32 (wT s.W) es ck), (0, Ob.room 5 43 (List.length (cmds s.kp)) hd)] fun x => none) from (TWk.imp (ap2 Γ b mb s es ck hd ho hk Q hQ) ((Imp.room 17 72).trans (Imp.slot 17 3 3 rfl))))
theorem upd_wT (W : Int → Option Cmd) (z : Int) (c : Cmd) (y : Int) : wT (Lrn.upd W z c) y = updT (wT W) z (.agg (cmdC c)) y := by
  unfold updT wT Lrn.upd
  split <;> rfl
theorem cmd_eq (a c : Cmd) : ((a.k : Int) == c.k && ((a.n : Int) == c.n && ((a.l : Int) == c.l && (a.e == c.e && (a.q == c.q && true))))) = decide (a = c) := by
  obtain ⟨a1, a2, a3, a4, a5⟩ := a
  obtain ⟨c1, c2, c3, c4, c5⟩ := c
  rw [Bool.eq_iff_iff]
  simp only [Bool.and_eq_true, beq_iff_eq, decide_eq_true_eq, Lrn.Cmd.mk.injEq, Int.natCast_inj, and_true]
theorem dec8 (Γ : Ctx) (b mb bc : Nat) (s : LS) (es : Array MapEntry) (ck : Nat) (hd : Value) (ho : Lrn.Ok s) (z : Int) (hz : z ≤ 4294967295) (c : Cmd) (hf : Lrn.far s z = false) (Q : T → Obs → Glb → Prop)
    (hQ : ∀ es ck hd, Q (.tup [.sl 17 (apps (Lrn.applyL (Lrn.put s z c)).1), int 0]) (obsL b mb (Lrn.applyL (Lrn.put s z c)).2 es ck hd) none_) :
    wLC2 Γ Q [kLC0 [1,1,1]] ⟨frame 59 [(0, .ptr 0 b 0), (1, u32 z), (5, .ptr 3 bc 0)], obsL b mb s es ck hd ++ [(bc, .cells (cmdC c))], none_⟩ := by
  have hon := Lrn.put_ok ho hz hf c
  by_cases hge : s.nx ≤ z
  · have hp : Lrn.put s z c = { s with W := Lrn.upd s.W z c } := if_pos hge
    rw [hp] at hQ hon
    let HH : Nat → Nat → Hint := fun | 9, 6 => .fn (wT (Lrn.upd s.W z c)) | 10, 1 => applyH [0,1,2] b mb { s with W := Lrn.upd s.W z c } | _, _ => .no
    let z0 := Lrn.applyL (LS.mk s.v s.nx (Lrn.upd s.W z c) s.kp)
    exact run_sound ⟨HH, [], fun | 9 => some ⟨[0,3], [6], .take true [0,1,2,3,4,5] (.one 6 .done)⟩ | _ => none⟩ 400 (by kernel_rfl) (Yb b (Ys (decide (z ≥ s.nx)) (fun Z0 => (Yb b (Yb bc (Yb mb (Ya (fun (Z1 : Int) => (upd_wT s.W z c Z1)) (fun (Z2 : Array MapEntry) => (fun (Z3 : Nat) => (fun (Z4 : (∃ x, x ∈ es.toList ∧ x.key = Value.int IntKind.u32 z) → Z3 = ck ∧ ∀ (y : Value) (n : Nat), (∃ x, x ∈ Z2.toList ∧ x.key = y ∧ x.born = n) ↔ ∃ x, x ∈ es.toList ∧ x.key = y ∧ x.born = n) => (Ya (applyR_any b mb { s with W := Lrn.upd s.W z c } Z2 Z3 hd hon ho.k8 (HH 10 1).P (fun es ck hd => ⟨(es, ck, hd), trivial, rfl, rfl, Nat.le_of_ble_eq_true rfl, fun h => by cases h⟩)) (fun (Z5 : Array MapEntry × Nat × Value) => (fun (Z6 : True) => (hQ Z5.fst Z5.snd.fst Z5.snd.snd)))))))))))) (fun Z7 => (Ya (show TCalls Tryz.prog 100 [T.ptr 0 b 0] [(b, Ob.cells [u32 s.v.e, T.sl 3 (mems s.v.ms), u8 (s.v.L 0), u8 (s.v.L 1), u8 (s.v.L 2), u8 (s.v.L 3), u8 (s.v.L 4), u8 (s.v.L 5), u8 (s.v.L 6), u8 (s.v.L 7), u32 s.nx, T.mp 1 mb, T.slx 5 2 (cmds s.kp) hd]), (mb, Ob.map IntKind.u32 (wT s.W) es ck), (0, Ob.room 5 43 (List.length (cmds s.kp)) hd)] none_ (callPost (Hint.call false (Array MapEntry × Nat × Value) (fun x => True) [0,1,2] false (fun x => T.sl 17 (apps z0.fst)) (fun a => obsL b mb z0.snd a.fst a.snd.fst a.snd.snd) fun x => none_)) by exfalso; simp only [decide_eq_true_eq, decide_eq_false_iff_not] at *; omega) (fun (Z8 : Array MapEntry × Nat × Value) => (fun (Z9 : True) => (hQ Z8.fst Z8.snd.fst Z8.snd.snd)))))))
  · have hp : Lrn.put s z c = s := if_neg hge
    rw [hp] at hQ hon
    let HH : Nat → Nat → Hint := fun | 9, 6 => .fn (wT (Lrn.upd s.W z c)) | 10, 1 => applyH [0,1,2] b mb s | _, _ => .no
    exact run_sound ⟨HH, [], fun | 9 => some ⟨[0,3], [6], .take true [0,1,2,3,4,5] (.one 6 .done)⟩ | _ => none⟩ 400 (by kernel_rfl) (Yb b (Ys (decide (z ≥ s.nx)) (fun Z0 => (Yb b (Yb bc (Yb mb (Ya (fun (Z1 : Int) => (upd_wT s.W z c Z1)) (fun (Z2 : Array MapEntry) => (fun (Z3 : Nat) => (fun (Z4 : (∃ x, x ∈ es.toList ∧ x.key = Value.int IntKind.u32 z) → Z3 = ck ∧ ∀ (y : Value) (n : Nat), (∃ x, x ∈ Z2.toList ∧ x.key = y ∧ x.born = n) ↔ ∃ x, x ∈ es.toList ∧ x.key = y ∧ x.born = n) => (Ya (show TCalls Tryz.prog 100 [T.ptr 0 b 0] [(b, Ob.cells [u32 s.v.e, T.sl 3 (mems s.v.ms), u8 (s.v.L 0), u8 (s.v.L 1), u8 (s.v.L 2), u8 (s.v.L 3), u8 (s.v.L 4), u8 (s.v.L 5), u8 (s.v.L 6), u8 (s.v.L 7), u32 s.nx, T.mp 1 mb, T.slx 5 2 (cmds s.kp) hd]), (mb, Ob.map IntKind.u32 (wT (Lrn.upd s.W z c)) Z2 Z3), (0, Ob.room 5 43 (List.length (cmds s.kp)) hd)] none_ (callPost (Hint.call false (Array MapEntry × Nat × Value) (fun x => True) [0,1,2] false (fun x => T.sl 17 (apps (Lrn.applyL s).fst)) (fun a => obsL b mb (Lrn.applyL s).snd a.fst a.snd.fst a.snd.snd) fun x => none_)) by exfalso; simp only [decide_eq_true_eq, decide_eq_false_iff_not] at *; omega) (fun (Z5 : Array MapEntry × Nat × Value) => (fun (Z6 : True) => (hQ Z5.fst Z5.snd.fst Z5.snd.snd)))))))))))) (fun Z7 => (Ya (applyR_any b mb s es ck hd hon ho.k8 (HH 10 1).P (fun es ck hd => ⟨(es, ck, hd), trivial, rfl, rfl, Nat.le_of_ble_eq_true rfl, fun h => by cases h⟩)) (fun (Z8 : Array MapEntry × Nat × Value) => (fun (Z9 : True) => (hQ Z8.fst Z8.snd.fst Z8.snd.snd)))))))
def resE (l : List App) (e : Int) : T := if e = 0 then .tup [.sl 17 (apps l), int e] else .tup [.v nilS, int e]
theorem decide_any (b mb : Nat) (s : LS) (es : Array MapEntry) (ck : Nat) (hd : Value) (ho : Lrn.Ok s) (z : Int) (hz : 0 ≤ z ∧ z ≤ 4294967295) (c : Cmd) (Q : T → Obs → Glb → Prop)
    (hQ : ∀ es ck hd, Q (resE (Lrn.decideL s z c).2.1 (Lrn.decideL s z c).2.2) (obsL b mb (Lrn.decideL s z c).1 es ck hd) none_) : TCalls Tryz.prog 118 [.ptr 0 b 0, u32 z, .agg (cmdC c)] (obsL b mb s es ck hd) none_ Q := by
  have hw : s.nx ≤ z → IntKind.wrap .u32 (z - s.nx) = z - s.nx := fun h => wrap_u32 (by omega) (by have := ho.n0; omega)
  cases hf : Lrn.far s z with
  | true =>
    have he : Lrn.decideL s z c = (s, [], 9) := by unfold Lrn.decideL; rw [hf]; rfl
    rw [he] at hQ
    have hf2 : z = 4294967295 ∨ s.nx + 16 ≤ z := by simpa [Lrn.far] using hf
    refine TCalls.of Tryz.func118 rfl (CanCall.of Tryz.func118 rfl (by decide)) [0,1,2] fun Γ => ?_
    let HH : Nat → Nat → Hint := fun  | _, _ => .no
    let z0 := fun (Z0 : Nat) => S.mk (frame 59 [(0, T.ptr 0 b 0), (1, u32 z), (5, T.ptr 3 Z0 0)]) [(b, Ob.cells [u32 s.v.e, T.sl 3 (mems s.v.ms), u8 (s.v.L 0), u8 (s.v.L 1), u8 (s.v.L 2), u8 (s.v.L 3), u8 (s.v.L 4), u8 (s.v.L 5), u8 (s.v.L 6), u8 (s.v.L 7), u32 s.nx, T.mp 1 mb, T.slx 5 2 (cmds s.kp) hd]), (mb, Ob.map IntKind.u32 (wT s.W) es ck), (0, Ob.room 5 43 (List.length (cmds s.kp)) hd), (Z0, Ob.cells [u8 c.k, u8 c.n, u8 c.l, u32 c.e, u32 c.q])] fun x => none
    exact run_sound ⟨HH, [((0, 5), ([0,1,5], 4))], fun | 9 => some ⟨[], [6], .take true [0,1,2,3,4,5] (.one 6 .done)⟩ | _ => none⟩ 400 (by kernel_rfl) (fun (Z0 : Nat) => (Ys (z == (4294967295 : Int)) (fun Z1 => (hQ es ck hd)) (fun Z2 => (Yb b (Ys (decide (z ≥ s.nx)) (fun Z3 => (Yb b (Ys (decide (IntKind.wrap IntKind.u32 (z - s.nx) ≥ (16 : Int))) (fun Z4 => (hQ es ck hd)) (fun Z5 => (show wLC2 Γ Q [kLC0 [1,1]] (z0 Z0) by exfalso; simp only [decide_eq_true_eq, decide_eq_false_iff_not, beq_iff_eq, beq_eq_false_iff_ne] at *; first | omega | (rw [hw (by omega)] at *; omega)))))) (fun Z6 => (show wLC2 Γ Q [kLC0 [1,1]] (z0 Z0) by exfalso; simp only [decide_eq_true_eq, decide_eq_false_iff_not, beq_iff_eq, beq_eq_false_iff_ne] at *; first | omega | (rw [hw (by omega)] at *; omega))))))))
  | false =>
    have hf2 : ¬ (z = 4294967295 ∨ s.nx + 16 ≤ z) := by simpa [Lrn.far] using hf
    cases hk : Lrn.knownL s z with
    | none =>
      have he : Lrn.decideL s z c = ((Lrn.applyL (Lrn.put s z c)).2, (Lrn.applyL (Lrn.put s z c)).1, 0) := by unfold Lrn.decideL Lrn.clash; rw [hf, hk]; rfl
      rw [he] at hQ
      refine TCalls.of Tryz.func118 rfl (CanCall.of Tryz.func118 rfl (by decide)) [0,1,2] fun Γ => ?_
      let HH : Nat → Nat → Hint := fun | 5, 2 => told (.tup [.agg (cmdC c0), bool false]) [0,1,2] (obsL b mb s es ck hd) | _, _ => .no
      let z0 := [(b, Ob.cells [u32 s.v.e, T.sl 3 (mems s.v.ms), u8 (s.v.L 0), u8 (s.v.L 1), u8 (s.v.L 2), u8 (s.v.L 3), u8 (s.v.L 4), u8 (s.v.L 5), u8 (s.v.L 6), u8 (s.v.L 7), u32 s.nx, T.mp 1 mb, T.slx 5 2 (cmds s.kp) hd]), (mb, Ob.map IntKind.u32 (wT s.W) es ck), (0, Ob.room 5 43 (List.length (cmds s.kp)) hd)]
      let z1 := T.tup [T.v (Value.slice none 0 0), int (9 : Int)]
      exact run_sound ⟨HH, [((0, 8), ([0,1,5], 4))], fun | 9 => some ⟨[], [6], .take true [0,1,2,3,4,5] (.one 6 .done)⟩ | _ => none⟩ 400 (by kernel_rfl) (fun (Z0 : Nat) => (Ys (z == (4294967295 : Int)) (fun Z1 => (show Q z1 z0 fun x => none by exfalso; simp only [decide_eq_true_eq, decide_eq_false_iff_not, beq_iff_eq, beq_eq_false_iff_ne] at *; first | omega | (rw [hw (by omega)] at *; omega))) (fun Z2 => (Yb b (Ys (decide (z ≥ s.nx)) (fun Z3 => (Yb b (Ys (decide (IntKind.wrap IntKind.u32 (z - s.nx) ≥ (16 : Int))) (fun Z4 => (show Q z1 z0 fun x => none by exfalso; simp only [decide_eq_true_eq, decide_eq_false_iff_not, beq_iff_eq, beq_eq_false_iff_ne] at *; first | omega | (rw [hw (by omega)] at *; omega))) (fun Z5 => (Ya (known_any b mb s es ck hd ho z (HH 5 2).P (fun r h => told_post (by rw [h, hk]; rfl))) (Yu (fun (Z6 : Nat) => (Yk 5 Z6 (dec8 Γ b mb Z0 s es ck hd ho z hz.2 c hf Q hQ))))))))) (fun Z7 => (Ya (known_any b mb s es ck hd ho z (HH 5 2).P (fun r h => told_post (by rw [h, hk]; rfl))) (Yu (fun (Z8 : Nat) => (Yk 5 Z8 (dec8 Γ b mb Z0 s es ck hd ho z hz.2 c hf Q hQ)))))))))))
    | some w =>
      by_cases hwc : w = c
      · have he : Lrn.decideL s z c = ((Lrn.applyL (Lrn.put s z c)).2, (Lrn.applyL (Lrn.put s z c)).1, 0) := by unfold Lrn.decideL Lrn.clash; rw [hf, hk]; simp [hwc]
        rw [he] at hQ
        refine TCalls.of Tryz.func118 rfl (CanCall.of Tryz.func118 rfl (by decide)) [0,1,2] fun Γ => ?_
        let HH : Nat → Nat → Hint := fun | 5, 2 => told (.tup [.agg (cmdC w), bool true]) [0,1,2] (obsL b mb s es ck hd) | _, _ => .no
        let z0 := [(b, Ob.cells [u32 s.v.e, T.sl 3 (mems s.v.ms), u8 (s.v.L 0), u8 (s.v.L 1), u8 (s.v.L 2), u8 (s.v.L 3), u8 (s.v.L 4), u8 (s.v.L 5), u8 (s.v.L 6), u8 (s.v.L 7), u32 s.nx, T.mp 1 mb, T.slx 5 2 (cmds s.kp) hd]), (mb, Ob.map IntKind.u32 (wT s.W) es ck), (0, Ob.room 5 43 (List.length (cmds s.kp)) hd)]
        let z1 := T.tup [T.v (Value.slice none 0 0), int (9 : Int)]
        let z2 := T.tup [T.v (Value.slice none 0 0), int (4 : Int)]
        exact run_sound ⟨HH, [((0, 8), ([0,1,5], 4))], fun | 9 => some ⟨[], [6], .take true [0,1,2,3,4,5] (.one 6 .done)⟩ | _ => none⟩ 400 (by kernel_rfl) (fun (Z0 : Nat) => (Ys (z == (4294967295 : Int)) (fun Z1 => (show Q z1 z0 fun x => none by exfalso; simp only [decide_eq_true_eq, decide_eq_false_iff_not, beq_iff_eq, beq_eq_false_iff_ne] at *; first | omega | (rw [hw (by omega)] at *; omega))) (fun Z2 => (Yb b (Ys (decide (z ≥ s.nx)) (fun Z3 => (Yb b (Ys (decide (IntKind.wrap IntKind.u32 (z - s.nx) ≥ (16 : Int))) (fun Z4 => (show Q z1 z0 fun x => none by exfalso; simp only [decide_eq_true_eq, decide_eq_false_iff_not, beq_iff_eq, beq_eq_false_iff_ne] at *; first | omega | (rw [hw (by omega)] at *; omega))) (fun Z5 => (Ya (known_any b mb s es ck hd ho z (HH 5 2).P (fun r h => told_post (by rw [h, hk]; rfl))) (Yu (fun (Z6 : Nat) => (Yk 5 Z6 (Yb Z6 (Yb Z0 (Ys (!((↑w.k : Int) == (↑c.k : Int) && ((↑w.n : Int) == (↑c.n : Int) && ((↑w.l : Int) == (↑c.l : Int) && (w.e == c.e && (w.q == c.q && true)))))) (fun Z7 => (show Q z2 z0 fun x => none by exfalso; rw [cmd_eq] at Z7; simp [hwc] at Z7; done)) (fun Z8 => (dec8 Γ b mb Z0 s es ck hd ho z hz.2 c hf Q hQ))))))))))))) (fun Z9 => (Ya (known_any b mb s es ck hd ho z (HH 5 2).P (fun r h => told_post (by rw [h, hk]; rfl))) (Yu (fun (Z10 : Nat) => (Yk 5 Z10 (Yb Z10 (Yb Z0 (Ys (!((↑w.k : Int) == (↑c.k : Int) && ((↑w.n : Int) == (↑c.n : Int) && ((↑w.l : Int) == (↑c.l : Int) && (w.e == c.e && (w.q == c.q && true)))))) (fun Z11 => (show Q z2 z0 fun x => none by exfalso; rw [cmd_eq] at Z11; simp [hwc] at Z11; done)) (fun Z12 => (dec8 Γ b mb Z0 s es ck hd ho z hz.2 c hf Q hQ)))))))))))))))
      · have he : Lrn.decideL s z c = (s, [], 4) := by unfold Lrn.decideL Lrn.clash; rw [hf, hk]; simp [hwc]
        rw [he] at hQ
        refine TCalls.of Tryz.func118 rfl (CanCall.of Tryz.func118 rfl (by decide)) [0,1,2] fun Γ => ?_
        let HH : Nat → Nat → Hint := fun | 5, 2 => told (.tup [.agg (cmdC w), bool true]) [0,1,2] (obsL b mb s es ck hd) | _, _ => .no
        let z0 := (b, Ob.cells [u32 s.v.e, T.sl 3 (mems s.v.ms), u8 (s.v.L 0), u8 (s.v.L 1), u8 (s.v.L 2), u8 (s.v.L 3), u8 (s.v.L 4), u8 (s.v.L 5), u8 (s.v.L 6), u8 (s.v.L 7), u32 s.nx, T.mp 1 mb, T.slx 5 2 (cmds s.kp) hd])
        let z4 := (0, Ob.room 5 43 (List.length (cmds s.kp)) hd)
        let z1 := fun (Z0 : Nat) => S.mk (frame 59 [(0, T.ptr 0 b 0), (1, u32 z), (5, T.ptr 3 Z0 0)]) [z0, (mb, Ob.map IntKind.u32 (wT s.W) es ck), z4, (Z0, Ob.cells [u8 c.k, u8 c.n, u8 c.l, u32 c.e, u32 c.q])] fun x => none
        let z2 := [z0, (mb, Ob.map IntKind.u32 (wT s.W) es ck), z4]
        let z3 := T.tup [T.v (Value.slice none 0 0), int (9 : Int)]
        exact run_sound ⟨HH, [((0, 8), ([0,1,5], 4))], fun | 9 => some ⟨[], [6], .take true [0,1,2,3,4,5] (.one 6 .done)⟩ | _ => none⟩ 400 (by kernel_rfl) (fun (Z0 : Nat) => (Ys (z == (4294967295 : Int)) (fun Z1 => (show Q z3 z2 fun x => none by exfalso; simp only [decide_eq_true_eq, decide_eq_false_iff_not, beq_iff_eq, beq_eq_false_iff_ne] at *; first | omega | (rw [hw (by omega)] at *; omega))) (fun Z2 => (Yb b (Ys (decide (z ≥ s.nx)) (fun Z3 => (Yb b (Ys (decide (IntKind.wrap IntKind.u32 (z - s.nx) ≥ (16 : Int))) (fun Z4 => (show Q z3 z2 fun x => none by exfalso; simp only [decide_eq_true_eq, decide_eq_false_iff_not, beq_iff_eq, beq_eq_false_iff_ne] at *; first | omega | (rw [hw (by omega)] at *; omega))) (fun Z5 => (Ya (known_any b mb s es ck hd ho z (HH 5 2).P (fun r h => told_post (by rw [h, hk]; rfl))) (Yu (fun (Z6 : Nat) => (Yk 5 Z6 (Yb Z6 (Yb Z0 (Ys (!((↑w.k : Int) == (↑c.k : Int) && ((↑w.n : Int) == (↑c.n : Int) && ((↑w.l : Int) == (↑c.l : Int) && (w.e == c.e && (w.q == c.q && true)))))) (fun Z7 => (hQ es ck hd)) (fun Z8 => (show wLC2 Γ Q [kLC0 [1,1,1]] (z1 Z0) by exfalso; rw [cmd_eq] at Z8; simp [hwc] at Z8; done))))))))))))) (fun Z9 => (Ya (known_any b mb s es ck hd ho z (HH 5 2).P (fun r h => told_post (by rw [h, hk]; rfl))) (Yu (fun (Z10 : Nat) => (Yk 5 Z10 (Yb Z10 (Yb Z0 (Ys (!((↑w.k : Int) == (↑c.k : Int) && ((↑w.n : Int) == (↑c.n : Int) && ((↑w.l : Int) == (↑c.l : Int) && (w.e == c.e && (w.q == c.q && true)))))) (fun Z11 => (hQ es ck hd)) (fun Z12 => (show wLC2 Γ Q [kLC0 [1,1,1]] (z1 Z0) by exfalso; rw [cmd_eq] at Z12; simp [hwc] at Z12; done)))))))))))))))
end X13
end Go.Proofs.YtpjkdcbogjigeaaGreat.Vm
namespace Go.Proofs.YtpjkdcbogjigeaaGreat.Vm
open Go Go.RowKit
set_option maxRecDepth 100000
namespace X14
open Acp (En AS Rc blw VOk IsE XOk)
open View (VS Mem)
open Lrn (LS App)
open X5 (viewC mems memC)
open Jrn (Dk)
open X9 (dkC obsK dkH dk_post)
open X10 (strs jC obsJ)
open X11 (obsA enC)
open X12 (PM PP)
open X13 (obsL cmdC apps)
structure EA where
  s : PM
  g : Glb
  hd : Value
  es : Array MapEntry
  ck : Nat
  les : Array MapEntry
  lck : Nat
  lhd : Value
def enC (ab pb lb : Nat) (pat q rn rb : Int) : List T := [.ptr 6 ab 0, .ptr 0 pb 0, .ptr 8 lb 0, u8 1, int 1, int pat, int q, u32 rn, u8 rb]
def obsE (pb db jb ab mb lb lm xb : Nat) (l : List (List UInt8)) (x : AS) (L : LS) (pat q rn rb : Int) (a : EA) : Obs :=
  a.s.obs pb ++ ((obsA db jb ab mb (Jrn.jd l) l a.hd false x a.es a.ck).map (ixOb fun k => [3,4,5,6,7].getD k 0) ++ ((obsL lb lm L a.les a.lck a.lhd).map (ixOb fun k => [8,9,10].getD k 0) ++ [(xb, .cells (enC ab pb lb pat q rn rb))]))
def eH (pb db jb ab mb lb lm xb : Nat) (y : T) (p : PP) (l : List (List UInt8)) (x : AS) (L : LS) (pat q rn rb : Int) : Hint := .call false EA (fun a => X12.Left p a.s a.g) [0,1,2,3,4,5,6,7,8,9,10,11] true (fun _ => y) (fun a => obsE pb db jb ab mb lb lm xb l x L pat q rn rb a) (fun a => a.g)
def lkH (y : T) : Hint := .withA fun ob _ => told y [8,9,10] (([8,9,10].filterMap fun i => ob[i]?).map (fwdO [8,9,10]))
def keepE (y : T) : Hint := .withA fun ob _ => told y [0,1,2,3,4,5,6,7,8,9,10,11] ([0,1,2,3,4,5,6,7,8,9,10,11].filterMap fun i => ob[i]?)
section
variable {pb db jb ab mb lb lm xb : Nat} {l : List (List UInt8)} {x : AS} {L : LS} {pat q rn rb : Int} {a : EA} {p : PP}
theorem others1 (o f : T) (k : Nat) (Q : T → Obs → Glb → Prop) (hQ : Q (.tup []) (obsE pb db jb ab mb lb lm xb l x L pat q rn rb a) none_) : TCalls Tryz.prog 48 [.ptr 11 xb 0, o, u8 k, f] (obsE pb db jb ab mb lb lm xb l x L pat q rn rb a) none_ Q := by
  refine TCalls.of Tryz.func48 rfl (CanCall.of Tryz.func48 rfl (by decide)) [0,1,2,3,4,5,6,7,8,9,10,11] fun Γ => ?_
  let HH : Nat → Nat → Hint := fun _ _ => .no
  exact run_sound ⟨HH, [], fun _ => none⟩ 400 (by kernel_rfl) (Yb xb (Yb xb (Yb xb hQ)))
theorem phase_e (h : X12.Left p a.s a.g) (hp : p.Ok) : TCalls Tryz.prog 47 [.ptr 11 xb 0] (obsE pb db jb ab mb lb lm xb l x L pat q rn rb a) a.g (callPost (eH pb db jb ab mb lb lm xb (int p.x.ph) p l x L pat q rn rb)) := by
  have ph := X12.phase_h (b := pb) h hp
  have hQ : ∀ s g, X12.Left p s g → callPost (eH pb db jb ab mb lb lm xb (int p.x.ph) p l x L pat q rn rb) (int p.x.ph) (obsE pb db jb ab mb lb lm xb l x L pat q rn rb { a with s := s, g := g }) g := fun s g h => ⟨{ a with s := s, g := g }, h, rfl, rfl, Nat.le_of_ble_eq_true rfl, fun _ => rfl⟩
  generalize callPost (eH pb db jb ab mb lb lm xb (int p.x.ph) p l x L pat q rn rb) = Q at *
  generalize Jrn.jd l = d0 at *
  refine TCalls.of Tryz.func47 rfl (CanCall.of Tryz.func47 rfl (by decide)) [0,1,2,3,4,5,6,7,8,9,10,11] fun Γ => ?_
  let HH : Nat → Nat → Hint := fun | 1, 5 => pmH pb (.tup [int p.x.ph, .agg [u32 p.x.n, u8 p.x.b], u32 p.x.nx]) p | _, _ => .no
  exact run_sound ⟨HH, [], fun  | _ => none⟩ 400 (by kernel_rfl) (Yb xb (Ya ph (fun (Z0 : PM × Glb) => (fun (Z1 : X12.Left p Z0.fst Z0.snd) => (fun (Z2 : Nat) => (Yk 2 Z2 (hQ Z0.1 Z0.snd Z1)))))))
theorem learnt_e (h : X12.Left p a.s a.g) (hp : p.Ok) : TCalls Tryz.prog 119 [.ptr 11 xb 0] (obsE pb db jb ab mb lb lm xb l x L pat q rn rb a) a.g (callPost (eH pb db jb ab mb lb lm xb (.tup []) (X12.pLearn p L.nx) l x L pat q rn rb)) := by
  have ln := X12.learn_h (b := pb) h hp L.nx
  have nx := fun Q' hq => X13.next_any lb lm L a.les a.lck a.lhd Q' hq
  have hQ : ∀ s g, X12.Left (X12.pLearn p L.nx) s g → callPost (eH pb db jb ab mb lb lm xb (.tup []) (X12.pLearn p L.nx) l x L pat q rn rb) (.tup []) (obsE pb db jb ab mb lb lm xb l x L pat q rn rb { a with s := s, g := g }) g := fun s g h => ⟨{ a with s := s, g := g }, h, rfl, rfl, Nat.le_of_ble_eq_true rfl, fun _ => rfl⟩
  generalize callPost (eH pb db jb ab mb lb lm xb (.tup []) (X12.pLearn p L.nx) l x L pat q rn rb) = Q at *
  generalize X12.pLearn p L.nx = p2 at *
  generalize Jrn.jd l = d0 at *
  refine TCalls.of Tryz.func119 rfl (CanCall.of Tryz.func119 rfl (by decide)) [0,1,2,3,4,5,6,7,8,9,10,11] fun Γ => ?_
  let HH : Nat → Nat → Hint := fun | 0, 10 => lkH (u32 L.nx) | 0, 11 => pmH pb (.tup []) p2 | _, _ => .no
  exact run_sound ⟨HH, [], fun | 0 => some ⟨[11], [11], .take true [0,1,2,3,4,5,6,7,8,9] (.one 10 (.one 11 .done))⟩ | _ => none⟩ 400 (by kernel_rfl) (Yb xb (Yb xb (Ya (nx (callPost (Hint.call false Unit (fun x => True) [8,9,10] false (fun x => u32 L.nx) (fun x_1 => List.map (fwdO [8,9,10]) (List.filterMap (fun i => (S.mk (frame 14 [(0, T.ptr 11 xb 0), (1, T.v (Value.tuple #[])), (2, T.ptr 11 xb 0), (3, T.ptr 11 xb 0), (4, T.ptr 11 xb 0), (5, T.ptr 11 xb 1), (6, T.ptr 0 pb 0), (7, T.ptr 11 xb 0), (8, T.ptr 11 xb 0), (9, T.ptr 11 xb 0), (10, T.ptr 11 xb 2), (11, T.ptr 8 lb 0), (12, T.v (Value.tuple #[])), (13, T.v (Value.tuple #[]))]) [(pb, Ob.cells (PM.c0 a.s)), PM.ob1 a.s, PM.ob2 a.s, (db, Ob.cells [T.v (Value.string (ByteArray.mk (List.toArray (Jrn.jd l).b))), int (Jrn.jd l).n, bool false]), (jb, Ob.cells [T.ptr 3 db 0, T.slx 1 5 (strs l) a.hd, bool false]), (0, Ob.room 1 9 (List.length (strs l)) a.hd), (ab, Ob.cells [T.ptr 4 jb 0, u32 x.pn, u8 x.pb, u32 x.low, u32 x.v.e, T.sl 3 (mems x.v.ms), u8 (x.v.L 0), u8 (x.v.L 1), u8 (x.v.L 2), u8 (x.v.L 3), u8 (x.v.L 4), u8 (x.v.L 5), u8 (x.v.L 6), u8 (x.v.L 7), T.mp 7 mb]), (mb, Ob.map IntKind.u32 (X11.enF x.E) a.es a.ck), (lb, Ob.cells [u32 L.v.e, T.sl 3 (mems L.v.ms), u8 (L.v.L 0), u8 (L.v.L 1), u8 (L.v.L 2), u8 (L.v.L 3), u8 (L.v.L 4), u8 (L.v.L 5), u8 (L.v.L 6), u8 (L.v.L 7), u32 L.nx, T.mp 9 lm, T.slx 5 10 (X13.cmds L.kp) a.lhd]), (lm, Ob.map IntKind.u32 (X13.wT L.W) a.les a.lck), (0, Ob.room 5 43 (List.length (X13.cmds L.kp)) a.lhd), (0, Ob.gone)] a.g).ob[i]?) [8,9,10])) fun x => none_)) (fun _ e => told_post e)) (Yu (Ya ln (fun (Z0 : PM × Glb) => (fun (Z1 : X12.Left p2 Z0.fst Z0.snd) => (hQ Z0.1 Z0.snd Z1))))))))
end
end X14
end Go.Proofs.YtpjkdcbogjigeaaGreat.Vm
