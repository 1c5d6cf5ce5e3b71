/- Texts of this claim: RpG. -/
import Derived.Test.YtafcbipmmjegcaaMg15
import Derived.Test.YtafcbipmmjegcaaMg20
namespace Go.Proofs.Ytafcbipmmjegcaa.Vm
open Go Go.RowKit
set_option maxRecDepth 100000
def plRpG0 : Nat → Option RPlan := fun | 1 => some ⟨[0], [8], .take true [0,1,2,3,4,5,6,7] (.one 8 (.take false [9,10,11,12,13] .done))⟩ | _ => none
def plRpG1 : Nat → Option RPlan := fun | 1 => some ⟨[0, 4], [6], .take true [0,1,2,3,4,5] (.one 6 (.take false [7] .done))⟩ | 2 => some ⟨[], [8], .take true [0,1,2,3,4,5,6] (.one 7 (.one 8 .done))⟩ | _ => none
def plRpG2 : Nat → Option RPlan := fun | 1 => some ⟨[0, 1], [], .take true [0,1,2,3,4,5,6] .done⟩ | 2 => some ⟨[0, 1], [6, 11], .take true [0,1,2,3,4,5] (.two 6 10 (.take false [7,8,9] (.one 10 (.one 11 (.take false [12] .done)))) (.one 6 (.take false [7,8,9] (.one 11 (.take false [12] .done)))))⟩ | _ => none
namespace X20
open Rep (Stp Wrd Cel Drv Plc RS Fm Ev setP setC)
open X5 (viewC lim othV hasV aheadV behindV ends_any)
theorem sendon_any (b bo : Nat) (r : RS) (D : Dr) (F : List Fm) (hf : Value) (E : List Ev) (he : Value) (f : Fm) (hl : lim r.v.ms) (hF : F.length + 1 ≤ 1000000) (Q : T → Obs → Glb → Prop) (hQ : ∀ hf', Q (.tup []) (obsR b r D ++ obsO 1 bo (F ++ Rep.sendOn r f) hf' E he) none_) :
  TCalls Try.prog 86 [.ptr 0 b 0, .ptr 1 bo 0, .agg (frC f)] (obsR b r D ++ obsO 1 bo F hf E he) none_ Q := by
 have key : ∀ n : Nat, (f.dir = 1 ∧ n = aheadV r.v.ms r.self) ∨ (f.dir = 2 ∧ n = behindV r.v.ms r.self) → (n = 0 → Rep.sendOn r f = []) ∧ (n ≠ 0 → Rep.sendOn r f = [{ f with to := Rep.ad n }]) := by
  rintro n (⟨h1, rfl⟩ | ⟨h1, rfl⟩)
  ·unfold Rep.sendOn; rw [h1]; simp
  ·unfold Rep.sendOn; rw [h1]; simp
 by_cases h1 : f.dir = 1
 ·obtain ⟨k0, k1⟩ := key _ (.inl ⟨h1, rfl⟩)
  clear key
  by_cases hz : aheadV r.v.ms r.self = 0
  ·have hQ := hQ hf
   rw [k0 hz, List.append_nil] at hQ
   clear k0 k1
   refine TCalls.of Try.func86 rfl (CanCall.of Try.func86 rfl (by decide)) [0,1,2,3] fun Γ => ?_
   let HH : Nat → Nat → Hint := fun | 1, 8 => told (.tup [u8 (aheadV r.v.ms r.self), u8 (behindV r.v.ms r.self)]) [] [] | _, _ => .no
   exact run_sound ⟨HH, [], plRpG0⟩ 400 (by kernel_rfl) (fun (Z0 : Nat) => (Yb b (Yb b (Ya (ends_any r.v r.self hl (HH 1 8).P fun _ h => told_post h) (Yu (Yb Z0 (Ys ((↑f.dir : Int) == (1 : Int)) (fun Z1 => (Ys ((↑(aheadV r.v.ms r.self) : Int) != (0 : Int)) (fun Z2 => (Yl 1 (Yb Z0 (Ya (Yn (3) (34) rfl) (Yb Z0 (show False by exfalso; simp only [beq_iff_eq, beq_eq_false_iff_ne, bne_iff_ne] at *; omega)))))) (fun Z3 => hQ))) (fun Z4 => (Ys ((↑f.dir : Int) == (2 : Int)) (fun Z5 => (Ys ((↑(behindV r.v.ms r.self) : Int) != (0 : Int)) (fun Z6 => (Yl 1 (Yb Z0 (Ya (Yn (3) (34) rfl) (Yb Z0 (show False by exfalso; simp only [beq_iff_eq, beq_eq_false_iff_ne, bne_iff_ne] at *; omega)))))) (fun Z7 => hQ))) (fun Z8 => hQ))))))))))
  ·rw [k1 hz] at hQ
   clear k0 k1
   refine TCalls.of Try.func86 rfl (CanCall.of Try.func86 rfl (by decide)) [0,1,2,3] fun Γ => ?_
   let HH : Nat → Nat → Hint := fun | 1, 8 => told (.tup [u8 (aheadV r.v.ms r.self), u8 (behindV r.v.ms r.self)]) [] [] | 10, 3 => sendH 1 bo F E he { f with to := Rep.ad (aheadV r.v.ms r.self) } | _, _ => .no
   let z1 := List.map (fun x => T.agg (frC x)) F
   let z2 := List.map (fun x => T.agg (evC x)) E
   let z0 := [(b, Ob.cells (repC r D)), (bo, Ob.cells [T.slx 34 2 z1 hf, T.slx 5 3 z2 he]), (0, Ob.room 34 70 (List.length z1) hf), (0, Ob.room 5 73 (List.length z2) he)]
   exact run_sound ⟨HH, [], plRpG0⟩ 400 (by kernel_rfl) (fun (Z0 : Nat) => (Yb b (Yb b (Ya (ends_any r.v r.self hl (HH 1 8).P fun _ h => told_post h) (Yu (Yb Z0 (Ys ((↑f.dir : Int) == (1 : Int)) (fun Z1 => (Ys ((↑(aheadV r.v.ms r.self) : Int) != (0 : Int)) (fun Z2 => (Yl 1 (Yb Z0 (Ya (Yn (3) (34) rfl) (Yb Z0 (Ya (send1 bo F hf E he { f with to := Rep.ad (aheadV r.v.ms r.self) } hF) (fun (Z3 : Value) => (fun (Z4 : True) => (hQ Z3))))))))) (fun Z5 => (show Q (T.tup []) z0 fun x => none by exfalso; simp only [beq_iff_eq, beq_eq_false_iff_ne, bne_iff_ne, bne_eq_false_iff_eq] at *; omega)))) (fun Z6 => (Ys ((↑f.dir : Int) == (2 : Int)) (fun Z7 => (Ys ((↑(behindV r.v.ms r.self) : Int) != (0 : Int)) (fun Z8 => (Yl 1 (Yb Z0 (Ya (Yn (3) (34) rfl) (Yb Z0 (Ya (show TCalls Try.prog 39 [T.ptr 0 bo 0, T.sl 34 [T.agg [u8 f.kind, u8 f.frm, u8 (IntKind.wrap IntKind.u8 ((16 : Int) + (↑(behindV r.v.ms r.self) : Int))), u32 f.epoch, u8 f.key, u32 f.w.s.n, u8 f.w.s.b, u8 f.w.s.l, bool f.w.h, T.v (Value.string f.w.t), bool f.w.r, bool f.flag, u8 f.dir, u8 (0 : Int), u32 (0 : Int), u32 (0 : Int), u8 (0 : Int), u32 (0 : Int), u8 (0 : Int), u8 (0 : Int), u8 (0 : Int), u32 (0 : Int), u32 (0 : Int), u32 (0 : Int), T.v (Value.slice none 0 0), u8 (0 : Int), u8 (0 : Int), u8 (0 : Int), u8 (0 : Int), u8 (0 : Int), u8 (0 : Int), u8 (0 : Int), u8 (0 : Int), T.v (Value.slice none 0 0)]]] [(bo, Ob.cells [T.slx 34 1 z1 hf, T.slx 5 2 z2 he]), (0, Ob.room 34 70 (List.length z1) hf), (0, Ob.room 5 73 (List.length z2) he)] none_ (callPost (Hint.call false Value (fun x => True) [1, 1 + 1, 1 + 2] false (fun x => T.tup []) (fun hf => obsO 0 bo (F ++ [Fm.mk f.kind f.frm (Rep.ad (aheadV r.v.ms r.self)) f.epoch f.key f.w f.flag f.dir]) hf E he) fun x => none_)) by exfalso; simp only [beq_iff_eq, beq_eq_false_iff_ne, bne_iff_ne, bne_eq_false_iff_eq] at *; omega) (fun (Z9 : Value) => (fun (Z10 : True) => (hQ Z9))))))))) (fun Z11 => (show Q (T.tup []) z0 fun x => none by exfalso; simp only [beq_iff_eq, beq_eq_false_iff_ne, bne_iff_ne, bne_eq_false_iff_eq] at *; omega)))) (fun Z12 => (show Q (T.tup []) z0 fun x => none by exfalso; simp only [beq_iff_eq, beq_eq_false_iff_ne, bne_iff_ne, bne_eq_false_iff_eq] at *; omega)))))))))))
 ·by_cases h2 : f.dir = 2
  ·obtain ⟨k0, k1⟩ := key _ (.inr ⟨h2, rfl⟩)
   clear key
   by_cases hz : behindV r.v.ms r.self = 0
   ·have hQ := hQ hf
    rw [k0 hz, List.append_nil] at hQ
    clear k0 k1
    refine TCalls.of Try.func86 rfl (CanCall.of Try.func86 rfl (by decide)) [0,1,2,3] fun Γ => ?_
    let HH : Nat → Nat → Hint := fun | 1, 8 => told (.tup [u8 (aheadV r.v.ms r.self), u8 (behindV r.v.ms r.self)]) [] [] | _, _ => .no
    exact run_sound ⟨HH, [], plRpG0⟩ 400 (by kernel_rfl) (fun (Z0 : Nat) => (Yb b (Yb b (Ya (ends_any r.v r.self hl (HH 1 8).P fun _ h => told_post h) (Yu (Yb Z0 (Ys ((↑f.dir : Int) == (1 : Int)) (fun Z1 => (Ys ((↑(aheadV r.v.ms r.self) : Int) != (0 : Int)) (fun Z2 => (Yl 1 (Yb Z0 (Ya (Yn (3) (34) rfl) (Yb Z0 (show False by exfalso; simp only [beq_iff_eq, beq_eq_false_iff_ne, bne_iff_ne] at *; omega)))))) (fun Z3 => hQ))) (fun Z4 => (Ys ((↑f.dir : Int) == (2 : Int)) (fun Z5 => (Ys ((↑(behindV r.v.ms r.self) : Int) != (0 : Int)) (fun Z6 => (Yl 1 (Yb Z0 (Ya (Yn (3) (34) rfl) (Yb Z0 (show False by exfalso; simp only [beq_iff_eq, beq_eq_false_iff_ne, bne_iff_ne] at *; omega)))))) (fun Z7 => hQ))) (fun Z8 => hQ))))))))))
   ·rw [k1 hz] at hQ
    clear k0 k1
    refine TCalls.of Try.func86 rfl (CanCall.of Try.func86 rfl (by decide)) [0,1,2,3] fun Γ => ?_
    let HH : Nat → Nat → Hint := fun | 1, 8 => told (.tup [u8 (aheadV r.v.ms r.self), u8 (behindV r.v.ms r.self)]) [] [] | 10, 3 => sendH 1 bo F E he { f with to := Rep.ad (behindV r.v.ms r.self) } | _, _ => .no
    let z1 := List.map (fun x => T.agg (frC x)) F
    let z2 := List.map (fun x => T.agg (evC x)) E
    let z0 := [(b, Ob.cells (repC r D)), (bo, Ob.cells [T.slx 34 2 z1 hf, T.slx 5 3 z2 he]), (0, Ob.room 34 70 (List.length z1) hf), (0, Ob.room 5 73 (List.length z2) he)]
    exact run_sound ⟨HH, [], plRpG0⟩ 400 (by kernel_rfl) (fun (Z0 : Nat) => (Yb b (Yb b (Ya (ends_any r.v r.self hl (HH 1 8).P fun _ h => told_post h) (Yu (Yb Z0 (Ys ((↑f.dir : Int) == (1 : Int)) (fun Z1 => (Ys ((↑(aheadV r.v.ms r.self) : Int) != (0 : Int)) (fun Z2 => (Yl 1 (Yb Z0 (Ya (Yn (3) (34) rfl) (Yb Z0 (Ya (show TCalls Try.prog 39 [T.ptr 0 bo 0, T.sl 34 [T.agg [u8 f.kind, u8 f.frm, u8 (IntKind.wrap IntKind.u8 ((16 : Int) + (↑(aheadV r.v.ms r.self) : Int))), u32 f.epoch, u8 f.key, u32 f.w.s.n, u8 f.w.s.b, u8 f.w.s.l, bool f.w.h, T.v (Value.string f.w.t), bool f.w.r, bool f.flag, u8 f.dir, u8 (0 : Int), u32 (0 : Int), u32 (0 : Int), u8 (0 : Int), u32 (0 : Int), u8 (0 : Int), u8 (0 : Int), u8 (0 : Int), u32 (0 : Int), u32 (0 : Int), u32 (0 : Int), T.v (Value.slice none 0 0), u8 (0 : Int), u8 (0 : Int), u8 (0 : Int), u8 (0 : Int), u8 (0 : Int), u8 (0 : Int), u8 (0 : Int), u8 (0 : Int), T.v (Value.slice none 0 0)]]] [(bo, Ob.cells [T.slx 34 1 z1 hf, T.slx 5 2 z2 he]), (0, Ob.room 34 70 (List.length z1) hf), (0, Ob.room 5 73 (List.length z2) he)] none_ (callPost (Hint.call false Value (fun x => True) [1, 1 + 1, 1 + 2] false (fun x => T.tup []) (fun hf => obsO 0 bo (F ++ [Fm.mk f.kind f.frm (Rep.ad (behindV r.v.ms r.self)) f.epoch f.key f.w f.flag f.dir]) hf E he) fun x => none_)) by exfalso; simp only [beq_iff_eq, beq_eq_false_iff_ne, bne_iff_ne, bne_eq_false_iff_eq] at *; omega) (fun (Z3 : Value) => (fun (Z4 : True) => (hQ Z3))))))))) (fun Z5 => (show Q (T.tup []) z0 fun x => none by exfalso; simp only [beq_iff_eq, beq_eq_false_iff_ne, bne_iff_ne, bne_eq_false_iff_eq] at *; omega)))) (fun Z6 => (Ys ((↑f.dir : Int) == (2 : Int)) (fun Z7 => (Ys ((↑(behindV r.v.ms r.self) : Int) != (0 : Int)) (fun Z8 => (Yl 1 (Yb Z0 (Ya (Yn (3) (34) rfl) (Yb Z0 (Ya (send1 bo F hf E he { f with to := Rep.ad (behindV r.v.ms r.self) } hF) (fun (Z9 : Value) => (fun (Z10 : True) => (hQ Z9))))))))) (fun Z11 => (show Q (T.tup []) z0 fun x => none by exfalso; simp only [beq_iff_eq, beq_eq_false_iff_ne, bne_iff_ne, bne_eq_false_iff_eq] at *; omega)))) (fun Z12 => (show Q (T.tup []) z0 fun x => none by exfalso; simp only [beq_iff_eq, beq_eq_false_iff_ne, bne_iff_ne, bne_eq_false_iff_eq] at *; omega)))))))))))
  ·have hQ := hQ hf
   rw [show Rep.sendOn r f = [] by unfold Rep.sendOn; rw [if_neg h1, if_neg h2], List.append_nil] at hQ
   clear key
   refine TCalls.of Try.func86 rfl (CanCall.of Try.func86 rfl (by decide)) [0,1,2,3] fun Γ => ?_
   let HH : Nat → Nat → Hint := fun | 1, 8 => told (.tup [u8 (aheadV r.v.ms r.self), u8 (behindV r.v.ms r.self)]) [] [] | _, _ => .no
   exact run_sound ⟨HH, [], plRpG0⟩ 400 (by kernel_rfl) (fun (Z0 : Nat) => (Yb b (Yb b (Ya (ends_any r.v r.self hl (HH 1 8).P fun _ h => told_post h) (Yu (Yb Z0 (Ys ((↑f.dir : Int) == (1 : Int)) (fun Z1 => (Ys ((↑(aheadV r.v.ms r.self) : Int) != (0 : Int)) (fun Z2 => (Yl 1 (Yb Z0 (Ya (Yn (3) (34) rfl) (Yb Z0 (show False by exfalso; simp only [beq_iff_eq, beq_eq_false_iff_ne, bne_iff_ne] at *; omega)))))) (fun Z3 => hQ))) (fun Z4 => (Ys ((↑f.dir : Int) == (2 : Int)) (fun Z5 => (Ys ((↑(behindV r.v.ms r.self) : Int) != (0 : Int)) (fun Z6 => (Yl 1 (Yb Z0 (Ya (Yn (3) (34) rfl) (Yb Z0 (show False by exfalso; simp only [beq_iff_eq, beq_eq_false_iff_ne, bne_iff_ne] at *; omega)))))) (fun Z7 => hQ))) (fun Z8 => hQ))))))))))
theorem dT_one (o : Option Drv) (g : Nat) : T.one (dT o g) = true := by cases o <;> rfl
theorem plC_one (p : Plc) (g : Nat) : (plC p g).all T.one = true := by
 simp only [plC, List.all_cons, List.all_nil, dT_one]
 rfl
theorem Own.cell {D : Dr} {r : RS} {gl : Glb} (h : Own D r gl) (k : Nat) (c : Cel) : Own D (setC r k c) gl ∧ Step gl D r gl D (setC r k c) := h.same k { r.P k with c := c } rfl
theorem need_any (b bo : Nat) (r : RS) (D : Dr) (F : List Fm) (hf : Value) (E : List Ev) (he : Value) (f : Fm) (frm : Nat) (hk : f.key < 6) (gl : Glb) (ho : Own D r gl) (hF : F.length + 1 ≤ 1000000) (Q : T → Obs → Glb → Prop) (hQ : ∀ hf', Q (.tup []) (obsR b r D ++ obsO 1 bo (F ++ Rep.onNeed r f frm) hf' E he) gl) :
  TCalls Try.prog 52 [.ptr 0 b 0, .ptr 1 bo 0, .agg (frC f), u8 frm] (obsR b r D ++ obsO 1 bo F hf E he) gl Q := by
 have hst : decide ((r.P f.key).c.st = 1) = ((((r.P f.key).c.st : Nat) : Int) == 1) := by rw [Bool.eq_iff_iff]; simp only [decide_eq_true_eq, beq_iff_eq]; omega
 cases hh : r.has f.key with
 | false =>
  have hQ := hQ hf
  rw [show Rep.onNeed r f frm = [] by unfold Rep.onNeed; rw [hh]; rfl, List.append_nil] at hQ
  refine TCalls.of Try.func52 rfl (CanCall.of Try.func52 rfl (by decide)) [0,1,2,3] fun Γ => ?_
  let HH : Nat → Nat → Hint := fun | 1, 6 => toldG (bool false) [] [] gl | _, _ => .no
  exact run_sound ⟨HH, [], plRpG1⟩ 400 (by kernel_rfl) (fun (Z0 : Nat) => (Yb b (Yb Z0 (Ya (thasG ho.tr f.key (HH 1 6).P (toldG_post (by rw [hh, Bool.and_false]))) (Yu hQ)))))
 | true =>
  rw [show Rep.onNeed r f frm = [Rep.frW r 5 frm f.key (r.P f.key).c.w (decide ((r.P f.key).c.st = 1)) 0] by unfold Rep.onNeed; rw [hh]; rfl, hst] at hQ
  refine TCalls.of Try.func52 rfl (CanCall.of Try.func52 rfl (by decide)) [0,1,2,3] fun Γ => ?_
  let HH : Nat → Nat → Hint := fun | 1, 6 => toldG (bool true) [] [] gl | 2, 6 => .res (.agg (plC (r.P f.key) (D.g f.key))) | 3, 7 => wordedH b r D 5 frm f.key (r.P f.key).c.w | 5, 3 => sendH 1 bo F E he (Rep.frW r 5 frm f.key (r.P f.key).c.w ((((r.P f.key).c.st : Nat) : Int) == 1) 0) | _, _ => .no
  exact run_sound ⟨HH, [], fun | 2 => some ⟨[0,4], [8], .take true [0,1,2,3,4,5,6] (.one 7 (.one 8 .done))⟩ | n => plRpG1 n⟩ 400 (by kernel_rfl) (fun (Z0 : Nat) => (Yb b (Yb Z0 (Ya (thasG ho.tr f.key (HH 1 6).P (toldG_post (by rw [hh, decide_eq_true hk]; rfl))) (Yu (Yb Z0 (Yi (↑f.key : Int) 6 (by omega) (Yb b (Ya (show (if List.length (List.drop (12 + Int.toNat (↑f.key : Int) * nat_lit 9) (repC r D)) < (fun x => x.size) Try.prog.types[108] then none else some (T.agg (List.take (nat_lit 9) (List.drop (12 + Int.toNat (↑f.key : Int) * nat_lit 9) (repC r D))))) = some (T.agg [u32 (r.P f.key).c.w.s.n, u8 (r.P f.key).c.w.s.b, u8 (r.P f.key).c.w.s.l, bool ((r.P f.key).c.w.h), T.v (Value.string (r.P f.key).c.w.t), bool ((r.P f.key).c.w.r), int (r.P f.key).c.st, dT (r.P f.key).dr (D.g f.key), int (r.P f.key).age]) by clear hst; generalize f.key = k at *; rcases six hk with rfl|rfl|rfl|rfl|rfl|rfl <;> rfl) (fun (Z1 : Nat) => (Ya (Yb (9) (plC_one (r.P f.key) (D.g f.key))) (Yb Z1 (Ya (Yn (9) (9) rfl) (Yb Z0 (Yb Z1 (Ya (Ya (repC_plain r D) Yt) (Ya (worded_any b r D 5 frm f.key (r.P f.key).c.w (HH 3 7).P (told_post rfl)) (Yu (Ya (Ya (repC_plain r D) Yt) (fun (Z2 : Nat) => (Yk 34 Z2 (Yb Z1 (Yl 1 (Yb Z2 (Ya (Yn (12) (34) rfl) (Yb Z2 (Ya (send1 bo F hf E he (Rep.frW r 5 frm f.key (r.P f.key).c.w ((((r.P f.key).c.st : Nat) : Int) == 1) 0) hF) (fun (Z3 : Value) => (fun (Z4 : True) => (hQ Z3))))))))))))))))))))))))))))))
theorem val_step (b : Nat) (r : RS) (D : Dr) (f : Fm) (hk : f.key < 6) (gl : Glb) (ho : Own D r gl) (Q : T → Obs → Glb → Prop) (hQ : Q (.tup []) (obsR b (Rep.onVal r f) D) gl) :
  TCalls Try.prog 51 [.ptr 0 b 0, .agg (frC f)] (obsR b r D) gl Q := by
 have hv := val_any (r.P f.key).c f.w.s
 cases hb : (Rep.val (r.P f.key).c f.w.s).2 with
 | false =>
  rw [show Rep.onVal r f = r by unfold Rep.onVal; rw [hb]; rfl] at hQ
  refine TCalls.of Try.func51 rfl (CanCall.of Try.func51 rfl (by decide)) [0] fun Γ => ?_
  let HH : Nat → Nat → Hint := fun | 2, 3 => .res (.agg (clC (r.P f.key).c)) | 2, 6 => told (.tup [.agg (clC (Rep.val (r.P f.key).c f.w.s).1), bool false]) [] [] | _, _ => .no
  exact run_sound ⟨HH, [], plRpG2⟩ 400 (by kernel_rfl) (fun (Z0 : Nat) => (Yb Z0 (Yi (↑f.key : Int) 6 (by omega) (Yb b (Ya (show (if List.length (List.drop (12 + Int.toNat (↑f.key : Int) * nat_lit 9 + nat_lit 0) (repC r D)) < (fun x => x.size) Try.prog.types[57] then none else some (T.agg (List.take (nat_lit 7) (List.drop (12 + Int.toNat (↑f.key : Int) * nat_lit 9 + nat_lit 0) (repC r D))))) = some (T.agg (clC (r.P f.key).c)) by clear hb hv hQ; generalize f.key = k at *; rcases six hk with rfl|rfl|rfl|rfl|rfl|rfl <;> rfl) (Yb Z0 (Ya (Ya (hv (HH 2 6).P fun _ h => told_post (by rw [h, vlT, hb])) (Yu (fun (Z1 : Nat) => (Yk 7 Z1 hQ)))) (fun (Z2 : Nat) => (Ya (hv (HH 2 6).P fun _ h => told_post (by rw [h, vlT, hb])) (Yu (Yk 7 Z2 hQ)))))))))))
 | true =>
  obtain ⟨r1, hr1⟩ : ∃ r1, r1 = setC r f.key (Rep.val (r.P f.key).c f.w.s).1 := ⟨_, rfl⟩
  rw [show Rep.onVal r f = Rep.rest r1 f.key by unfold Rep.onVal; rw [hb, hr1]; rfl] at hQ
  have ho1 : Own D r1 gl := by rw [hr1]; exact (ho.cell f.key _).1
  have hs := settle_any b r1 D f.key hk gl ho1
  refine TCalls.of Try.func51 rfl (CanCall.of Try.func51 rfl (by decide)) [0] fun Γ => ?_
  let HH : Nat → Nat → Hint := fun | 2, 3 => .res (.agg (clC (r.P f.key).c)) | 2, 6 => told (.tup [.agg (clC (Rep.val (r.P f.key).c f.w.s).1), bool true]) [] [] | 4, 4 => .obj (repC r1 D) | 5, 1 => toldG (.tup []) [0] (obsR b (Rep.rest r1 f.key) D) gl | _, _ => .no
  exact run_sound ⟨HH, [], plRpG2⟩ 400 (by kernel_rfl) (fun (Z0 : Nat) => (Yb Z0 (Yi (↑f.key : Int) 6 (by omega) (Yb b (Ya (show (if List.length (List.drop (12 + Int.toNat (↑f.key : Int) * nat_lit 9 + nat_lit 0) (repC r D)) < (fun x => x.size) Try.prog.types[57] then none else some (T.agg (List.take (nat_lit 7) (List.drop (12 + Int.toNat (↑f.key : Int) * nat_lit 9 + nat_lit 0) (repC r D))))) = some (T.agg (clC (r.P f.key).c)) by clear hb hv hQ hs; generalize f.key = k at *; rcases six hk with rfl|rfl|rfl|rfl|rfl|rfl <;> rfl) (Yb Z0 (Ya (Ya (hv (HH 2 6).P fun _ h => told_post (by rw [h, vlT, hb])) (Yu (fun (Z1 : Nat) => (Yk 7 Z1 (Yb Z1 (Yl 7 (Yb b (Ya (show 12 + Int.toNat (↑f.key : Int) * nat_lit 9 + nat_lit 0 + nat_lit 7 ≤ 67 by clear hb hv hQ hs ho1 hr1; generalize f.key = k at *; rcases six hk with rfl|rfl|rfl|rfl|rfl|rfl <;> decide) (Ya (show setCells (repC r D) (12 + Int.toNat (↑f.key : Int) * nat_lit 9 + nat_lit 0) (clC (Rep.val (r.P f.key).c f.w.s).fst) = repC r1 D by rw [hr1]; clear hb hv hQ hs ho1 hr1; generalize f.key = k at *; rcases six hk with rfl|rfl|rfl|rfl|rfl|rfl <;> rfl) (Ya (hs (HH 5 1).P (toldG_post rfl)) (Yu hQ))))))))))) (fun (Z2 : Nat) => (Ya (hv (HH 2 6).P fun _ h => told_post (by rw [h, vlT, hb])) (Yu (Yk 7 Z2 (Yb Z2 (Yl 7 (Yb b (Ya (show 12 + Int.toNat (↑f.key : Int) * nat_lit 9 + nat_lit 0 + nat_lit 7 ≤ 67 by clear hb hv hQ hs ho1 hr1; generalize f.key = k at *; rcases six hk with rfl|rfl|rfl|rfl|rfl|rfl <;> decide) (Ya (show setCells (repC r D) (12 + Int.toNat (↑f.key : Int) * nat_lit 9 + nat_lit 0) (clC (Rep.val (r.P f.key).c f.w.s).fst) = repC r1 D by rw [hr1]; clear hb hv hQ hs ho1 hr1; generalize f.key = k at *; rcases six hk with rfl|rfl|rfl|rfl|rfl|rfl <;> rfl) (Ya (hs (HH 5 1).P (toldG_post rfl)) (Yu hQ))))))))))))))))))
end X20
end Go.Proofs.Ytafcbipmmjegcaa.Vm
