/- Texts of this claim: AcC, AcD, Row. -/
import Derived.Test.YtpjkdcbogjigeaaGreatMg15
import Derived.Test.YtpjkdcbogjigeaaGreatMg20
import Derived.Test.YtpjkdcbogjigeaaGreatMg13
namespace Go.Proofs.YtpjkdcbogjigeaaGreat.Vm
open Go Go.RowKit
set_option maxRecDepth 100000
noncomputable abbrev kAcC0 (l : List Nat) : It := .code (sub (bd Tryz.f156) l)
noncomputable abbrev kAcC1 (l : List Nat) : It := .code (sub (bd Tryz.f55) l)
noncomputable abbrev wAcC2 (Γ : Ctx) (Q : T → Obs → Glb → Prop) : List It → S → Prop := TWk Tryz.prog Γ (fin Tryz.prog Tryz.f55 [] Q)
noncomputable abbrev wAcC3 (Γ : Ctx) (Q : T → Obs → Glb → Prop) : List It → S → Prop := TWk Tryz.prog Γ (fin Tryz.prog Tryz.f156 [0, 1, 2, 3, 4, 5] Q)
def plAcC0 : Nat → Option RPlan := fun | 1 => some ⟨[3, 5], [6, 7, 10], .take false [0,1,2,3] (.take true [4,5] (.one 6 (.one 7 (.take false [8,9] (.one 10 .done)))))⟩ | _ => none
namespace X11
open Acp (En AS Rc blw VOk upE cutE)
open View (VS Mem)
open X5 (viewC mems memC)
open Jrn (Dk)
open X9 (dkC)
open X10 (strs jC)
theorem nat_lt {a b : Nat} : decide ((a : Int) < (b : Int)) = decide (a < b) := by rw [Bool.eq_iff_iff]; simp only [decide_eq_true_eq]; omega
theorem nat_eq {a b : Nat} : ((a : Int) == (b : Int)) = decide (a = b) := by rw [Bool.eq_iff_iff]; simp only [beq_iff_eq, decide_eq_true_eq]; omega
theorem below_any (a b c d : Nat) (Q : T → Obs → Glb → Prop) (hQ : ∀ r, r = bool (blw a b c d) → Q r [] none_) : TCalls Tryz.prog 110 [.agg [u32 a, u8 b], .agg [u32 c, u8 d]] [] none_ Q := by
  refine TCalls.of Tryz.func110 rfl (CanCall.of Tryz.func110 rfl (by decide)) [] fun Γ => ?_
  refine run_sound (⟨fun _ _ => .no, [], fun _ => none⟩) 400 (B := ∀ (b_1 b_2 : Nat), b_1 = b_1 ∧ b_2 = b_2 ∧ bsplit (decide ((↑a : Int) < (↑c : Int))) (Q (T.v (Value.bool true)) [] fun x => none) (b_1 = b_1 ∧ b_2 = b_2 ∧ bsplit ((↑a : Int) == (↑c : Int)) (b_1 = b_1 ∧ b_2 = b_2 ∧ Q (T.v (Value.bool (decide ((↑b : Int) < (↑d : Int))))) [] fun x => none) (Q (T.v (Value.bool false)) [] fun x => none))) (by kernel_rfl) ?_
  repeat' (first | exact rfl | exact Nat.le_of_ble_eq_true rfl | refine And.intro ?_ ?_ | intro _ | refine bsplit_mk (fun _ => ?_) (fun _ => ?_))
  all_goals (refine hQ _ (congrArg bool ?_); unfold blw; simp only [nat_lt, nat_eq] at *; simp_all)
theorem hi_step (Γ : Ctx) (b2 bo : Nat) (l : List (Nat × Nat)) (on ob n b k : Nat) (hk : k < l.length) (hl : l.length ≤ 10) (hat : l[k]? = some (n, b)) (Q : T → Obs → Glb → Prop)
    (nx : wAcC2 Γ Q [kAcC1 [1,1,0,1,0], .blk 0, kAcC1 [1,1,1]] ⟨frame 20 [(2, .ptr 0 b2 0), (3, .ptr 1 bo 0), (6, .sl 2 (l.map fun p => .agg [u32 p.1, u8 p.2])), (7, int (l.map fun p => T.agg [u32 p.1, u8 p.2]).length), (8, int (k + 1 : Nat))], [(b2, .cells [u32 0, u8 0]), (bo, .cells (if blw on ob n b then [u32 n, u8 b] else [u32 on, u8 ob]))], none_⟩) :
    wAcC2 Γ Q [kAcC1 [1,1,0,1,0], .blk 0, kAcC1 [1,1,1]] ⟨frame 20 [(2, .ptr 0 b2 0), (3, .ptr 1 bo 0), (6, .sl 2 (l.map fun p => .agg [u32 p.1, u8 p.2])), (7, int (l.map fun p => T.agg [u32 p.1, u8 p.2]).length), (8, int k)], [(b2, .cells [u32 0, u8 0]), (bo, .cells [u32 on, u8 ob])], none_⟩ := by
  have hlen : (l.map fun p => T.agg [u32 p.1, u8 p.2]).length = l.length := List.length_map ..
  have e1 : (l.map fun p => T.agg [u32 p.1, u8 p.2])[((k : Nat) : Int).toNat]? = some (.agg [u32 n, u8 b]) := by rw [Int.toNat_natCast, List.getElem?_map, hat]; rfl
  have hw : T.v (.int .i64 (IntKind.wrap .i64 ((k : Int) + 1))) = int (k + 1 : Nat) := congrArg int (by rw [wrap_i64 (by omega) (by omega)]; omega)
  have bl := fun Q' hq => below_any on ob n b Q' hq
  generalize (l.map fun p => T.agg [u32 p.1, u8 p.2]) = E at *
  cases hb : blw on ob n b with
  | true =>
    rw [hb, if_pos rfl] at nx
    rw [hb] at bl
    let HH : Nat → Nat → Hint := fun | 4, 0 => .res (.agg [u32 n, u8 b]) | 5, 4 => told (bool true) [] [] | 7, 0 => .res (int (k + 1 : Nat)) | _, _ => .no
    exact run_sound ⟨HH, [((2, 3), ([2,3,6,7,8], 2)), ((0, 8), ([2,3], 2))], fun  | _ => none⟩ 400 (by kernel_rfl) (Ys (decide ((↑k : Int) < (↑(List.length E) : Int))) (fun Z0 => (Ya (show (0 : Int) ≤ (↑k : Int) by omega) (Ya e1 (fun (Z1 : Nat) => (Yk 2 Z1 (Yb bo (Yb Z1 (Ya (bl (HH 5 4).P (fun _ h => told_post h)) (Yu (Yb Z1 (Yk 2 bo (Ya hw nx)))))))))))) (fun Z2 => (show wAcC2 Γ Q [kAcC1 [1,1,1]] (S.mk (frame 20 [(2, T.ptr 0 b2 0), (3, T.ptr 1 bo 0)]) [(b2, Ob.cells [u32 (0 : Int), u8 (0 : Int)]), (bo, Ob.cells [u32 on, u8 ob])] fun x => none) by exfalso; have := of_decide_eq_false Z2; omega)))
  | false =>
    rw [hb, if_neg (by decide)] at nx
    rw [hb] at bl
    let HH : Nat → Nat → Hint := fun | 4, 0 => .res (.agg [u32 n, u8 b]) | 5, 4 => told (bool false) [] [] | 7, 0 => .res (int (k + 1 : Nat)) | _, _ => .no
    exact run_sound ⟨HH, [((2, 3), ([2,3,6,7,8], 2)), ((0, 8), ([2,3], 2))], fun  | _ => none⟩ 400 (by kernel_rfl) (Ys (decide ((↑k : Int) < (↑(List.length E) : Int))) (fun Z0 => (Ya (show (0 : Int) ≤ (↑k : Int) by omega) (Ya e1 (fun (Z1 : Nat) => (Yk 2 Z1 (Yb bo (Yb Z1 (Ya (bl (HH 5 4).P (fun _ h => told_post h)) (Yu (Ya hw nx)))))))))) (fun Z2 => (show wAcC2 Γ Q [kAcC1 [1,1,1]] (S.mk (frame 20 [(2, T.ptr 0 b2 0), (3, T.ptr 1 bo 0)]) [(b2, Ob.cells [u32 (0 : Int), u8 (0 : Int)]), (bo, Ob.cells [u32 on, u8 ob])] fun x => none) by exfalso; have := of_decide_eq_false Z2; omega)))
theorem hi_end (Γ : Ctx) (b2 bo : Nat) (E : List T) (cs : List T) (n b : Nat) (hcs : cs = [u32 n, u8 b]) (Q : T → Obs → Glb → Prop) (hQ : Q (.agg [u32 n, u8 b]) [] none_) :
    wAcC2 Γ Q [kAcC1 [1,1,0,1,0], .blk 0, kAcC1 [1,1,1]] ⟨frame 20 [(2, .ptr 0 b2 0), (3, .ptr 1 bo 0), (6, .sl 2 E), (7, int E.length), (8, int E.length)], [(b2, .cells [u32 0, u8 0]), (bo, .cells cs)], none_⟩ := by
  subst hcs
  let HH : Nat → Nat → Hint := fun _ _ => .no
  exact run_sound ⟨HH, [((0, 4), ([2,3,6,7,8], 2))], fun _ => none⟩ 400 (by kernel_rfl) (Ys (decide ((↑(List.length E) : Int) < (↑(List.length E) : Int))) (fun Z0 => (show wAcC2 Γ Q [kAcC1 [1,1,0,1,0,0,1,1,0,0], It.blk 1, kAcC1 [1,1,0,1,0,0,1,1,1], kAcC1 [1,1,0,1,0], It.blk 0, kAcC1 [1,1,1]] (S.mk (frame 20 [(2, T.ptr 0 b2 0), (3, T.ptr 1 bo 0), (6, T.sl 2 E), (7, int (List.length E)), (8, int (List.length E))]) [(b2, Ob.cells [u32 (0 : Int), u8 (0 : Int)]), (bo, Ob.cells [u32 n, u8 b])] fun x => none) by exfalso; have := of_decide_eq_true Z0; omega)) (fun Z1 => (Yb bo (Yk 2 b2 (Yb b2 hQ)))))
theorem highest_any (pn pb n b : Nat) (Q : T → Obs → Glb → Prop) (hQ : Q (.agg (if blw pn pb n b then [u32 n, u8 b] else [u32 pn, u8 pb])) [] none_) : TCalls Tryz.prog 55 [.sl 2 [.agg [u32 pn, u8 pb], .agg [u32 n, u8 b]]] [] none_ Q := by
  have h0 : (if blw 0 0 pn pb then [u32 pn, u8 pb] else [u32 (0 : Nat), u8 (0 : Nat)]) = [u32 pn, u8 pb] := by
    split
    · rfl
    · rename_i h
      unfold blw at h
      rw [decide_eq_true_eq] at h
      have h1 : pn = 0 := by omega
      have h2 : pb = 0 := by omega
      subst h1 h2
      rfl
  have lp := fun Γ b2 bo => hi_step Γ b2 bo [(pn, pb), (n, b)] 0 0 pn pb 0 (by simp) (by simp) rfl Q (by
    rw [h0]
    exact hi_step Γ b2 bo [(pn, pb), (n, b)] pn pb n b 1 (by simp) (by simp) rfl Q (by
      cases hb : blw pn pb n b with
      | true => rw [hb] at hQ; exact hi_end Γ b2 bo _ _ n b rfl Q hQ
      | false => rw [hb] at hQ; exact hi_end Γ b2 bo _ _ pn pb rfl Q hQ))
  clear hQ h0
  refine TCalls.of Tryz.func55 rfl (CanCall.of Tryz.func55 rfl (by decide)) [] fun Γ => ?_
  let HH : Nat → Nat → Hint := fun _ _ => .no
  exact run_sound ⟨HH, [((2, 3), ([2,3,6,7,8], 2))], fun _ => none⟩ 400 (by kernel_rfl) (fun (Z0 : Nat) => (fun (Z1 : Nat) => (lp Γ Z0 Z1)))
def enF (E : Nat → Option En) : Int → Option T := fun z => if 0 ≤ z then (E z.toNat).map fun y => .agg (enC y) else none
def acC (jb mb : Nat) (x : AS) : List T := [.ptr 1 jb 0, u32 x.pn, u8 x.pb, u32 x.low, u32 x.v.e, .sl 3 (mems x.v.ms), u8 (x.v.L 0), u8 (x.v.L 1), u8 (x.v.L 2), u8 (x.v.L 3), u8 (x.v.L 4), u8 (x.v.L 5), u8 (x.v.L 6), u8 (x.v.L 7), .mp 4 mb]
def obsA (db jb ab mb : Nat) (d : Dk) (l : List (List UInt8)) (hd : Value) (dead : Bool) (x : AS) (es : Array MapEntry) (ck : Nat) : Obs :=
  [(db, .cells (dkC d)), (jb, .cells (jC db l hd dead)), (0, .room 1 9 (strs l).length hd), (ab, .cells (acC jb mb x)), (mb, .map .u32 (enF x.E) es ck)]
section
variable (db jb ab mb : Nat) (d : Dk) (l : List (List UInt8)) (hd : Value) (dead : Bool) (x : AS) (es : Array MapEntry) (ck : Nat)
theorem promise_any (n b : Nat) (Q : T → Obs → Glb → Prop) (hQ : Q (.tup []) (obsA db jb ab mb d l hd dead (Acp.promise x n b) es ck) none_) : TCalls Tryz.prog 137 [.ptr 3 ab 1, .agg [u32 n, u8 b]] (obsA db jb ab mb d l hd dead x es ck) none_ Q := by
  have hh := fun Q' hq => highest_any x.pn x.pb n b Q' hq
  unfold Acp.promise at hQ
  cases hb : blw x.pn x.pb n b with
  | true =>
    rw [hb, if_pos rfl] at hQ
    rw [hb] at hh
    refine TCalls.of Tryz.func137 rfl (CanCall.of Tryz.func137 rfl (by decide)) [0,1,2,3,4] fun Γ => ?_
    let HH : Nat → Nat → Hint := fun | 1, 7 => told (.agg [u32 n, u8 b]) [] [] | _, _ => .no
    exact run_sound ⟨HH, [], plAcC0⟩ 400 (by kernel_rfl) (fun (Z0 : Nat) => (Yb ab (Yb Z0 (Ya (hh (HH 1 7).P (told_post rfl)) (Yu (Yl 2 (Yb ab (Ya (Yn (3) (15) rfl) hQ))))))))
  | false =>
    rw [hb, if_neg (by decide)] at hQ
    rw [hb] at hh
    refine TCalls.of Tryz.func137 rfl (CanCall.of Tryz.func137 rfl (by decide)) [0,1,2,3,4] fun Γ => ?_
    let HH : Nat → Nat → Hint := fun | 1, 7 => told (.agg [u32 x.pn, u8 x.pb]) [] [] | _, _ => .no
    exact run_sound ⟨HH, [], plAcC0⟩ 400 (by kernel_rfl) (fun (Z0 : Nat) => (Yb ab (Yb Z0 (Ya (hh (HH 1 7).P (told_post rfl)) (Yu (Yl 2 (Yb ab (Ya (Yn (3) (15) rfl) hQ))))))))
theorem enF_up (E : Nat → Option En) (y : En) (z : Int) : enF (upE E y.slot y) z = updT (enF E) y.slot (.agg (enC y)) z := by
  unfold enF upE updT
  by_cases h : 0 ≤ z
  · dsimp only
    rw [if_pos h, if_pos h]
    by_cases e : z = (y.slot : Int)
    · rw [if_pos e, if_pos (by omega)]; rfl
    · rw [if_neg e, if_neg (by omega)]
  · dsimp only
    rw [if_neg h, if_neg (by omega), if_neg h]
theorem accept_any (y : En) (Q : T → Obs → Glb → Prop) (hQ : ∀ es ck, Q (.tup []) (obsA db jb ab mb d l hd dead (Acp.accept x y) es ck) none_) : TCalls Tryz.prog 139 [.ptr 3 ab 1, .agg (enC y)] (obsA db jb ab mb d l hd dead x es ck) none_ Q := by
  have hp := fun Q' hq => promise_any db jb ab mb d l hd dead x es ck y.n y.b Q' hq
  have hE : (Acp.promise x y.n y.b).E = x.E := (Acp.promise_E x y.n y.b).1
  unfold Acp.accept at hQ
  generalize Acp.promise x y.n y.b = x1 at *
  have hup : ∀ z, enF (upE x.E y.slot y) z = updT (enF x1.E) y.slot (.agg (enC y)) z := fun z => by rw [hE]; exact enF_up x.E y z
  generalize upE x.E y.slot y = E' at *
  refine TCalls.of Tryz.func139 rfl (CanCall.of Tryz.func139 rfl (by decide)) [0,1,2,3,4] fun Γ => ?_
  let HH : Nat → Nat → Hint := fun | 1, 3 => told (.tup []) [0,1,2,3,4] (obsA db jb ab mb d l hd dead x1 es ck) | 2, 7 => .fn (enF E') | _, _ => .no
  exact run_sound ⟨HH, [], fun | 2 => some ⟨[3,5], [7], .take true [0,1,2,3,4,5,6] (.one 7 .done)⟩ | _ => none⟩ 400 (by kernel_rfl) (fun (Z0 : Nat) => (Yb Z0 (Ya (hp (HH 1 3).P (told_post rfl)) (Yu (Yb ab (Yb Z0 (Yb Z0 (Yb mb (Ya (fun (Z1 : Int) => (hup Z1)) (fun (Z2 : Array MapEntry) => (fun (Z3 : Nat) => (fun (Z4 : (∃ x, x ∈ es.toList ∧ x.key = Value.int IntKind.u32 (↑y.slot : Int)) → Z3 = ck ∧ ∀ (y : Value) (n : Nat), (∃ x, x ∈ Z2.toList ∧ x.key = y ∧ x.born = n) ↔ ∃ x, x ∈ es.toList ∧ x.key = y ∧ x.born = n) => (hQ Z2 Z3)))))))))))))
end
def wT (W : Int → Option En) : Int → Option T := fun z => (W z).map fun y => .agg (enC y)
def natF (E : Nat → Option En) : Int → Option En := fun z => if 0 ≤ z then E z.toNat else none
def cutI (W : Int → Option En) (z : Int) : Int → Option En := fun y => if y < z then none else W y
def delI (W : Int → Option En) (z : Int) : Int → Option En := fun y => if y = z then none else W y
theorem enF_wT (E : Nat → Option En) : enF E = wT (natF E) := by
  funext z
  unfold enF wT natF
  split <;> rfl
theorem cut_natF (E : Nat → Option En) (low : Nat) : wT (cutI (natF E) low) = enF (cutE E low) := by
  rw [enF_wT]
  congr 1
  funext z
  unfold cutI natF cutE
  by_cases h : 0 ≤ z
  · rw [if_pos h, if_pos h]
    by_cases e : z < (low : Int)
    · rw [if_pos e, if_pos (by omega)]
    · rw [if_neg e, if_neg (by omega)]
  · rw [if_neg h, if_neg h]; split <;> rfl
theorem look_at {W : Int → Option En} {z : Int} {c : En} (h : W z = some c) : wT W z = some (.agg (enC c)) := by simp [wT, h]
theorem del_wT (W : Int → Option En) (z y : Int) : wT (delI W z) y = delT (wT W) z y := by
  unfold delT wT delI
  split <;> rfl
def obsW (db jb ab mb bz : Nat) (d : Dk) (l : List (List UInt8)) (hd : Value) (dead : Bool) (x : AS) (W : Int → Option T) (es : Array MapEntry) (ck : Nat) : Obs :=
  [(db, .cells (dkC d)), (jb, .cells (jC db l hd dead)), (0, .room 1 9 (strs l).length hd), (ab, .cells (acC jb mb x)), (mb, .map .u32 W es ck), (bz, .cells [.ptr 3 ab 1])]
section
variable (db jb ab mb bz : Nat) (d : Dk) (l : List (List UInt8)) (hd : Value) (dead : Bool) (x : AS)
theorem cutF_any (W : Int → Option T) (es : Array MapEntry) (ck : Nat) (y : Int) (c : En) (Q : T → Obs → Glb → Prop) (hQ : Q (bool (decide (y < (x.low : Int)))) (obsW db jb ab mb bz d l hd dead x W es ck) none_) : TCalls Tryz.prog 157 [u32 y, .agg (enC c), .ptr 5 bz 0] (obsW db jb ab mb bz d l hd dead x W es ck) none_ Q := by
  refine TCalls.of Tryz.func157 rfl (CanCall.of Tryz.func157 rfl (by decide)) [0,1,2,3,4,5] fun Γ => ?_
  let HH : Nat → Nat → Hint := fun _ _ => .no
  exact run_sound ⟨HH, [], fun _ => none⟩ 400 (by kernel_rfl) (fun (Z0 : Nat) => (Yb bz (Yb ab hQ)))
section
variable (Γ : Ctx) (ib : Nat) (Q : T → Obs → Glb → Prop)
theorem delF_body (W : Int → Option En) (es : Array MapEntry) (ck : Nat) (left : List Int) (y : Int) (c : En) (hc : W y = some c)
    (h1 : y < (x.low : Int) → ∀ es', DelE es es' (.int .u32 y) → wAcC3 Γ Q [kAcC0 [1,0], .blk 0] ⟨frame 19 [(0, .mp 4 mb), (1, .fn 157 [.ptr 5 bz 0]), (7, .ptr 6 ib 0)], obsW db jb ab mb bz d l hd dead x (wT (delI W y)) es' ck ++ [(ib, .iter 4 mb .u32 es ck left (some y))], none_⟩)
    (h2 : ¬ y < (x.low : Int) → wAcC3 Γ Q [kAcC0 [1,0], .blk 0] ⟨frame 19 [(0, .mp 4 mb), (1, .fn 157 [.ptr 5 bz 0]), (7, .ptr 6 ib 0)], obsW db jb ab mb bz d l hd dead x (wT W) es ck ++ [(ib, .iter 4 mb .u32 es ck left (some y))], none_⟩) :
    wAcC3 Γ Q [kAcC0 [1,0,0,1,1,0], .blk 1, kAcC0 [1,0], .blk 0] ⟨frame 19 [(0, .mp 4 mb), (1, .fn 157 [.ptr 5 bz 0]), (7, .ptr 6 ib 0)], obsW db jb ab mb bz d l hd dead x (wT W) es ck ++ [(ib, .iter 4 mb .u32 es ck left (some y))], none_⟩ := by
  have hl := look_at hc
  have hdl := fun z => del_wT W y z
  have hcf := fun Q' hq => cutF_any db jb ab mb bz d l hd dead x (wT W) es ck y c Q' hq
  generalize wT (delI W y) = W2 at *
  generalize wT W = W1 at *
  let HH : Nat → Nat → Hint := fun | 2, 0 => .res (.agg (enC c)) | 3, 3 => told (bool (decide (y < (x.low : Int)))) [0,1,2,3,4,5] (obsW db jb ab mb bz d l hd dead x W1 es ck) | 4, 2 => .fn W2 | _, _ => .no
  exact run_sound ⟨HH, [((2, 1), ([0,1,7], 7))], fun  | _ => none⟩ 400 (by kernel_rfl) (Ya (Yb ib (Yb mb (Yb es (Ye ck)))) (Ya hl (fun (Z0 : Nat) => (Yk 8 Z0 (Yb Z0 (Ya (hcf (HH 3 3).P (told_post rfl)) (Yu (Ys (decide (y < (↑x.low : Int))) (fun Z1 => (Yb mb (Ya (fun (Z2 : Int) => ((kdef (hdl Z2)))) (fun (Z3 : Array MapEntry) => (fun (Z4 : DelE es Z3 (Value.int IntKind.u32 y)) => (h1 (of_decide_eq_true Z1) Z3 Z4)))))) (fun Z5 => (h2 (of_decide_eq_false Z5)))))))))))
theorem delF_end (W : Int → Option T) (es : Array MapEntry) (ck : Nat) (left : List Int) (h0 : left = []) (cur : Option Int) (hQ : Q (.tup []) (obsW db jb ab mb bz d l hd dead x W es ck) none_) :
    wAcC3 Γ Q [kAcC0 [1,0], .blk 0] ⟨frame 19 [(0, .mp 4 mb), (1, .fn 157 [.ptr 5 bz 0]), (7, .ptr 6 ib 0)], obsW db jb ab mb bz d l hd dead x W es ck ++ [(ib, .iter 4 mb .u32 es ck left cur)], none_⟩ := by
  let HH : Nat → Nat → Hint := fun _ _ => .no
  exact run_sound ⟨HH, [((0, 2), ([0,1,7], 7))], fun _ => none⟩ 400 (by kernel_rfl) (Ya (Yb ib (Yb mb (Yb es (Ye ck)))) (Ya (fun (Z0 : left = []) => hQ) (fun (Z1 : Int) => (fun (Z2 : T) => (fun (Z3 : Z1 ∈ left) => (fun (Z4 : W Z1 = some Z2) => (show wAcC3 Γ Q [kAcC0 [1,0,0,1,1,0], It.blk 1, kAcC0 [1,0], It.blk 0] (S.mk (frame 19 [(0, T.mp 4 mb), (1, T.fn 157 [T.ptr 5 bz 0]), (7, T.ptr 6 ib 0)]) [(db, Ob.cells [T.v (Value.string (ByteArray.mk (List.toArray d.b))), int d.n, bool d.off]), (jb, Ob.cells [T.ptr 0 db 0, T.slx 1 2 (strs l) hd, bool dead]), (0, Ob.room 1 9 (List.length (strs l)) hd), (ab, Ob.cells [T.ptr 1 jb 0, u32 x.pn, u8 x.pb, u32 x.low, u32 x.v.e, T.sl 3 (mems x.v.ms), u8 (x.v.L 0), u8 (x.v.L 1), u8 (x.v.L 2), u8 (x.v.L 3), u8 (x.v.L 4), u8 (x.v.L 5), u8 (x.v.L 6), u8 (x.v.L 7), T.mp 4 mb]), (mb, Ob.map IntKind.u32 W es ck), (bz, Ob.cells [T.ptr 3 ab 1]), (ib, Ob.iter 4 mb IntKind.u32 es ck (List.erase left Z1) (some Z1))] fun x => none) by exfalso; rw [h0] at Z3; simp at Z3; done)))))))
theorem delF_next (W : Int → Option T) (es : Array MapEntry) (ck : Nat) (left : List Int) (cur : Option Int) (hne : left ≠ [])
    (nx : ∀ y t, y ∈ left → W y = some t → wAcC3 Γ Q [kAcC0 [1,0,0,1,1,0], .blk 1, kAcC0 [1,0], .blk 0] ⟨frame 19 [(0, .mp 4 mb), (1, .fn 157 [.ptr 5 bz 0]), (7, .ptr 6 ib 0)], obsW db jb ab mb bz d l hd dead x W es ck ++ [(ib, .iter 4 mb .u32 es ck (left.erase y) (some y))], none_⟩) :
    wAcC3 Γ Q [kAcC0 [1,0], .blk 0] ⟨frame 19 [(0, .mp 4 mb), (1, .fn 157 [.ptr 5 bz 0]), (7, .ptr 6 ib 0)], obsW db jb ab mb bz d l hd dead x W es ck ++ [(ib, .iter 4 mb .u32 es ck left cur)], none_⟩ := by
  let HH : Nat → Nat → Hint := fun _ _ => .no
  exact run_sound ⟨HH, [((0, 2), ([0,1,7], 7))], fun _ => none⟩ 400 (by kernel_rfl) (Ya (Yb ib (Yb mb (Yb es (Ye ck)))) (Ya (fun (Z0 : left = []) => (show Q (T.tup []) [(db, Ob.cells [T.v (Value.string (ByteArray.mk (List.toArray d.b))), int d.n, bool d.off]), (jb, Ob.cells [T.ptr 0 db 0, T.slx 1 2 (strs l) hd, bool dead]), (0, Ob.room 1 9 (List.length (strs l)) hd), (ab, Ob.cells [T.ptr 1 jb 0, u32 x.pn, u8 x.pb, u32 x.low, u32 x.v.e, T.sl 3 (mems x.v.ms), u8 (x.v.L 0), u8 (x.v.L 1), u8 (x.v.L 2), u8 (x.v.L 3), u8 (x.v.L 4), u8 (x.v.L 5), u8 (x.v.L 6), u8 (x.v.L 7), T.mp 4 mb]), (mb, Ob.map IntKind.u32 W es ck), (bz, Ob.cells [T.ptr 3 ab 1])] fun x => none by exfalso; exact hne Z0)) (fun (Z1 : Int) => (fun (Z2 : T) => (fun (Z3 : Z1 ∈ left) => (fun (Z4 : W Z1 = some Z2) => (nx Z1 Z2 Z3 Z4)))))))
theorem delF_loop (z : Int) (hz : z = (x.low : Int)) (W : Int → Option En) (hQ : ∀ es ck, Q (.tup []) (obsW db jb ab mb bz d l hd dead x (wT (cutI W z)) es ck) none_) : ∀ (n : Nat) (left : List Int) (W' : Int → Option En) (es : Array MapEntry) (ck : Nat) (cur : Option Int), left.length = n → left.Nodup → (∀ y ∈ left, W' y = W y) → (∀ y, y < z → W' y = none ∨ y ∈ left) → (∀ y, z ≤ y → W' y = W y) →
    wAcC3 Γ Q [kAcC0 [1,0], .blk 0] ⟨frame 19 [(0, .mp 4 mb), (1, .fn 157 [.ptr 5 bz 0]), (7, .ptr 6 ib 0)], obsW db jb ab mb bz d l hd dead x (wT W') es ck ++ [(ib, .iter 4 mb .u32 es ck left cur)], none_⟩ := by
  intro n
  induction n with
  | zero =>
    intro left W' es ck cur hn _ h1 h2 h3
    have hl0 : left = [] := List.eq_nil_of_length_eq_zero hn
    subst hl0
    have e : W' = cutI W z := by
      funext y
      unfold cutI
      split
      · rename_i h; rcases h2 y h with h4 | h4
        · exact h4
        · simp at h4
      · exact h3 y (by omega)
    subst e
    exact delF_end db jb ab mb bz d l hd dead x Γ ib Q _ es ck [] rfl cur (hQ es ck)
  | succ n ih =>
    intro left W' es ck cur hn hd' h1 h2 h3
    refine delF_next db jb ab mb bz d l hd dead x Γ ib Q _ es ck left cur (fun e => by subst e; simp at hn) fun y t hy ht => ?_
    obtain ⟨c, hc⟩ : ∃ c, W' y = some c := by
      cases hw : W' y with
      | none => rw [wT, hw] at ht; cases ht
      | some c => exact ⟨c, rfl⟩
    have hlen : (left.erase y).length = n := by rw [List.length_erase_of_mem hy]; omega
    refine delF_body db jb ab mb bz d l hd dead x Γ ib Q W' es ck _ y c hc (fun hlt es' hD => ?_) (fun hge => ?_)
    · have hf : (left.erase y).filter (fun x => decide (x ≠ y)) = left.erase y := List.filter_eq_self.2 fun x hx => by
        have : x ≠ y := fun e => by subst e; exact (List.Nodup.not_mem_erase hd') hx
        simpa using this
      have nx := ih (left.erase y) (delI W' y) es' ck none hlen (hd'.erase y) (fun x hx => ?_) (fun x hx => ?_) (fun x hx => ?_)
      · have im := Imp.iterDel (ts := frame 19 [(0, .mp 4 mb), (1, .fn 157 [.ptr 5 bz 0]), (7, .ptr 6 ib 0)]) (ob := obsW db jb ab mb bz d l hd dead x (wT (delI W' y)) es' ck ++ [(ib, .iter 4 mb .u32 es ck (left.erase y) (some y))]) (gl := none_) (j := 6) (i := 4) rfl hD
        rw [hf] at im
        exact TWk.imp nx im
      · have : x ≠ y := fun e => by subst e; exact (List.Nodup.not_mem_erase hd') hx
        rw [delI, if_neg this]; exact h1 x (List.mem_of_mem_erase hx)
      · by_cases e : x = y
        · left; rw [delI, if_pos e]
        · rw [delI, if_neg e]
          rcases h2 x hx with h4 | h4
          · exact .inl h4
          · exact .inr ((List.mem_erase_of_ne e).2 h4)
      · rw [delI, if_neg (by omega)]; exact h3 x hx
    · exact ih (left.erase y) W' es ck (some y) hlen (hd'.erase y) (fun x hx => h1 x (List.mem_of_mem_erase hx)) (fun x hx => by
        rcases h2 x hx with h4 | h4
        · exact .inl h4
        · exact .inr ((List.mem_erase_of_ne (by omega)).2 h4)) h3
end
theorem delF_any (W : Int → Option En) (es : Array MapEntry) (ck : Nat) (Q : T → Obs → Glb → Prop) (hQ : ∀ es ck, Q (.tup []) (obsW db jb ab mb bz d l hd dead x (wT (cutI W (x.low : Int))) es ck) none_) : TCalls Tryz.prog 156 [.mp 4 mb, .fn 157 [.ptr 5 bz 0]] (obsW db jb ab mb bz d l hd dead x (wT W) es ck) none_ Q := by
  have lp := fun Γ ib left (hnd : left.Nodup) (hm : ∀ y, y ∈ left ↔ (wT W y).isSome = true) => delF_loop db jb ab mb bz d l hd dead x Γ ib Q _ rfl W hQ left.length left W es ck none rfl hnd (fun _ _ => rfl) (fun y _ => by
    cases hw : W y with
    | none => exact .inl rfl
    | some c => exact .inr ((hm y).2 (by rw [look_at hw]; rfl))) (fun _ _ => rfl)
  clear hQ
  generalize wT W = W1 at *
  refine TCalls.of Tryz.func156 rfl (CanCall.of Tryz.func156 rfl (by decide)) [0,1,2,3,4,5] fun Γ => ?_
  let HH : Nat → Nat → Hint := fun _ _ => .no
  exact run_sound ⟨HH, [((2, 1), ([0,1,7], 7))], fun _ => none⟩ 400 (by kernel_rfl) (Yb mb (fun (Z0 : Nat) => (fun (Z1 : List Int) => (fun (Z2 : List.Nodup Z1) => (fun (Z3 : ∀ (z : Int), z ∈ Z1 ↔ Option.isSome (W1 z) = true) => (lp Γ Z0 Z1 Z2 Z3))))))
theorem cut_any (es : Array MapEntry) (ck : Nat) (low : Nat) (v : VS) (Q : T → Obs → Glb → Prop) (hQ : ∀ es ck, Q (.tup []) (obsA db jb ab mb d l hd dead (Acp.cut x low v) es ck) none_) : TCalls Tryz.prog 141 [.ptr 3 ab 1, u32 low, .agg (viewC v)] (obsA db jb ab mb d l hd dead x es ck) none_ Q := by
  have hmx : (if (low : Int) > (x.low : Int) then (low : Int) else (x.low : Int)) = ((max x.low low : Nat) : Int) := by split <;> omega
  have hd2 := fun bz (Q' : T → Obs → Glb → Prop) (hq : ∀ es ck, Q' (.tup []) (obsW db jb ab mb bz d l hd dead { x with low := max x.low low, v := v } (enF (cutE x.E (max x.low low))) es ck) none_) =>
    delF_any db jb ab mb bz d l hd dead { x with low := max x.low low, v := v } (natF x.E) es ck Q' (by rw [cut_natF]; exact hq)
  rw [← enF_wT] at hd2
  have hQ : ∀ es ck, Q (.tup []) (obsA db jb ab mb d l hd dead { x with low := max x.low low, v := v, E := cutE x.E (max x.low low) } es ck) none_ := hQ
  generalize max x.low low = m at *
  generalize cutE x.E m = E' at *
  refine TCalls.of Tryz.func141 rfl (CanCall.of Tryz.func141 rfl (by decide)) [0,1,2,3,4] fun Γ => ?_
  let HH : Nat → Nat → Hint := fun | 2, 5 => .withB fun B => .call false (Array MapEntry × Nat) (fun _ => True) [0,1,2,3,4,5] false (fun _ => .tup []) (fun a => obsW db jb ab mb (B.getD 5 0) d l hd dead { x with low := m, v := v } (enF E') a.1 a.2) (fun _ => none_) | _, _ => .no
  exact run_sound ⟨HH, [], fun | 1 => some ⟨[5,6], [14], .take true [0,1,2,3,4,6,8] (.one 5 (.take true [7,9,10] (.one 11 (.take true [12,13] (.one 14 .done)))))⟩ | _ => none⟩ 400 (by kernel_rfl) (fun (Z0 : Nat) => (fun (Z1 : Nat) => (Yb Z0 (Yb Z0 (Yb Z0 (Yb Z1 (Yb ab (Yl 1 (Yb ab (Ya (Yn (4) (15) rfl) (Yl 10 (Yb ab (Ya (Yn (14) (15) rfl) (Yb Z0 (Yb ab (Ya (show TCalls Tryz.prog 156 [T.mp 4 mb, T.fn 157 [T.ptr 5 Z0 0]] [(db, Ob.cells [T.v (Value.string (ByteArray.mk (List.toArray d.b))), int d.n, bool d.off]), (jb, Ob.cells [T.ptr 0 db 0, T.slx 1 2 (strs l) hd, bool dead]), (0, Ob.room 1 9 (List.length (strs l)) hd), (ab, Ob.cells [T.ptr 1 jb 0, u32 x.pn, u8 x.pb, u32 (if (↑low : Int) > (↑x.low : Int) then (↑low : Int) else (↑x.low : Int)), u32 v.e, T.sl 3 (mems v.ms), u8 (v.L 0), u8 (v.L 1), u8 (v.L 2), u8 (v.L 3), u8 (v.L 4), u8 (v.L 5), u8 (v.L 6), u8 (v.L 7), T.mp 4 mb]), (mb, Ob.map IntKind.u32 (enF x.E) es ck), (Z0, Ob.cells [T.ptr 3 ab 1])] none_ (callPost (Hint.call false (Array MapEntry × Nat) (fun x => True) [0,1,2,3,4,5] false (fun x => T.tup []) (fun a => obsW db jb ab mb Z0 d l hd dead (AS.mk x.pn x.pb m v x.E) (enF E') a.fst a.snd) fun x => none_)) by simp only [hmx] at *; exact hd2 _ _ fun es ck => ⟨(es, ck), trivial, rfl, rfl, Nat.le_of_ble_eq_true rfl, fun h => by cases h⟩) (fun (Z2 : Array MapEntry × Nat) => (fun (Z3 : True) => (hQ Z2.fst Z2.snd)))))))))))))))))))
end
end X11
end Go.Proofs.YtpjkdcbogjigeaaGreat.Vm
namespace Go.Proofs.YtpjkdcbogjigeaaGreat.Vm
open Go Go.RowKit
set_option maxRecDepth 100000
namespace X11
open Acp (En AS Rc blw VOk upE cutE vB enB step)
open Oct (be)
open View (VS Mem)
open X5 (viewC mems memC)
open Jrn (Dk)
open X9 (dkC)
open X10 (strs jC)
open X1 (obsD rdC rdH)
def rdN (s : List UInt8) : Hint := .call false Nat (fun _ => True) [] false (fun b => .ptr 0 b 0) (fun b => obsD b s 0) (fun _ => none_)
theorem rdN_post (s : List UInt8) : TCalls Tryz.prog 131 [str s] [] none_ (callPost (rdN s)) := X1.read_any s _ fun b => ⟨b, trivial, rfl, rfl, Nat.zero_le _, fun h => by cases h⟩
theorem told1 {x : T} {b : Nat} {s : List UInt8} : callPost (told x [0] (obsD b s 0)) x (obsD b s 0) none_ := told_post rfl
section
variable (db jb ab mb : Nat) (d : Dk) (l : List (List UInt8)) (hd : Value) (dead : Bool) (x : AS) (es : Array MapEntry) (ck : Nat)
theorem take_prom (n b : Nat) (hn : n < 4294967296) (hb : b < 256) (Q : T → Obs → Glb → Prop) (hQ : Q (.tup []) (obsA db jb ab mb d l hd dead (Acp.promise x n b) es ck) none_) : TCalls Tryz.prog 96 [.ptr 3 ab 1, str (Rc.prom n b).b] (obsA db jb ab mb d l hd dead x es ck) none_ Q := by
  have a1 := fun r => r1 r 2 (be 4 n ++ (be 1 b ++ [])) (by decide) (by simp [Oct.length_be])
  have a2 := fun r => ballot_any r n b [] hn hb (by simp) _ (told1 (b := r))
  have hp := fun Q' hq => promise_any db jb ab mb d l hd dead x es ck n b Q' hq
  generalize Acp.promise x n b = x1 at *
  have e : (Rc.prom n b).b = be 1 2 ++ (be 4 n ++ (be 1 b ++ [])) := by simp [Rc.b]
  rw [e]
  clear e
  generalize be 4 n ++ (be 1 b ++ []) = s1 at *
  generalize be 1 2 ++ s1 = s0 at *
  refine TCalls.of Tryz.func96 rfl (CanCall.of Tryz.func96 rfl (by decide)) [0,1,2,3,4] fun Γ => ?_
  let HH : Nat → Nat → Hint := fun | 0, 1 => rdN s0 | 1, 1 => rdH 5 s1 0 (u64 2) | 3, 2 => rdH 5 [] 0 (.agg [u32 n, u8 b]) | 3, 3 => told (.tup []) [0,1,2,3,4] (obsA db jb ab mb d l hd dead x1 es ck) | _, _ => .no
  exact run_sound ⟨HH, [], fun  | _ => none⟩ 400 (by kernel_rfl) (Ya (rdN_post s0) (fun (Z0 : Nat) => (fun (Z1 : True) => (Ya (a1 Z0) (Yu (Ya (a2 Z0) (Yu (Ya (hp (HH 3 3).P (told_post rfl)) (Yu hQ)))))))))
theorem take_acc (y : En) (hy : y.Ok) (Q : T → Obs → Glb → Prop) (hQ : ∀ es ck, Q (.tup []) (obsA db jb ab mb d l hd dead (Acp.accept x y) es ck) none_) : TCalls Tryz.prog 96 [.ptr 3 ab 1, str (Rc.acc y).b] (obsA db jb ab mb d l hd dead x es ck) none_ Q := by
  have a1 := fun r => r1 r 3 (enB y ++ []) (by decide) (by simp [enB, Oct.length_be])
  have e1 : enB y ++ [] = be 4 y.slot ++ (be 4 y.n ++ (be 1 y.b ++ (be 1 y.kind ++ (be 1 y.node ++ (be 1 y.life ++ (be 4 y.ep ++ (be 4 y.rq ++ []))))))) := by simp [enB]
  rw [e1] at a1
  have a4 := fun r => command_any r y hy [] (by simp) _ (told1 (b := r))
  have a3 := fun r => ballot_any r y.n y.b (be 1 y.kind ++ (be 1 y.node ++ (be 1 y.life ++ (be 4 y.ep ++ (be 4 y.rq ++ []))))) hy.n hy.b (by simp [Oct.length_be]) _ (told1 (b := r))
  have a2 := fun r => r4 r y.slot (be 4 y.n ++ (be 1 y.b ++ (be 1 y.kind ++ (be 1 y.node ++ (be 1 y.life ++ (be 4 y.ep ++ (be 4 y.rq ++ []))))))) hy.slot (by simp [Oct.length_be])
  have hp := fun Q' hq => accept_any db jb ab mb d l hd dead x es ck y Q' hq
  have e : (Rc.acc y).b = be 1 3 ++ (be 4 y.slot ++ (be 4 y.n ++ (be 1 y.b ++ (be 1 y.kind ++ (be 1 y.node ++ (be 1 y.life ++ (be 4 y.ep ++ (be 4 y.rq ++ [])))))))) := by simp [Rc.b, enB]
  rw [e]
  have h1 := hy.slot
  clear e e1
  generalize Acp.accept x y = x1 at *
  generalize be 1 y.kind ++ (be 1 y.node ++ (be 1 y.life ++ (be 4 y.ep ++ (be 4 y.rq ++ [])))) = s3 at *
  generalize be 4 y.n ++ (be 1 y.b ++ s3) = s2 at *
  generalize be 4 y.slot ++ s2 = s1 at *
  generalize be 1 3 ++ s1 = s0 at *
  refine TCalls.of Tryz.func96 rfl (CanCall.of Tryz.func96 rfl (by decide)) [0,1,2,3,4] fun Γ => ?_
  let HH : Nat → Nat → Hint := fun | 0, 1 => rdN s0 | 1, 1 => rdH 5 s1 0 (u64 3) | 5, 2 => rdH 5 s2 0 (u64 y.slot) | 5, 3 => .res (u32 y.slot) | 5, 5 => rdH 5 s3 0 (.agg [u32 y.n, u8 y.b]) | 5, 7 => rdH 5 [] 0 (.agg [u8 y.kind, u8 y.node, u8 y.life, u32 y.ep, u32 y.rq]) | 5, 9 => .call false (Array MapEntry × Nat) (fun _ => True) [0,1,2,3,4] false (fun _ => .tup []) (fun a => obsA db jb ab mb d l hd dead x1 a.1 a.2) (fun _ => none_) | _, _ => .no
  exact run_sound ⟨HH, [], fun  | _ => none⟩ 400 (by kernel_rfl) (Ya (rdN_post s0) (fun (Z0 : Nat) => (fun (Z1 : True) => (Ya (a1 Z0) (Yu (Ya (a2 Z0) (Yu (Ya (c32 h1) (Ya (a3 Z0) (Yu (Ya (a4 Z0) (Yu (Ya (hp (HH 5 9).P fun es ck => ⟨(es, ck), trivial, rfl, rfl, Nat.le_of_ble_eq_true rfl, fun h => by cases h⟩) (fun (Z2 : Array MapEntry × Nat) => (fun (Z3 : True) => (hQ Z2.fst Z2.snd))))))))))))))))
theorem take_cut (low : Nat) (v : VS) (hl : low < 4294967296) (hv : VOk v) (Q : T → Obs → Glb → Prop) (hQ : ∀ es ck, Q (.tup []) (obsA db jb ab mb d l hd dead (Acp.cut x low v) es ck) none_) : TCalls Tryz.prog 96 [.ptr 3 ab 1, str (Rc.cut low v).b] (obsA db jb ab mb d l hd dead x es ck) none_ Q := by
  have hlen : (vB v).length ≤ 1000 := by rw [Acp.vB_len]; have := hv.len; omega
  have a1 := fun r => r1 r 4 (be 4 low ++ (vB v ++ [])) (by decide) (by simp [Oct.length_be]; omega)
  have a2 := fun r => r4 r low (vB v ++ []) hl (by simp; omega)
  have a3 := fun r => viewed_any r v hv [] (by simp) _ (told1 (b := r))
  have hp := fun Q' hq => cut_any db jb ab mb d l hd dead x es ck low v Q' hq
  have e : (Rc.cut low v).b = be 1 4 ++ (be 4 low ++ (vB v ++ [])) := by simp [Rc.b]
  rw [e]
  clear e hlen
  generalize Acp.cut x low v = x1 at *
  generalize vB v ++ [] = s2 at *
  generalize be 4 low ++ s2 = s1 at *
  generalize be 1 4 ++ s1 = s0 at *
  refine TCalls.of Tryz.func96 rfl (CanCall.of Tryz.func96 rfl (by decide)) [0,1,2,3,4] fun Γ => ?_
  let HH : Nat → Nat → Hint := fun | 0, 1 => rdN s0 | 1, 1 => rdH 5 s1 0 (u64 4) | 10, 2 => rdH 5 s2 0 (u64 low) | 10, 3 => .res (u32 low) | 10, 5 => rdH 5 [] 0 (.agg (viewC v)) | 10, 6 => .call false (Array MapEntry × Nat) (fun _ => True) [0,1,2,3,4] false (fun _ => .tup []) (fun a => obsA db jb ab mb d l hd dead x1 a.1 a.2) (fun _ => none_) | _, _ => .no
  exact run_sound ⟨HH, [], fun  | _ => none⟩ 400 (by kernel_rfl) (Ya (rdN_post s0) (fun (Z0 : Nat) => (fun (Z1 : True) => (Ya (a1 Z0) (Yu (Ya (a2 Z0) (Yu (Ya (c32 hl) (Ya (a3 Z0) (Yu (Ya (hp (HH 10 6).P fun es ck => ⟨(es, ck), trivial, rfl, rfl, Nat.le_of_ble_eq_true rfl, fun h => by cases h⟩) (fun (Z2 : Array MapEntry × Nat) => (fun (Z3 : True) => (hQ Z2.fst Z2.snd))))))))))))))
theorem take_birth (self low : Nat) (v : VS) (hs : self < 256) (hl : low < 4294967296) (hv : VOk v) (Q : T → Obs → Glb → Prop) (hQ : ∀ es ck, Q (.tup []) (obsA db jb ab mb d l hd dead (Acp.cut x low v) es ck) none_) : TCalls Tryz.prog 96 [.ptr 3 ab 1, str (Rc.birth self low v).b] (obsA db jb ab mb d l hd dead x es ck) none_ Q := by
  have hlen : (vB v).length ≤ 1000 := by rw [Acp.vB_len]; have := hv.len; omega
  have a0 := fun r => r1 r 1 (be 1 self ++ (be 4 low ++ (vB v ++ []))) (by decide) (by simp [Oct.length_be]; omega)
  have a1 := fun r => r1 r self (be 4 low ++ (vB v ++ [])) hs (by simp [Oct.length_be]; omega)
  have a2 := fun r => r4 r low (vB v ++ []) hl (by simp; omega)
  have a3 := fun r => viewed_any r v hv [] (by simp) _ (told1 (b := r))
  have hp := fun Q' hq => cut_any db jb ab mb d l hd dead x es ck low v Q' hq
  have e : (Rc.birth self low v).b = be 1 1 ++ (be 1 self ++ (be 4 low ++ (vB v ++ []))) := by simp [Rc.b]
  rw [e]
  clear e hlen
  generalize Acp.cut x low v = x1 at *
  generalize vB v ++ [] = s3 at *
  generalize be 4 low ++ s3 = s2 at *
  generalize be 1 self ++ s2 = s1 at *
  generalize be 1 1 ++ s1 = s0 at *
  refine TCalls.of Tryz.func96 rfl (CanCall.of Tryz.func96 rfl (by decide)) [0,1,2,3,4] fun Γ => ?_
  let HH : Nat → Nat → Hint := fun | 0, 1 => rdN s0 | 1, 1 => rdH 5 s1 0 (u64 1) | 7, 1 => rdH 5 s2 0 (u64 self) | 8, 2 => rdH 5 s3 0 (u64 low) | 8, 3 => .res (u32 low) | 8, 5 => rdH 5 [] 0 (.agg (viewC v)) | 8, 6 => .call false (Array MapEntry × Nat) (fun _ => True) [0,1,2,3,4] false (fun _ => .tup []) (fun a => obsA db jb ab mb d l hd dead x1 a.1 a.2) (fun _ => none_) | _, _ => .no
  exact run_sound ⟨HH, [], fun  | _ => none⟩ 400 (by kernel_rfl) (Ya (rdN_post s0) (fun (Z0 : Nat) => (fun (Z1 : True) => (Ya (a0 Z0) (Yu (Ya (a1 Z0) (Yu (Ya (a2 Z0) (Yu (Ya (c32 hl) (Ya (a3 Z0) (Yu (Ya (hp (HH 8 6).P fun es ck => ⟨(es, ck), trivial, rfl, rfl, Nat.le_of_ble_eq_true rfl, fun h => by cases h⟩) (fun (Z2 : Array MapEntry × Nat) => (fun (Z3 : True) => (hQ Z2.fst Z2.snd))))))))))))))))
theorem take_any (r : Rc) (hr : r.Ok) (Q : T → Obs → Glb → Prop) (hQ : ∀ es ck, Q (.tup []) (obsA db jb ab mb d l hd dead (Acp.step x r) es ck) none_) : TCalls Tryz.prog 96 [.ptr 3 ab 1, str r.b] (obsA db jb ab mb d l hd dead x es ck) none_ Q := by
  cases r with
  | birth self low v => exact take_birth db jb ab mb d l hd dead x es ck self low v hr.1 hr.2.1 hr.2.2 Q hQ
  | prom n b => exact take_prom db jb ab mb d l hd dead x es ck n b hr.1 hr.2 Q (hQ es ck)
  | acc y => exact take_acc db jb ab mb d l hd dead x es ck y hr Q hQ
  | cut low v => exact take_cut db jb ab mb d l hd dead x es ck low v hr.1 hr.2 Q hQ
end
def nwH : Hint := .call false Nat (fun _ => True) [] false (fun b => .ptr 0 b 0) (fun b => X9.obsK b Jrn.newD) (fun _ => none_)
def opP (db : Nat) (d : Dk) (l : List (List UInt8)) : Hint := .call false (Nat × Value) (fun _ => True) [0] false (fun a => .tup [.ptr 1 a.1 0, int 0]) (fun a => X10.obsJ db a.1 d l a.2 false) (fun _ => none_)
def opH (i : Nat) (d : Dk) (l : List (List UInt8)) : Hint := .withB fun B => .call false (Nat × Value) (fun _ => True) [i] false (fun a => .tup [.ptr 1 a.1 0, int 0]) (fun a => X10.obsJ (B.getD i 0) a.1 d l a.2 false) (fun _ => none_)
theorem op_post (db : Nat) (d : Dk) (hd : d.Ok) (ho : d.off = false) (d' : Dk) (l : List (List UInt8)) (h1 : Jrn.keepD d (Jrn.recA d.b).2 = d') (h2 : (Jrn.recA d.b).1 = l) : TCalls Tryz.prog 33 [.ptr 0 db 0] (X9.obsK db d) none_ (callPost (opP db d' l)) :=
  X10.jopen_any db d hd ho _ fun jb h => ⟨(jb, h), trivial, rfl, by rw [h1, h2], Nat.le_of_ble_eq_true rfl, fun h => by cases h⟩
def adP (db jb : Nat) (d : Dk) (l : List (List UInt8)) (x : T) : Hint := .call false Value (fun _ => True) [0,1,2] false (fun _ => x) (fun h => X10.obsJ db jb d l h false) (fun _ => none_)
def adH (i j r : Nat) (d : Dk) (l : List (List UInt8)) (x : T) : Hint := .withB fun B => .call false Value (fun _ => True) [i, j, r] false (fun _ => x) (fun h => X10.obsJ (B.getD i 0) (B.getD j 0) d l h false) (fun _ => none_)
theorem ad_post (db jb : Nat) {l : List (List UInt8)} (hv : Jrn.Vs l) (h : Value) (s : List UInt8) (hs : Jrn.Vr s) (h2 : (Jrn.flat l).length + s.length + 6 ≤ 1048576) : TCalls Tryz.prog 35 [.ptr 1 jb 0, str s] (X10.obsJ db jb (Jrn.jd l) l h false) none_ (callPost (adP db jb (Jrn.jd (l ++ [s])) (l ++ [s]) (int 0))) :=
  X10.add_ok db jb _ hv.ok l (by have := hv.len; omega) h s hs (Jrn.appE_jd h2) _ fun h' => ⟨h', trivial, rfl, by rw [Jrn.add_jd h2], Nat.le_of_ble_eq_true rfl, fun h => by cases h⟩
section
variable (db jb ab mb : Nat) (l : List (List UInt8)) (hd : Value) (x : AS) (es : Array MapEntry) (ck : Nat)
theorem write_any (hv : Jrn.Vs l) (r : Rc) (hr : r.Ok) (h2 : (Jrn.flat l).length + 70 ≤ 1048576) (Q : T → Obs → Glb → Prop) (hQ : ∀ hd es ck, Q (int 0) (obsA db jb ab mb (Jrn.jd (l ++ [r.b])) (l ++ [r.b]) hd false (Acp.step x r) es ck) none_) :
    TCalls Tryz.prog 122 [.ptr 3 ab 0, str r.b] (obsA db jb ab mb (Jrn.jd l) l hd false x es ck) none_ Q := by
  have hb := (Rc.b_len hr).2
  have ap := ad_post db jb hv hd r.b (Rc.vr hr) (by omega)
  have tk := fun hd Q' hq => take_any db jb ab mb (Jrn.jd (l ++ [r.b])) (l ++ [r.b]) hd false x es ck r hr Q' hq
  generalize Acp.step x r = x1 at *
  generalize Jrn.jd (l ++ [r.b]) = d1 at *
  generalize l ++ [r.b] = l1 at *
  generalize Jrn.jd l = d0 at *
  generalize r.b = s at *
  refine TCalls.of Tryz.func122 rfl (CanCall.of Tryz.func122 rfl (by decide)) [0,1,2,3,4] fun Γ => ?_
  let HH : Nat → Nat → Hint := fun | 1, 5 => adH 0 1 2 d1 l1 (int 0) | 4, 4 => .withA fun ob _ => .call false (Value × Array MapEntry × Nat) (fun _ => True) [0,1,2,3,4] false (fun _ => .tup []) (fun a => obsA db jb ab mb d1 l1 a.1 false x1 a.2.1 a.2.2) (fun _ => none_) | _, _ => .no
  exact run_sound ⟨HH, [], fun  | _ => none⟩ 400 (by kernel_rfl) (Yb ab (Ya ap (fun (Z0 : Value) => (fun (Z1 : True) => (Ya (tk Z0 (callPost (Hint.call false (Value × Array MapEntry × Nat) (fun x => True) [0,1,2,3,4] false (fun x => T.tup []) (fun a => obsA db jb ab mb d1 l1 a.fst false x1 a.snd.fst a.snd.snd) fun x => none_)) fun es ck => ⟨(_, es, ck), trivial, rfl, rfl, Nat.le_of_ble_eq_true rfl, fun h => by cases h⟩) (fun (Z2 : Value × Array MapEntry × Nat) => (fun (Z3 : True) => (hQ Z2.fst Z2.snd.fst Z2.snd.snd))))))))
end
end X11
end Go.Proofs.YtpjkdcbogjigeaaGreat.Vm
namespace Go.Proofs.YtpjkdcbogjigeaaGreat.Vm
open Go Go.RowKit
namespace Row
section
variable {α : Type} {C : α → List T} {k : Nat}
def aggs (C : α → List T) (l : List α) : List T := l.map fun x => .agg (C x)
def flat (C : α → List T) (l : List α) : List T := l.flatMap C
theorem flat_app (l m : List α) : flat C (l ++ m) = flat C l ++ flat C m := by simp [flat]
theorem flat_cons (x : α) (l : List α) : flat C (x :: l) = C x ++ flat C l := by simp [flat]
theorem flat_len (hk : ∀ x, (C x).length = k) : ∀ l : List α, (flat C l).length = l.length * k
  | [] => by simp [flat]
  | x :: l => by rw [flat_cons, List.length_append, hk, flat_len hk l, List.length_cons, Nat.add_mul]; omega
theorem takes (hk : ∀ x, (C x).length = k) (l : List α) (R : List T) : ((flat C l ++ R).drop 0).take (l.length * k) = flat C l := by
  rw [List.drop_zero, List.take_left' (flat_len hk l)]
theorem one (h : ∀ x, (C x).all T.one = true) : ∀ l : List α, (flat C l).all T.one = true
  | [] => rfl
  | x :: l => by rw [flat_cons, List.all_append, h x, one h l]; rfl
theorem chunk_flat (hk : ∀ x, (C x).length = k) : ∀ l : List α, chunk true k l.length (flat C l) = aggs C l
  | [] => rfl
  | x :: l => by
    rw [flat_cons]
    show (if true then T.agg ((C x ++ flat C l).take k) else _) :: chunk true k l.length ((C x ++ flat C l).drop k) = _
    rw [if_pos rfl, List.take_left' (hk x), List.drop_left' (hk x), chunk_flat hk l]; rfl
theorem fz_len (hk : ∀ x, (C x).length = k) {cs R : List T} {l : List α} {n : Nat} (h : cs = flat C l ++ R) (hn : n = l.length) : 0 + n * k ≤ cs.length := by rw [h, hn, List.length_append, flat_len hk]; omega
theorem fz_one (hk : ∀ x, (C x).length = k) (h1 : ∀ x, (C x).all T.one = true) {cs R : List T} {l : List α} {n : Nat} (h : cs = flat C l ++ R) (hn : n = l.length) : ((cs.drop 0).take (n * k)).all T.one = true := by rw [h, hn, takes hk]; exact one h1 l
theorem fz_es (hk : ∀ x, (C x).length = k) {cs R : List T} {l : List α} {n : Nat} (h : cs = flat C l ++ R) (hn : n = l.length) : chunk true k n ((cs.drop 0).take (n * k)) = aggs C l := by rw [h, hn, takes hk]; exact chunk_flat hk l
end
end Row
end Go.Proofs.YtpjkdcbogjigeaaGreat.Vm
