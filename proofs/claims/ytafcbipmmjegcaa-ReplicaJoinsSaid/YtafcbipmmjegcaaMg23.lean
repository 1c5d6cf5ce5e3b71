/- Texts of this claim: RpI, RpJ. -/
import Derived.Test.YtafcbipmmjegcaaMg15
import Derived.Test.YtafcbipmmjegcaaMg22
import Derived.Test.YtafcbipmmjegcaaMg18
namespace Go.Proofs.Ytafcbipmmjegcaa.Vm
open Go Go.RowKit
set_option maxRecDepth 100000
noncomputable abbrev kRpI0 (l : List Nat) : It := .code (sub (bd Try.f15) l)
noncomputable abbrev kRpI1 (l : List Nat) : It := .code (sub (bd Try.f84) l)
noncomputable abbrev wRpI2 (Γ : Ctx) (Q : T → Obs → Glb → Prop) : List It → S → Prop := TWk Try.prog Γ (fin Try.prog Try.f15 [0] Q)
def plRpI0 : Nat → Option RPlan := fun | 1 => some ⟨[], [1], .take true [0] (.one 1 (.take false [2,3,4,5,7,8,9] (.two 6 10 (.one 10 (.take false [11,12,13,14,15,17,18,19,20] (.two 16 21 (.one 21 (.take false [22,23,24,25] (.one 26 (.take false [27,28] .done)))) (.one 16 (.take false [22,23,24,25] (.one 26 (.take false [27,28] .done))))))) (.take false [11] (.one 6 (.take false [12,13,14,15,17,18,19,20] (.two 16 21 (.one 21 (.take false [22,23,24,25] (.one 26 (.take false [27,28] .done)))) (.one 16 (.take false [22,23,24,25] (.one 26 (.take false [27,28] .done)))))))))))⟩ | _ => none
namespace X20
open Rep (Stp Wrd Cel Drv Plc RS Fm Ev setP setC)
open X5 (viewC lim othV hasV aheadV behindV ends_any)
def idxI (l : List Nat) (p : Nat → Bool) : Int := match l.findIdx? p with
 | some i => i
 | none => -1
theorem idxI_none {l : List Nat} {p : Nat → Bool} (h : ∀ x ∈ l, p x = false) : idxI l p = -1 := by
 unfold idxI
 rw [List.findIdx?_eq_none_iff.2 h]
theorem idxI_at {l d r : List Nat} {x : Nat} {p : Nat → Bool} (hl : l = d ++ x :: r) (hd : ∀ y ∈ d, p y = false) (hx : p x = true) : idxI l p = d.length := by
 unfold idxI
 rw [show l.findIdx? p = some d.length by
  rw [hl, List.findIdx?_append, List.findIdx?_eq_none_iff.2 hd, List.findIdx?_cons, hx]; simp]
theorem find_idx (l : List Nat) (p : Nat → Bool) : (l.find? p = none ∧ idxI l p = -1) ∨ ∃ (i : Nat) (x : Nat), l.find? p = some x ∧ idxI l p = i ∧ l[i]? = some x := by
 unfold idxI
 cases h : l.findIdx? p with
 | none =>
  refine .inl ⟨?_, rfl⟩
  rw [List.find?_eq_none]
  intro x hx hp
  have := List.findIdx?_eq_none_iff.1 h x hx
  rw [this] at hp; cases hp
 | some i =>
  obtain ⟨hi, h1, h2⟩ := List.findIdx?_eq_some_iff_getElem.1 h
  refine .inr ⟨i, l[i], ?_, rfl, by simp [hi]⟩
  rw [List.find?_eq_some_iff_getElem]
  exact ⟨h1, i, hi, rfl, fun j hj => by simpa using h2 j hj⟩
theorem sn1_any (n : Nat) (b : Nat) (f : Fm) (Q : T → Obs → Glb → Prop) (hQ : Q (bool (Rep.ad n == f.frm)) [(b, .cells (frC f))] none_) : TCalls Try.prog 85 [u8 n, .ptr 0 b 0] [(b, .cells (frC f))] none_ Q := by
 have e : (Rep.ad n == f.frm) = (((Rep.ad n : Nat) : Int) == (f.frm : Int)) := by rw [Bool.eq_iff_iff]; simp only [beq_iff_eq]; omega
 rw [e] at hQ
 refine TCalls.of Try.func85 rfl (CanCall.of Try.func85 rfl (by decide)) [0] fun Γ => ?_
 let HH : Nat → Nat → Hint := fun _ _ => .no
 exact run_sound ⟨HH, [], fun _ => none⟩ 400 (by kernel_rfl) (Yb b hQ)
theorem idx_loop (Γ : Ctx) (b : Nat) (f : Fm) (l : List Nat) (hl : l.length ≤ 1000000) (Q : T → Obs → Glb → Prop) (hQ : Q (int (idxI l fun n => Rep.ad n == f.frm)) [(b, .cells (frC f))] none_) : ∀ (r d : List Nat) (k : Int), l = d ++ r → k = d.length → (∀ y ∈ d, (Rep.ad y == f.frm) = false) →
  TWk Try.prog Γ (fin Try.prog Try.f84 [0] Q) [kRpI1 [1,0,1,0], .blk 0, kRpI1 [1,1]] ⟨frame 19 [(0, .sl 1 (X5.u8s l)), (1, .fn 85 [.ptr 0 b 0]), (7, int l.length), (8, int k)], [(b, .cells (frC f))], none_⟩ := by
 intro r
 induction r with
 | nil =>
  intro d k hd hk hno
  have hlk : (l.length : Int) = k := by rw [hd, hk]; simp
  rw [idxI_none (by rw [show l = d by simpa using hd]; exact hno)] at hQ
  clear hd
  generalize X5.u8s l = U at *
  generalize (l.length : Int) = n at *
  subst hlk
  let HH : Nat → Nat → Hint := fun | 4, 3 => .res (u8 0) | 4, 5 => told (bool true) [0] [] | _, _ => .no
  let z0 := [(b, Ob.cells [u8 f.kind, u8 f.frm, u8 f.to, u32 f.epoch, u8 f.key, u32 f.w.s.n, u8 f.w.s.b, u8 f.w.s.l, bool f.w.h, T.v (Value.string f.w.t), bool f.w.r, bool f.flag, u8 f.dir, u8 (0 : Int), u32 (0 : Int), u32 (0 : Int), u8 (0 : Int), u32 (0 : Int), u8 (0 : Int), u8 (0 : Int), u8 (0 : Int), u32 (0 : Int), u32 (0 : Int), u32 (0 : Int), T.v (Value.slice none 0 0), u8 (0 : Int), u8 (0 : Int), u8 (0 : Int), u8 (0 : Int), u8 (0 : Int), u8 (0 : Int), u8 (0 : Int), u8 (0 : Int), T.v (Value.slice none 0 0)])]
  exact run_sound ⟨HH, [((2, 2), ([0,1,7,8], 1))], fun  | _ => none⟩ 400 (by kernel_rfl) (Ys (decide (n < n)) (fun Z0 => (Ya (show (0 : Int) ≤ n by omega) (Ya (show U[Int.toNat n]? = some (u8 (0 : Int)) by exfalso; simp at *; done) (Ya (show TCalls Try.prog 85 [u8 (0 : Int), T.ptr 0 b 0] z0 none_ (callPost (told (bool true) [0] [])) by exfalso; simp at *; done) (Yu (show Q (int n) z0 fun x => none by exfalso; simp at *; done)))))) (fun Z1 => hQ))
 | cons m r ih =>
  intro d k hd hk hno
  have hlk : k < (l.length : Int) := by rw [hd, hk]; simp; omega
  have hw : IntKind.wrap .i64 (k + 1) = k + 1 := wrap_i64 (by omega) (by omega)
  have e1 : (X5.u8s l)[k.toNat]? = some (u8 m) := u8s_at (by rw [hd, hk]; simp)
  have l1 : (X5.u8s l).length = l.length := X5.u8s_len l
  have yes : (Rep.ad m == f.frm) = true → Q (int k) [(b, .cells (frC f))] none_ := fun h => by
   rw [idxI_at hd hno h, ← hk] at hQ; exact hQ
  have nx : (Rep.ad m == f.frm) = false → TWk Try.prog Γ (fin Try.prog Try.f84 [0] Q) [kRpI1 [1,0,1,0], .blk 0, kRpI1 [1,1]] ⟨frame 19 [(0, .sl 1 (X5.u8s l)), (1, .fn 85 [.ptr 0 b 0]), (7, int l.length), (8, int (k + 1))], [(b, .cells (frC f))], none_⟩ := fun h => ih (d ++ [m]) (k + 1) (by simp [hd]) (by simp [hk]) (fun y hy => by
   rcases List.mem_append.1 hy with h1 | h1
   ·exact hno y h1
   ·simp at h1; subst h1; exact h)
  clear ih hd hQ
  generalize X5.u8s l = U at *
  generalize (l.length : Int) = n at *
  let HH : Nat → Nat → Hint := fun | 4, 3 => .res (u8 m) | 4, 5 => told (bool (Rep.ad m == f.frm)) [0] [(b, .cells (frC f))] | 6, 0 => .res (int (k + 1)) | _, _ => .no
  exact run_sound ⟨HH, [((2, 2), ([0,1,7,8], 1))], fun  | _ => none⟩ 400 (by kernel_rfl) (Ys (decide (k < n)) (fun Z0 => (Ya (show (0 : Int) ≤ k by omega) (Ya e1 (Ya (sn1_any m b f (HH 4 5).P (told_post rfl)) (Yu (Ys (Rep.ad m == f.frm) (fun Z1 => (yes Z1)) (fun Z2 => (Ya (congrArg int hw) (nx Z2))))))))) (fun Z3 => (show Q (int (-1 : Int)) [(b, Ob.cells [u8 f.kind, u8 f.frm, u8 f.to, u32 f.epoch, u8 f.key, u32 f.w.s.n, u8 f.w.s.b, u8 f.w.s.l, bool f.w.h, T.v (Value.string f.w.t), bool f.w.r, bool f.flag, u8 f.dir, u8 (0 : Int), u32 (0 : Int), u32 (0 : Int), u8 (0 : Int), u32 (0 : Int), u8 (0 : Int), u8 (0 : Int), u8 (0 : Int), u32 (0 : Int), u32 (0 : Int), u32 (0 : Int), T.v (Value.slice none 0 0), u8 (0 : Int), u8 (0 : Int), u8 (0 : Int), u8 (0 : Int), u8 (0 : Int), u8 (0 : Int), u8 (0 : Int), u8 (0 : Int), T.v (Value.slice none 0 0)])] fun x => none by exfalso; have := of_decide_eq_false Z3; omega)))
theorem idx_any (b : Nat) (f : Fm) (l : List Nat) (hl : l.length ≤ 1000000) (Q : T → Obs → Glb → Prop) (hQ : Q (int (idxI l fun n => Rep.ad n == f.frm)) [(b, .cells (frC f))] none_) : TCalls Try.prog 84 [.sl 1 (X5.u8s l), .fn 85 [.ptr 0 b 0]] [(b, .cells (frC f))] none_ Q := by
 have lp := fun Γ => idx_loop Γ b f l hl Q hQ l [] 0 rfl rfl (by simp)
 rw [← X5.u8s_len l] at lp
 generalize X5.u8s l = U at *
 refine TCalls.of Try.func84 rfl (CanCall.of Try.func84 rfl (by decide)) [0] fun Γ => ?_
 let HH : Nat → Nat → Hint := fun _ _ => .no
 exact run_sound ⟨HH, [((2, 2), ([0,1,7,8], 1))], fun _ => none⟩ 400 (by kernel_rfl) (lp Γ)
def snT (o : Option Nat) : T := match o with
 | some n => .tup [u8 n, bool true]
 | none => .tup [u8 0, bool false]
theorem sender_any (b : Nat) (r : RS) (D : Dr) (f : Fm) (hl : lim r.v.ms) (Q : T → Obs → Glb → Prop) (hQ : Q (snT (Rep.sender r f)) (obsR b r D) none_) : TCalls Try.prog 48 [.ptr 0 b 0, .agg (frC f)] (obsR b r D) none_ Q := by
 have hlen : (Rep.oth r).length ≤ 1000000 := Nat.le_trans (X5.othV_len _ _) hl
 have e1 : IntKind.wrap .u8 (16 + (r.self : Int)) = (Rep.ad r.self : Nat) := ad_w _
 by_cases hc : Rep.inR r = true ∧ f.to = Rep.ad r.self ∧ f.epoch = r.v.e ∧ f.key < 6
 ·rw [show Rep.sender r f = (Rep.oth r).find? (fun n => Rep.ad n == f.frm) from if_pos hc] at hQ
  obtain ⟨h1, h2, h3, h4⟩ := hc
  rcases find_idx (Rep.oth r) (fun n => Rep.ad n == f.frm) with ⟨g1, g2⟩ | ⟨i, x, g1, g2, g3⟩
  ·rw [g1] at hQ
   have hix := fun bf => idx_any bf f (Rep.oth r) hlen
   rw [g2] at hix
   refine TCalls.of Try.func48 rfl (CanCall.of Try.func48 rfl (by decide)) [0] fun Γ => ?_
   let HH : Nat → Nat → Hint := fun | 1, 1 => told (bool true) [0] (obsR b r D) | 3, 1 => othH b r D | 3, 3 => .withB fun B => told (int (-1)) [1] [(B.getD 1 0, .cells (frC f))] | _, _ => .no
   let z0 := fun (Z0 : Nat) => callPost (told (int (-1 : Int)) [1] [(Z0, Ob.cells (frC f))])
   exact run_sound ⟨HH, [], plRpI0⟩ 400 (by kernel_rfl) (fun (Z0 : Nat) => (Ya (in_any b r D hl (HH 1 1).P (told_post (by rw [h1]))) (Yu (Ya (Yb Z0 (Yb b (Ys ((↑f.to : Int) != IntKind.wrap IntKind.u8 ((16 : Int) + (↑r.self : Int))) (fun Z1 => (Ya hQ hQ)) (fun Z2 => (Ya (Yb Z0 (Yb b (Ys (f.epoch != r.v.e) (fun Z3 => hQ) (fun Z4 => (Yb Z0 (Ys (decide ((↑f.key : Int) ≥ (6 : Int))) (fun Z5 => hQ) (fun Z6 => (Ya (oth_any b r D hl (HH 3 1).P (told_post rfl)) (Yu (Ya (hix Z0 (z0 Z0) (told_post rfl)) (Yu hQ))))))))))) (Yb b (Yb Z0 (Ys (f.epoch != r.v.e) (fun Z7 => hQ) (fun Z8 => (Yb Z0 (Ys (decide ((↑f.key : Int) ≥ (6 : Int))) (fun Z9 => hQ) (fun Z10 => (Ya (oth_any b r D hl (HH 3 1).P (told_post rfl)) (Yu (Ya (hix Z0 (z0 Z0) (told_post rfl)) (Yu hQ)))))))))))))))) (Yb b (Yb Z0 (Ys ((↑f.to : Int) != IntKind.wrap IntKind.u8 ((16 : Int) + (↑r.self : Int))) (fun Z11 => (Ya hQ hQ)) (fun Z12 => (Ya (Yb Z0 (Yb b (Ys (f.epoch != r.v.e) (fun Z13 => hQ) (fun Z14 => (Yb Z0 (Ys (decide ((↑f.key : Int) ≥ (6 : Int))) (fun Z15 => hQ) (fun Z16 => (Ya (oth_any b r D hl (HH 3 1).P (told_post rfl)) (Yu (Ya (hix Z0 (z0 Z0) (told_post rfl)) (Yu hQ))))))))))) (Yb b (Yb Z0 (Ys (f.epoch != r.v.e) (fun Z17 => hQ) (fun Z18 => (Yb Z0 (Ys (decide ((↑f.key : Int) ≥ (6 : Int))) (fun Z19 => hQ) (fun Z20 => (Ya (oth_any b r D hl (HH 3 1).P (told_post rfl)) (Yu (Ya (hix Z0 (z0 Z0) (told_post rfl)) (Yu hQ))))))))))))))))))))
  ·rw [g1] at hQ
   have hix := fun bf => idx_any bf f (Rep.oth r) hlen
   rw [g2] at hix
   have hi : i < (Rep.oth r).length := (List.getElem?_eq_some_iff.1 g3).1
   have g4 : (X5.u8s (Rep.oth r))[((i : Int)).toNat]? = some (u8 x) := u8s_at g3
   have g5 : (X5.u8s (Rep.oth r)).length = (Rep.oth r).length := X5.u8s_len _
   have hot := oth_any b r D hl
   generalize X5.u8s (Rep.oth r) = U at *
   refine TCalls.of Try.func48 rfl (CanCall.of Try.func48 rfl (by decide)) [0] fun Γ => ?_
   let HH : Nat → Nat → Hint := fun | 1, 1 => told (bool true) [0] (obsR b r D) | 3, 1 => told (.sl 1 U) [0] (obsR b r D) | 3, 3 => .withB fun B => told (int i) [1] [(B.getD 1 0, .cells (frC f))] | 6, 1 => told (.sl 1 U) [0] (obsR b r D) | 6, 3 => .res (u8 x) | _, _ => .no
   let z0 := T.tup [u8 (0 : Int), bool false]
   let z1 := [(b, Ob.cells (repC r D))]
   let z2 := fun (Z0 : Nat) => callPost (told (int (↑i : Int)) [1] [(Z0, Ob.cells (frC f))])
   exact run_sound ⟨HH, [], plRpI0⟩ 400 (by kernel_rfl) (fun (Z0 : Nat) => (Ya (in_any b r D hl (HH 1 1).P (told_post (by rw [h1]))) (Yu (Ya (Yb Z0 (Yb b (Ys ((↑f.to : Int) != IntKind.wrap IntKind.u8 ((16 : Int) + (↑r.self : Int))) (fun Z1 => (Ya (show Q z0 z1 fun x => none by exfalso; simp only [bne_iff_ne, decide_eq_true_eq] at *; omega) (show Q z0 z1 fun x => none by exfalso; simp only [bne_iff_ne, decide_eq_true_eq] at *; omega))) (fun Z2 => (Ya (Yb Z0 (Yb b (Ys (f.epoch != r.v.e) (fun Z3 => (show Q z0 z1 fun x => none by exfalso; simp only [bne_iff_ne, decide_eq_true_eq] at *; omega)) (fun Z4 => (Yb Z0 (Ys (decide ((↑f.key : Int) ≥ (6 : Int))) (fun Z5 => (show Q z0 z1 fun x => none by exfalso; simp only [bne_iff_ne, decide_eq_true_eq] at *; omega)) (fun Z6 => (Ya (hot (HH 3 1).P (told_post rfl)) (Yu (Ya (hix Z0 (z2 Z0) (told_post rfl)) (Yu (Ya (hot (HH 3 1).P (told_post rfl)) (Yu (Ya (show (0 : Int) ≤ (↑i : Int) by omega) (Ya g4 hQ))))))))))))))) (Yb b (Yb Z0 (Ys (f.epoch != r.v.e) (fun Z7 => (show Q z0 z1 fun x => none by exfalso; simp only [bne_iff_ne, decide_eq_true_eq] at *; omega)) (fun Z8 => (Yb Z0 (Ys (decide ((↑f.key : Int) ≥ (6 : Int))) (fun Z9 => (show Q z0 z1 fun x => none by exfalso; simp only [bne_iff_ne, decide_eq_true_eq] at *; omega)) (fun Z10 => (Ya (hot (HH 3 1).P (told_post rfl)) (Yu (Ya (hix Z0 (z2 Z0) (told_post rfl)) (Yu (Ya (hot (HH 3 1).P (told_post rfl)) (Yu (Ya (show (0 : Int) ≤ (↑i : Int) by omega) (Ya g4 hQ)))))))))))))))))))) (Yb b (Yb Z0 (Ys ((↑f.to : Int) != IntKind.wrap IntKind.u8 ((16 : Int) + (↑r.self : Int))) (fun Z11 => (Ya (show Q z0 z1 fun x => none by exfalso; simp only [bne_iff_ne, decide_eq_true_eq] at *; omega) (show Q z0 z1 fun x => none by exfalso; simp only [bne_iff_ne, decide_eq_true_eq] at *; omega))) (fun Z12 => (Ya (Yb Z0 (Yb b (Ys (f.epoch != r.v.e) (fun Z13 => (show Q z0 z1 fun x => none by exfalso; simp only [bne_iff_ne, decide_eq_true_eq] at *; omega)) (fun Z14 => (Yb Z0 (Ys (decide ((↑f.key : Int) ≥ (6 : Int))) (fun Z15 => (show Q z0 z1 fun x => none by exfalso; simp only [bne_iff_ne, decide_eq_true_eq] at *; omega)) (fun Z16 => (Ya (hot (HH 3 1).P (told_post rfl)) (Yu (Ya (hix Z0 (z2 Z0) (told_post rfl)) (Yu (Ya (hot (HH 3 1).P (told_post rfl)) (Yu (Ya (show (0 : Int) ≤ (↑i : Int) by omega) (Ya g4 hQ))))))))))))))) (Yb b (Yb Z0 (Ys (f.epoch != r.v.e) (fun Z17 => (show Q z0 z1 fun x => none by exfalso; simp only [bne_iff_ne, decide_eq_true_eq] at *; omega)) (fun Z18 => (Yb Z0 (Ys (decide ((↑f.key : Int) ≥ (6 : Int))) (fun Z19 => (show Q z0 z1 fun x => none by exfalso; simp only [bne_iff_ne, decide_eq_true_eq] at *; omega)) (fun Z20 => (Ya (hot (HH 3 1).P (told_post rfl)) (Yu (Ya (hix Z0 (z2 Z0) (told_post rfl)) (Yu (Ya (hot (HH 3 1).P (told_post rfl)) (Yu (Ya (show (0 : Int) ≤ (↑i : Int) by omega) (Ya g4 hQ))))))))))))))))))))))))
 ·rw [show Rep.sender r f = none from if_neg hc] at hQ
  refine TCalls.of Try.func48 rfl (CanCall.of Try.func48 rfl (by decide)) [0] fun Γ => ?_
  let HH : Nat → Nat → Hint := fun | 1, 1 => told (bool (Rep.inR r)) [0] (obsR b r D) | _, _ => .no
  let z0 := fun (Z0 : Nat) => S.mk (frame 47 [(0, T.ptr 0 b 0), (3, T.ptr 1 Z0 0)]) [(b, Ob.cells (repC r D))] fun x => none
  let z1 := [It.code (sub (bd Try.f48) [1,1])]
  let z2 := fin Try.prog Try.f48 [0] Q
  exact run_sound ⟨HH, [((0, 3), ([0,3], 1))], plRpI0⟩ 400 (by kernel_rfl) (fun (Z0 : Nat) => (Ya (in_any b r D hl (HH 1 1).P (told_post rfl)) (Yu (Ys (!Rep.inR r) (fun Z1 => (Ya (Ya hQ hQ) (Ya hQ hQ))) (fun Z2 => (Ya (Yb Z0 (Yb b (Ys ((↑f.to : Int) != IntKind.wrap IntKind.u8 ((16 : Int) + (↑r.self : Int))) (fun Z3 => (Ya hQ hQ)) (fun Z4 => (Ya (Yb Z0 (Yb b (Ys (f.epoch != r.v.e) (fun Z5 => hQ) (fun Z6 => (Yb Z0 (Ys (decide ((↑f.key : Int) ≥ (6 : Int))) (fun Z7 => hQ) (fun Z8 => (show TWk Try.prog Γ z2 z1 (z0 Z0) by exfalso; simp only [Bool.not_eq_false', bne_eq_false_iff_eq, decide_eq_false_iff_not] at Z2 Z4 Z6 Z8; exact hc ⟨Z2, by omega, Z6, by omega⟩)))))))) (Yb b (Yb Z0 (Ys (f.epoch != r.v.e) (fun Z9 => hQ) (fun Z10 => (Yb Z0 (Ys (decide ((↑f.key : Int) ≥ (6 : Int))) (fun Z11 => hQ) (fun Z12 => (show TWk Try.prog Γ z2 z1 (z0 Z0) by exfalso; simp only [Bool.not_eq_false', bne_eq_false_iff_eq, decide_eq_false_iff_not] at Z2 Z4 Z10 Z12; exact hc ⟨Z2, by omega, Z10, by omega⟩))))))))))))) (Yb b (Yb Z0 (Ys ((↑f.to : Int) != IntKind.wrap IntKind.u8 ((16 : Int) + (↑r.self : Int))) (fun Z13 => (Ya hQ hQ)) (fun Z14 => (Ya (Yb Z0 (Yb b (Ys (f.epoch != r.v.e) (fun Z15 => hQ) (fun Z16 => (Yb Z0 (Ys (decide ((↑f.key : Int) ≥ (6 : Int))) (fun Z17 => hQ) (fun Z18 => (show TWk Try.prog Γ z2 z1 (z0 Z0) by exfalso; simp only [Bool.not_eq_false', bne_eq_false_iff_eq, decide_eq_false_iff_not] at Z2 Z14 Z16 Z18; exact hc ⟨Z2, by omega, Z16, by omega⟩)))))))) (Yb b (Yb Z0 (Ys (f.epoch != r.v.e) (fun Z19 => hQ) (fun Z20 => (Yb Z0 (Ys (decide ((↑f.key : Int) ≥ (6 : Int))) (fun Z21 => hQ) (fun Z22 => (show TWk Try.prog Γ z2 z1 (z0 Z0) by exfalso; simp only [Bool.not_eq_false', bne_eq_false_iff_eq, decide_eq_false_iff_not] at Z2 Z14 Z20 Z22; exact hc ⟨Z2, by omega, Z20, by omega⟩)))))))))))))))))))
def frK (n : Nat) (f : Fm) : List T := u8 n :: (frC f).tail
theorem frK_eq {n : Nat} {f : Fm} (h : f.kind = n) : frK n f = frC f := by subst h; rfl
def outT (F : List Fm) (E : List Ev) : T := .agg [.sl 34 (Row.aggs frC F), .sl 5 (Row.aggs evC E)]
def obsN (b bf br bo : Nat) (r : RS) (D : Dr) (n : Nat) (f : Fm) (F : List Fm) (hf : Value) (E : List Ev) (he : Value) : Obs := [(b, .cells (repC r D)), (bf, .cells (frK n f)), (br, .cells [.v nilS, .v nilS]),
 (bo, .cells [.slx 34 4 (Row.aggs frC F) hf, .slx 5 5 (Row.aggs evC E) he]), (0, .room 34 70 (Row.aggs frC F).length hf), (0, .room 5 73 (Row.aggs evC E).length he)]
def onH (b bo : Nat) (o : Rep.Out) (D : Dr) (gl : Glb) : Hint := .plainAt [0] (.call false (Value × Value) (fun _ => True) [0,3,4,5] true (fun _ => .tup []) (fun a => obsR b o.1 D ++ obsO 1 bo o.2.1 a.1 o.2.2 a.2) (fun _ => gl))
def onHg (b bo : Nat) (r : RS) (o : Rep.Out) (D : Dr) (gl : Glb) : Hint := .plainAt [0] (.call false (Value × Value × Glb) (fun a => Own D o.1 a.2.2 ∧ Step gl D r a.2.2 D o.1) [0,3,4,5] true (fun _ => .tup []) (fun a => obsR b o.1 D ++ obsO 1 bo o.2.1 a.1 o.2.2 a.2.1) (fun a => a.2.2))
theorem on_sw (Γ : Ctx) (b bf br bo : Nat) (r : RS) (D : Dr) (f : Fm) (frm : Nat) (lease : Bool) (hk : f.key < 6) (gl : Glb) (ho : Own D r gl) (hl : lim r.v.ms) (hfr : Rep.sender r f = some frm) (ho5 : (Rep.oth r).length ≤ 1000) (Q : T → Obs → Glb → Prop) (hQ : ∀ gl', Own D (Rep.on r f lease).1 gl' → Step gl D r gl' D (Rep.on r f lease).1 → Q (outT (Rep.on r f lease).2.1 (Rep.on r f lease).2.2) (obsR b (Rep.on r f lease).1 D) gl') :
  wRpI2 Γ Q [kRpI0 [1,1,1,1]] ⟨frame 52 [(0, .ptr 0 b 0), (2, bool lease), (4, .ptr 1 bf 0), (6, .ptr 2 br 0), (7, .ptr 3 bo 0), (8, u8 frm)], obsN b bf br bo r D f.kind f [] nilS [] nilS, gl⟩ := by
 by_cases h1 : f.kind = 1
 ·have e : Rep.on r f lease = Rep.onInv r f frm := by unfold Rep.on; rw [hfr]; simp only [h1, if_true]
  rw [e] at hQ
  have ho2 : Own D (Rep.onInv r f frm).1 gl ∧ Step gl D r gl D (Rep.onInv r f frm).1 := by
   unfold Rep.onInv
   split
   ·exact ⟨ho, Step.refl _ _ _⟩
   ·split
    ·have h2 := ho.cell f.key (Rep.inv (r.P f.key).c f.w).1
     exact ⟨(own_way h2.1 f.key).1, h2.2.trans (own_way h2.1 f.key).2⟩
    ·exact ho.cell f.key _
  have hQ := hQ gl ho2.1 ho2.2
  have hst := inv_step b bo r D [] nilS [] nilS f frm hk gl ho hl (by decide) (by decide)
  simp only [List.nil_append] at hst
  rw [← frK_eq h1] at hst
  rw [h1]
  generalize Rep.onInv r f frm = o at *
  let HH : Nat → Nat → Hint := fun | 7, 3 => onH b bo o D gl | _, _ => .no
  exact run_sound ⟨HH, [], fun  | _ => none⟩ 400 (by kernel_rfl) (Yb bf (Yb bf (Ya (Ya (repC_plain r D) Yt) (Ya (hst (HH 7 3).P fun v w => ⟨(v, w), trivial, rfl, rfl, Nat.le_of_ble_eq_true rfl, fun _ => rfl⟩) (fun (Z0 : Value × Value) => (fun (Z1 : True) => (Ya (Ya (repC_plain o.fst D) Yt) (Yb bo (Yk 2 br (Yb br hQ))))))))))
 ·by_cases h2 : f.kind = 2
  ·cases lease with
   | false =>
    have e : Rep.on r f false = (r, [], []) := by unfold Rep.on; rw [hfr]; simp [h2]
    rw [e] at hQ
    have hQ := hQ gl ho (Step.refl _ _ _)
    rw [h2]
    let HH : Nat → Nat → Hint := fun _ _ => .no
    exact run_sound ⟨HH, [], fun _ => none⟩ 400 (by kernel_rfl) (Yb bf (Yb bo (Yk 2 br (Yb br hQ))))
   | true =>
    have e : Rep.on r f true = Rep.onAck r f frm := by unfold Rep.on; rw [hfr]; simp [h2]
    rw [e] at hQ
    have hst := ack_step b bo r D [] nilS [] nilS f frm hk gl ho hl (by simp; omega) (by decide)
    simp only [List.nil_append] at hst
    rw [← frK_eq h2] at hst
    rw [h2]
    generalize Rep.onAck r f frm = o at *
    let HH : Nat → Nat → Hint := fun | 10, 3 => onHg b bo r o D gl | _, _ => .no
    exact run_sound ⟨HH, [], fun  | _ => none⟩ 400 (by kernel_rfl) (Yb bf (Yb bf (Ya (Ya (repC_plain r D) Yt) (Ya (hst (HH 10 3).P fun v w gl' g1 g2 => ⟨(v, w, gl'), ⟨g1, g2⟩, rfl, rfl, Nat.le_of_ble_eq_true rfl, fun _ => rfl⟩) (fun (Z0 : Value × Value × Glb) => (fun (Z1 : Own D o.fst Z0.snd.snd ∧ Step gl D r Z0.snd.snd D o.fst) => (Ya (Ya (repC_plain o.fst D) Yt) (Yb bo (Yk 2 br (Yb br (hQ Z0.snd.snd Z1.1 Z1.2)))))))))))
  ·by_cases h3 : f.kind = 3
   ·have e : Rep.on r f lease = (Rep.onVal r f, [], []) := by unfold Rep.on; rw [hfr]; simp [h3]
    rw [e] at hQ
    have ho2 : Own D (Rep.onVal r f) gl ∧ Step gl D r gl D (Rep.onVal r f) := by
     unfold Rep.onVal
     split
     ·have h2 := ho.cell f.key (Rep.val (r.P f.key).c f.w.s).1
      exact ⟨(own_rest h2.1 f.key).1, h2.2.trans (own_rest h2.1 f.key).2⟩
     ·exact ⟨ho, Step.refl _ _ _⟩
    have hQ := hQ gl ho2.1 ho2.2
    have hst := val_step b r D f hk gl ho
    rw [← frK_eq h3] at hst
    rw [h3]
    generalize Rep.onVal r f = o at *
    let HH : Nat → Nat → Hint := fun | 12, 2 => toldG (.tup []) [0] (obsR b o D) gl | _, _ => .no
    exact run_sound ⟨HH, [], fun  | _ => none⟩ 400 (by kernel_rfl) (Yb bf (Yb bf (Ya (hst (HH 12 2).P (toldG_post rfl)) (Yu (Yb bo (Yk 2 br (Yb br hQ)))))))
   ·by_cases h4 : f.kind = 4
    ·have e : Rep.on r f lease = (r, Rep.onNeed r f frm, []) := by unfold Rep.on; rw [hfr]; simp [h4]
     have hq : Q (outT (Rep.on r f lease).2.1 (Rep.on r f lease).2.2) (obsR b (Rep.on r f lease).1 D) gl := hQ gl (by rw [e]; exact ho) (by rw [e]; exact Step.refl _ _ _)
     have hst := need_any b bo r D [] nilS [] nilS f frm hk gl ho (by decide)
     simp only [List.nil_append] at hst
     rw [← frK_eq h4] at hst
     rw [h4]
     clear hQ
     generalize Rep.on r f lease = o at *
     let HH : Nat → Nat → Hint := fun | 14, 3 => onH b bo o D gl | _, _ => .no
     exact run_sound ⟨HH, [], fun  | _ => none⟩ 400 (by kernel_rfl) (Yb bf (Yb bf (Ya (Ya (repC_plain r D) Yt) (Ya (hst (HH 14 3).P fun v => ⟨(v, nilS), trivial, rfl, by rw [e], Nat.le_of_ble_eq_true rfl, fun _ => rfl⟩) (fun (Z0 : Value × Value) => (fun (Z1 : True) => (Ya (Ya (repC_plain o.fst D) Yt) (Yb bo (Yk 2 br (Yb br hq))))))))))
    ·by_cases h5 : f.kind = 5
     ·have e : Rep.on r f lease = ((Rep.onGive r f).1, [], (Rep.onGive r f).2) := by unfold Rep.on; rw [hfr]; simp [h5]
      have hst := give_step b bo r D [] nilS [] nilS f hk gl ho (by decide)
      simp only [List.nil_append] at hst
      rw [← frK_eq h5] at hst
      rw [h5]
      generalize Rep.on r f lease = o at *
      generalize Rep.onGive r f = oo at *
      let HH : Nat → Nat → Hint := fun | 16, 2 => onHg b bo r o D gl | _, _ => .no
      exact run_sound ⟨HH, [], fun  | _ => none⟩ 400 (by kernel_rfl) (Yb bf (Yb bf (Ya (Ya (repC_plain r D) Yt) (Ya (hst (HH 16 2).P fun w gl' g1 g2 => ⟨(nilS, w, gl'), by rw [e]; exact ⟨g1, g2⟩, rfl, by rw [e], Nat.le_of_ble_eq_true rfl, fun _ => rfl⟩) (fun (Z0 : Value × Value × Glb) => (fun (Z1 : Own D o.fst Z0.snd.snd ∧ Step gl D r Z0.snd.snd D o.fst) => (Ya (Ya (repC_plain o.fst D) Yt) (Yb bo (Yk 2 br (Yb br (hQ Z0.snd.snd Z1.1 Z1.2)))))))))))
     ·have e : Rep.on r f lease = (r, [], []) := by unfold Rep.on; rw [hfr]; simp [h1, h2, h3, h4, h5]
      rw [e] at hQ
      have hQ := hQ gl ho (Step.refl _ _ _)
      let HH : Nat → Nat → Hint := fun _ _ => .no
      exact run_sound ⟨HH, [], fun _ => none⟩ 400 (by kernel_rfl) (Yb bf (Ys ((↑f.kind : Int) == (1 : Int)) (fun Z0 => (Yb bf (show False by exfalso; simp only [beq_iff_eq] at *; omega))) (fun Z1 => (Ys ((↑f.kind : Int) == (2 : Int)) (fun Z2 => (Ys (lease) (fun Z3 => (Yb bf (show False by exfalso; simp only [beq_iff_eq] at *; omega))) (fun Z4 => (Yb bo (Yk 2 br (Yb br hQ)))))) (fun Z5 => (Ys ((↑f.kind : Int) == (3 : Int)) (fun Z6 => (Yb bf (show False by exfalso; simp only [beq_iff_eq] at *; omega))) (fun Z7 => (Ys ((↑f.kind : Int) == (4 : Int)) (fun Z8 => (Yb bf (show False by exfalso; simp only [beq_iff_eq] at *; omega))) (fun Z9 => (Ys ((↑f.kind : Int) == (5 : Int)) (fun Z10 => (Yb bf (show False by exfalso; simp only [beq_iff_eq] at *; omega))) (fun Z11 => (Yb bo (Yk 2 br (Yb br hQ))))))))))))))
theorem imp_out {ts : List T} {gl : Glb} (x y z : Nat × Ob) (bo : Nat) : Imp ts [x, y, z, (bo, .cells [.v nilS, .v nilS])] gl ts [x, y, z, (bo, .cells [.slx 34 4 [] nilS, .slx 5 5 [] nilS]), (0, .room 34 70 0 nilS), (0, .room 5 73 0 nilS)] gl := by
 refine (Imp.room 34 70).trans ?_
 refine (Imp.room 5 73).trans ?_
 refine (Imp.cell (i := 3) (b := bo) (j := 0) 34 4 rfl rfl).trans ?_
 exact Imp.cell (i := 3) (b := bo) (j := 1) (cs := [.slx 34 4 [] nilS, .v nilS]) 5 5 rfl rfl
theorem on_none (Γ : Ctx) (b bf br bo : Nat) (r : RS) (D : Dr) (f : Fm) (lease : Bool) (gl : Glb) (hl : lim r.v.ms) (hs : Rep.sender r f = none) (Q : T → Obs → Glb → Prop) (hQ : Q (outT [] []) (obsR b r D) gl) :
  wRpI2 Γ Q [kRpI0 [1,1]] ⟨frame 52 [(0, .ptr 0 b 0), (2, bool lease), (4, .ptr 1 bf 0), (6, .ptr 2 br 0), (7, .ptr 3 bo 0)], obsN b bf br bo r D f.kind f [] nilS [] nilS, gl⟩ := by
 have hsn := sender_any b r D f hl
 rw [hs] at hsn
 let HH : Nat → Nat → Hint := fun | 2, 2 => .plainAt [0] (told (.tup [u8 0, bool false]) [0] (obsR b r D)) | _, _ => .no
 exact run_sound ⟨HH, [], fun  | _ => none⟩ 400 (by kernel_rfl) (Yb bf (Ya (Ya (repC_plain r D) Yt) (Ya (hsn (HH 2 2).P (told_post rfl)) (Yu (Ya (Ya (repC_plain r D) Yt) (Yb bo (Yk 2 br (Yb br hQ))))))))
theorem on_some (Γ : Ctx) (b bf br bo : Nat) (r : RS) (D : Dr) (f : Fm) (frm : Nat) (lease : Bool) (gl : Glb) (ho : Own D r gl) (hl : lim r.v.ms) (hs : Rep.sender r f = some frm) (ho5 : (Rep.oth r).length ≤ 1000) (Q : T → Obs → Glb → Prop) (hQ : ∀ gl', Own D (Rep.on r f lease).1 gl' → Step gl D r gl' D (Rep.on r f lease).1 → Q (outT (Rep.on r f lease).2.1 (Rep.on r f lease).2.2) (obsR b (Rep.on r f lease).1 D) gl') :
  wRpI2 Γ Q [kRpI0 [1,1]] ⟨frame 52 [(0, .ptr 0 b 0), (2, bool lease), (4, .ptr 1 bf 0), (6, .ptr 2 br 0), (7, .ptr 3 bo 0)], obsN b bf br bo r D f.kind f [] nilS [] nilS, gl⟩ := by
 have hsn := sender_any b r D f hl
 rw [hs] at hsn
 have hk : f.key < 6 := by
  unfold Rep.sender at hs
  split at hs
  ·rename_i h; exact h.2.2.2
  ·cases hs
 have sw := on_sw Γ b bf br bo r D f frm lease hk gl ho hl hs ho5 Q hQ
 clear hQ
 let HH : Nat → Nat → Hint := fun | 2, 2 => .plainAt [0] (told (.tup [u8 frm, bool true]) [0] (obsR b r D)) | _, _ => .no
 exact run_sound ⟨HH, [((0, 5), ([0,2,4,6,7,8], 6))], fun  | _ => none⟩ 400 (by kernel_rfl) (Yb bf (Ya (Ya (repC_plain r D) Yt) (Ya (hsn (HH 2 2).P (told_post rfl)) (Yu (Ya (Ya (repC_plain r D) Yt) sw)))))
theorem on_any (b : Nat) (r : RS) (D : Dr) (f : Fm) (lease : Bool) (gl : Glb) (ho : Own D r gl) (hl : lim r.v.ms) (ho5 : (Rep.oth r).length ≤ 1000) (Q : T → Obs → Glb → Prop) (hQ : ∀ gl', Own D (Rep.on r f lease).1 gl' → Step gl D r gl' D (Rep.on r f lease).1 → Q (outT (Rep.on r f lease).2.1 (Rep.on r f lease).2.2) (obsR b (Rep.on r f lease).1 D) gl') :
  TCalls Try.prog 15 [.ptr 0 b 0, .agg (frC f), bool lease] (obsR b r D) gl Q := by
 have st : ∀ Γ bf br bo, wRpI2 Γ Q [kRpI0 [1,1]] ⟨frame 52 [(0, .ptr 0 b 0), (2, bool lease), (4, .ptr 1 bf 0), (6, .ptr 2 br 0), (7, .ptr 3 bo 0)], [(b, .cells (repC r D)), (bf, .cells (frK f.kind f)), (br, .cells [.v nilS, .v nilS]), (bo, .cells [.v nilS, .v nilS])], gl⟩ := fun Γ bf br bo => by
  refine TWk.imp (s' := ⟨_, obsN b bf br bo r D f.kind f [] nilS [] nilS, gl⟩) ?_ (imp_out (b, .cells (repC r D)) (bf, .cells (frK f.kind f)) (br, .cells [.v nilS, .v nilS]) bo)
  cases hs : Rep.sender r f with
  | none =>
   have e : Rep.on r f lease = (r, [], []) := by unfold Rep.on; rw [hs]
   rw [e] at hQ
   exact on_none Γ b bf br bo r D f lease gl hl hs Q (hQ gl ho (Step.refl _ _ _))
  | some frm => exact on_some Γ b bf br bo r D f frm lease gl ho hl hs ho5 Q hQ
 clear hQ
 refine TCalls.of Try.func15 rfl (CanCall.of Try.func15 rfl (by decide)) [0] fun Γ => ?_
 let HH : Nat → Nat → Hint := fun _ _ => .no
 exact run_sound ⟨HH, [((0, 2), ([0,2,4,6,7], 4))], fun _ => none⟩ 400 (by kernel_rfl) (fun (Z0 : Nat) => (fun (Z1 : Nat) => (fun (Z2 : Nat) => (st Γ Z0 Z1 Z2))))
end X20
end Go.Proofs.Ytafcbipmmjegcaa.Vm
namespace Go.Proofs.Ytafcbipmmjegcaa.Vm
open Go Go.RowKit
set_option maxRecDepth 100000
noncomputable abbrev kRpJ0 (l : List Nat) : It := .code (sub (bd Try.f37) l)
noncomputable abbrev wRpJ1 (Γ : Ctx) (Q : T → Obs → Glb → Prop) : List It → S → Prop := TWk Try.prog Γ (fin Try.prog Try.f37 [0] Q)
namespace X20
open Rep (Stp Wrd Cel Drv Plc RS Fm Ev)
def neC (x : Nat × Nat) : List T := [u8 x.1, u8 x.2]
def nlF (h : Nat → Bool) (c : Nat) (L : List Nat) (k : Nat) : List (Nat × Nat) := if h k then [] else [(k, L.getD ((c + k) % L.length) 0)]
def nl (h : Nat → Bool) (c : Nat) (L : List Nat) (i n : Nat) : List (Nat × Nat) := (List.range' i n).flatMap (nlF h c L)
theorem nl_succ (h : Nat → Bool) (c : Nat) (L : List Nat) (i n : Nat) : nl h c L i (n + 1) = nlF h c L i ++ nl h c L (i + 1) n := by
 unfold nl; rw [List.range'_succ, List.flatMap_cons]
theorem nl_needs (r : RS) (hr : Rep.oth r ≠ []) : Rep.needs r = nl r.has r.calls (Rep.oth r) 0 6 := by
 unfold Rep.needs
 rw [if_neg hr]
 have key : ∀ l : List Nat, ((l.filter fun k => !r.has k).map fun k => (k, (Rep.oth r).getD ((r.calls + k) % (Rep.oth r).length) 0)) = l.flatMap (nlF r.has r.calls (Rep.oth r)) := fun l => by
  induction l with
  | nil => rfl
  | cons k l ih =>
   rw [List.flatMap_cons, ← ih]
   cases hk : r.has k <;> simp [nlF, hk]
 exact key _
theorem rel_nil_sl {M : Pm} {k : Nat} {v : Value} (h : Rel M (.v nilS) v) : Rel M (.sl k []) v := by
 simp only [Rel] at h ⊢
 exact ⟨none, 0, h, ⟨Nat.le_refl _, by omega, fun _ => ⟨rfl, rfl⟩, fun a h => by cases h⟩, by simp [El], fun _ _ h => by cases h⟩
def obsTn (b : Nat) (h : Nat → Bool) (c : Nat) (N : List (Nat × Nat)) (hd : Value) : Obs := [(b, .cells (trC h c)), (0, .room 2 125 (Row.aggs neC N).length hd)]
theorem tneeds_loop (Γ : Ctx) (b : Nat) (h : Nat → Bool) (c c' : Nat) (L : List Nat) (hL0 : L ≠ []) (hL : L.length ≤ 1000000) (hc : c ≤ 1000000) (gl : Glb) (Q : T → Obs → Glb → Prop) : ∀ (n i : Nat) (N : List (Nat × Nat)) (hd : Value), i + n = 6 → N.length ≤ i →
  (∀ r, r = .sl 2 (Row.aggs neC (N ++ nl h c L i n)) → Q r (obsT b h c') gl) →
  wRpJ1 Γ Q [kRpJ0 [1,1,1,1,1,1,0,1,0], .blk 0, kRpJ0 [1,1,1,1,1,1,1]] ⟨frame 52 [(1, .sl 1 (X5.u8s L)), (5, int c), (6, .slx 2 1 (Row.aggs neC N) hd), (28, .agg [bool (h 0), bool (h 1), bool (h 2), bool (h 3), bool (h 4), bool (h 5)]), (29, int i)], obsTn b h c' N hd, gl⟩ := by
 intro n
 induction n with
 | zero =>
  intro i N hd hi hN hQ
  have hi : i = 6 := by omega
  subst hi
  have hQ := hQ _ rfl
  rw [show nl h c L 6 0 = [] from rfl, List.append_nil] at hQ
  let HH : Nat → Nat → Hint := fun _ _ => .no
  exact run_sound ⟨HH, [], fun _ => none⟩ 400 (by kernel_rfl) hQ
 | succ n ih =>
  intro i N hd hi hN hQ
  have hw : IntKind.wrap .i64 ((i : Int) + 1) = ((i + 1 : Nat) : Int) := by rw [wrap_i64 (by omega) (by omega)]; omega
  have hw2 : IntKind.wrap .i64 ((c : Int) + (i : Int)) = ((c + i : Nat) : Int) := by rw [wrap_i64 (by omega) (by omega)]; omega
  have hw3 : IntKind.wrap .u8 (i : Int) = (i : Int) := IntWalk.u8_in _ (by omega)
  have hlp : 0 < L.length := List.length_pos_iff.2 hL0
  have l1 : (X5.u8s L).length = L.length := X5.u8s_len L
  have hti : Int.tmod ((c + i : Nat) : Int) (L.length : Int) = (((c + i) % L.length : Nat) : Int) := IntWalk.up_tmod rfl rfl
  rw [nl_succ] at hQ
  cases hh : h i with
  | true =>
   have nx := ih (i + 1) N hd (by omega) (by omega) (fun r hr => hQ r (by rw [hr, nlF, if_pos hh, List.nil_append]))
   clear ih hQ
   generalize X5.u8s L = U at *
   let HH : Nat → Nat → Hint := fun | 10, 1 => .res (bool true) | 13, 0 => .res (int (i + 1 : Nat)) | _, _ => .no
   exact run_sound ⟨HH, [((2, 9), ([1,5,6,28,29], 2))], fun  | _ => none⟩ 400 (by kernel_rfl) (Ys (decide ((↑i : Int) < (6 : Int))) (fun Z0 => (Yi (↑i : Int) 6 (by omega) (Ya (show [bool (h 0), bool (h 1), bool (h 2), bool (h 3), bool (h 4), bool (h 5)][Int.toNat (↑i : Int) * nat_lit 1]? = some (bool true) by rcases six (show i < 6 by omega) with rfl|rfl|rfl|rfl|rfl|rfl <;> exact congrArg (fun x => some (bool x)) hh) (Ya (congrArg int hw) nx)))) (fun Z1 => (show Q (T.sl 2 (List.map (fun x => T.agg (neC x)) N)) [(b, Ob.cells [bool (h 0), bool (h 1), bool (h 2), bool (h 3), bool (h 4), bool (h 5), int c'])] gl by exfalso; have := of_decide_eq_false Z1; omega)))
  | false =>
   have nx := fun hd => ih (i + 1) (N ++ [(i, L.getD ((c + i) % L.length) 0)]) hd (by omega) (by simp; omega) (fun r hr => hQ r (by rw [hr, nlF, if_neg (by simp [hh]), ← List.append_assoc]))
   clear ih hQ
   have hat : (X5.u8s L)[((((c + i) % L.length : Nat) : Int)).toNat]? = some (u8 (L.getD ((c + i) % L.length) 0 : Nat)) := u8s_at (by
    have : (c + i) % L.length < L.length := Nat.mod_lt _ hlp
    rw [Int.toNat_natCast, List.getD_eq_getElem?_getD, List.getElem?_eq_getElem this]; rfl)
   generalize X5.u8s L = U at *
   generalize L.getD ((c + i) % L.length) 0 = y at *
   let HH : Nat → Nat → Hint := fun | 10, 1 => .res (bool false) | 12, 2 => .res (u8 i) | 12, 9 => .no | 12, 10 => .res (u8 y) | 13, 0 => .res (int (i + 1 : Nat)) | _, _ => .no
   exact run_sound ⟨HH, [((2, 9), ([1,5,6,28,29], 2))], fun  | _ => none⟩ 400 (by kernel_rfl) (Ys (decide ((↑i : Int) < (6 : Int))) (fun Z0 => (Yi (↑i : Int) 6 (by omega) (Ya (show [bool (h 0), bool (h 1), bool (h 2), bool (h 3), bool (h 4), bool (h 5)][Int.toNat (↑i : Int) * nat_lit 1]? = some (bool false) by rcases six (show i < 6 by omega) with rfl|rfl|rfl|rfl|rfl|rfl <;> exact congrArg (fun x => some (bool x)) hh) (Ya (congrArg u8 hw3) (Ya (show ¬(↑(List.length U) : Int) = (0 : Int) by omega) (Ya (show (0 : Int) ≤ Int.tmod (IntKind.wrap IntKind.i64 ((↑c : Int) + (↑i : Int))) (↑(List.length U) : Int) by rw [hw2, l1, hti]; have := Nat.mod_lt (c + i) hlp; omega) (Ya (show U[Int.toNat (Int.tmod (IntKind.wrap IntKind.i64 ((↑c : Int) + (↑i : Int))) (↑(List.length U) : Int))]? = some (u8 y) by rw [hw2, l1, hti]; exact hat) (Ya (Yb hd (Ye (List.length (List.map (fun x => T.agg (neC x)) N)))) (Ya (Ya (show (List.length (List.map (fun x => T.agg (neC x)) N) + 1) * nat_lit 2 ≤ 140737488355328 by simp only [List.length_map, maxLen]; omega) (show List.length (List.map (fun x => T.agg (neC x)) N) + 1 ≤ maxLen by simp only [List.length_map, maxLen]; omega)) (fun (Z1 : Value) => (Ya (congrArg int hw) (show wRpJ1 Γ Q [kRpJ0 [1,1,1,1,1,1,0,1,0], It.blk 0, kRpJ0 [1,1,1,1,1,1,1]] (S.mk (frame 52 [(1, T.sl 1 U), (5, int c), (6, T.slx 2 1 (List.map (fun x => T.agg (neC x)) N ++ [T.agg [u8 i, u8 y]]) Z1), (28, T.agg [bool (h 0), bool (h 1), bool (h 2), bool (h 3), bool (h 4), bool (h 5)]), (29, int (i + 1))]) [(b, Ob.cells [bool (h 0), bool (h 1), bool (h 2), bool (h 3), bool (h 4), bool (h 5), int c']), (0, Ob.room 2 125 (List.length (List.map (fun x => T.agg (neC x)) N ++ [T.agg [u8 i, u8 y]])) Z1)] gl) by have h2 := nx Z1; simp only [obsTn, Row.aggs, List.map_append, List.map_cons, List.map_nil] at h2; exact h2)))))))))))) (fun Z2 => (show Q (T.sl 2 (List.map (fun x => T.agg (neC x)) N)) [(b, Ob.cells [bool (h 0), bool (h 1), bool (h 2), bool (h 3), bool (h 4), bool (h 5), int c'])] gl by exfalso; have := of_decide_eq_false Z2; omega)))
theorem tneeds_nil (b : Nat) (h : Nat → Bool) (c : Nat) (hc : c ≤ 1000000) (gl : Glb) (Q : T → Obs → Glb → Prop) (hQ : Q (.v nilS) (obsT b h (c + 1)) gl) : TCalls Try.prog 37 [.ptr 0 b 0, .sl 1 (X5.u8s [])] (obsT b h c) gl Q := by
 have hw : IntKind.wrap .i64 ((c : Int) + 1) = ((c + 1 : Nat) : Int) := by rw [wrap_i64 (by omega) (by omega)]; omega
 refine TCalls.of Try.func37 rfl (CanCall.of Try.func37 rfl (by decide)) [0] fun Γ => ?_
 let HH : Nat → Nat → Hint := fun _ _ => .no
 exact run_sound ⟨HH, [], fun _ => none⟩ 400 (by kernel_rfl) (Yb b (Yb b (Yl 1 (Yb b (Ya (Yn (7) (7) rfl) (show Q (T.v (Value.slice none 0 0)) [(b, Ob.cells [bool (h 0), bool (h 1), bool (h 2), bool (h 3), bool (h 4), bool (h 5), int (IntKind.wrap IntKind.i64 ((↑c : Int) + (1 : Int)))])] gl by simp only [hw] at *; exact hQ))))))
theorem tneeds_cons (b : Nat) (h : Nat → Bool) (c : Nat) (L : List Nat) (hL0 : L ≠ []) (hL : L.length ≤ 1000000) (hc : c ≤ 1000000) (gl : Glb) (Q : T → Obs → Glb → Prop) (hQ : Q (.sl 2 (Row.aggs neC (nl h c L 0 6))) (obsT b h (c + 1)) gl) : TCalls Try.prog 37 [.ptr 0 b 0, .sl 1 (X5.u8s L)] (obsT b h c) gl Q := by
 have hw : IntKind.wrap .i64 ((c : Int) + 1) = ((c + 1 : Nat) : Int) := by rw [wrap_i64 (by omega) (by omega)]; omega
 have lp := fun Γ => tneeds_loop Γ b h c (c + 1) L hL0 hL hc gl Q 6 0 [] nilS rfl (Nat.le_refl _) (fun r hr => by rw [hr, List.nil_append]; exact hQ)
 have hlp : 0 < L.length := List.length_pos_iff.2 hL0
 have l1 : (X5.u8s L).length = L.length := X5.u8s_len L
 clear hQ
 generalize X5.u8s L = U at *
 have lp2 : ∀ Γ, wRpJ1 Γ Q [kRpJ0 [1,1,1,1,1,1,0,1,0], .blk 0, kRpJ0 [1,1,1,1,1,1,1]] ⟨frame 52 [(1, .sl 1 U), (5, int c), (6, .v nilS), (28, .agg [bool (h 0), bool (h 1), bool (h 2), bool (h 3), bool (h 4), bool (h 5)]), (29, int 0)], obsT b h (c + 1), gl⟩ := fun Γ =>
  TWk.imp (lp Γ) ((Imp.room 2 125).trans (Imp.slot 2 1 6 rfl))
 clear lp
 refine TCalls.of Try.func37 rfl (CanCall.of Try.func37 rfl (by decide)) [0] fun Γ => ?_
 let HH : Nat → Nat → Hint := fun _ _ => .no
 exact run_sound ⟨HH, [((2, 9), ([1,5,6,28,29], 1))], fun _ => none⟩ 400 (by kernel_rfl) (Yb b (Yb b (Yl 1 (Yb b (Ya (Yn (7) (7) rfl) (Ys ((↑(List.length U) : Int) == (0 : Int)) (fun Z0 => (show Q (T.v (Value.slice none 0 0)) [(b, Ob.cells [bool (h 0), bool (h 1), bool (h 2), bool (h 3), bool (h 4), bool (h 5), int (IntKind.wrap IntKind.i64 ((↑c : Int) + (1 : Int)))])] gl by exfalso; rw [beq_iff_eq] at Z0; omega)) (fun Z1 => (Yb b (show wRpJ1 Γ Q [kRpJ0 [1,1,1,1,1,1,0,1,0], It.blk 0, kRpJ0 [1,1,1,1,1,1,1]] (S.mk (frame 52 [(1, T.sl 1 U), (5, int c), (6, T.v (Value.slice none 0 0)), (28, T.agg [bool (h 0), bool (h 1), bool (h 2), bool (h 3), bool (h 4), bool (h 5)]), (29, int (0 : Int))]) [(b, Ob.cells [bool (h 0), bool (h 1), bool (h 2), bool (h 3), bool (h 4), bool (h 5), int (IntKind.wrap IntKind.i64 ((↑c : Int) + (1 : Int)))])] gl) by simp only [hw] at *; exact lp2 _)))))))))
theorem tneedsG {b : Nat} {h : Nat → Bool} {c : Nat} {gl : Glb} (hg : gl b = some (.cells (trC h c))) (L : List Nat) (hL : L.length ≤ 1000000) (hc : c ≤ 1000000) (Q : T → Obs → Glb → Prop) (hQ : Q (.sl 2 (Row.aggs neC (if L = [] then [] else nl h c L 0 6))) [] (setO gl b (.cells (trC h (c + 1))))) : TCalls Try.prog 37 [.gp b 0, .sl 1 (X5.u8s L)] [] gl Q := by
 by_cases h0 : L = []
 ·subst h0
  rw [if_pos rfl] at hQ
  refine TCalls.post (famT (Q := fun r ob gl' => r = .v nilS ∧ ob = [] ∧ gl' = setO gl b (.cells (trC h (c + 1)))) hg (tneeds_nil b h c hc _ (fun r ob' gl' => r = .v nilS ∧ ob' = obsT b h (c + 1) ∧ gl' = dropO gl b) ⟨rfl, rfl, rfl⟩) fun r ob' gl' ⟨h1, h2, h3⟩ => ⟨h, c + 1, h2, h3, h1, rfl, rfl⟩) ?_
  rintro r ob' gl' ⟨rfl, rfl, rfl⟩
  exact ⟨.sl 2 [], [], _, Imp.slotR (j := 0) rfl (fun _ _ h => rel_nil_sl h), hQ⟩
 ·rw [if_neg h0] at hQ
  exact famT hg (tneeds_cons b h c L h0 hL hc _ (fun r ob' gl' => r = .sl 2 (Row.aggs neC (nl h c L 0 6)) ∧ ob' = obsT b h (c + 1) ∧ gl' = dropO gl b) ⟨rfl, rfl, rfl⟩) fun r ob' gl' ⟨h1, h2, h3⟩ => ⟨h, c + 1, h2, h3, by rw [h1]; exact hQ⟩
end X20
end Go.Proofs.Ytafcbipmmjegcaa.Vm
