/- Texts of this claim: VmF, PxH, PxI, PxJ. -/
import Derived.Test.YtpjkdcbogjigeaaGreatMg37
import Derived.Test.YtpjkdcbogjigeaaGreatMg15
namespace Go.Proofs.YtpjkdcbogjigeaaGreat.Vm
open Go Go.RowKit
def joinG (g h : Glb) : Glb := fun c => (g c).or (h c)
def Dj (g h : Glb) : Prop := ∀ c, (g c).isSome = true → h c = none
theorem Dj.symm {g h : Glb} (d : Dj g h) : Dj h g := fun c hc => by
  cases e : g c with
  | none => rfl
  | some x => rw [d c (by rw [e]; rfl)] at hc; cases hc
theorem joinG_none {g h : Glb} {c : Nat} : joinG g h c = none ↔ g c = none ∧ h c = none := by
  unfold joinG
  cases g c <;> simp
theorem Dj.join {g h k : Glb} (a : Dj g h) (b : Dj g k) : Dj g (joinG h k) := fun c hc => joinG_none.2 ⟨a c hc, b c hc⟩
theorem Dj.left {g h k : Glb} (a : Dj g (joinG h k)) : Dj g h := fun c hc => (joinG_none.1 (a c hc)).1
theorem Dj.right {g h k : Glb} (a : Dj g (joinG h k)) : Dj g k := fun c hc => (joinG_none.1 (a c hc)).2
theorem Dj.none (g : Glb) : Dj g none_ := fun _ _ => rfl
def Rooms (xs : Obs) : Prop := ∀ (i b k : Nat) (e : TypeId) (n : Nat) (v : Value), xs[i]? = some (b, Ob.room k e n v) → v.ownBlock = none → v = nilS ∧ n = 0
def Sole (xs : Obs) : Prop := ∀ (i j : Nat) (x y : Nat × Ob) (c : Nat), xs[i]? = some x → xs[j]? = some y → obBlk x = some c → obBlk y = some c → i = j
theorem Sole.l {xs ys : Obs} (h : Sole (xs ++ ys)) : Sole xs := fun i j x y c hx hy h1 h2 =>
  h i j x y c (by rw [List.getElem?_append_left (List.getElem?_eq_some_iff.1 hx).1]; exact hx) (by rw [List.getElem?_append_left (List.getElem?_eq_some_iff.1 hy).1]; exact hy) h1 h2
theorem Sole.r {xs ys : Obs} (h : Sole (xs ++ ys)) : Sole ys := fun i j x y c hx hy h1 h2 => by
  have := h (xs.length + i) (xs.length + j) x y c (by rw [List.getElem?_append_right (Nat.le_add_right _ _), Nat.add_sub_cancel_left]; exact hx) (by rw [List.getElem?_append_right (Nat.le_add_right _ _), Nat.add_sub_cancel_left]; exact hy) h1 h2
  omega
theorem Rooms.r {xs ys : Obs} (h : Rooms (xs ++ ys)) : Rooms ys := fun i b k e n v hx hv => h (xs.length + i) b k e n v (by rw [List.getElem?_append_right (Nat.le_add_right _ _), Nat.add_sub_cancel_left]; exact hx) hv
theorem Rooms.l {xs ys : Obs} (h : Rooms (xs ++ ys)) : Rooms xs := fun i b k e n v hx hv => h i b k e n v (by rw [List.getElem?_append_left (List.getElem?_eq_some_iff.1 hx).1]; exact hx) hv
theorem Imp.ixO {ts : List T} {ob : Obs} {gl : Glb} (f : Nat → Nat) : Imp ts ob gl ts (ob.map (ixOb f)) gl :=
  ⟨fun _ _ h => h, fun _ _ h => HRel.same (F := ix3 f) ⟨ix3_rel, ixOb_blk, ixOb_rel⟩ h, fun _ h => (dom_same (F := ix3 f) ⟨ix3_rel, ixOb_blk, ixOb_rel⟩).1 h⟩
end Go.Proofs.YtpjkdcbogjigeaaGreat.Vm
namespace Go.Proofs.YtpjkdcbogjigeaaGreat.Vm
open Go Go.RowKit
set_option maxRecDepth 100000
noncomputable abbrev kPxH0 (l : List Nat) : It := .code (sub (bd Tryz.f6) l)
noncomputable abbrev wPxH1 (Γ : Ctx) (Q : T → Obs → Glb → Prop) : List It → S → Prop := TWk Tryz.prog Γ (fin Tryz.prog Tryz.f6 [] Q)
namespace X14
open Acp (En AS Rc blw VOk IsE XOk)
open View (VS Mem)
open Lrn (LS App)
open X5 (viewC mems memC)
open Jrn (Dk)
open X9 (dkC obsK dkH dk_post)
open X10 (strs jC obsJ)
open X11 (obsA enC)
open X12 (PM PP)
open X13 (obsL cmdC apps)
open X5 (firstM firstL)
def v3 : VS := ⟨1, firstM 3, firstL 3⟩
theorem v3_ok : VOk v3 := by
  refine ⟨by decide, by decide, by decide, fun m hm => ?_, fun i => ?_⟩
  · have hm : m ∈ firstM 3 := hm
    unfold firstM at hm
    obtain ⟨j, hj, rfl⟩ := List.mem_map.1 hm
    have := List.mem_range.1 hj
    exact ⟨by show j + 1 < 256; omega, by show 1 < 256; decide⟩
  · show firstL 3 i < 256
    unfold firstL
    split <;> decide
section
variable (Q : T → Obs → Glb → Prop)
theorem lfirst_any (hQ : Q (.agg (viewC v3)) [] none_) : TCalls Tryz.prog 9 [] [] none_ Q := by
  have fi : TCalls Tryz.prog 39 [int 3] [] none_ (callPost (told (.tup [.agg (viewC v3), int 0]) [] [])) := X5.first_any 3 _ (fun h => by omega) fun k hk _ _ => by
    have : k = 3 := by omega
    subst this
    exact told_post rfl
  have hQ : Q (.agg [u32 v3.e, .sl 3 (mems v3.ms), u8 (v3.L 0), u8 (v3.L 1), u8 (v3.L 2), u8 (v3.L 3), u8 (v3.L 4), u8 (v3.L 5), u8 (v3.L 6), u8 (v3.L 7)]) [] none_ := hQ
  generalize v3 = v at *
  refine TCalls.of Tryz.func9 rfl (CanCall.of Tryz.func9 rfl (by decide)) [] fun Γ => ?_
  let HH : Nat → Nat → Hint := fun | 1, 0 => told (.tup [.agg (viewC v), int 0]) [] [] | _, _ => .no
  exact run_sound ⟨HH, [], fun  | _ => none⟩ 400 (by kernel_rfl) (fun (Z0 : Nat) => (Ya fi (Yu (fun (Z1 : Nat) => (Yk 10 Z1 (Yb Z1 (Yk 10 Z0 (Yb Z0 hQ))))))))
theorem pnew_bad (ms : Int) (hm : ms < 1 ∨ 5 < ms) (hQ : Q (.tup [.v (.pointer none), int 1]) [] none_) : TCalls Tryz.prog 40 [int ms] [] none_ Q := by
  refine TCalls.of Tryz.func40 rfl (CanCall.of Tryz.func40 rfl (by decide)) [] fun Γ => ?_
  let HH : Nat → Nat → Hint := fun _ _ => .no
  exact run_sound ⟨HH, [((0, 3), ([0], 0))], fun _ => none⟩ 400 (by kernel_rfl) (Ys (decide (ms < (1 : Int))) (fun Z0 => hQ) (fun Z1 => (Ys (decide (ms > (5 : Int))) (fun Z2 => hQ) (fun Z3 => (show TWk Tryz.prog Γ (fin Tryz.prog Tryz.f40 [] Q) [It.code (sub (bd Tryz.f40) [1,1])] (S.mk (frame 13 [(0, int ms)]) [] fun x => none) by exfalso; simp at *; omega)))))
theorem leads_nil (hQ : Q (bool false) [] none_) : TCalls Tryz.prog 13 [.v (.pointer none)] [] none_ Q := by
  refine TCalls.of Tryz.func13 rfl (CanCall.of Tryz.func13 rfl (by decide)) [] fun Γ => ?_
  let HH : Nat → Nat → Hint := fun _ _ => .no
  exact run_sound ⟨HH, [], fun _ => none⟩ 400 (by kernel_rfl) hQ
theorem busy_nil (hQ : Q (int 0) [] none_) : TCalls Tryz.prog 14 [.v (.pointer none)] [] none_ Q := by
  refine TCalls.of Tryz.func14 rfl (CanCall.of Tryz.func14 rfl (by decide)) [] fun Γ => ?_
  let HH : Nat → Nat → Hint := fun _ _ => .no
  exact run_sound ⟨HH, [], fun _ => none⟩ 400 (by kernel_rfl) hQ
theorem next_nil (hQ : Q (.tup [u32 0, .agg [u32 0, .v nilS, u8 0, u8 0, u8 0, u8 0, u8 0, u8 0, u8 0, u8 0]]) [] none_) : TCalls Tryz.prog 12 [.v (.pointer none)] [] none_ Q := by
  refine TCalls.of Tryz.func12 rfl (CanCall.of Tryz.func12 rfl (by decide)) [] fun Γ => ?_
  let HH : Nat → Nat → Hint := fun  | _, _ => .no
  exact run_sound ⟨HH, [], fun | 3 => some ⟨[], [11,13], .take true [0,1,2,3,4,6,7,8,9,10] (.one 5 (.one 11 (.take false [12] (.one 13 .done))))⟩ | _ => none⟩ 400 (by kernel_rfl) (fun (Z0 : Nat) => (Yk 10 Z0 (Yb Z0 hQ)))
theorem tick_nil (hQ : Q (.agg [.v nilS, .v nilS]) [] none_) : TCalls Tryz.prog 15 [.v (.pointer none)] [] none_ Q := by
  refine TCalls.of Tryz.func15 rfl (CanCall.of Tryz.func15 rfl (by decide)) [] fun Γ => ?_
  let HH : Nat → Nat → Hint := fun _ _ => .no
  exact run_sound ⟨HH, [], fun _ => none⟩ 400 (by kernel_rfl) (fun (Z0 : Nat) => (fun (Z1 : Nat) => (fun (Z2 : Nat) => (Yb Z0 (Yb Z2 (Yk 2 Z1 (Yb Z1 hQ)))))))
theorem propose_nil (hQ : Q (.tup [.agg [.v nilS, .v nilS], bool false]) [] none_) : TCalls Tryz.prog 11 [.v (.pointer none), .agg [u8 0, u8 0, u8 0, u32 0, u32 0]] [] none_ Q := by
  have ld := fun Q' hq => leads_nil Q' hq
  refine TCalls.of Tryz.func11 rfl (CanCall.of Tryz.func11 rfl (by decide)) [] fun Γ => ?_
  let HH : Nat → Nat → Hint := fun | 2, 1 => told (bool false) [] [] | _, _ => .no
  exact run_sound ⟨HH, [], fun | 4 => some ⟨[], [6], .take true [0,1,2,3,4,5] (.one 6 (.take false [7,8,9,10,11] .done))⟩ | _ => none⟩ 400 (by kernel_rfl) (fun (Z0 : Nat) => (fun (Z1 : Nat) => (fun (Z2 : Nat) => (Ya (ld (HH 2 1).P (told_post rfl)) (Yu (Yb Z2 (Yk 2 Z1 (Yb Z1 hQ))))))))
end
theorem raw_imp (ts : List T) (db : Nat) (l : List (List UInt8)) (x : AS) (v : VS) (pat : Int) (pb jb ab mb lb lm xb : Nat) (hd : Value) (es : Array MapEntry) (ck : Nat) (gl : Glb) : Imp ts ((db, .cells (dkC (Jrn.jd l))) :: ((PM.idle 1).obs pb ++ (((obsA db jb ab mb (Jrn.jd l) l hd false x es ck).tail.map (ixOb fun k => [0,4,5,6,7].getD k 0)) ++ ((obsL lb lm (Lrn.newL v) #[] 0 nilS).map (ixOb fun k => [8,9,10].getD k 0) ++ [(xb, .cells [.ptr 6 ab 0, .ptr 1 pb 0, .ptr 8 lb 0, u8 1, int 1, int pat, int 0, u32 0, u8 0])])))) gl ts (obsE pb db jb ab mb lb lm xb l x (Lrn.newL v) pat 0 0 0 ⟨PM.idle 1, gl, hd, es, ck, #[], 0, nilS⟩) gl := by
  refine (Imp.ixO fun k => [3,0,1,2,4,5,6,7,8,9,10,11].getD k 0).trans ?_
  exact Imp.sel [1,2,3,0,4,5,6,7,8,9,10,11] (by decide) rfl
section
variable {pb db jb ab mb lb lm xb : Nat} {a : EA} (Γ : Ctx) (Q : T → Obs → Glb → Prop)
theorem sp_tick (i : Nat) (hi : i < 5) (ev : List (List UInt8) × AS × LS × Int × Int × Int × Int) (y : T) (p2 : PP) (l2 : List (List UInt8)) (x2 : AS) (L2 : LS) (pat2 q2 rn2 rb2 : Int) (ob : EA → Obs) (a : EA) (he : ob a = obsE pb db jb ab mb lb lm xb ev.1 ev.2.1 ev.2.2.1 ev.2.2.2.1 ev.2.2.2.2.1 ev.2.2.2.2.2.1 ev.2.2.2.2.2.2 a)
    (tk : TCalls Tryz.prog 15 [.ptr 11 xb 0] (obsE pb db jb ab mb lb lm xb ev.1 ev.2.1 ev.2.2.1 ev.2.2.2.1 ev.2.2.2.2.1 ev.2.2.2.2.2.1 ev.2.2.2.2.2.2 a) a.g (callPost (eH pb db jb ab mb lb lm xb y p2 l2 x2 L2 pat2 q2 rn2 rb2))) (nx : ∀ a, X12.Left p2 a.s a.g → wPxH1 Γ Q [kPxH0 [1,1,1,1,1,0,1,0], .blk 0, kPxH0 [1,1,1,1,1,1]] ⟨frame 65 [(2, .ptr 11 xb 0), (4, int (i + 1 : Nat))], obsE pb db jb ab mb lb lm xb l2 x2 L2 pat2 q2 rn2 rb2 a, a.g⟩) : wPxH1 Γ Q [kPxH0 [1,1,1,1,1,0,1,0], .blk 0, kPxH0 [1,1,1,1,1,1]] ⟨frame 65 [(2, .ptr 11 xb 0), (4, int i)], ob a, a.g⟩ := by
  rw [he]
  have hw : T.v (.int .i64 (IntKind.wrap .i64 ((i : Int) + 1))) = int (i + 1 : Nat) := congrArg int (by rw [wrap_i64 (by omega) (by omega)]; omega)
  let HH : Nat → Nat → Hint := fun | 10, 1 => eH pb db jb ab mb lb lm xb y p2 l2 x2 L2 pat2 q2 rn2 rb2 | 9, 1 => .res (int (i + 1 : Nat)) | _, _ => .no
  exact run_sound ⟨HH, [((2, 8), ([2,4], 12)), ((0, 11), ([2], 12))], fun  | _ => none⟩ 400 (by kernel_rfl) (Ys (decide ((↑i : Int) < (5 : Int))) (fun Z0 => (Ya tk (fun (Z1 : EA) => (fun (Z2 : X12.Left p2 Z1.s Z1.g) => (Ya hw (nx Z1 Z2)))))) (fun Z3 => (show wPxH1 Γ Q [kPxH0 [1,1,1,1,1,1]] (S.mk (frame 65 [(2, T.ptr 11 xb 0)]) [(pb, Ob.cells (PM.c0 a.s)), PM.ob1 a.s, PM.ob2 a.s, (db, Ob.cells [T.v (Value.string (ByteArray.mk (List.toArray (Jrn.jd ev.fst).b))), int (Jrn.jd ev.fst).n, bool false]), (jb, Ob.cells [T.ptr 3 db 0, T.slx 1 5 (strs ev.fst) a.hd, bool false]), (0, Ob.room 1 9 (List.length (strs ev.fst)) a.hd), (ab, Ob.cells [T.ptr 4 jb 0, u32 ev.snd.fst.pn, u8 ev.snd.fst.pb, u32 ev.snd.fst.low, u32 ev.snd.fst.v.e, T.sl 3 (mems ev.snd.fst.v.ms), u8 (ev.snd.fst.v.L 0), u8 (ev.snd.fst.v.L 1), u8 (ev.snd.fst.v.L 2), u8 (ev.snd.fst.v.L 3), u8 (ev.snd.fst.v.L 4), u8 (ev.snd.fst.v.L 5), u8 (ev.snd.fst.v.L 6), u8 (ev.snd.fst.v.L 7), T.mp 7 mb]), (mb, Ob.map IntKind.u32 (X11.enF ev.snd.fst.E) a.es a.ck), (lb, Ob.cells [u32 ev.snd.snd.fst.v.e, T.sl 3 (mems ev.snd.snd.fst.v.ms), u8 (ev.snd.snd.fst.v.L 0), u8 (ev.snd.snd.fst.v.L 1), u8 (ev.snd.snd.fst.v.L 2), u8 (ev.snd.snd.fst.v.L 3), u8 (ev.snd.snd.fst.v.L 4), u8 (ev.snd.snd.fst.v.L 5), u8 (ev.snd.snd.fst.v.L 6), u8 (ev.snd.snd.fst.v.L 7), u32 ev.snd.snd.fst.nx, T.mp 9 lm, T.slx 5 10 (X13.cmds ev.snd.snd.fst.kp) a.lhd]), (lm, Ob.map IntKind.u32 (X13.wT ev.snd.snd.fst.W) a.les a.lck), (0, Ob.room 5 43 (List.length (X13.cmds ev.snd.snd.fst.kp)) a.lhd), (xb, Ob.cells [T.ptr 6 ab 0, T.ptr 0 pb 0, T.ptr 8 lb 0, u8 (1 : Int), int (1 : Int), int ev.snd.snd.snd.fst, int ev.snd.snd.snd.snd.fst, u32 ev.snd.snd.snd.snd.snd.fst, u8 ev.snd.snd.snd.snd.snd.snd])] a.g) by exfalso; have := of_decide_eq_false Z3; omega)))
theorem sp_end (d : List App) (d0 : App) (hd : d = [d0]) (hb : d0.b = true) (l2 : List (List UInt8)) (x2 : AS) (L2 : LS) (hn : L2.nx = 1) (hve : L2.v.e = 2) (p2 p3 : PP) (l1 : List (List UInt8)) (x1 : AS) (L1 : LS)
    (pr : TCalls Tryz.prog 11 [.ptr 11 xb 0, .agg [u8 2, u8 2, u8 1, u32 0, u32 0]] (obsE pb db jb ab mb lb lm xb l1 x1 L1 2 0 0 0 a) a.g (callPost (eH pb db jb ab mb lb lm xb (.tup [.agg [.v nilS, .sl 17 (apps d)], bool true]) p3 l2 x2 L2 2 0 0 0)))
    (nx : ∀ a, X12.Left p3 a.s a.g → TCalls Tryz.prog 12 [.ptr 11 xb 0] (obsE pb db jb ab mb lb lm xb l2 x2 L2 2 0 0 0 a) a.g (callPost (eH pb db jb ab mb lb lm xb (.tup [u32 L2.nx, .agg (viewC L2.v)]) p3 l2 x2 L2 2 0 0 0)))
    (ld : ∀ a, X12.Left p3 a.s a.g → TCalls Tryz.prog 13 [.ptr 11 xb 0] (obsE pb db jb ab mb lb lm xb l2 x2 L2 2 0 0 0 a) a.g (callPost (eH pb db jb ab mb lb lm xb (bool true) p3 l2 x2 L2 2 0 0 0))) (hQ : ∀ gl, Q (bool true) [] gl) : wPxH1 Γ Q [kPxH0 [1,1,1,1,1,0,1,0], .blk 0, kPxH0 [1,1,1,1,1,1]] ⟨frame 65 [(2, .ptr 11 xb 0), (4, int 5)], obsE pb db jb ab mb lb lm xb l1 x1 L1 2 0 0 0 a, a.g⟩ := by
  have hAL : apps d = [.agg [u32 d0.s, u8 d0.c.k, u8 d0.c.n, u8 d0.c.l, u32 d0.c.e, u32 d0.c.q, bool true, u32 d0.v.e, .sl 3 (mems d0.v.ms), u8 (d0.v.L 0), u8 (d0.v.L 1), u8 (d0.v.L 2), u8 (d0.v.L 3), u8 (d0.v.L 4), u8 (d0.v.L 5), u8 (d0.v.L 6), u8 (d0.v.L 7)]] := by rw [hd, ← hb]; rfl
  rw [hAL] at pr
  rw [hn] at nx
  have ev : viewC L2.v = [u32 2, .sl 3 (mems L2.v.ms), u8 (L2.v.L 0), u8 (L2.v.L 1), u8 (L2.v.L 2), u8 (L2.v.L 3), u8 (L2.v.L 4), u8 (L2.v.L 5), u8 (L2.v.L 6), u8 (L2.v.L 7)] := by rw [← hve]; rfl
  rw [ev] at nx
  let HH : Nat → Nat → Hint := fun | 11, 2 => eH pb db jb ab mb lb lm xb (.tup [.agg [.v nilS, .sl 17 [.agg [u32 d0.s, u8 d0.c.k, u8 d0.c.n, u8 d0.c.l, u32 d0.c.e, u32 d0.c.q, bool true, u32 d0.v.e, .sl 3 (mems d0.v.ms), u8 (d0.v.L 0), u8 (d0.v.L 1), u8 (d0.v.L 2), u8 (d0.v.L 3), u8 (d0.v.L 4), u8 (d0.v.L 5), u8 (d0.v.L 6), u8 (d0.v.L 7)]]], bool true]) p3 l2 x2 L2 2 0 0 0 | 12, 1 => eH pb db jb ab mb lb lm xb (.tup [u32 1, .agg [u32 2, .sl 3 (mems L2.v.ms), u8 (L2.v.L 0), u8 (L2.v.L 1), u8 (L2.v.L 2), u8 (L2.v.L 3), u8 (L2.v.L 4), u8 (L2.v.L 5), u8 (L2.v.L 6), u8 (L2.v.L 7)]]) p3 l2 x2 L2 2 0 0 0 | 13, 1 => eH pb db jb ab mb lb lm xb (bool true) p3 l2 x2 L2 2 0 0 0 | _, _ => .no
  exact run_sound ⟨HH, [], fun  | _ => none⟩ 400 (by kernel_rfl) (Ya pr (fun (Z0 : EA) => (fun (Z1 : X12.Left p3 Z0.s Z0.g) => (fun (Z2 : Nat) => (Yk 2 Z2 (Ya (nx Z0 Z1) (fun (Z3 : EA) => (fun (Z4 : X12.Left p3 Z3.s Z3.g) => (fun (Z5 : Nat) => (Yk 10 Z5 (Ya (ld Z3 Z4) (fun (Z6 : EA) => (fun (Z7 : X12.Left p3 Z6.s Z6.g) => (Yb Z2 (Yb Z2 (Ya (show (0 : Int) ≤ (0 : Int) by omega) (Yb Z5 (hQ Z6.g))))))))))))))))))
end
end X14
end Go.Proofs.YtpjkdcbogjigeaaGreat.Vm
namespace Go.Proofs.YtpjkdcbogjigeaaGreat.Vm
open Go Go.RowKit
set_option maxRecDepth 100000
namespace X14
open Acp (En AS Rc blw VOk IsE XOk)
open View (VS Mem)
open Lrn (LS App)
open X5 (viewC mems memC)
open Jrn (Dk)
open X9 (dkC obsK dkH dk_post)
open X10 (strs jC obsJ)
open X11 (obsA enC)
open X12 (PM PP)
open X13 (obsL cmdC apps)
open X5 (firstM firstL)
theorem first_wf {n : Nat} (h1 : 1 ≤ n) (h2 : n ≤ 8) (e : Int) (he : 0 ≤ e ∧ e ≤ 4294967295) : View.WF ⟨e, firstM n, firstL n⟩ := by
  refine ⟨by rw [X5.firstM_len]; exact h2, ?_, ?_, ?_, he.1, he.2, ?_⟩
  · rw [firstM, List.map_map]
    show (List.map (fun i => i + 1) (List.range n)).Nodup
    unfold List.Nodup
    rw [List.pairwise_map]
    exact List.Pairwise.imp (fun h => by omega) (List.pairwise_lt_range (n := n))
  · intro m hm
    obtain ⟨i, hi, rfl⟩ := List.mem_map.1 hm
    have := List.mem_range.1 hi
    exact ⟨by simp, by simp; omega, by simp, by simp [firstL, this]⟩
  · exact View.ready_pos (m := ⟨1, 1, true⟩) (List.mem_map.2 ⟨0, List.mem_range.2 (by omega), rfl⟩) rfl
  · intro k; show firstL n k < 256; unfold firstL; split <;> omega
theorem wf_lim {v : VS} (h : View.WF v) : X5.lim v.ms := by have := h.len; rw [X5.lim]; omega
theorem on_nil (F : List T) (Q : T → Obs → Glb → Prop) (hQ : Q (.agg [.v nilS, .v nilS]) [] none_) : TCalls Tryz.prog 16 [.v (.pointer none), .agg F] [] none_ Q := by
  refine TCalls.of Tryz.func16 rfl (CanCall.of Tryz.func16 rfl (by decide)) [] fun Γ => ?_
  let HH : Nat → Nat → Hint := fun  | _, _ => .no
  exact run_sound ⟨HH, [], fun | 10 => some ⟨[], [7,8,11], .take false [0,1,2,3,5] (.take true [4,6] (.one 7 (.one 8 (.take false [9,10] (.one 11 .done)))))⟩ | 15 => some ⟨[], [12,17], .take true [0,1,2,3,4,5,6,7,8,9,10,11] (.two 12 16 (.take false [13,14,15] (.one 16 (.one 17 (.take false [18] .done)))) (.one 12 (.take false [13,14,15] (.one 17 (.take false [18] .done)))))⟩ | _ => none⟩ 400 (by kernel_rfl) (fun (Z0 : Nat) => (fun (Z1 : Nat) => (fun (Z2 : Nat) => (Yb Z2 (Yk 2 Z1 (Yb Z1 hQ))))))
def cL : Lrn.Cmd := ⟨2, 2, 1, 0, 0⟩
def cP : X12.Cmd := ⟨2, 2, 1, 0, 0⟩
def q0 : PP := ⟨⟨1, 0, 0, 0, 0, 0, 0⟩, fun _ => none, []⟩
def q1 : PP := X12.pStart q0 1 1 0
def q2 : PP := (X12.pPromise q1 1 1 1 []).1
def q3 : PP := (X12.pPropose q2 cP).1
def q4 : PP := (X12.pAccepted q3 1 1 1 0).1
def L0 : LS := Lrn.newL v3
def L2 : LS := (Lrn.decideL L0 0 cL).1
def q5 : PP := X12.pLearn q4 L2.nx
def dD : List App := (Lrn.decideL L0 0 cL).2.1
def d0 : App := dD.headD ⟨0, cL, false, v3⟩
theorem q0_ok : q0.Ok := ⟨by decide, (by decide : (0 : Int) ≤ 0 ∧ (0 : Int) < 4294967296), (by decide : (0 : Int) ≤ 0 ∧ (0 : Int) < 4294967296), X12.mask0, (fun h => by cases h), (fun q hq => nomatch hq), Nat.zero_le _⟩
theorem q1_ok : q1.Ok := X12.pStart_ok q0_ok 1 1 (by unfold X12.IsU32; omega)
theorem q2_ok : q2.Ok := X12.pPromise_ok q1_ok 1 1 1 (fun _ h => nomatch h)
theorem q3_ok : q3.Ok := X12.pPropose_ok q2_ok _
theorem q4_ok : q4.Ok := X12.pAccepted_ok q3_ok _ _ _ _
theorem e2 : X12.pPromise q1 1 1 1 [] = (q2, true) := Prod.ext rfl (by kernel_rfl)
theorem e3 : X12.pPropose q2 cP = (q3, ((0 : Nat) : Int), true) := Prod.ext rfl (by kernel_rfl)
theorem e4 : (X12.pAccepted q3 1 1 1 0).2 = (cP, true) := by kernel_rfl
theorem q2_l : q2.l = [] := by kernel_rfl
theorem q2_ph : q2.x.ph = 2 := by kernel_rfl
theorem q3_n : q3.x.n = ((1 : Nat) : Int) := by kernel_rfl
theorem q3_b : q3.x.b = ((1 : Nat) : Int) := by kernel_rfl
theorem q5_ph : q5.x.ph = 2 := by kernel_rfl
theorem q5_ok : q5.Ok := X12.pLearn_ok q4_ok (n := L2.nx) (by rw [show L2.nx = 1 from by kernel_rfl]; unfold X12.IsU32; omega)
theorem eL : Lrn.decideL L0 0 cL = (L2, dD, 0) := Prod.ext rfl (Prod.ext rfl (by kernel_rfl))
theorem dD_one : dD = [d0] := by kernel_rfl
theorem d0_b : d0.b = true := by kernel_rfl
theorem L2_nx : L2.nx = 1 := by kernel_rfl
theorem L2_e : L2.v.e = 2 := by kernel_rfl
theorem L0_ok : Lrn.Ok L0 := Lrn.newL_ok (first_wf (by decide) (by decide) 1 (by decide))
theorem L2_ok : Lrn.Ok L2 := Lrn.decideL_ok L0_ok (by decide) cL
def xx1 : AS := Acp.cut Acp.st0 0 v3
def yy : En := ⟨0, 1, 1, 2, 2, 1, 0, 0⟩
theorem yy_ok : yy.Ok := ⟨by decide, by decide, by decide, by decide, by decide, by decide, by decide, by decide⟩
theorem xx1_ok : XOk xx1 := Acp.xok_zero.cut (by decide) v3_ok
theorem xx1_E (k : Nat) : xx1.E k = none := by
  show Acp.cutE (fun _ => none) (max 0 0) k = none
  unfold Acp.cutE
  split <;> rfl
theorem xx1_no : IsE xx1.E 0 [] := ⟨List.Pairwise.nil, fun y => by
  constructor
  · intro h; nomatch h
  · rintro ⟨h, -⟩
    rw [xx1_E] at h; cases h⟩
section
variable {pb db jb ab mb lb lm xb : Nat}
theorem tick4 (l : List (List UInt8)) (hv : Jrn.Vs l) (h2 : (Jrn.flat l).length + 70 ≤ 1048576) (a : EA) (h : X12.Left q0 a.s a.g) : TCalls Tryz.prog 15 [.ptr 11 xb 0] (obsE pb db jb ab mb lb lm xb l xx1 L0 2 4 0 0 a) a.g (callPost (eH pb db jb ab mb lb lm xb (.agg [.v nilS, .v nilS]) q2 (l ++ [(Rc.prom 1 1).b]) (Acp.promise xx1 1 1) L0 2 0 0 0)) :=
  tick1_e h q0_ok rfl (by decide) (by decide) (by decide) q2 _ _ fun a oi ob h => stand_e h q0_ok oi ob hv h2 xx1_ok rfl rfl rfl xx1_no rfl q2 e2 q2_ok q2_l
theorem prop_all (l : List (List UInt8)) (hv : Jrn.Vs l) (h2 : (Jrn.flat l).length + 70 ≤ 1048576) (a : EA) (h : X12.Left q2 a.s a.g) : TCalls Tryz.prog 11 [.ptr 11 xb 0, .agg [u8 2, u8 2, u8 1, u32 0, u32 0]] (obsE pb db jb ab mb lb lm xb l (Acp.promise xx1 1 1) L0 2 0 0 0 a) a.g (callPost (eH pb db jb ab mb lb lm xb (.tup [.agg [.v nilS, .sl 17 (apps dD)], bool true]) q5 (l ++ [(Rc.acc yy).b]) (Acp.accept (Acp.promise xx1 1 1) yy) L2 2 0 0 0)) := by
  refine propose_e h q2_ok q2_ph q2_l 0 1 1 cL cP rfl q3 q5 e3 q3_ok q3_n q3_b (l ++ [(Rc.acc yy).b]) (Acp.accept (Acp.promise xx1 1 1) yy) L2 dD fun ob a h => ?_
  refine forward_e h 0 1 1 cL _ _ q4 q5 L2 dD (fun hd es ck Q' hq => X11.acc_new db jb ab mb l hd _ es ck hv h2 yy yy_ok (by decide) (by decide) (by decide) Q' hq) (fun s g h => ?_) fun a h => ?_
  · have ad := X12.accepted_h (b := pb) h q3_ok 1 1 1 0 (by decide)
    rw [e4] at ad
    exact ad
  · exact decided_e 0 cL L2 dD q5 (decide_e h q4_ok L0_ok 0 (by decide) cL L2 dD eL (by rw [dD_one]; decide) 1 L2_nx (by decide) rfl (by decide) L2_ok)
end
end X14
end Go.Proofs.YtpjkdcbogjigeaaGreat.Vm
namespace Go.Proofs.YtpjkdcbogjigeaaGreat.Vm
open Go Go.RowKit
set_option maxRecDepth 100000
namespace X14
open Acp (En AS Rc blw VOk IsE XOk)
open View (VS Mem)
open Lrn (LS App)
open X5 (viewC mems memC)
open Jrn (Dk)
open X9 (dkC obsK dkH dk_post)
open X10 (strs jC obsJ)
open X11 (obsA enC)
open X12 (PM PP)
open X13 (obsL cmdC apps)
def opEP (db : Nat) (l : List (List UInt8)) (x : AS) (v : VS) (self : Nat) (ms pat : Int) : Hint := .call false (Nat × Nat × Nat × Nat × Nat × Nat × Nat × Value × Array MapEntry × Nat) (fun _ => True) [0] false (fun a => .tup [.ptr 11 a.2.2.2.2.2.2.1 0, int 0]) (fun a => (db, .cells (dkC (Jrn.jd l))) :: ((PM.idle ms).obs a.1 ++ (((obsA (db) a.2.1 a.2.2.1 a.2.2.2.1 (Jrn.jd l) l a.2.2.2.2.2.2.2.1 false x a.2.2.2.2.2.2.2.2.1 a.2.2.2.2.2.2.2.2.2).tail.map (ixOb fun k => [0,4,5,6,7].getD k 0)) ++ ((obsL a.2.2.2.2.1 a.2.2.2.2.2.1 (Lrn.newL v) #[] 0 nilS).map (ixOb fun k => [8,9,10].getD k 0) ++ [(a.2.2.2.2.2.2.1, .cells [.ptr 6 a.2.2.1 0, .ptr 1 a.1 0, .ptr 8 a.2.2.2.2.1 0, u8 self, int ms, int pat, int 0, u32 0, u8 0])])))) (fun _ => none_)
def opEH (l : List (List UInt8)) (x : AS) (v : VS) (self : Nat) (ms pat : Int) : Hint := .withB fun B => .call false (Nat × Nat × Nat × Nat × Nat × Nat × Nat × Value × Array MapEntry × Nat) (fun _ => True) [0] false (fun a => .tup [.ptr 11 a.2.2.2.2.2.2.1 0, int 0]) (fun a => (B.getD 0 0, .cells (dkC (Jrn.jd l))) :: ((PM.idle ms).obs a.1 ++ (((obsA (B.getD 0 0) a.2.1 a.2.2.1 a.2.2.2.1 (Jrn.jd l) l a.2.2.2.2.2.2.2.1 false x a.2.2.2.2.2.2.2.2.1 a.2.2.2.2.2.2.2.2.2).tail.map (ixOb fun k => [0,4,5,6,7].getD k 0)) ++ ((obsL a.2.2.2.2.1 a.2.2.2.2.2.1 (Lrn.newL v) #[] 0 nilS).map (ixOb fun k => [8,9,10].getD k 0) ++ [(a.2.2.2.2.2.2.1, .cells [.ptr 6 a.2.2.1 0, .ptr 1 a.1 0, .ptr 8 a.2.2.2.2.1 0, u8 self, int ms, int pat, int 0, u32 0, u8 0])])))) (fun _ => none_)
theorem opE_post (db : Nat) (l : List (List UInt8)) (x : AS) (v : VS) (self : Nat) (ms pat : Int) (h : 1 ≤ pat ∧ pat ≤ 1000 ∧ self ≤ ms) (hm : 1 ≤ ms ∧ ms ≤ 5) (hs : self < 256) (hlim : X5.lim v.ms) (h0 : x.low = 0) (hxv : x.v = v) (ao : TCalls Tryz.prog 41 [.ptr 0 db 0, u8 self] (obsK db (Jrn.jd l)) none_ (callPost (X11.opnP db l x))) : TCalls Tryz.prog 10 [.ptr 0 db 0, u8 self, int ms, int pat] (obsK db (Jrn.jd l)) none_ (callPost (opEP db l x v self ms pat)) :=
  open_new db l x v self ms pat h hm hs hlim h0 hxv ao _ fun pb jb ab mb lb lm xb hd es ck => ⟨(pb, jb, ab, mb, lb, lm, xb, hd, es, ck), trivial, rfl, rfl, Nat.le_of_ble_eq_true rfl, fun h => by cases h⟩
theorem v3_lim : X5.lim v3.ms := wf_lim (first_wf (by decide) (by decide) 1 (by decide))
section
variable (Γ : Ctx) (Q : T → Obs → Glb → Prop)
theorem sp_all (pb db jb ab mb lb lm xb : Nat) (a : EA) (h : X12.Left q0 a.s a.g) (hQ : ∀ gl, Q (bool true) [] gl) : TWk Tryz.prog Γ (fin Tryz.prog Tryz.f6 [] Q) [.code (sub (bd Tryz.f6) [1,1,1,1,1,0,1,0]), .blk 0, .code (sub (bd Tryz.f6) [1,1,1,1,1,1])] ⟨frame 65 [(2, .ptr 11 xb 0), (4, int 0)], obsE pb db jb ab mb lb lm xb [(Rc.birth 1 0 v3).b] xx1 L0 2 0 0 0 a, a.g⟩ := by
  obtain ⟨a1, a2⟩ := X11.vs_one 1 (by decide) v3 v3_ok
  obtain ⟨b1, b2⟩ := X11.vs_add a1 (r := .prom 1 1) ⟨by decide, by decide⟩ (by omega)
  generalize [(Rc.birth 1 0 v3).b] = l at *
  refine sp_tick Γ Q 0 (by decide) (l, xx1, L0, 2, 0, 0, 0) (.agg [.v nilS, .v nilS]) q0 l xx1 L0 2 (0 + 1) 0 0 _ a rfl (tick0_e (l := l) (x := xx1) (L := L0) (pat := 2) (q := 0) (rn := 0) (rb := 0) h q0_ok rfl (by decide) (by decide) (by decide)) fun a h => ?_
  refine sp_tick Γ Q 1 (by decide) (l, xx1, L0, 2, 0 + 1, 0, 0) (.agg [.v nilS, .v nilS]) q0 l xx1 L0 2 (0 + 1 + 1) 0 0 _ a rfl (tick0_e (l := l) (x := xx1) (L := L0) (pat := 2) (q := 0 + 1) (rn := 0) (rb := 0) h q0_ok rfl (by decide) (by decide) (by decide)) fun a h => ?_
  refine sp_tick Γ Q 2 (by decide) (l, xx1, L0, 2, 0 + 1 + 1, 0, 0) (.agg [.v nilS, .v nilS]) q0 l xx1 L0 2 (0 + 1 + 1 + 1) 0 0 _ a rfl (tick0_e (l := l) (x := xx1) (L := L0) (pat := 2) (q := 0 + 1 + 1) (rn := 0) (rb := 0) h q0_ok rfl (by decide) (by decide) (by decide)) fun a h => ?_
  refine sp_tick Γ Q 3 (by decide) (l, xx1, L0, 2, 0 + 1 + 1 + 1, 0, 0) (.agg [.v nilS, .v nilS]) q0 l xx1 L0 2 (0 + 1 + 1 + 1 + 1) 0 0 _ a rfl (tick0_e (l := l) (x := xx1) (L := L0) (pat := 2) (q := 0 + 1 + 1 + 1) (rn := 0) (rb := 0) h q0_ok rfl (by decide) (by decide) (by decide)) fun a h => ?_
  refine sp_tick Γ Q 4 (by decide) (l, xx1, L0, 2, 4, 0, 0) (.agg [.v nilS, .v nilS]) q2 _ _ L0 2 0 0 0 _ a rfl (tick4 l a1 (by omega) a h) fun a h => ?_
  exact sp_end Γ Q dD d0 dD_one d0_b _ _ L2 L2_nx L2_e q2 q5 _ _ L0 (prop_all _ b1 (by omega) a h) (fun a h => next_e h (wf_lim L2_ok.wf)) (fun a h => leads_e h q5_ok q5_ph) hQ
end
theorem speaks_any (Q : T → Obs → Glb → Prop) (hQ : ∀ gl, Q (bool true) [] gl) : TCalls Tryz.prog 6 [] [] none_ Q := by
  obtain ⟨a1, a2⟩ := X11.vs_one 1 (by decide) v3 v3_ok
  have lf := fun Q' hq => lfirst_any Q' hq
  have mk := fun db => X11.make_new db 1 v3 (by decide) v3_ok (callPost (told (int 0) [0] (obsK db (Jrn.jd [(Rc.birth 1 0 v3).b])))) (told_post rfl)
  have op := fun db => opE_post db [(Rc.birth 1 0 v3).b] xx1 v3 1 1 2 (by decide) (by decide) (by decide) v3_lim rfl rfl (X11.opn_post db 1 v3 (by decide) v3_ok [] (fun _ h => nomatch h) (by decide) _ rfl a1 xx1 rfl)
  have lp := fun Γ db pb jb ab mb lb lm xb hd es ck => TWk.imp (s := ⟨frame 65 [(2, .ptr 11 xb 0), (4, int 0)], (db, .cells (dkC (Jrn.jd [(Rc.birth 1 0 v3).b]))) :: ((PM.idle 1).obs pb ++ (((obsA db jb ab mb (Jrn.jd [(Rc.birth 1 0 v3).b]) [(Rc.birth 1 0 v3).b] hd false xx1 es ck).tail.map (ixOb fun k => [0,4,5,6,7].getD k 0)) ++ ((obsL lb lm (Lrn.newL v3) #[] 0 nilS).map (ixOb fun k => [8,9,10].getD k 0) ++ [(xb, .cells [.ptr 6 ab 0, .ptr 1 pb 0, .ptr 8 lb 0, u8 1, int 1, int 2, int 0, u32 0, u8 0])]))), none_⟩) (sp_all Γ Q pb db jb ab mb lb lm xb ⟨PM.idle 1, none_, hd, es, ck, #[], 0, nilS⟩ ⟨rfl, trivial, trivial⟩ hQ) (raw_imp (frame 65 [(2, .ptr 11 xb 0), (4, int 0)]) db [(Rc.birth 1 0 v3).b] xx1 v3 2 pb jb ab mb lb lm xb hd es ck none_)
  clear hQ a1 a2
  generalize [(Rc.birth 1 0 v3).b] = l at *
  generalize xx1 = x at *
  generalize v3 = v at *
  refine TCalls.of Tryz.func6 rfl (CanCall.of Tryz.func6 rfl (by decide)) [] fun Γ => ?_
  let HH : Nat → Nat → Hint := fun | 1, 0 => X11.nwH | 2, 1 => told (.agg (viewC v)) [] [] | 2, 2 => dkH 0 (Jrn.jd l) (int 0) | 4, 1 => opEH l x v 1 1 2 | _, _ => .no
  exact run_sound ⟨HH, [((2, 8), ([2,4], 12))], fun  | _ => none⟩ 400 (by kernel_rfl) (Ya X11.new_post (fun (Z0 : Nat) => (fun (Z1 : True) => (Ya (lf (HH 2 1).P (told_post rfl)) (Yu (Ya (mk Z0) (Yu (Ya (op Z0) (fun (Z2 : Nat × Nat × Nat × Nat × Nat × Nat × Nat × Value × Array MapEntry × Nat) => (fun (Z3 : True) => (lp Γ Z0 Z2.fst Z2.snd.fst Z2.snd.snd.fst Z2.snd.snd.snd.fst Z2.snd.snd.snd.snd.fst Z2.snd.snd.snd.snd.snd.fst Z2.snd.snd.snd.snd.snd.snd.fst Z2.snd.snd.snd.snd.snd.snd.snd.fst Z2.snd.snd.snd.snd.snd.snd.snd.snd.fst Z2.snd.snd.snd.snd.snd.snd.snd.snd.snd)))))))))))
end X14
end Go.Proofs.YtpjkdcbogjigeaaGreat.Vm
