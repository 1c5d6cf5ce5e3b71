/- Texts of this claim: PxE, PxF, PxG, VmG. -/
import Derived.Test.YtpjkdcbogjigeaaGreatMg15
import Derived.Test.YtpjkdcbogjigeaaGreatMg36
import Derived.Test.YtpjkdcbogjigeaaGreatMg13
namespace Go.Proofs.YtpjkdcbogjigeaaGreat.Vm
open Go Go.RowKit
set_option maxRecDepth 100000
namespace X14
open Acp (En AS Rc blw VOk IsE XOk)
open View (VS Mem)
open Lrn (LS App)
open X5 (viewC mems memC)
open Jrn (Dk)
open X9 (dkC obsK dkH dk_post)
open X10 (strs jC obsJ)
open X11 (obsA enC)
open X12 (PM PP)
open X13 (obsL cmdC apps)
section
variable {pb db jb ab mb lb lm xb ob : Nat} {l : List (List UInt8)} {x : AS} {L : LS} {pat q rn rb : Int} {a : EA} {p : PP}
theorem ask_e (oi ob : Nat) (z n b : Nat) (c : Lrn.Cmd) (Q : T → Obs → Glb → Prop) (hQ : Q (.tup []) (obsE pb db jb ab mb lb lm xb l x L pat q rn rb a) none_) : TCalls Tryz.prog 50 [.ptr 11 xb 0, .ptr oi ob 0, .agg [u32 z, u32 n, u8 b, u8 c.k, u8 c.n, u8 c.l, u32 c.e, u32 c.q]] (obsE pb db jb ab mb lb lm xb l x L pat q rn rb a) none_ Q := by
  have ot := fun (a : EA) (o f : T) Q' hq => others1 (pb := pb) (db := db) (jb := jb) (ab := ab) (mb := mb) (lb := lb) (lm := lm) (xb := xb) (l := l) (x := x) (L := L) (pat := pat) (q := q) (rn := rn) (rb := rb) (a := a) o f 12 Q' hq
  refine TCalls.of Tryz.func50 rfl (CanCall.of Tryz.func50 rfl (by decide)) [0,1,2,3,4,5,6,7,8,9,10,11] fun Γ => ?_
  let HH : Nat → Nat → Hint := fun | 1, 3 => keepE (.tup []) | _, _ => .no
  let z0 := [u32 z, u32 n, u8 b, u8 c.k, u8 c.n, u8 c.l, u32 c.e, u32 c.q]
  exact run_sound ⟨HH, [], fun  | _ => none⟩ 400 (by kernel_rfl) (fun (Z0 : Nat) => (Ya (ot a (T.ptr oi ob 0) (T.fn 104 [T.ptr 12 Z0 0]) (callPost (Hint.call false Unit (fun x => True) [0,1,2,3,4,5,6,7,8,9,10,11] false (fun x => T.tup []) (fun x_1 => List.filterMap (fun i => (S.mk (frame 10 [(0, T.ptr 11 xb 0), (1, T.ptr oi ob 0), (2, T.agg z0), (3, T.v (Value.tuple #[])), (4, T.v (Value.tuple #[])), (5, T.ptr 12 Z0 0), (6, T.ptr 11 xb 0), (7, T.ptr oi ob 0), (8, T.fn 104 [T.ptr 12 Z0 0]), (9, T.v (Value.tuple #[]))]) [(pb, Ob.cells (PM.c0 a.s)), PM.ob1 a.s, PM.ob2 a.s, (db, Ob.cells [T.v (Value.string (ByteArray.mk (List.toArray (Jrn.jd l).b))), int (Jrn.jd l).n, bool false]), (jb, Ob.cells [T.ptr 3 db 0, T.slx 1 5 (strs l) a.hd, bool false]), (0, Ob.room 1 9 (List.length (strs l)) a.hd), (ab, Ob.cells [T.ptr 4 jb 0, u32 x.pn, u8 x.pb, u32 x.low, u32 x.v.e, T.sl 3 (mems x.v.ms), u8 (x.v.L 0), u8 (x.v.L 1), u8 (x.v.L 2), u8 (x.v.L 3), u8 (x.v.L 4), u8 (x.v.L 5), u8 (x.v.L 6), u8 (x.v.L 7), T.mp 7 mb]), (mb, Ob.map IntKind.u32 (X11.enF x.E) a.es a.ck), (lb, Ob.cells [u32 L.v.e, T.sl 3 (mems L.v.ms), u8 (L.v.L 0), u8 (L.v.L 1), u8 (L.v.L 2), u8 (L.v.L 3), u8 (L.v.L 4), u8 (L.v.L 5), u8 (L.v.L 6), u8 (L.v.L 7), u32 L.nx, T.mp 9 lm, T.slx 5 10 (X13.cmds L.kp) a.lhd]), (lm, Ob.map IntKind.u32 (X13.wT L.W) a.les a.lck), (0, Ob.room 5 43 (List.length (X13.cmds L.kp)) a.lhd), (xb, Ob.cells [T.ptr 6 ab 0, T.ptr 0 pb 0, T.ptr 8 lb 0, u8 (1 : Int), int (1 : Int), int pat, int q, u32 rn, u8 rb]), (Z0, Ob.cells z0)] fun x => none).ob[i]?) [0,1,2,3,4,5,6,7,8,9,10,11]) fun x => none_)) (told_post rfl)) (Yu hQ)))
theorem decided_e (z : Nat) (c : Lrn.Cmd) (L2 : LS) (d : List App) (p3 : PP)
    (dc : TCalls Tryz.prog 60 [.ptr 11 xb 0, .ptr 12 ob 0, u32 z, .agg [u8 c.k, u8 c.n, u8 c.l, u32 c.e, u32 c.q]] (obsE pb db jb ab mb lb lm xb l x L pat q rn rb a ++ [(ob, .cells [.v nilS, .v nilS])]) a.g (callPost (.call false EA (fun a => X12.Left p3 a.s a.g) [0,1,2,3,4,5,6,7,8,9,10,11,12] true (fun _ => (.tup [])) (fun a => obsE pb db jb ab mb lb lm xb l x L2 pat q rn rb a ++ [(ob, .cells [.v nilS, .sl 17 (apps d)])]) (fun a => a.g)))) :
    TCalls Tryz.prog 59 [.ptr 11 xb 0, .ptr 12 ob 0, u32 z, .agg [u8 c.k, u8 c.n, u8 c.l, u32 c.e, u32 c.q]] (obsE pb db jb ab mb lb lm xb l x L pat q rn rb a ++ [(ob, .cells [.v nilS, .v nilS])]) a.g (callPost (.call false EA (fun a => X12.Left p3 a.s a.g) [0,1,2,3,4,5,6,7,8,9,10,11,12] true (fun _ => (.tup [])) (fun a => obsE pb db jb ab mb lb lm xb l x L2 pat q rn rb a ++ [(ob, .cells [.v nilS, .sl 17 (apps d)])]) (fun a => a.g))) := by
  have ot := fun (a : EA) (o f : T) Q' hq => others1 (pb := pb) (db := db) (jb := jb) (ab := ab) (mb := mb) (lb := lb) (lm := lm) (xb := xb) (l := l) (x := x) (L := L) (pat := pat) (q := q) (rn := rn) (rb := rb) (a := a) o f 14 Q' hq
  have hQ : ∀ a, X12.Left p3 a.s a.g → callPost (.call false EA (fun a => X12.Left p3 a.s a.g) [0,1,2,3,4,5,6,7,8,9,10,11,12] true (fun _ => (.tup [])) (fun a => obsE pb db jb ab mb lb lm xb l x L2 pat q rn rb a ++ [(ob, .cells [.v nilS, .sl 17 (apps d)])]) (fun a => a.g)) (.tup []) (obsE pb db jb ab mb lb lm xb l x L2 pat q rn rb a ++ [(ob, .cells [.v nilS, .sl 17 (apps d)])]) a.g := fun a h => ⟨a, h, rfl, rfl, Nat.le_of_ble_eq_true rfl, fun _ => rfl⟩
  generalize callPost (.call false EA (fun a => X12.Left p3 a.s a.g) [0,1,2,3,4,5,6,7,8,9,10,11,12] true (fun _ => (.tup [])) (fun a => obsE pb db jb ab mb lb lm xb l x L2 pat q rn rb a ++ [(ob, .cells [.v nilS, .sl 17 (apps d)])]) (fun a => a.g)) = Q at hQ ⊢
  generalize apps d = AL at *
  refine TCalls.of Tryz.func59 rfl (CanCall.of Tryz.func59 rfl (by decide)) [0,1,2,3,4,5,6,7,8,9,10,11,12] fun Γ => ?_
  let HH : Nat → Nat → Hint := fun | 1, 3 => keepE (.tup []) | 2, 4 => .call false EA (fun a => X12.Left p3 a.s a.g) [0,1,2,3,4,5,6,7,8,9,10,11,12] true (fun _ => (.tup [])) (fun a => obsE pb db jb ab mb lb lm xb l x L2 pat q rn rb a ++ [(ob, .cells [.v nilS, .sl 17 (AL)])]) (fun a => a.g) | _, _ => .no
  exact run_sound ⟨HH, [], fun  | _ => none⟩ 400 (by kernel_rfl) (fun (Z0 : Nat) => (fun (Z1 : Nat) => (Ya (ot a (T.ptr 12 ob 0) (T.fn 117 [T.ptr 13 Z0 0, T.ptr 14 Z1 0]) (callPost (Hint.call false Unit (fun x => True) [0,1,2,3,4,5,6,7,8,9,10,11] false (fun x => T.tup []) (fun x_1 => List.filterMap (fun i => (S.mk (frame 17 [(0, T.ptr 11 xb 0), (1, T.ptr 12 ob 0), (2, u32 z), (3, T.agg [u8 c.k, u8 c.n, u8 c.l, u32 c.e, u32 c.q]), (4, T.v (Value.tuple #[])), (5, T.v (Value.tuple #[])), (6, T.ptr 13 Z0 0), (7, T.ptr 14 Z1 0), (8, T.ptr 11 xb 0), (9, T.ptr 12 ob 0), (10, T.fn 117 [T.ptr 13 Z0 0, T.ptr 14 Z1 0]), (11, T.v (Value.tuple #[])), (12, T.v (Value.tuple #[])), (13, T.v (Value.tuple #[])), (14, T.v (Value.tuple #[])), (15, T.v (Value.tuple #[])), (16, T.v (Value.tuple #[]))]) [(pb, Ob.cells (PM.c0 a.s)), PM.ob1 a.s, PM.ob2 a.s, (db, Ob.cells [T.v (Value.string (ByteArray.mk (List.toArray (Jrn.jd l).b))), int (Jrn.jd l).n, bool false]), (jb, Ob.cells [T.ptr 3 db 0, T.slx 1 5 (strs l) a.hd, bool false]), (0, Ob.room 1 9 (List.length (strs l)) a.hd), (ab, Ob.cells [T.ptr 4 jb 0, u32 x.pn, u8 x.pb, u32 x.low, u32 x.v.e, T.sl 3 (mems x.v.ms), u8 (x.v.L 0), u8 (x.v.L 1), u8 (x.v.L 2), u8 (x.v.L 3), u8 (x.v.L 4), u8 (x.v.L 5), u8 (x.v.L 6), u8 (x.v.L 7), T.mp 7 mb]), (mb, Ob.map IntKind.u32 (X11.enF x.E) a.es a.ck), (lb, Ob.cells [u32 L.v.e, T.sl 3 (mems L.v.ms), u8 (L.v.L 0), u8 (L.v.L 1), u8 (L.v.L 2), u8 (L.v.L 3), u8 (L.v.L 4), u8 (L.v.L 5), u8 (L.v.L 6), u8 (L.v.L 7), u32 L.nx, T.mp 9 lm, T.slx 5 10 (X13.cmds L.kp) a.lhd]), (lm, Ob.map IntKind.u32 (X13.wT L.W) a.les a.lck), (0, Ob.room 5 43 (List.length (X13.cmds L.kp)) a.lhd), (xb, Ob.cells [T.ptr 6 ab 0, T.ptr 0 pb 0, T.ptr 8 lb 0, u8 (1 : Int), int (1 : Int), int pat, int q, u32 rn, u8 rb]), (ob, Ob.cells [T.v (Value.slice none 0 0), T.v (Value.slice none 0 0)]), (Z0, Ob.cells [u32 z]), (Z1, Ob.cells [u8 c.k, u8 c.n, u8 c.l, u32 c.e, u32 c.q])] a.g).ob[i]?) [0,1,2,3,4,5,6,7,8,9,10,11]) fun x => none_)) (told_post rfl)) (Yu (Yb Z0 (Yb Z1 (Ya dc (fun (Z2 : EA) => (fun (Z3 : X12.Left p3 Z2.s Z2.g) => (hQ Z2 Z3))))))))))
theorem forward_e (h : X12.Left p a.s a.g) (z n b : Nat) (c : Lrn.Cmd) (l2 : List (List UInt8)) (x2 : AS) (p2 p3 : PP) (L2 : LS) (d : List App) (ac : ∀ hd es ck (Q' : T → Obs → Glb → Prop), (∀ hd es ck, Q' (int 0) (obsA db jb ab mb (Jrn.jd l2) l2 hd false x2 es ck) none_) → TCalls Tryz.prog 76 [.ptr 3 ab 0, .agg [u32 n, u8 b], u32 z, .agg [u8 c.k, u8 c.n, u8 c.l, u32 c.e, u32 c.q]] (obsA db jb ab mb (Jrn.jd l) l hd false x es ck) none_ Q') (ad : ∀ s g, X12.Left p s g → TCalls Tryz.prog 58 [.ptr 0 pb 0, u8 1, .agg [u32 n, u8 b], u32 z] (s.obs pb) g (callPost (pmH pb (.tup [.agg [u8 c.k, u8 c.n, u8 c.l, u32 c.e, u32 c.q], bool true]) p2)))
    (dc : ∀ a : EA, X12.Left p2 a.s a.g → TCalls Tryz.prog 59 [.ptr 11 xb 0, .ptr 12 ob 0, u32 z, .agg [u8 c.k, u8 c.n, u8 c.l, u32 c.e, u32 c.q]] (obsE pb db jb ab mb lb lm xb l2 x2 L pat q rn rb a ++ [(ob, .cells [.v nilS, .v nilS])]) a.g (callPost (.call false EA (fun a => X12.Left p3 a.s a.g) [0,1,2,3,4,5,6,7,8,9,10,11,12] true (fun _ => (.tup [])) (fun a => obsE pb db jb ab mb lb lm xb l2 x2 L2 pat q rn rb a ++ [(ob, .cells [.v nilS, .sl 17 (apps d)])]) (fun a => a.g)))) :
    TCalls Tryz.prog 46 [.ptr 11 xb 0, .ptr 12 ob 0, .agg [u32 z, u32 n, u8 b, u8 c.k, u8 c.n, u8 c.l, u32 c.e, u32 c.q]] (obsE pb db jb ab mb lb lm xb l x L pat q rn rb a ++ [(ob, .cells [.v nilS, .v nilS])]) a.g (callPost (.call false EA (fun a => X12.Left p3 a.s a.g) [0,1,2,3,4,5,6,7,8,9,10,11,12] true (fun _ => (.tup [])) (fun a => obsE pb db jb ab mb lb lm xb l2 x2 L2 pat q rn rb a ++ [(ob, .cells [.v nilS, .sl 17 (apps d)])]) (fun a => a.g))) := by
  have ak := fun (oi ob : Nat) Q' hq => ask_e (pb := pb) (db := db) (jb := jb) (ab := ab) (mb := mb) (lb := lb) (lm := lm) (xb := xb) (l := l) (x := x) (L := L) (pat := pat) (q := q) (rn := rn) (rb := rb) (a := a) oi ob z n b c Q' hq
  have hQ : ∀ a, X12.Left p3 a.s a.g → callPost (.call false EA (fun a => X12.Left p3 a.s a.g) [0,1,2,3,4,5,6,7,8,9,10,11,12] true (fun _ => (.tup [])) (fun a => obsE pb db jb ab mb lb lm xb l2 x2 L2 pat q rn rb a ++ [(ob, .cells [.v nilS, .sl 17 (apps d)])]) (fun a => a.g)) (.tup []) (obsE pb db jb ab mb lb lm xb l2 x2 L2 pat q rn rb a ++ [(ob, .cells [.v nilS, .sl 17 (apps d)])]) a.g := fun a h => ⟨a, h, rfl, rfl, Nat.le_of_ble_eq_true rfl, fun _ => rfl⟩
  generalize callPost (.call false EA (fun a => X12.Left p3 a.s a.g) [0,1,2,3,4,5,6,7,8,9,10,11,12] true (fun _ => (.tup [])) (fun a => obsE pb db jb ab mb lb lm xb l2 x2 L2 pat q rn rb a ++ [(ob, .cells [.v nilS, .sl 17 (apps d)])]) (fun a => a.g)) = Q at hQ ⊢
  generalize apps d = AL at *
  have ad := ad a.s a.g h
  refine TCalls.of Tryz.func46 rfl (CanCall.of Tryz.func46 rfl (by decide)) [0,1,2,3,4,5,6,7,8,9,10,11,12] fun Γ => ?_
  let HH : Nat → Nat → Hint := fun | 1, 3 => keepE (.tup []) | 2, 11 => .withB fun B => .call false (Value × Array MapEntry × Nat) (fun _ => True) [3,4,5,6,7] false (fun _ => (int 0)) (fun c => obsA (B.getD 3 0) (B.getD 4 0) (B.getD 6 0) (B.getD 7 0) (Jrn.jd l2) l2 c.1 false x2 c.2.1 c.2.2) (fun _ => none_) | 3, 13 => pmH pb (.tup [.agg [u8 c.k, u8 c.n, u8 c.l, u32 c.e, u32 c.q], bool true]) p2 | 5, 5 => .call false EA (fun a => X12.Left p3 a.s a.g) [0,1,2,3,4,5,6,7,8,9,10,11,12] true (fun _ => (.tup [])) (fun a => obsE pb db jb ab mb lb lm xb l2 x2 L2 pat q rn rb a ++ [(ob, .cells [.v nilS, .sl 17 (AL)])]) (fun a => a.g) | _, _ => .no
  let z0 := [u32 z, u32 n, u8 b, u8 c.k, u8 c.n, u8 c.l, u32 c.e, u32 c.q]
  exact run_sound ⟨HH, [], fun | 2 => some ⟨[11,13], [11], .take true [0,1,2,3,4,5,6,7,8,9,10] (.one 11 (.take false [12] .done))⟩ | 3 => some ⟨[11,13], [13,18], .take true [0,1,2,3,4,5,6,7,8,9,10,11,12] (.two 13 17 (.take false [14,15,16] (.one 17 (.one 18 (.take false [19] .done)))) (.one 13 (.take false [14,15,16] (.one 18 (.take false [19] .done)))))⟩ | _ => none⟩ 400 (by kernel_rfl) (fun (Z0 : Nat) => (Yb Z0 (Ya (ak (12) ob (callPost (Hint.call false Unit (fun x => True) [0,1,2,3,4,5,6,7,8,9,10,11] false (fun x => T.tup []) (fun x_1 => List.filterMap (fun i => (S.mk (frame 49 [(0, T.ptr 11 xb 0), (1, T.ptr 12 ob 0), (2, T.agg z0), (3, T.v (Value.tuple #[])), (4, T.v (Value.tuple #[])), (5, T.ptr 13 Z0 0), (6, T.v (Value.tuple #[])), (7, T.v (Value.tuple #[])), (8, T.ptr 11 xb 0), (9, T.ptr 12 ob 0), (10, T.agg z0), (11, T.v (Value.tuple #[])), (12, T.v (Value.tuple #[])), (13, T.v (Value.tuple #[])), (14, T.v (Value.tuple #[])), (15, T.v (Value.tuple #[])), (16, T.v (Value.tuple #[])), (17, T.v (Value.tuple #[])), (18, T.v (Value.tuple #[])), (19, T.v (Value.tuple #[])), (20, T.v (Value.tuple #[])), (21, T.v (Value.tuple #[])), (22, T.v (Value.tuple #[])), (23, T.v (Value.tuple #[])), (24, T.v (Value.tuple #[])), (25, T.v (Value.tuple #[])), (26, T.v (Value.tuple #[])), (27, T.v (Value.tuple #[])), (28, T.v (Value.tuple #[])), (29, T.v (Value.tuple #[])), (30, T.v (Value.tuple #[])), (31, T.v (Value.tuple #[])), (32, T.v (Value.tuple #[])), (33, T.v (Value.tuple #[])), (34, T.v (Value.tuple #[])), (35, T.v (Value.tuple #[])), (36, T.v (Value.tuple #[])), (37, T.v (Value.tuple #[])), (38, T.v (Value.tuple #[])), (39, T.v (Value.tuple #[])), (40, T.v (Value.tuple #[])), (41, T.v (Value.tuple #[])), (42, T.v (Value.tuple #[])), (43, T.v (Value.tuple #[])), (44, T.v (Value.tuple #[])), (45, T.v (Value.tuple #[])), (46, T.v (Value.tuple #[])), (47, T.v (Value.tuple #[])), (48, T.v (Value.tuple #[]))]) [(pb, Ob.cells (PM.c0 a.s)), PM.ob1 a.s, PM.ob2 a.s, (db, Ob.cells [T.v (Value.string (ByteArray.mk (List.toArray (Jrn.jd l).b))), int (Jrn.jd l).n, bool false]), (jb, Ob.cells [T.ptr 3 db 0, T.slx 1 5 (strs l) a.hd, bool false]), (0, Ob.room 1 9 (List.length (strs l)) a.hd), (ab, Ob.cells [T.ptr 4 jb 0, u32 x.pn, u8 x.pb, u32 x.low, u32 x.v.e, T.sl 3 (mems x.v.ms), u8 (x.v.L 0), u8 (x.v.L 1), u8 (x.v.L 2), u8 (x.v.L 3), u8 (x.v.L 4), u8 (x.v.L 5), u8 (x.v.L 6), u8 (x.v.L 7), T.mp 7 mb]), (mb, Ob.map IntKind.u32 (X11.enF x.E) a.es a.ck), (lb, Ob.cells [u32 L.v.e, T.sl 3 (mems L.v.ms), u8 (L.v.L 0), u8 (L.v.L 1), u8 (L.v.L 2), u8 (L.v.L 3), u8 (L.v.L 4), u8 (L.v.L 5), u8 (L.v.L 6), u8 (L.v.L 7), u32 L.nx, T.mp 9 lm, T.slx 5 10 (X13.cmds L.kp) a.lhd]), (lm, Ob.map IntKind.u32 (X13.wT L.W) a.les a.lck), (0, Ob.room 5 43 (List.length (X13.cmds L.kp)) a.lhd), (xb, Ob.cells [T.ptr 6 ab 0, T.ptr 0 pb 0, T.ptr 8 lb 0, u8 (1 : Int), int (1 : Int), int pat, int q, u32 rn, u8 rb]), (ob, Ob.cells [T.v (Value.slice none 0 0), T.v (Value.slice none 0 0)]), (Z0, Ob.cells z0)] a.g).ob[i]?) [0,1,2,3,4,5,6,7,8,9,10,11]) fun x => none_)) (told_post rfl)) (Yu (Yb xb (Yb Z0 (Yb Z0 (Yb Z0 (Ya (ac a.hd a.es a.ck (callPost (Hint.call false (Value × Array MapEntry × Nat) (fun x => True) [3,4,5,6,7] false (fun x => int (0 : Int)) (fun c => obsA db jb ab mb (Jrn.jd l2) l2 c.fst false x2 c.snd.fst c.snd.snd) fun x => none_)) fun hd es ck => ⟨(hd, es, ck), trivial, rfl, rfl, Nat.le_of_ble_eq_true rfl, fun h => by cases h⟩) (fun (Z1 : Value × Array MapEntry × Nat) => (fun (Z2 : True) => (Yb xb (Yb xb (Yb Z0 (Yb Z0 (Ya (Ya ad (fun (Z3 : PM × Glb) => (fun (Z4 : X12.Left p2 Z3.fst Z3.snd) => (fun (Z5 : Nat) => (Yk 5 Z5 (Yb Z0 (Yb Z5 (Ya (dc ⟨Z3.1, Z3.2, Z1.1, Z1.2.1, Z1.2.2, a.les, a.lck, a.lhd⟩ Z4) (fun (Z6 : EA) => (fun (Z7 : X12.Left p3 Z6.s Z6.g) => (hQ Z6 Z7))))))))))) (fun (Z8 : Nat) => (Ya ad (fun (Z9 : PM × Glb) => (fun (Z10 : X12.Left p2 Z9.fst Z9.snd) => (Yk 5 Z8 (Yb Z0 (Yb Z8 (Ya (dc ⟨Z9.1, Z9.2, Z1.1, Z1.2.1, Z1.2.2, a.les, a.lck, a.lhd⟩ Z10) (fun (Z11 : EA) => (fun (Z12 : X12.Left p3 Z11.s Z11.g) => (hQ Z11 Z12)))))))))))))))))))))))))))
theorem leads_e (h : X12.Left p a.s a.g) (hp : p.Ok) (hph : p.x.ph = 2) : TCalls Tryz.prog 13 [.ptr 11 xb 0] (obsE pb db jb ab mb lb lm xb l x L pat q rn rb a) a.g (callPost (eH pb db jb ab mb lb lm xb (bool true) p l x L pat q rn rb)) := by
  have ph := phase_e (pb := pb) (db := db) (jb := jb) (ab := ab) (mb := mb) (lb := lb) (lm := lm) (xb := xb) (l := l) (x := x) (L := L) (pat := pat) (q := q) (rn := rn) (rb := rb) (a := a) h hp
  rw [hph] at ph
  have hQ : ∀ a, X12.Left p a.s a.g → callPost (eH pb db jb ab mb lb lm xb (bool true) p l x L pat q rn rb) (bool true) (obsE pb db jb ab mb lb lm xb l x L pat q rn rb a) a.g := fun a h => ⟨a, h, rfl, rfl, Nat.le_of_ble_eq_true rfl, fun _ => rfl⟩
  generalize callPost (eH pb db jb ab mb lb lm xb (bool true) p l x L pat q rn rb) = Q at hQ ⊢
  refine TCalls.of Tryz.func13 rfl (CanCall.of Tryz.func13 rfl (by decide)) [0,1,2,3,4,5,6,7,8,9,10,11] fun Γ => ?_
  let HH : Nat → Nat → Hint := fun | 1, 4 => eH pb db jb ab mb lb lm xb (int 2) p l x L pat q rn rb | _, _ => .no
  exact run_sound ⟨HH, [], fun  | _ => none⟩ 400 (by kernel_rfl) (Ya ph (fun (Z0 : EA) => (fun (Z1 : X12.Left p Z0.s Z0.g) => (hQ Z0 Z1))))
theorem busy_e (h : X12.Left p a.s a.g) (hp : p.Ok) (hl : p.l = []) : TCalls Tryz.prog 14 [.ptr 11 xb 0] (obsE pb db jb ab mb lb lm xb l x L pat q rn rb a) a.g (callPost (eH pb db jb ab mb lb lm xb (int 0) p l x L pat q rn rb)) := by
  have pe := X12.pending_h (b := pb) h hp
  rw [hl] at pe
  have hQ : ∀ s g, X12.Left p s g → callPost (eH pb db jb ab mb lb lm xb (int 0) p l x L pat q rn rb) (int 0) (obsE pb db jb ab mb lb lm xb l x L pat q rn rb { a with s := s, g := g }) g := fun s g h => ⟨{ a with s := s, g := g }, h, rfl, rfl, Nat.le_of_ble_eq_true rfl, fun _ => rfl⟩
  generalize callPost (eH pb db jb ab mb lb lm xb (int 0) p l x L pat q rn rb) = Q at hQ ⊢
  refine TCalls.of Tryz.func14 rfl (CanCall.of Tryz.func14 rfl (by decide)) [0,1,2,3,4,5,6,7,8,9,10,11] fun Γ => ?_
  let HH : Nat → Nat → Hint := fun | 3, 5 => pmH pb (.sl 8 []) p | _, _ => .no
  exact run_sound ⟨HH, [], fun  | _ => none⟩ 400 (by kernel_rfl) (Yb xb (Ya pe (fun (Z0 : PM × Glb) => (fun (Z1 : X12.Left p Z0.fst Z0.snd) => (hQ Z0.1 Z0.2 Z1)))))
theorem next_e (h : X12.Left p a.s a.g) (hlim : X5.lim L.v.ms) : TCalls Tryz.prog 12 [.ptr 11 xb 0] (obsE pb db jb ab mb lb lm xb l x L pat q rn rb a) a.g (callPost (eH pb db jb ab mb lb lm xb (.tup [u32 L.nx, .agg (viewC L.v)]) p l x L pat q rn rb)) := by
  have nx := fun Q' hq => X13.next_any lb lm L a.les a.lck a.lhd Q' hq
  have vw := fun Q' hq => X13.view_any lb lm L a.les a.lck a.lhd hlim Q' hq
  have hQ : callPost (eH pb db jb ab mb lb lm xb (.tup [u32 L.nx, .agg (viewC L.v)]) p l x L pat q rn rb) (.tup [u32 L.nx, .agg (viewC L.v)]) (obsE pb db jb ab mb lb lm xb l x L pat q rn rb a) a.g := ⟨a, h, rfl, rfl, Nat.le_of_ble_eq_true rfl, fun _ => rfl⟩
  generalize callPost (eH pb db jb ab mb lb lm xb (.tup [u32 L.nx, .agg (viewC L.v)]) p l x L pat q rn rb) = Q at hQ ⊢
  refine TCalls.of Tryz.func12 rfl (CanCall.of Tryz.func12 rfl (by decide)) [0,1,2,3,4,5,6,7,8,9,10,11] fun Γ => ?_
  let HH : Nat → Nat → Hint := fun | 3, 5 => lkH (u32 L.nx) | 3, 11 => lkH (.agg (viewC L.v)) | _, _ => .no
  let z0 := (ab, Ob.cells [T.ptr 4 jb 0, u32 x.pn, u8 x.pb, u32 x.low, u32 x.v.e, T.sl 3 (mems x.v.ms), u8 (x.v.L 0), u8 (x.v.L 1), u8 (x.v.L 2), u8 (x.v.L 3), u8 (x.v.L 4), u8 (x.v.L 5), u8 (x.v.L 6), u8 (x.v.L 7), T.mp 7 mb])
  let z1 := (lb, Ob.cells [u32 L.v.e, T.sl 3 (mems L.v.ms), u8 (L.v.L 0), u8 (L.v.L 1), u8 (L.v.L 2), u8 (L.v.L 3), u8 (L.v.L 4), u8 (L.v.L 5), u8 (L.v.L 6), u8 (L.v.L 7), u32 L.nx, T.mp 9 lm, T.slx 5 10 (X13.cmds L.kp) a.lhd])
  let z2 := [u32 (0 : Int), T.v (Value.slice none 0 0), u8 (0 : Int), u8 (0 : Int), u8 (0 : Int), u8 (0 : Int), u8 (0 : Int), u8 (0 : Int), u8 (0 : Int), u8 (0 : Int)]
  let z3 := (db, Ob.cells [T.v (Value.string (ByteArray.mk (List.toArray (Jrn.jd l).b))), int (Jrn.jd l).n, bool false])
  let z4 := (jb, Ob.cells [T.ptr 3 db 0, T.slx 1 5 (strs l) a.hd, bool false])
  let z5 := (0, Ob.room 5 43 (List.length (X13.cmds L.kp)) a.lhd)
  let z6 := (lm, Ob.map IntKind.u32 (X13.wT L.W) a.les a.lck)
  let z7 := (mb, Ob.map IntKind.u32 (X11.enF x.E) a.es a.ck)
  let z8 := (0, Ob.room 1 9 (List.length (strs l)) a.hd)
  exact run_sound ⟨HH, [], fun | 3 => some ⟨[11], [11,13], .take true [0,1,2,3,4,6,7,8,9,10] (.one 5 (.one 11 (.take false [12] (.one 13 .done))))⟩ | _ => none⟩ 400 (by kernel_rfl) (fun (Z0 : Nat) => (Yb xb (Yb xb (Ya (nx (callPost (Hint.call false Unit (fun x => True) [8,9,10] false (fun x => u32 L.nx) (fun x_1 => List.map (fwdO [8,9,10]) (List.filterMap (fun i => (S.mk (frame 19 [(0, T.ptr 11 xb 0), (1, T.v (Value.tuple #[])), (2, u32 (0 : Int)), (3, T.ptr 12 Z0 0), (4, T.ptr 11 xb 0), (5, bool false), (6, T.v (Value.tuple #[])), (7, T.ptr 11 xb 0), (8, T.ptr 11 xb 0), (9, T.ptr 11 xb 0), (10, T.ptr 11 xb 2), (11, T.ptr 8 lb 0), (12, T.v (Value.tuple #[])), (13, T.ptr 11 xb 0), (14, T.ptr 11 xb 0), (15, T.ptr 11 xb 0), (16, T.ptr 11 xb 2), (17, T.ptr 8 lb 0), (18, T.v (Value.tuple #[]))]) [(pb, Ob.cells (PM.c0 a.s)), PM.ob1 a.s, PM.ob2 a.s, z3, z4, z8, z0, z7, z1, z6, z5, (0, Ob.gone), (Z0, Ob.cells z2)] a.g).ob[i]?) [8,9,10])) fun x => none_)) (fun _ e => told_post e)) (Yu (Ya (vw (callPost (Hint.call false Unit (fun x => True) [8,9,10] false (fun x => T.agg (viewC L.v)) (fun x_1 => List.map (fwdO [8,9,10]) (List.filterMap (fun i => (S.mk (frame 19 [(0, T.ptr 11 xb 0), (1, T.v (Value.tuple #[])), (2, u32 (0 : Int)), (3, T.ptr 12 Z0 0), (4, T.ptr 11 xb 0), (5, bool false), (6, T.v (Value.tuple #[])), (7, T.ptr 11 xb 0), (8, T.ptr 11 xb 0), (9, T.ptr 11 xb 0), (10, T.ptr 11 xb 2), (11, T.ptr 8 lb 0), (12, u32 L.nx), (13, T.ptr 11 xb 0), (14, T.ptr 11 xb 0), (15, T.ptr 11 xb 0), (16, T.ptr 11 xb 2), (17, T.ptr 8 lb 0), (18, T.v (Value.tuple #[]))]) [(pb, Ob.cells (PM.c0 a.s)), PM.ob1 a.s, PM.ob2 a.s, z3, z4, z8, z0, z7, z1, z6, z5, (xb, Ob.cells [T.ptr 6 ab 0, T.ptr 0 pb 0, T.ptr 8 lb 0, u8 (1 : Int), int (1 : Int), int pat, int q, u32 rn, u8 rb]), (Z0, Ob.cells z2)] a.g).ob[i]?) [8,9,10])) fun x => none_)) (fun _ e => told_post e)) (Yu (Yk 10 Z0 (Yb Z0 hQ)))))))))
end
end X14
end Go.Proofs.YtpjkdcbogjigeaaGreat.Vm
namespace Go.Proofs.YtpjkdcbogjigeaaGreat.Vm
open Go Go.RowKit
set_option maxRecDepth 100000
def plPxF0 : Nat → Option RPlan := fun | 4 => some ⟨[], [6], .take true [0,1,2,3,4,5] (.one 6 (.take false [7,8,9,10,11] .done))⟩ | _ => none
namespace X14
open Acp (En AS Rc blw VOk IsE XOk)
open View (VS Mem)
open Lrn (LS App)
open X5 (viewC mems memC)
open Jrn (Dk)
open X9 (dkC obsK dkH dk_post)
open X10 (strs jC obsJ)
open X11 (obsA enC)
open X12 (PM PP)
open X13 (obsL cmdC apps)
section
variable {pb db jb ab mb lb lm xb ob : Nat} {l : List (List UInt8)} {x : AS} {L : LS} {pat q rn rb : Int} {a : EA} {p : PP}
theorem prop_b (Γ : Ctx) (cb tb bb z n b : Nat) (c : Lrn.Cmd) (p1 p3 : PP) (l2 : List (List UInt8)) (x2 : AS) (L2 : LS) (d : List App) (h : X12.Left p1 a.s a.g) (fw : ∀ (ob : Nat) (a : EA), X12.Left p1 a.s a.g → TCalls Tryz.prog 46 [.ptr 11 xb 0, .ptr 12 ob 0, .agg [u32 z, u32 n, u8 b, u8 c.k, u8 c.n, u8 c.l, u32 c.e, u32 c.q]] (obsE pb db jb ab mb lb lm xb l x L pat q rn rb a ++ [(ob, .cells [.v nilS, .v nilS])]) a.g (callPost (.call false EA (fun a => X12.Left p3 a.s a.g) [0,1,2,3,4,5,6,7,8,9,10,11,12] true (fun _ => (.tup [])) (fun a => obsE pb db jb ab mb lb lm xb l2 x2 L2 pat q rn rb a ++ [(ob, .cells [.v nilS, .sl 17 (apps d)])]) (fun a => a.g)))) (Q : T → Obs → Glb → Prop)
    (hQ : ∀ a, X12.Left p3 a.s a.g → Q (.tup [.agg [.v nilS, .sl 17 (apps d)], bool true]) (obsE pb db jb ab mb lb lm xb l2 x2 L2 pat q rn rb a) a.g) : TWk Tryz.prog Γ (fin Tryz.prog Tryz.f11 [0,1,2,3,4,5,6,7,8,9,10,11] Q) [.code (sub (bd Tryz.f11) [1,1,1,1,1,1])] ⟨frame 51 [(0, .ptr 11 xb 0), (3, .ptr 13 cb 0), (4, .ptr 14 tb 0), (6, .ptr 12 ob 0), (7, u32 z), (10, .ptr 15 bb 0)], obsE pb db jb ab mb lb lm xb l x L pat q rn rb a ++ [(ob, .cells [.v nilS, .v nilS]), (cb, .cells [u8 c.k, u8 c.n, u8 c.l, u32 c.e, u32 c.q]), (tb, .cells [.v nilS, .v nilS]), (bb, .cells [u32 n, u8 b])], a.g⟩ := by
  have fw := fw ob a h
  generalize apps d = AL at *
  let HH : Nat → Nat → Hint := fun | 8, 5 => .call false EA (fun a => X12.Left p3 a.s a.g) [0,1,2,3,4,5,6,7,8,9,10,11,12] true (fun _ => (.tup [])) (fun a => obsE pb db jb ab mb lb lm xb l2 x2 L2 pat q rn rb a ++ [(ob, .cells [.v nilS, .sl 17 (AL)])]) (fun a => a.g) | _, _ => .no
  exact run_sound ⟨HH, [], plPxF0⟩ 400 (by kernel_rfl) (Yb bb (Yb cb (Ya fw (fun (Z0 : EA) => (fun (Z1 : X12.Left p3 Z0.s Z0.g) => (Yb ob (Yk 2 tb (Yb tb (hQ Z0 Z1)))))))))
set_option maxRecDepth 20000 in
theorem prop_imp (cb tb bb z n b : Nat) (c : Lrn.Cmd) : Imp (frame 51 [(0, .ptr 11 xb 0), (3, .ptr 12 cb 0), (4, .ptr 13 tb 0), (6, .ptr 14 ob 0), (7, u32 z), (10, .ptr 15 bb 0)]) (obsE pb db jb ab mb lb lm xb l x L pat q rn rb a ++ [(cb, .cells [u8 c.k, u8 c.n, u8 c.l, u32 c.e, u32 c.q]), (tb, .cells [.v nilS, .v nilS]), (ob, .cells [.v nilS, .v nilS]), (bb, .cells [u32 n, u8 b])]) a.g (frame 51 [(0, .ptr 11 xb 0), (3, .ptr 13 cb 0), (4, .ptr 14 tb 0), (6, .ptr 12 ob 0), (7, u32 z), (10, .ptr 15 bb 0)]) (obsE pb db jb ab mb lb lm xb l x L pat q rn rb a ++ [(ob, .cells [.v nilS, .v nilS]), (cb, .cells [u8 c.k, u8 c.n, u8 c.l, u32 c.e, u32 c.q]), (tb, .cells [.v nilS, .v nilS]), (bb, .cells [u32 n, u8 b])]) a.g := by
  refine (Imp.sel (ob' := obsE pb db jb ab mb lb lm xb l x L pat q rn rb a ++ [(ob, .cells [.v nilS, .v nilS]), (cb, .cells [u8 c.k, u8 c.n, u8 c.l, u32 c.e, u32 c.q]), (tb, .cells [.v nilS, .v nilS]), (bb, .cells [u32 n, u8 b])]) [0,1,2,3,4,5,6,7,8,9,10,11,14,12,13,15] (by decide) rfl).trans ?_
  refine (Imp.slotR (j := 3) (t := .ptr 12 cb 0) (t' := .ptr 13 cb 0) rfl (fun M v r => by simpa only [Rel] using r)).trans ?_
  refine (Imp.slotR (j := 4) (t := .ptr 13 tb 0) (t' := .ptr 14 tb 0) rfl (fun M v r => by simpa only [Rel] using r)).trans ?_
  exact Imp.slotR (ts := frame 51 [(0, .ptr 11 xb 0), (3, .ptr 13 cb 0), (4, .ptr 14 tb 0), (6, .ptr 14 ob 0), (7, u32 z), (10, .ptr 15 bb 0)]) (j := 6) (t := .ptr 14 ob 0) (t' := .ptr 12 ob 0) rfl (fun M v r => by simpa only [Rel] using r)
theorem propose_e (h : X12.Left p a.s a.g) (hp : p.Ok) (hph : p.x.ph = 2) (hl : p.l = []) (z n b : Nat) (c : Lrn.Cmd) (c' : X12.Cmd) (hc : X12.cmdC c' = [u8 c.k, u8 c.n, u8 c.l, u32 c.e, u32 c.q]) (p1 p3 : PP) (he : X12.pPropose p c' = (p1, (z : Int), true)) (hok1 : p1.Ok) (hn : p1.x.n = n) (hb : p1.x.b = b) (l2 : List (List UInt8)) (x2 : AS) (L2 : LS) (d : List App) (fw : ∀ (ob : Nat) (a : EA), X12.Left p1 a.s a.g → TCalls Tryz.prog 46 [.ptr 11 xb 0, .ptr 12 ob 0, .agg [u32 z, u32 n, u8 b, u8 c.k, u8 c.n, u8 c.l, u32 c.e, u32 c.q]] (obsE pb db jb ab mb lb lm xb l x L pat q rn rb a ++ [(ob, .cells [.v nilS, .v nilS])]) a.g (callPost (.call false EA (fun a => X12.Left p3 a.s a.g) [0,1,2,3,4,5,6,7,8,9,10,11,12] true (fun _ => (.tup [])) (fun a => obsE pb db jb ab mb lb lm xb l2 x2 L2 pat q rn rb a ++ [(ob, .cells [.v nilS, .sl 17 (apps d)])]) (fun a => a.g)))) :
    TCalls Tryz.prog 11 [.ptr 11 xb 0, .agg [u8 c.k, u8 c.n, u8 c.l, u32 c.e, u32 c.q]] (obsE pb db jb ab mb lb lm xb l x L pat q rn rb a) a.g (callPost (eH pb db jb ab mb lb lm xb (.tup [.agg [.v nilS, .sl 17 (apps d)], bool true]) p3 l2 x2 L2 pat q rn rb)) := by
  have ld := fun (a : EA) (h : X12.Left p a.s a.g) => leads_e (pb := pb) (db := db) (jb := jb) (ab := ab) (mb := mb) (lb := lb) (lm := lm) (xb := xb) (l := l) (x := x) (L := L) (pat := pat) (q := q) (rn := rn) (rb := rb) (a := a) h hp hph
  have bz := fun (a : EA) (h : X12.Left p a.s a.g) => busy_e (pb := pb) (db := db) (jb := jb) (ab := ab) (mb := mb) (lb := lb) (lm := lm) (xb := xb) (l := l) (x := x) (L := L) (pat := pat) (q := q) (rn := rn) (rb := rb) (a := a) h hp hl
  have pr := fun (s : PM) (g : Glb) (h : X12.Left p s g) => X12.propose_h (b := pb) h hp c'
  rw [he, hc] at pr
  have ph := fun (s : PM) (g : Glb) (h : X12.Left p1 s g) => X12.phase_h (b := pb) h hok1
  rw [hn, hb] at ph
  have hQ : ∀ a, X12.Left p3 a.s a.g → callPost (eH pb db jb ab mb lb lm xb (.tup [.agg [.v nilS, .sl 17 (apps d)], bool true]) p3 l2 x2 L2 pat q rn rb) (.tup [.agg [.v nilS, .sl 17 (apps d)], bool true]) (obsE pb db jb ab mb lb lm xb l2 x2 L2 pat q rn rb a) a.g := fun a h => ⟨a, h, rfl, rfl, Nat.le_of_ble_eq_true rfl, fun _ => rfl⟩
  generalize callPost (eH pb db jb ab mb lb lm xb (.tup [.agg [.v nilS, .sl 17 (apps d)], bool true]) p3 l2 x2 L2 pat q rn rb) = Q at hQ ⊢
  have nx := fun Γ (a : EA) (h : X12.Left p1 a.s a.g) (cb tb ob bb : Nat) => TWk.imp (s := ⟨frame 51 [(0, .ptr 11 xb 0), (3, .ptr 12 cb 0), (4, .ptr 13 tb 0), (6, .ptr 14 ob 0), (7, u32 z), (10, .ptr 15 bb 0)], obsE pb db jb ab mb lb lm xb l x L pat q rn rb a ++ [(cb, .cells [u8 c.k, u8 c.n, u8 c.l, u32 c.e, u32 c.q]), (tb, .cells [.v nilS, .v nilS]), (ob, .cells [.v nilS, .v nilS]), (bb, .cells [u32 n, u8 b])], a.g⟩) (prop_b (pb := pb) (db := db) (jb := jb) (ab := ab) (mb := mb) (lb := lb) (lm := lm) (xb := xb) (ob := ob) (l := l) (x := x) (L := L) (pat := pat) (q := q) (rn := rn) (rb := rb) (a := a) Γ cb tb bb z n b c p1 p3 l2 x2 L2 d h fw Q hQ) (prop_imp cb tb bb z n b c)
  clear he hc hQ fw
  refine TCalls.of Tryz.func11 rfl (CanCall.of Tryz.func11 rfl (by decide)) [0,1,2,3,4,5,6,7,8,9,10,11] fun Γ => ?_
  let HH : Nat → Nat → Hint := fun | 2, 1 => eH pb db jb ab mb lb lm xb (bool true) p l x L pat q rn rb | 2, 5 => eH pb db jb ab mb lb lm xb (int 0) p l x L pat q rn rb | 4, 6 => pmH pb (.tup [u32 z, bool true]) p1 | 7, 5 => pmH pb (.tup [int p1.x.ph, .agg [u32 n, u8 b], u32 p1.x.nx]) p1 | _, _ => .no
  exact run_sound ⟨HH, [((0, 8), ([0,3,4,6,7,10], 16))], fun | 4 => some ⟨[11,12], [6], .take true [0,1,2,3,4,5] (.one 6 (.take false [7,8,9,10,11] .done))⟩ | n => plPxF0 n⟩ 400 (by kernel_rfl) (fun (Z0 : Nat) => (fun (Z1 : Nat) => (fun (Z2 : Nat) => (Ya (ld a h) (fun (Z3 : EA) => (fun (Z4 : X12.Left p Z3.s Z3.g) => (Ya (bz Z3 Z4) (fun (Z5 : EA) => (fun (Z6 : X12.Left p Z5.s Z5.g) => (Yb xb (Yb Z0 (Ya (pr Z5.s Z5.g Z6) (fun (Z7 : PM × Glb) => (fun (Z8 : X12.Left p1 Z7.fst Z7.snd) => (Yb xb (Ya (ph Z7.1 Z7.2 Z8) (fun (Z9 : PM × Glb) => (fun (Z10 : X12.Left p1 Z9.fst Z9.snd) => (fun (Z11 : Nat) => (Yk 2 Z11 (nx Γ ⟨Z9.1, Z9.2, Z5.hd, Z5.es, Z5.ck, Z5.les, Z5.lck, Z5.lhd⟩ Z10 Z0 Z1 Z2 Z11)))))))))))))))))))))
end
end X14
end Go.Proofs.YtpjkdcbogjigeaaGreat.Vm
namespace Go.Proofs.YtpjkdcbogjigeaaGreat.Vm
open Go Go.RowKit
set_option maxRecDepth 100000
noncomputable abbrev kPxG0 (l : List Nat) : It := .code (sub (bd Tryz.f10) l)
namespace X14
open Acp (En AS Rc blw VOk IsE XOk)
open View (VS Mem)
open Lrn (LS App)
open X5 (viewC mems memC)
open Jrn (Dk)
open X9 (dkC obsK dkH dk_post)
open X10 (strs jC obsJ)
open X11 (obsA enC)
open X12 (PM PP)
open X13 (obsL cmdC apps)
def nwP (n : Int) : Hint := .call false Nat (fun _ => True) [] false (fun b => .tup [.ptr 0 b 0, int 0]) (fun b => (PM.idle n).obs b) (fun _ => none_)
def nwL (v : VS) : Hint := .call false (Nat × Nat) (fun _ => True) [] false (fun b => .ptr 0 b.1 0) (fun b => obsL b.1 b.2 (Lrn.newL v) #[] 0 nilS) (fun _ => none_)
section
variable (db : Nat) (l : List (List UInt8)) (x : AS) (v : VS) (self : Nat) (ms pat : Int)
theorem open_arg (d : Dk) (h : pat < 1 ∨ 1000 < pat ∨ ms < self) (Q : T → Obs → Glb → Prop) (hQ : Q (.tup [.v (.pointer none), int 1]) (obsK db d) none_) (hs : self < 256) : TCalls Tryz.prog 10 [.ptr 0 db 0, u8 self, int ms, int pat] (obsK db d) none_ Q := by
  have c1 : T.v (.int .i64 (IntKind.wrap .i64 (self : Int))) = int self := congrArg int (by rw [wrap_i64 (by omega) (by omega)])
  refine TCalls.of Tryz.func10 rfl (CanCall.of Tryz.func10 rfl (by decide)) [0] fun Γ => ?_
  let HH : Nat → Nat → Hint := fun | 1, 8 => .res (int self) | _, _ => .no
  exact run_sound ⟨HH, [((0, 3), ([0,1,2,3], 1))], fun  | _ => none⟩ 400 (by kernel_rfl) (Ys (decide (pat < (1 : Int))) (fun Z0 => hQ) (fun Z1 => (Ys (decide (pat > (1000 : Int))) (fun Z2 => hQ) (fun Z3 => (Ya c1 (Ys (decide ((↑self : Int) > ms)) (fun Z4 => hQ) (fun Z5 => (show TWk Tryz.prog Γ (fin Tryz.prog Tryz.f10 [0] Q) [kPxG0 [1,1]] (S.mk (frame 67 [(0, T.ptr 0 db 0), (1, u8 self), (2, int ms), (3, int pat)]) [(db, Ob.cells [T.v (Value.string (ByteArray.mk (List.toArray d.b))), int d.n, bool d.off])] fun x => none) by exfalso; simp at *; omega))))))))
theorem open_masters (d : Dk) (h : 1 ≤ pat ∧ pat ≤ 1000 ∧ self ≤ ms) (hm : ms < 1 ∨ 5 < ms) (pn : ∀ Q' : T → Obs → Glb → Prop, Q' (.tup [.v (.pointer none), int 1]) [] none_ → TCalls Tryz.prog 40 [int ms] [] none_ Q') (Q : T → Obs → Glb → Prop) (hQ : Q (.tup [.v (.pointer none), int 1]) (obsK db d) none_) (hs : self < 256) : TCalls Tryz.prog 10 [.ptr 0 db 0, u8 self, int ms, int pat] (obsK db d) none_ Q := by
  have c1 : T.v (.int .i64 (IntKind.wrap .i64 (self : Int))) = int self := congrArg int (by rw [wrap_i64 (by omega) (by omega)])
  refine TCalls.of Tryz.func10 rfl (CanCall.of Tryz.func10 rfl (by decide)) [0] fun Γ => ?_
  let HH : Nat → Nat → Hint := fun | 1, 8 => .res (int self) | 3, 1 => told (.tup [.v (.pointer none), int 1]) [] [] | _, _ => .no
  let z0 := S.mk (frame 67 []) [(db, Ob.cells [T.v (Value.string (ByteArray.mk (List.toArray d.b))), int d.n, bool d.off])] fun x => none
  let z1 := [kPxG0 [1,0,1,0], kPxG0 [1,1]]
  let z2 := fin Tryz.prog Tryz.f10 [0] Q
  exact run_sound ⟨HH, [((0, 2), ([], 1))], fun  | _ => none⟩ 400 (by kernel_rfl) (Ys (decide (pat < (1 : Int))) (fun Z0 => (show TWk Tryz.prog Γ z2 z1 z0 by exfalso; simp at *; omega)) (fun Z1 => (Ys (decide (pat > (1000 : Int))) (fun Z2 => (show TWk Tryz.prog Γ z2 z1 z0 by exfalso; simp at *; omega)) (fun Z3 => (Ya c1 (Ys (decide ((↑self : Int) > ms)) (fun Z4 => (show TWk Tryz.prog Γ z2 z1 z0 by exfalso; simp at *; omega)) (fun Z5 => (Ya (pn (HH 3 1).P (told_post rfl)) (Yu hQ)))))))))
theorem open_acc (d : Dk) (h : 1 ≤ pat ∧ pat ≤ 1000 ∧ self ≤ ms) (hm : 1 ≤ ms ∧ ms ≤ 5) (f : Int) (hf : f ≠ 0) (ao : TCalls Tryz.prog 41 [.ptr 0 db 0, u8 self] (obsK db d) none_ (callPost (told (.tup [.v (.pointer none), int f]) [0] (obsK db d)))) (Q : T → Obs → Glb → Prop) (hQ : Q (.tup [.v (.pointer none), int f]) (obsK db d) none_) (hs : self < 256) : TCalls Tryz.prog 10 [.ptr 0 db 0, u8 self, int ms, int pat] (obsK db d) none_ Q := by
  have c1 : T.v (.int .i64 (IntKind.wrap .i64 (self : Int))) = int self := congrArg int (by rw [wrap_i64 (by omega) (by omega)])
  have c2 : T.v (.bool (!(f == 0))) = bool true := congrArg bool (by rw [beq_eq_false_iff_ne.2 hf]; rfl)
  have pn : TCalls Tryz.prog 40 [int ms] [] none_ (callPost (nwP ms)) := X12.new_u _ ms hm fun b => ⟨b, trivial, rfl, rfl, Nat.zero_le _, fun h => by cases h⟩
  refine TCalls.of Tryz.func10 rfl (CanCall.of Tryz.func10 rfl (by decide)) [0] fun Γ => ?_
  let HH : Nat → Nat → Hint := fun | 1, 8 => .res (int self) | 3, 1 => nwP ms | 6, 2 => dkH 0 d (.tup [.v (.pointer none), int f]) | 7, 1 => .res (bool true) | _, _ => .no
  let z0 := S.mk (frame 67 []) [(db, Ob.cells [T.v (Value.string (ByteArray.mk (List.toArray d.b))), int d.n, bool d.off])] fun x => none
  let z1 := [kPxG0 [1,0,1,0], kPxG0 [1,1]]
  let z2 := fin Tryz.prog Tryz.f10 [0] Q
  exact run_sound ⟨HH, [((0, 2), ([], 1))], fun  | _ => none⟩ 400 (by kernel_rfl) (Ys (decide (pat < (1 : Int))) (fun Z0 => (show TWk Tryz.prog Γ z2 z1 z0 by exfalso; simp at *; omega)) (fun Z1 => (Ys (decide (pat > (1000 : Int))) (fun Z2 => (show TWk Tryz.prog Γ z2 z1 z0 by exfalso; simp at *; omega)) (fun Z3 => (Ya c1 (Ys (decide ((↑self : Int) > ms)) (fun Z4 => (show TWk Tryz.prog Γ z2 z1 z0 by exfalso; simp at *; omega)) (fun Z5 => (Ya pn (fun (Z6 : Nat) => (fun (Z7 : True) => (Ya ao (Yu (Ya c2 hQ)))))))))))))
theorem open_new (h : 1 ≤ pat ∧ pat ≤ 1000 ∧ self ≤ ms) (hm : 1 ≤ ms ∧ ms ≤ 5) (hs : self < 256) (hlim : X5.lim v.ms) (h0 : x.low = 0) (hxv : x.v = v) (ao : TCalls Tryz.prog 41 [.ptr 0 db 0, u8 self] (obsK db (Jrn.jd l)) none_ (callPost (X11.opnP db l x))) (Q : T → Obs → Glb → Prop)
    (hQ : ∀ pb jb ab mb lb lm xb hd es ck, Q (.tup [.ptr 11 xb 0, int 0]) ((db, .cells (dkC (Jrn.jd l))) :: ((PM.idle ms).obs pb ++ (((obsA db jb ab mb (Jrn.jd l) l hd false x es ck).tail.map (ixOb fun k => [0,4,5,6,7].getD k 0)) ++ ((obsL lb lm (Lrn.newL v) #[] 0 nilS).map (ixOb fun k => [8,9,10].getD k 0) ++ [(xb, .cells [.ptr 6 ab 0, .ptr 1 pb 0, .ptr 8 lb 0, u8 self, int ms, int pat, int 0, u32 0, u8 0])])))) none_) : TCalls Tryz.prog 10 [.ptr 0 db 0, u8 self, int ms, int pat] (obsK db (Jrn.jd l)) none_ Q := by
  have c1 : T.v (.int .i64 (IntKind.wrap .i64 (self : Int))) = int self := congrArg int (by rw [wrap_i64 (by omega) (by omega)])
  have pn : TCalls Tryz.prog 40 [int ms] [] none_ (callPost (nwP ms)) := X12.new_u _ ms hm fun b => ⟨b, trivial, rfl, rfl, Nat.zero_le _, fun h => by cases h⟩
  have ln : TCalls Tryz.prog 43 [.agg (viewC v)] [] none_ (callPost (nwL v)) := X13.new_any v hlim _ fun b mb => ⟨(b, mb), trivial, rfl, rfl, Nat.zero_le _, fun h => by cases h⟩
  have ba := fun jb ab mb hd es ck Q' hq => X11.base_any db jb ab mb (Jrn.jd l) l hd false x es ck (by rw [hxv]; exact hlim) Q' hq
  rw [h0, hxv] at ba
  refine TCalls.of Tryz.func10 rfl (CanCall.of Tryz.func10 rfl (by decide)) [0,1,2,3,4,5,6,7,9,10,11,12] fun Γ => ?_
  let HH : Nat → Nat → Hint := fun | 1, 8 => .res (int self) | 3, 1 => nwP ms | 6, 2 => X11.opnH 0 l x | 9, 1 => .withA fun ob _ => told (.tup [u32 0, .agg (viewC v)]) [0,4,5,6,7] (([0,4,5,6,7].filterMap fun i => ob[i]?).map (fwdO [0,4,5,6,7])) | 10, 1 => nwL v | _, _ => .no
  let z0 := X12.P0.mk ms (0 : Int) (0 : Int) (0 : Int) (0 : Int) (0 : Int) (0 : Int)
  let z1 := (db, Ob.cells [T.v (Value.string (ByteArray.mk (List.toArray (Jrn.jd l).b))), int (Jrn.jd l).n, bool false])
  let z2 := [kPxG0 [1,0,1,0], kPxG0 [1,1]]
  let z3 := fin Tryz.prog Tryz.f10 [0,1,2,3,4,5,6,7,9,10,11,12] Q
  let z4 := S.mk (frame 67 []) [z1] fun x => none
  exact run_sound ⟨HH, [((0, 2), ([], 1))], fun  | _ => none⟩ 400 (by kernel_rfl) (Ys (decide (pat < (1 : Int))) (fun Z0 => (show TWk Tryz.prog Γ z3 z2 z4 by exfalso; simp at *; omega)) (fun Z1 => (Ys (decide (pat > (1000 : Int))) (fun Z2 => (show TWk Tryz.prog Γ z3 z2 z4 by exfalso; simp at *; omega)) (fun Z3 => (Ya c1 (Ys (decide ((↑self : Int) > ms)) (fun Z4 => (show TWk Tryz.prog Γ z3 z2 z4 by exfalso; simp at *; omega)) (fun Z5 => (Ya pn (fun (Z6 : Nat) => (fun (Z7 : True) => (Ya ao (fun (Z8 : Nat × Nat × Nat × Value × Array MapEntry × Nat) => (fun (Z9 : True) => (Ya (ba Z8.fst Z8.snd.fst Z8.snd.snd.fst Z8.snd.snd.snd.fst Z8.snd.snd.snd.snd.fst Z8.snd.snd.snd.snd.snd (callPost (Hint.call false Unit (fun x => True) [0,4,5,6,7] false (fun x => T.tup [u32 (0 : Int), T.agg (viewC v)]) (fun x_1 => List.map (fwdO [0,4,5,6,7]) (List.filterMap (fun i => (S.mk (frame 67 [(0, T.ptr 0 db 0), (1, u8 self), (2, int ms), (3, int pat), (4, T.v (Value.tuple #[])), (5, T.v (Value.tuple #[])), (6, T.v (Value.tuple #[])), (7, T.v (Value.tuple #[])), (8, T.v (Value.pointer none)), (9, int (0 : Int)), (10, T.ptr 1 Z6 0), (11, int (0 : Int)), (12, T.ptr 6 Z8.snd.fst 0), (13, T.v (Value.tuple #[])), (14, T.v (Value.tuple #[])), (15, T.v (Value.tuple #[])), (16, int pat), (17, bool (decide (pat < (1 : Int)))), (18, bool false), (19, int pat), (20, bool (decide (pat > (1000 : Int)))), (21, bool (decide (pat > (1000 : Int)))), (22, bool false), (23, u8 self), (24, int self), (25, int ms), (26, bool (decide ((↑self : Int) > ms))), (27, bool false), (28, T.tup [T.ptr 1 Z6 0, int (0 : Int)]), (29, int ms), (30, T.tup [T.ptr 1 Z6 0, int (0 : Int)]), (31, T.ptr 1 Z6 0), (32, int (0 : Int)), (33, int (0 : Int)), (34, bool false), (35, T.v (Value.tuple #[])), (36, T.tup [T.ptr 6 Z8.snd.fst 0, int (0 : Int)]), (37, T.ptr 0 db 0), (38, u8 self), (39, T.tup [T.ptr 6 Z8.snd.fst 0, int (0 : Int)]), (40, T.ptr 6 Z8.snd.fst 0), (41, int (0 : Int)), (42, int (0 : Int)), (43, bool false), (44, T.v (Value.tuple #[])), (45, T.v (Value.tuple #[])), (46, T.ptr 6 Z8.snd.fst 0), (47, T.v (Value.tuple #[])), (48, T.v (Value.tuple #[])), (49, T.v (Value.tuple #[])), (50, T.v (Value.tuple #[])), (51, T.v (Value.tuple #[])), (52, T.v (Value.tuple #[])), (53, T.v (Value.tuple #[])), (54, T.v (Value.tuple #[])), (55, T.v (Value.tuple #[])), (56, T.v (Value.tuple #[])), (57, T.v (Value.tuple #[])), (58, T.v (Value.tuple #[])), (59, T.v (Value.tuple #[])), (60, T.v (Value.tuple #[])), (61, T.v (Value.tuple #[])), (62, T.v (Value.tuple #[])), (63, T.v (Value.tuple #[])), (64, T.v (Value.tuple #[])), (65, T.v (Value.tuple #[])), (66, T.v (Value.tuple #[]))]) [z1, (Z6, Ob.cells [int (z0.ms), int (z0.ph), u32 (z0.n), u8 (z0.b), u32 (z0.fr), u32 (z0.nx), u64 (z0.pm), T.v (Value.map none), T.v (Value.slice none 0 0)]), (0, Ob.gone), (0, Ob.gone), (Z8.fst, Ob.cells [T.ptr 0 db 0, T.slx 1 5 (strs l) Z8.snd.snd.snd.fst, bool false]), (0, Ob.room 1 9 (List.length (strs l)) Z8.snd.snd.snd.fst), (Z8.snd.fst, Ob.cells [T.ptr 4 Z8.fst 0, u32 x.pn, u8 x.pb, u32 x.low, u32 x.v.e, T.sl 3 (mems x.v.ms), u8 (x.v.L 0), u8 (x.v.L 1), u8 (x.v.L 2), u8 (x.v.L 3), u8 (x.v.L 4), u8 (x.v.L 5), u8 (x.v.L 6), u8 (x.v.L 7), T.mp 7 Z8.snd.snd.fst]), (Z8.snd.snd.fst, Ob.map IntKind.u32 (X11.enF x.E) Z8.snd.snd.snd.snd.fst Z8.snd.snd.snd.snd.snd)] fun x => none).ob[i]?) [0,4,5,6,7])) fun x => none_)) (told_post rfl)) (Yu (fun (Z10 : Nat) => (Yk 10 Z10 (Yb Z10 (Ya ln (fun (Z11 : Nat × Nat) => (fun (Z12 : True) => (fun (Z13 : Nat) => (hQ Z6 Z8.fst Z8.snd.fst Z8.snd.snd.fst Z11.fst Z11.snd Z13 Z8.snd.snd.snd.fst Z8.snd.snd.snd.snd.fst Z8.snd.snd.snd.snd.snd)))))))))))))))))))))))
end
end X14
end Go.Proofs.YtpjkdcbogjigeaaGreat.Vm
namespace Go.Proofs.YtpjkdcbogjigeaaGreat.Vm
open Go Go.RowKit
structure Apart (ob : Obs) (gl : Glb) : Prop where
  apart : ∀ (i j : Nat) (x y : Nat × Ob) (b : Nat), ob[i]? = some x → ob[j]? = some y → obBlk x = some b → obBlk y = some b → i = j
  sep : ∀ (i : Nat) (x : Nat × Ob) (b : Nat), ob[i]? = some x → obBlk x = some b → gl b = none
theorem TCalls.apart {P : Program} {f : FuncId} {ts : List T} {ob : Obs} {gl : Glb} {Q : T → Obs → Glb → Prop} (hc : CanCall P f) (h : Apart ob gl → TCalls P f ts ob gl Q) : TCalls P f ts ob gl Q :=
  ⟨hc, fun M w xs hp hx => (h ⟨hp.apart, hp.sep⟩).calls M w xs hp hx⟩
theorem TWk.apart {P : Program} {Γ : Ctx} {R : S → Prop} {c : Code} {k : List It} {s : S} (h : Apart s.ob s.gl → TWk P Γ R (.code c :: k) s) : TWk P Γ R (.code c :: k) s :=
  ⟨fun M a w hs => (h ⟨hs.hp.apart, hs.hp.sep⟩).out M a w hs⟩
theorem Imp.cellR {ts : List T} {ob : Obs} {gl : Glb} {i b j : Nat} {cs : List T} {t t' : T} (hi : ob[i]? = some (b, .cells cs)) (hj : cs[j]? = some t) (ht : ∀ M v, Rel M t v → Rel M t' v) : Imp ts ob gl ts (ob.set i (b, .cells (cs.set j t'))) gl :=
  Imp.ob hi (fun M w h => by
    obtain ⟨C, t0, h1, h2, h3⟩ := h
    refine ⟨C, t0, h1, ?_, h3⟩
    obtain ⟨y, g1, g2⟩ := h2.get hj
    have h4 := h2.set j (ht M y g2)
    have e : C.toList.set j y = C.toList := by
      obtain ⟨hl, he⟩ := List.getElem?_eq_some_iff.1 g1
      rw [← he, List.set_getElem_self]
    rwa [e] at h4) (fun _ h => h)
end Go.Proofs.YtpjkdcbogjigeaaGreat.Vm
