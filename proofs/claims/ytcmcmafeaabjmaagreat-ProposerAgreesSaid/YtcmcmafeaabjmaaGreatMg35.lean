/- Texts of this claim: PgD, PgE. -/
import Derived.Test.YtcmcmafeaabjmaaGreatMg15
import Derived.Test.YtcmcmafeaabjmaaGreatMg34
namespace Go.Proofs.YtcmcmafeaabjmaaGreat.Vm
open Go Go.RowKit
set_option maxRecDepth 100000
noncomputable abbrev kPgD0 (l : List Nat) : It := .code (sub (bd Tryz.f3) l)
noncomputable abbrev wPgD1 (Γ : Ctx) (Q : T → Obs → Glb → Prop) : List It → S → Prop := TWk Tryz.prog Γ (fin Tryz.prog Tryz.f3 [] Q)
namespace X11
open Acp (En AS Rc blw VOk IsE XOk)
open Jrn (Dk)
open X9 (dkC obsK dkH dk_post)
open X10 (strs jC obsJ)
open X12 (PM PP cmdC entC ents)
section
variable (pb db jb ab mb dm b25 : Nat) (l : List (List UInt8)) (hd : Value) (x : AS) (es : Array MapEntry) (ck : Nat) (s : PM) (g R : Glb) (p : PP) (D : Int → Option T) (esd : Array MapEntry) (ckd : Nat) (Γ : Ctx) (Q : T → Obs → Glb → Prop) (E AL PL : List T) (n i top : Nat)
theorem g_defA0 (x0 o k : Nat) (ho : o < 5) (hx0 : x0 < 65536) (hi : i < 300) (L : List T) (hL : 0 < L.length) (hL2 : L.length ≤ 16) (hk : x0 / 4096 % L.length = k) (y : En) (hat : L[((k : Nat) : Int).toNat]? = some (.agg [u32 y.slot, u32 y.n, u8 y.b, u8 y.kind, u8 y.node, u8 y.life, u32 y.ep, u32 y.rq])) (pe : TCalls Tryz.prog 15 [.ptr 0 pb 0] (s.obs pb) (joinG g R) (callPost (pmF pb (.sl 8 L) p R))) (hv : x0 / 2048 % 8 ≠ 0) (l2 : List (List UInt8)) (x2 : AS) (ac : TCalls Tryz.prog 18 [.ptr 3 ab 0, .agg [u32 y.n, u8 y.b], u32 y.slot, .agg [u8 y.kind, u8 y.node, u8 y.life, u32 y.ep, u32 y.rq]] (obsA db jb ab mb (Jrn.jd l) l hd false x es ck) none_ (callPost (acPd db jb ab mb (int 0) (Jrn.jd l2) l2 x2))) (c : X12.Cmd) (p2 : PP) (ad : ∀ s g, X12.Left p s g → Dj g R → TCalls Tryz.prog 19 [.ptr 0 pb 0, u8 ((o : Int) + 1), .agg [u32 y.n, u8 y.b], u32 y.slot] (s.obs pb) (joinG g R) (callPost (pmF pb (.tup [.agg (cmdC c), bool false]) p2 R))) (nx : ∀ hd es ck, ∀ s g, X12.Left p2 s g → Dj g R → wPgD1 Γ Q [kPgD0 [1,1,1,1,1,1,1,1,1,0,1,0], .blk 2, kPgD0 [1,1,1,1,1,1,1,1,1,1]] ⟨frame 233 [(1, .sl 1 E), (5, int n), (8, .sl 1 AL), (9, .sl 1 PL), (16, .mp 8 dm), (17, u32 top), (18, int (i + 1 : Nat))], s.obs pb ++ ((obsA db jb ab mb (Jrn.jd l2) l2 hd false x2 es ck).map (ixOb fun k => [3,4,5,6,7].getD k 0) ++ [(dm, .map .u32 D esd ckd)]), joinG g R⟩) : wPgD1 Γ Q [kPgD0 [1,1,1,1,1,1,1,1,1,0,1,0,0,1,0,0,1,1,1,1,1,0,1,1,1,1,1,1], .blk 4, .blk 3, kPgD0 [1,1,1,1,1,1,1,1,1,0,1,0,0,1,1], kPgD0 [1,1,1,1,1,1,1,1,1,0,1,0], .blk 2, kPgD0 [1,1,1,1,1,1,1,1,1,1]] ⟨frame 233 [(1, .sl 1 E), (5, int n), (8, .sl 1 AL), (9, .sl 1 PL), (16, .mp 8 dm), (17, u32 top), (18, int i), (19, int x0), (21, int o), (22, .ptr 0 pb 0), (23, .ptr 6 ab 0)], s.obs pb ++ ((obsA db jb ab mb (Jrn.jd l) l hd false x es ck).map (ixOb fun k => [3,4,5,6,7].getD k 0) ++ [(dm, .map .u32 D esd ckd), (b25, .cells [u32 p.x.n, u8 p.x.b])]), joinG g R⟩ := by
  have nx := fun (b30 b31 : Nat) s g hd es ck h1 h2 => TWk.imp (s := ⟨frame 233 [(1, .sl 1 E), (5, int n), (8, .sl 1 AL), (9, .sl 1 PL), (16, .mp 8 dm), (17, u32 top), (18, int (i + 1 : Nat))], s.obs pb ++ ((obsA db jb ab mb (Jrn.jd l2) l2 hd false x2 es ck).map (ixOb fun k => [3,4,5,6,7].getD k 0) ++ [(dm, .map .u32 D esd ckd), (b25, .cells [u32 p.x.n, u8 p.x.b]), (b30, .cells [u32 y.slot, u32 y.n, u8 y.b, u8 y.kind, u8 y.node, u8 y.life, u32 y.ep, u32 y.rq]), (b31, .cells (cmdC c))]), joinG g R⟩) (nx hd es ck s g h1 h2) (Imp.take 9)
  have hw : T.v (.int .i64 (IntKind.wrap .i64 ((i : Int) + 1))) = int (i + 1 : Nat) := congrArg int (by rw [wrap_i64 (by omega) (by omega)]; omega)
  have d1 : T.v (.bool ((L.length : Int) == 0)) = bool false := congrArg bool (beq_eq_false_iff_ne.2 (by omega))
  have c12 : T.v (.int .i64 ((x0 : Int).fdiv (2 ^ min (12 : Int).toNat (IntKind.bits .i64)))) = int (x0 / 4096 : Nat) := congrArg int (by show (x0 : Int).fdiv 4096 = _; rw [Int.fdiv_eq_ediv_of_nonneg _ (by omega)]; omega)
  have d2 : T.v (.int .i64 (((x0 / 4096 : Nat) : Int).tmod (L.length : Int))) = int k := congrArg int (by rw [Int.tmod_eq_emod_of_nonneg (by omega)]; rw [← Int.natCast_emod, hk])
  have c11 : T.v (.int .i64 ((x0 : Int).fdiv (2 ^ min (11 : Int).toNat (IntKind.bits .i64)))) = int (x0 / 2048 : Nat) := congrArg int (by show (x0 : Int).fdiv 2048 = _; rw [Int.fdiv_eq_ediv_of_nonneg _ (by omega)]; omega)
  have d4 : T.v (.int .i64 (IntKind.wrap .i64 ((BitVec.ofInt 64 ((x0 / 2048 : Nat) : Int) &&& BitVec.ofInt 64 7).toNat : Int))) = int (x0 / 2048 % 8 : Nat) := congrArg int (by have e := and_low (x0 / 2048) 3 (by omega) (by omega); rw [show ((2 ^ 3 - 1 : Nat) : Int) = 7 from rfl] at e; rw [e, wrap_i64 (by omega) (by omega)])
  have d5 : T.v (.bool (((x0 / 2048 % 8 : Nat) : Int) == 0)) = bool false := congrArg bool (beq_eq_false_iff_ne.2 (by omega))
  have d6 : T.v (.int .i64 (IntKind.wrap .i64 ((o : Int) + 1))) = int ((o : Int) + 1) := congrArg int (by rw [wrap_i64 (by omega) (by omega)])
  have d7 : T.v (.int .u8 (IntKind.wrap .u8 ((o : Int) + 1))) = u8 ((o : Int) + 1) := congrArg u8 (by rw [IntWalk.u8_in _ (by omega)])
  generalize Jrn.jd l2 = d2' at *
  generalize Jrn.jd l = d0 at *
  let HH : Nat → Nat → Hint := fun | 28, 1 => pmF pb (.sl 8 L) p R | 29, 2 => .res (bool false) | 30, 2 => .res (int (x0 / 4096 : Nat)) | 30, 5 => .res (int k) | 30, 6 => .res (.agg [u32 y.slot, u32 y.n, u8 y.b, u8 y.kind, u8 y.node, u8 y.life, u32 y.ep, u32 y.rq]) | 31, 7 => acHd 3 4 5 6 7 (int 0) d2' l2 x2 | 31, 11 => .res (int (x0 / 2048 : Nat)) | 31, 12 => .res (int (x0 / 2048 % 8 : Nat)) | 31, 13 => .res (bool false) | 32, 2 => .res (int ((o : Int) + 1)) | 32, 3 => .res (u8 ((o : Int) + 1)) | 32, 8 => pmF pb (.tup [.agg [u8 c.k, u8 c.d, u8 c.l, u32 c.e, u32 c.q], bool false]) p2 R | 22, 1 => .res (int (i + 1 : Nat)) | _, _ => .no
  exact run_sound ⟨HH, [((2, 21), ([1,5,8,9,16,17,18], 12))], fun  | _ => none⟩ 400 (by kernel_rfl) (Ya pe (fun (Z0 : PM × Glb) => (fun (Z1 : X12.Left p Z0.fst Z0.snd ∧ ∀ (c : Nat), Option.isSome (Z0.snd c) = true → R c = none) => (Ya d1 (Ya c12 (Ya (show ¬(↑(List.length L) : Int) = (0 : Int) by omega) (Ya d2 (Ya (show (0 : Int) ≤ (↑k : Int) by omega) (Ya hat (fun (Z2 : Nat) => (Yk 8 Z2 (Yb Z2 (Yb Z2 (Yb Z2 (Ya ac (fun (Z3 : Value × Array MapEntry × Nat) => (fun (Z4 : True) => (Ya c11 (Ya d4 (Ya d5 (Ya d6 (Ya d7 (Yb Z2 (Yb Z2 (Ya (ad Z0.fst Z0.snd Z1.1 Z1.2) (fun (Z5 : PM × Glb) => (fun (Z6 : X12.Left p2 Z5.fst Z5.snd ∧ ∀ (c : Nat), Option.isSome (Z5.snd c) = true → R c = none) => (fun (Z7 : Nat) => (Yk 5 Z7 (Ya hw (nx Z2 Z7 Z5.fst Z5.snd Z3.fst Z3.snd.fst Z3.snd.snd Z6.1 Z6.2)))))))))))))))))))))))))))))))
theorem g_dec0 (x0 o k : Nat) (ho : o < 5) (hx0 : x0 < 65536) (hi : i < 300) (L : List T) (hL : 0 < L.length) (hL2 : L.length ≤ 16) (hk : x0 / 4096 % L.length = k) (y : En) (hat : L[((k : Nat) : Int).toNat]? = some (.agg [u32 y.slot, u32 y.n, u8 y.b, u8 y.kind, u8 y.node, u8 y.life, u32 y.ep, u32 y.rq])) (pe : TCalls Tryz.prog 15 [.ptr 0 pb 0] (s.obs pb) (joinG g R) (callPost (pmF pb (.sl 8 L) p R))) (hv : x0 / 2048 % 8 ≠ 0) (l2 : List (List UInt8)) (x2 : AS) (ac : TCalls Tryz.prog 18 [.ptr 3 ab 0, .agg [u32 y.n, u8 y.b], u32 y.slot, .agg [u8 y.kind, u8 y.node, u8 y.life, u32 y.ep, u32 y.rq]] (obsA db jb ab mb (Jrn.jd l) l hd false x es ck) none_ (callPost (acPd db jb ab mb (int 0) (Jrn.jd l2) l2 x2))) (c : X12.Cmd) (p2 : PP) (ad : ∀ s g, X12.Left p s g → Dj g R → TCalls Tryz.prog 19 [.ptr 0 pb 0, u8 ((o : Int) + 1), .agg [u32 y.n, u8 y.b], u32 y.slot] (s.obs pb) (joinG g R) (callPost (pmF pb (.tup [.agg (cmdC c), bool true]) p2 R))) (hD : D (y.slot : Int) = none)
    (nx : ∀ esd ckd hd es ck, ∀ s g, X12.Left p2 s g → Dj g R → wPgD1 Γ Q [kPgD0 [1,1,1,1,1,1,1,1,1,0,1,0], .blk 2, kPgD0 [1,1,1,1,1,1,1,1,1,1]] ⟨frame 233 [(1, .sl 1 E), (5, int n), (8, .sl 1 AL), (9, .sl 1 PL), (16, .mp 8 dm), (17, u32 top), (18, int (i + 1 : Nat))], s.obs pb ++ ((obsA db jb ab mb (Jrn.jd l2) l2 hd false x2 es ck).map (ixOb fun k => [3,4,5,6,7].getD k 0) ++ [(dm, .map .u32 (updT D (y.slot : Int) (.agg (cmdC c))) esd ckd)]), joinG g R⟩) : wPgD1 Γ Q [kPgD0 [1,1,1,1,1,1,1,1,1,0,1,0,0,1,0,0,1,1,1,1,1,0,1,1,1,1,1,1], .blk 4, .blk 3, kPgD0 [1,1,1,1,1,1,1,1,1,0,1,0,0,1,1], kPgD0 [1,1,1,1,1,1,1,1,1,0,1,0], .blk 2, kPgD0 [1,1,1,1,1,1,1,1,1,1]] ⟨frame 233 [(1, .sl 1 E), (5, int n), (8, .sl 1 AL), (9, .sl 1 PL), (16, .mp 8 dm), (17, u32 top), (18, int i), (19, int x0), (21, int o), (22, .ptr 0 pb 0), (23, .ptr 6 ab 0)], s.obs pb ++ ((obsA db jb ab mb (Jrn.jd l) l hd false x es ck).map (ixOb fun k => [3,4,5,6,7].getD k 0) ++ [(dm, .map .u32 D esd ckd), (b25, .cells [u32 p.x.n, u8 p.x.b])]), joinG g R⟩ := by
  have nx := fun (b30 b31 b33 : Nat) esd ckd s g hd es ck h1 h2 => TWk.imp (s := ⟨frame 233 [(1, .sl 1 E), (5, int n), (8, .sl 1 AL), (9, .sl 1 PL), (16, .mp 8 dm), (17, u32 top), (18, int (i + 1 : Nat))], s.obs pb ++ ((obsA db jb ab mb (Jrn.jd l2) l2 hd false x2 es ck).map (ixOb fun k => [3,4,5,6,7].getD k 0) ++ [(dm, .map .u32 (updT D (y.slot : Int) (.agg (cmdC c))) esd ckd), (b25, .cells [u32 p.x.n, u8 p.x.b]), (b30, .cells [u32 y.slot, u32 y.n, u8 y.b, u8 y.kind, u8 y.node, u8 y.life, u32 y.ep, u32 y.rq]), (b31, .cells (cmdC c)), (b33, .cells [u8 0, u8 0, u8 0, u32 0, u32 0])]), joinG g R⟩) (nx esd ckd hd es ck s g h1 h2) (Imp.take 9)
  have hw : T.v (.int .i64 (IntKind.wrap .i64 ((i : Int) + 1))) = int (i + 1 : Nat) := congrArg int (by rw [wrap_i64 (by omega) (by omega)]; omega)
  have d1 : T.v (.bool ((L.length : Int) == 0)) = bool false := congrArg bool (beq_eq_false_iff_ne.2 (by omega))
  have c12 : T.v (.int .i64 ((x0 : Int).fdiv (2 ^ min (12 : Int).toNat (IntKind.bits .i64)))) = int (x0 / 4096 : Nat) := congrArg int (by show (x0 : Int).fdiv 4096 = _; rw [Int.fdiv_eq_ediv_of_nonneg _ (by omega)]; omega)
  have d2 : T.v (.int .i64 (((x0 / 4096 : Nat) : Int).tmod (L.length : Int))) = int k := congrArg int (by rw [Int.tmod_eq_emod_of_nonneg (by omega)]; rw [← Int.natCast_emod, hk])
  have c11 : T.v (.int .i64 ((x0 : Int).fdiv (2 ^ min (11 : Int).toNat (IntKind.bits .i64)))) = int (x0 / 2048 : Nat) := congrArg int (by show (x0 : Int).fdiv 2048 = _; rw [Int.fdiv_eq_ediv_of_nonneg _ (by omega)]; omega)
  have d4 : T.v (.int .i64 (IntKind.wrap .i64 ((BitVec.ofInt 64 ((x0 / 2048 : Nat) : Int) &&& BitVec.ofInt 64 7).toNat : Int))) = int (x0 / 2048 % 8 : Nat) := congrArg int (by have e := and_low (x0 / 2048) 3 (by omega) (by omega); rw [show ((2 ^ 3 - 1 : Nat) : Int) = 7 from rfl] at e; rw [e, wrap_i64 (by omega) (by omega)])
  have d5 : T.v (.bool (((x0 / 2048 % 8 : Nat) : Int) == 0)) = bool false := congrArg bool (beq_eq_false_iff_ne.2 (by omega))
  have d6 : T.v (.int .i64 (IntKind.wrap .i64 ((o : Int) + 1))) = int ((o : Int) + 1) := congrArg int (by rw [wrap_i64 (by omega) (by omega)])
  have d7 : T.v (.int .u8 (IntKind.wrap .u8 ((o : Int) + 1))) = u8 ((o : Int) + 1) := congrArg u8 (by rw [IntWalk.u8_in _ (by omega)])
  generalize Jrn.jd l2 = d2' at *
  generalize Jrn.jd l = d0 at *
  let HH : Nat → Nat → Hint := fun | 28, 1 => pmF pb (.sl 8 L) p R | 29, 2 => .res (bool false) | 30, 2 => .res (int (x0 / 4096 : Nat)) | 30, 5 => .res (int k) | 30, 6 => .res (.agg [u32 y.slot, u32 y.n, u8 y.b, u8 y.kind, u8 y.node, u8 y.life, u32 y.ep, u32 y.rq]) | 31, 7 => acHd 3 4 5 6 7 (int 0) d2' l2 x2 | 31, 11 => .res (int (x0 / 2048 : Nat)) | 31, 12 => .res (int (x0 / 2048 % 8 : Nat)) | 31, 13 => .res (bool false) | 32, 2 => .res (int ((o : Int) + 1)) | 32, 3 => .res (u8 ((o : Int) + 1)) | 32, 8 => pmF pb (.tup [.agg [u8 c.k, u8 c.d, u8 c.l, u32 c.e, u32 c.q], bool true]) p2 R | 22, 1 => .res (int (i + 1 : Nat)) | 34, 3 => .res (.tup [.agg [u8 0, u8 0, u8 0, u32 0, u32 0], bool false]) | 37, 4 => .fn (updT D (y.slot : Int) (.agg (cmdC c))) | _, _ => .no
  exact run_sound ⟨HH, [((2, 21), ([1,5,8,9,16,17,18], 13))], fun  | _ => none⟩ 400 (by kernel_rfl) (Ya pe (fun (Z0 : PM × Glb) => (fun (Z1 : X12.Left p Z0.fst Z0.snd ∧ ∀ (c : Nat), Option.isSome (Z0.snd c) = true → R c = none) => (Ya d1 (Ya c12 (Ya (show ¬(↑(List.length L) : Int) = (0 : Int) by omega) (Ya d2 (Ya (show (0 : Int) ≤ (↑k : Int) by omega) (Ya hat (fun (Z2 : Nat) => (Yk 8 Z2 (Yb Z2 (Yb Z2 (Yb Z2 (Ya ac (fun (Z3 : Value × Array MapEntry × Nat) => (fun (Z4 : True) => (Ya c11 (Ya d4 (Ya d5 (Ya d6 (Ya d7 (Yb Z2 (Yb Z2 (Ya (ad Z0.fst Z0.snd Z1.1 Z1.2) (fun (Z5 : PM × Glb) => (fun (Z6 : X12.Left p2 Z5.fst Z5.snd ∧ ∀ (c : Nat), Option.isSome (Z5.snd c) = true → R c = none) => (fun (Z7 : Nat) => (Yk 5 Z7 (Yb Z2 (Yb dm (Ya (show some (T.tup [Option.getD (D (↑y.slot : Int)) (T.agg (List.map T.v #[Value.int IntKind.u8 (0 : Int), Value.int IntKind.u8 (0 : Int), Value.int IntKind.u8 (0 : Int), Value.int IntKind.u32 (0 : Int), Value.int IntKind.u32 (0 : Int)].toList)), bool (Option.isSome (D (↑y.slot : Int)))]) = some (T.tup [T.agg [u8 (0 : Int), u8 (0 : Int), u8 (0 : Int), u32 (0 : Int), u32 (0 : Int)], bool false]) by rw [hD]; rfl) (fun (Z8 : Nat) => (Yk 5 Z8 (Yb Z2 (Yb Z7 (Yb dm (Ya (fun (Z9 : Int) => (Ye (updT D (↑y.slot : Int) (T.agg (cmdC c)) Z9))) (fun (Z10 : Array MapEntry) => (fun (Z11 : Nat) => (fun (Z12 : (∃ x, x ∈ esd.toList ∧ x.key = Value.int IntKind.u32 (↑y.slot : Int)) → Z11 = ckd ∧ ∀ (y : Value) (n : Nat), (∃ x, x ∈ Z10.toList ∧ x.key = y ∧ x.born = n) ↔ ∃ x, x ∈ esd.toList ∧ x.key = y ∧ x.born = n) => (Ya hw (nx Z2 Z7 Z8 Z10 Z11 Z5.fst Z5.snd Z3.fst Z3.snd.fst Z3.snd.snd Z6.1 Z6.2)))))))))))))))))))))))))))))))))))))))))))
theorem g_dec1 (x0 o k : Nat) (ho : o < 5) (hx0 : x0 < 65536) (hi : i < 300) (L : List T) (hL : 0 < L.length) (hL2 : L.length ≤ 16) (hk : x0 / 4096 % L.length = k) (y : En) (hat : L[((k : Nat) : Int).toNat]? = some (.agg [u32 y.slot, u32 y.n, u8 y.b, u8 y.kind, u8 y.node, u8 y.life, u32 y.ep, u32 y.rq])) (pe : TCalls Tryz.prog 15 [.ptr 0 pb 0] (s.obs pb) (joinG g R) (callPost (pmF pb (.sl 8 L) p R))) (hv : x0 / 2048 % 8 ≠ 0) (l2 : List (List UInt8)) (x2 : AS) (ac : TCalls Tryz.prog 18 [.ptr 3 ab 0, .agg [u32 y.n, u8 y.b], u32 y.slot, .agg [u8 y.kind, u8 y.node, u8 y.life, u32 y.ep, u32 y.rq]] (obsA db jb ab mb (Jrn.jd l) l hd false x es ck) none_ (callPost (acPd db jb ab mb (int 0) (Jrn.jd l2) l2 x2))) (c : X12.Cmd) (p2 : PP) (ad : ∀ s g, X12.Left p s g → Dj g R → TCalls Tryz.prog 19 [.ptr 0 pb 0, u8 ((o : Int) + 1), .agg [u32 y.n, u8 y.b], u32 y.slot] (s.obs pb) (joinG g R) (callPost (pmF pb (.tup [.agg (cmdC c), bool true]) p2 R))) (hD : D (y.slot : Int) = some (.agg (cmdC c)))
    (nx : ∀ esd ckd hd es ck, ∀ s g, X12.Left p2 s g → Dj g R → wPgD1 Γ Q [kPgD0 [1,1,1,1,1,1,1,1,1,0,1,0], .blk 2, kPgD0 [1,1,1,1,1,1,1,1,1,1]] ⟨frame 233 [(1, .sl 1 E), (5, int n), (8, .sl 1 AL), (9, .sl 1 PL), (16, .mp 8 dm), (17, u32 top), (18, int (i + 1 : Nat))], s.obs pb ++ ((obsA db jb ab mb (Jrn.jd l2) l2 hd false x2 es ck).map (ixOb fun k => [3,4,5,6,7].getD k 0) ++ [(dm, .map .u32 (updT D (y.slot : Int) (.agg (cmdC c))) esd ckd)]), joinG g R⟩) : wPgD1 Γ Q [kPgD0 [1,1,1,1,1,1,1,1,1,0,1,0,0,1,0,0,1,1,1,1,1,0,1,1,1,1,1,1], .blk 4, .blk 3, kPgD0 [1,1,1,1,1,1,1,1,1,0,1,0,0,1,1], kPgD0 [1,1,1,1,1,1,1,1,1,0,1,0], .blk 2, kPgD0 [1,1,1,1,1,1,1,1,1,1]] ⟨frame 233 [(1, .sl 1 E), (5, int n), (8, .sl 1 AL), (9, .sl 1 PL), (16, .mp 8 dm), (17, u32 top), (18, int i), (19, int x0), (21, int o), (22, .ptr 0 pb 0), (23, .ptr 6 ab 0)], s.obs pb ++ ((obsA db jb ab mb (Jrn.jd l) l hd false x es ck).map (ixOb fun k => [3,4,5,6,7].getD k 0) ++ [(dm, .map .u32 D esd ckd), (b25, .cells [u32 p.x.n, u8 p.x.b])]), joinG g R⟩ := by
  have nx := fun (b30 b31 b33 : Nat) esd ckd s g hd es ck h1 h2 => TWk.imp (s := ⟨frame 233 [(1, .sl 1 E), (5, int n), (8, .sl 1 AL), (9, .sl 1 PL), (16, .mp 8 dm), (17, u32 top), (18, int (i + 1 : Nat))], s.obs pb ++ ((obsA db jb ab mb (Jrn.jd l2) l2 hd false x2 es ck).map (ixOb fun k => [3,4,5,6,7].getD k 0) ++ [(dm, .map .u32 (updT D (y.slot : Int) (.agg (cmdC c))) esd ckd), (b25, .cells [u32 p.x.n, u8 p.x.b]), (b30, .cells [u32 y.slot, u32 y.n, u8 y.b, u8 y.kind, u8 y.node, u8 y.life, u32 y.ep, u32 y.rq]), (b31, .cells (cmdC c)), (b33, .cells [u8 c.k, u8 c.d, u8 c.l, u32 c.e, u32 c.q])]), joinG g R⟩) (nx esd ckd hd es ck s g h1 h2) (Imp.take 9)
  have hw : T.v (.int .i64 (IntKind.wrap .i64 ((i : Int) + 1))) = int (i + 1 : Nat) := congrArg int (by rw [wrap_i64 (by omega) (by omega)]; omega)
  have d1 : T.v (.bool ((L.length : Int) == 0)) = bool false := congrArg bool (beq_eq_false_iff_ne.2 (by omega))
  have c12 : T.v (.int .i64 ((x0 : Int).fdiv (2 ^ min (12 : Int).toNat (IntKind.bits .i64)))) = int (x0 / 4096 : Nat) := congrArg int (by show (x0 : Int).fdiv 4096 = _; rw [Int.fdiv_eq_ediv_of_nonneg _ (by omega)]; omega)
  have d2 : T.v (.int .i64 (((x0 / 4096 : Nat) : Int).tmod (L.length : Int))) = int k := congrArg int (by rw [Int.tmod_eq_emod_of_nonneg (by omega)]; rw [← Int.natCast_emod, hk])
  have c11 : T.v (.int .i64 ((x0 : Int).fdiv (2 ^ min (11 : Int).toNat (IntKind.bits .i64)))) = int (x0 / 2048 : Nat) := congrArg int (by show (x0 : Int).fdiv 2048 = _; rw [Int.fdiv_eq_ediv_of_nonneg _ (by omega)]; omega)
  have d4 : T.v (.int .i64 (IntKind.wrap .i64 ((BitVec.ofInt 64 ((x0 / 2048 : Nat) : Int) &&& BitVec.ofInt 64 7).toNat : Int))) = int (x0 / 2048 % 8 : Nat) := congrArg int (by have e := and_low (x0 / 2048) 3 (by omega) (by omega); rw [show ((2 ^ 3 - 1 : Nat) : Int) = 7 from rfl] at e; rw [e, wrap_i64 (by omega) (by omega)])
  have d5 : T.v (.bool (((x0 / 2048 % 8 : Nat) : Int) == 0)) = bool false := congrArg bool (beq_eq_false_iff_ne.2 (by omega))
  have d6 : T.v (.int .i64 (IntKind.wrap .i64 ((o : Int) + 1))) = int ((o : Int) + 1) := congrArg int (by rw [wrap_i64 (by omega) (by omega)])
  have d7 : T.v (.int .u8 (IntKind.wrap .u8 ((o : Int) + 1))) = u8 ((o : Int) + 1) := congrArg u8 (by rw [IntWalk.u8_in _ (by omega)])
  generalize Jrn.jd l2 = d2' at *
  generalize Jrn.jd l = d0 at *
  let HH : Nat → Nat → Hint := fun | 28, 1 => pmF pb (.sl 8 L) p R | 29, 2 => .res (bool false) | 30, 2 => .res (int (x0 / 4096 : Nat)) | 30, 5 => .res (int k) | 30, 6 => .res (.agg [u32 y.slot, u32 y.n, u8 y.b, u8 y.kind, u8 y.node, u8 y.life, u32 y.ep, u32 y.rq]) | 31, 7 => acHd 3 4 5 6 7 (int 0) d2' l2 x2 | 31, 11 => .res (int (x0 / 2048 : Nat)) | 31, 12 => .res (int (x0 / 2048 % 8 : Nat)) | 31, 13 => .res (bool false) | 32, 2 => .res (int ((o : Int) + 1)) | 32, 3 => .res (u8 ((o : Int) + 1)) | 32, 8 => pmF pb (.tup [.agg [u8 c.k, u8 c.d, u8 c.l, u32 c.e, u32 c.q], bool true]) p2 R | 22, 1 => .res (int (i + 1 : Nat)) | 34, 3 => .res (.tup [.agg [u8 c.k, u8 c.d, u8 c.l, u32 c.e, u32 c.q], bool true]) | 35, 4 => .res (bool false) | 37, 4 => .fn (updT D (y.slot : Int) (.agg (cmdC c))) | _, _ => .no
  exact run_sound ⟨HH, [((2, 21), ([1,5,8,9,16,17,18], 13))], fun  | _ => none⟩ 400 (by kernel_rfl) (Ya pe (fun (Z0 : PM × Glb) => (fun (Z1 : X12.Left p Z0.fst Z0.snd ∧ ∀ (c : Nat), Option.isSome (Z0.snd c) = true → R c = none) => (Ya d1 (Ya c12 (Ya (show ¬(↑(List.length L) : Int) = (0 : Int) by omega) (Ya d2 (Ya (show (0 : Int) ≤ (↑k : Int) by omega) (Ya hat (fun (Z2 : Nat) => (Yk 8 Z2 (Yb Z2 (Yb Z2 (Yb Z2 (Ya ac (fun (Z3 : Value × Array MapEntry × Nat) => (fun (Z4 : True) => (Ya c11 (Ya d4 (Ya d5 (Ya d6 (Ya d7 (Yb Z2 (Yb Z2 (Ya (ad Z0.fst Z0.snd Z1.1 Z1.2) (fun (Z5 : PM × Glb) => (fun (Z6 : X12.Left p2 Z5.fst Z5.snd ∧ ∀ (c : Nat), Option.isSome (Z5.snd c) = true → R c = none) => (fun (Z7 : Nat) => (Yk 5 Z7 (Yb Z2 (Yb dm (Ya (show some (T.tup [Option.getD (D (↑y.slot : Int)) (T.agg (List.map T.v #[Value.int IntKind.u8 (0 : Int), Value.int IntKind.u8 (0 : Int), Value.int IntKind.u8 (0 : Int), Value.int IntKind.u32 (0 : Int), Value.int IntKind.u32 (0 : Int)].toList)), bool (Option.isSome (D (↑y.slot : Int)))]) = some (T.tup [T.agg [u8 c.k, u8 c.d, u8 c.l, u32 c.e, u32 c.q], bool true]) by rw [hD]; rfl) (fun (Z8 : Nat) => (Yk 5 Z8 (Yb Z8 (Yb Z7 (Ya (show bool (!(c.k == c.k && (c.d == c.d && (c.l == c.l && (c.e == c.e && (c.q == c.q && true)))))) = bool false from congrArg bool (by simp)) (Yb Z2 (Yb Z7 (Yb dm (Ya (fun (Z9 : Int) => (Ye (updT D (↑y.slot : Int) (T.agg (cmdC c)) Z9))) (fun (Z10 : Array MapEntry) => (fun (Z11 : Nat) => (fun (Z12 : (∃ x, x ∈ esd.toList ∧ x.key = Value.int IntKind.u32 (↑y.slot : Int)) → Z11 = ckd ∧ ∀ (y : Value) (n : Nat), (∃ x, x ∈ Z10.toList ∧ x.key = y ∧ x.born = n) ↔ ∃ x, x ∈ esd.toList ∧ x.key = y ∧ x.born = n) => (Ya hw (nx Z2 Z7 Z8 Z10 Z11 Z5.fst Z5.snd Z3.fst Z3.snd.fst Z3.snd.snd Z6.1 Z6.2))))))))))))))))))))))))))))))))))))))))))))))
end
end X11
end Go.Proofs.YtcmcmafeaabjmaaGreat.Vm
namespace Go.Proofs.YtcmcmafeaabjmaaGreat.Vm
open Go Go.RowKit
namespace X11
open Acp (En AS Rc blw VOk IsE XOk)
open Jrn (Dk)
open X9 (dkC obsK dkH dk_post)
open X10 (strs jC obsJ)
open X12 (PM PP cmdC entC ents)
set_option maxRecDepth 20000 in
theorem enter_imp (pb db jb ab mb dm : Nat) (l : List (List UInt8)) (hd : Value) (x : AS) (es : Array MapEntry) (ck : Nat) (s : PM) (gl : Glb) (D : Int → Option T) (esd : Array MapEntry) (ckd : Nat) (E AL PL : List T) (n i top x0 w o : Nat) :
    Imp (frame 233 [(1, .sl 1 E), (5, int n), (8, .sl 1 AL), (9, .sl 1 PL), (16, .mp 0 dm), (17, u32 top), (18, int i), (19, int x0), (20, int w), (21, int o), (22, .gp pb 0), (23, .gp ab 0)]) ([(dm, .map .u32 D esd ckd)] ++ (obsA db jb ab mb (Jrn.jd l) l hd false x es ck ++ s.obs pb)) gl (frame 233 [(1, .sl 1 E), (5, int n), (8, .sl 1 AL), (9, .sl 1 PL), (16, .mp 8 dm), (17, u32 top), (18, int i), (19, int x0), (20, int w), (21, int o), (22, .ptr 0 pb 0), (23, .ptr 6 ab 0)]) (s.obs pb ++ ((obsA db jb ab mb (Jrn.jd l) l hd false x es ck).map (ixOb fun k => [3, 4, 5, 6, 7].getD k 0) ++ [(dm, .map .u32 D esd ckd)])) gl := by
  refine (Imp.ixP (xs := [(dm, .map .u32 D esd ckd)]) (ys := obsA db jb ab mb (Jrn.jd l) l hd false x es ck) (zs := s.obs pb) fun k => [3, 4, 5, 6, 7].getD k 0).trans ?_
  refine (Imp.sel (ob' := s.obs pb ++ ((obsA db jb ab mb (Jrn.jd l) l hd false x es ck).map (ixOb fun k => [3, 4, 5, 6, 7].getD k 0) ++ [(dm, .map .u32 D esd ckd)])) [6, 7, 8, 1, 2, 3, 4, 5, 0] (by decide) rfl).trans ?_
  refine (Imp.slotR (j := 16) (t := .mp 0 dm) (t' := .mp 8 dm) rfl (fun M v r => by simpa only [Rel] using r)).trans ?_
  refine (Imp.slotR (j := 22) (t := .gp pb 0) (t' := .ptr 0 pb 0) rfl (fun M v r => gp_ptr M v r)).trans ?_
  exact Imp.slotR (ts := frame 233 [(1, .sl 1 E), (5, int n), (8, .sl 1 AL), (9, .sl 1 PL), (16, .mp 8 dm), (17, u32 top), (18, int i), (19, int x0), (20, int w), (21, int o), (22, .ptr 0 pb 0), (23, .gp ab 0)]) (j := 23) (t := .gp ab 0) (t' := .ptr 6 ab 0) rfl (fun M v r => gp_ptr M v r)
set_option maxRecDepth 20000 in
theorem leave_imp (pb db jb ab mb dm : Nat) (l : List (List UInt8)) (hd : Value) (x : AS) (es : Array MapEntry) (ck : Nat) (s : PM) (gl : Glb) (D : Int → Option T) (esd : Array MapEntry) (ckd : Nat) (E AL PL : List T) (n i top : Nat) :
    Imp (frame 233 [(1, .sl 1 E), (5, int n), (8, .sl 1 AL), (9, .sl 1 PL), (16, .mp 8 dm), (17, u32 top), (18, int i)]) (s.obs pb ++ ((obsA db jb ab mb (Jrn.jd l) l hd false x es ck).map (ixOb fun k => [3, 4, 5, 6, 7].getD k 0) ++ [(dm, .map .u32 D esd ckd)])) gl (frame 233 [(1, .sl 1 E), (5, int n), (8, .sl 1 AL), (9, .sl 1 PL), (16, .mp 0 dm), (17, u32 top), (18, int i)]) ([(dm, .map .u32 D esd ckd)] ++ (obsA db jb ab mb (Jrn.jd l) l hd false x es ck ++ s.obs pb)) gl := by
  refine (Imp.sel (ob' := [(dm, .map .u32 D esd ckd)] ++ ((obsA db jb ab mb (Jrn.jd l) l hd false x es ck).map (ixOb fun k => [3, 4, 5, 6, 7].getD k 0) ++ s.obs pb)) [8, 3, 4, 5, 6, 7, 0, 1, 2] (by decide) rfl).trans ?_
  refine (Imp.ixP (xs := [(dm, .map .u32 D esd ckd)]) (ys := (obsA db jb ab mb (Jrn.jd l) l hd false x es ck).map (ixOb fun k => [3, 4, 5, 6, 7].getD k 0)) (zs := s.obs pb) fun k => [0, 0, 0, 0, 1, 2, 3, 4].getD k 0).trans ?_
  rw [show ((obsA db jb ab mb (Jrn.jd l) l hd false x es ck).map (ixOb fun k => [3, 4, 5, 6, 7].getD k 0)).map (ixOb fun k => [0, 0, 0, 0, 1, 2, 3, 4].getD k 0) = obsA db jb ab mb (Jrn.jd l) l hd false x es ck from rfl]
  exact Imp.slotR (ts := frame 233 [(1, .sl 1 E), (5, int n), (8, .sl 1 AL), (9, .sl 1 PL), (16, .mp 8 dm), (17, u32 top), (18, int i)]) (j := 16) (t := .mp 8 dm) (t' := .mp 0 dm) rfl (fun M v r => by simpa only [Rel] using r)
theorem promise_to (x : AS) (n b : Nat) (h : blw n b x.pn x.pb = false) : (Acp.promise x n b).pn = n ∧ (Acp.promise x n b).pb = b := by
  unfold Acp.promise
  split
  · exact ⟨rfl, rfl⟩
  · rename_i h2
    unfold blw at h h2
    simp only [decide_eq_true_eq, decide_eq_false_iff_not] at h h2
    constructor <;> omega
theorem ents_ex {x : AS} (h : XOk x) : ∃ L, IsE x.E 0 L := by
  refine ⟨(List.range 16).filterMap fun i => x.E (x.low + i), ?_, fun y => ?_⟩
  · unfold Acp.Srt
    rw [List.pairwise_filterMap]
    refine List.pairwise_lt_range.imp ?_
    intro a b hab y hy z hz
    have := (h.E _ _ hy).1
    have := (h.E _ _ hz).1
    omega
  · rw [List.mem_filterMap]
    constructor
    · rintro ⟨i, hi, hy⟩
      have := (h.E _ _ hy).1
      rw [this]
      exact ⟨hy, Nat.zero_le _⟩
    · rintro ⟨h1, _⟩
      obtain ⟨_, a, b, _⟩ := h.E _ _ h1
      refine ⟨y.slot - x.low, List.mem_range.2 (by omega), ?_⟩
      rw [show x.low + (y.slot - x.low) = y.slot by omega]
      exact h1
def decT (f : Int → Option X12.Cmd) : Int → Option T := fun z => (f z).map fun c => .agg (cmdC c)
theorem decT_upd (f : Int → Option X12.Cmd) (s : Int) (c : X12.Cmd) : decT (fun z => if z = s then some c else f z) = updT (decT f) s (.agg (cmdC c)) := by
  funext z
  show (if z = s then some c else f z).map (fun c => T.agg (cmdC c)) = if z = s then some (T.agg (cmdC c)) else (f z).map fun c => T.agg (cmdC c)
  split <;> rfl
def aL (n : Nat) (B : Nat → Nat) : List T := (List.range n).map fun j => .gp (B j) 0
theorem aL_len (n : Nat) (B : Nat → Nat) : (aL n B).length = n := by simp [aL]
theorem aL_at {n : Nat} (B : Nat → Nat) {j : Nat} (h : j < n) : (aL n B)[((j : Nat) : Int).toNat]? = some (.gp (B j) 0) := by
  rw [Int.toNat_natCast]
  unfold aL
  rw [List.getElem?_map, List.getElem?_range h]; rfl
def xs (A0 : List Nat) : List T := A0.map fun z : Nat => T.v (.int .u16 z)
theorem xs_len (A0 : List Nat) : (xs A0).length = A0.length := by simp [xs]
theorem xs_at {A0 : List Nat} {i : Nat} (h : i < A0.length) : (xs A0)[((i : Nat) : Int).toNat]? = some (.v (.int .u16 (A0[i] : Nat))) := by
  rw [Int.toNat_natCast]
  unfold xs
  rw [List.getElem?_map, List.getElem?_eq_getElem h]; rfl
theorem enC_ents (L : List En) : Row.aggs enC L = ents (L.map Pg.toEnt) := by
  unfold Row.aggs ents
  rw [List.map_map]; rfl
theorem upd_self {α : Type} (f : Nat → α) (i : Nat) : Pg.upd f i (f i) = f := by
  funext k
  unfold Pg.upd
  split
  · rename_i e; rw [e]
  · rfl
theorem cmdOf_ok (m : Nat) (h : m < 65536) : Pg.CmdOk (X12.cmdOf (m : Int)) := by
  have hb : ∀ z : Int, 0 ≤ IntKind.wrap .u8 z ∧ IntKind.wrap .u8 z < 256 := fun z => by rw [IntKind.wrap_u8]; omega
  have h1 := hb (m : Int)
  have h2 := hb ((m : Int) / 256)
  exact ⟨h1, h2, (by decide : (0 : Int) ≤ 0 ∧ (0 : Int) < 256), by show 0 ≤ (m : Int) ∧ (m : Int) < _; omega, (by decide : (0 : Int) ≤ 0 ∧ (0 : Int) < 4294967296)⟩
section
variable (Γ : Ctx) (Q : T → Obs → Glb → Prop) (dm n i : Nat) (A0 : List Nat) (B C : Nat → Nat)
set_option maxRecDepth 20000 in
theorem g_back (w o : Nat) (A : Nat → AS) (P : Nat → PP) (db jb mb : Nat) (R : Glb) (l' : List (List UInt8)) (hd' : Value) (x' : AS) (es' : Array MapEntry) (ck' : Nat) (s' : PM) (g' : Glb) (p' : PP) (dec : Int → Option X12.Cmd) (esd : Array MapEntry) (ckd top : Nat) (gh : Pg.Gh)
    (back : ∀ ts dm, Apart ([dm] ++ (obsA db jb (B o) mb (Jrn.jd l') l' hd' false x' es' ck' ++ s'.obs (C w))) (joinG g' R) → Rooms ([dm] ++ (obsA db jb (B o) mb (Jrn.jd l') l' hd' false x' es' ck' ++ s'.obs (C w))) →
        ∃ gl', Lots n (i + 1) (Pg.upd A o x') B (Pg.upd P w p') C gl' ∧ Imp ts ([dm] ++ (obsA db jb (B o) mb (Jrn.jd l') l' hd' false x' es' ck' ++ s'.obs (C w))) (joinG g' R) ts [dm] gl')
    (hinv : Pg.Inv n top gh (Pg.upd A o x') (Pg.upd P w p') dec) (htop : top ≤ i + 1)
    (nx : ∀ (gl : Glb) (gh : Pg.Gh) (A : Nat → AS) (P : Nat → PP) (dec : Int → Option X12.Cmd) (esd : Array MapEntry) (ckd : Nat) (top : Nat), Lots n (i + 1) A B P C gl → Pg.Inv n top gh A P dec → top ≤ i + 1 → TWk Tryz.prog Γ (fin Tryz.prog Tryz.f3 [] Q) [.code (sub (bd Tryz.f3) [1, 1, 1, 1, 1, 1, 1, 1, 1, 0, 1, 0]), .blk 2, .code (sub (bd Tryz.f3) [1, 1, 1, 1, 1, 1, 1, 1, 1, 1])] ⟨frame 233 [(1, .sl 1 (xs A0)), (5, int n), (8, .sl 1 (aL n B)), (9, .sl 1 (aL n C)), (16, .mp 0 dm), (17, u32 top), (18, int (i + 1 : Nat))], [(dm, .map .u32 (decT dec) esd ckd)], gl⟩) : TWk Tryz.prog Γ (fin Tryz.prog Tryz.f3 [] Q) [.code (sub (bd Tryz.f3) [1, 1, 1, 1, 1, 1, 1, 1, 1, 0, 1, 0]), .blk 2, .code (sub (bd Tryz.f3) [1, 1, 1, 1, 1, 1, 1, 1, 1, 1])] ⟨frame 233 [(1, .sl 1 (xs A0)), (5, int n), (8, .sl 1 (aL n B)), (9, .sl 1 (aL n C)), (16, .mp 8 dm), (17, u32 top), (18, int (i + 1 : Nat))], s'.obs (C w) ++ ((obsA db jb (B o) mb (Jrn.jd l') l' hd' false x' es' ck').map (ixOb fun k => [3, 4, 5, 6, 7].getD k 0) ++ [(dm, .map .u32 (decT dec) esd ckd)]), joinG g' R⟩ := by
  refine TWk.imp (s' := ⟨_, _, _⟩) ?_ (leave_imp (C w) db jb (B o) mb dm l' hd' x' es' ck' s' (joinG g' R) (decT dec) esd ckd (xs A0) (aL n B) (aL n C) n (i + 1) top)
  refine TWk.fine fun ha hr => ?_
  obtain ⟨gl', h1, h2⟩ := back (frame 233 [(1, .sl 1 (xs A0)), (5, int n), (8, .sl 1 (aL n B)), (9, .sl 1 (aL n C)), (16, .mp 0 dm), (17, u32 top), (18, int (i + 1 : Nat))]) _ ha hr
  exact TWk.imp (nx gl' gh _ _ dec esd ckd top h1 hinv htop) h2
set_option maxRecDepth 20000 in
theorem g_round (gl : Glb) (gh : Pg.Gh) (A : Nat → AS) (P : Nat → PP) (dec : Int → Option X12.Cmd) (esd : Array MapEntry) (ckd top : Nat) (hL : Lots n i A B P C gl) (hI : Pg.Inv n top gh A P dec) (htop : top ≤ i) (hn : 1 ≤ n) (hn5 : n ≤ 5) (hi : i < A0.length) (h300 : i < 300) (hx : ∀ z ∈ A0, z < 65536)
    (nx : ∀ (gl : Glb) (gh : Pg.Gh) (A : Nat → AS) (P : Nat → PP) (dec : Int → Option X12.Cmd) (esd : Array MapEntry) (ckd : Nat) (top : Nat), Lots n (i + 1) A B P C gl → Pg.Inv n top gh A P dec → top ≤ i + 1 → TWk Tryz.prog Γ (fin Tryz.prog Tryz.f3 [] Q) [.code (sub (bd Tryz.f3) [1, 1, 1, 1, 1, 1, 1, 1, 1, 0, 1, 0]), .blk 2, .code (sub (bd Tryz.f3) [1, 1, 1, 1, 1, 1, 1, 1, 1, 1])] ⟨frame 233 [(1, .sl 1 (xs A0)), (5, int n), (8, .sl 1 (aL n B)), (9, .sl 1 (aL n C)), (16, .mp 0 dm), (17, u32 top), (18, int (i + 1 : Nat))], [(dm, .map .u32 (decT dec) esd ckd)], gl⟩) : TWk Tryz.prog Γ (fin Tryz.prog Tryz.f3 [] Q) [.code (sub (bd Tryz.f3) [1, 1, 1, 1, 1, 1, 1, 1, 1, 0, 1, 0]), .blk 2, .code (sub (bd Tryz.f3) [1, 1, 1, 1, 1, 1, 1, 1, 1, 1])] ⟨frame 233 [(1, .sl 1 (xs A0)), (5, int n), (8, .sl 1 (aL n B)), (9, .sl 1 (aL n C)), (16, .mp 0 dm), (17, u32 top), (18, int i)], [(dm, .map .u32 (decT dec) esd ckd)], gl⟩ := by
  have hx0 : A0[i] < 65536 := hx _ (List.getElem_mem hi)
  have hat := xs_at hi
  generalize A0[i] = x0 at *
  have hw : x0 / 16 % n < n := Nat.mod_lt _ (by omega)
  have ho : x0 / 256 % n < n := Nat.mod_lt _ (by omega)
  refine g_front (C (x0 / 16 % n)) (B (x0 / 256 % n)) dm (decT dec) esd ckd Γ Q (xs A0) (aL n B) (aL n C) n i top gl (x0 / 16 % n) (x0 / 256 % n) hn hn5 (by rw [xs_len]; exact hi) h300 x0 hx0 hat rfl rfl (aL_at B ho) (aL_at C hw) ?_
  generalize x0 / 16 % n = w at *
  generalize x0 / 256 % n = o at *
  obtain ⟨db, jb, mb, l, hd, es, ck, s, g, R, hlo, hls, hdj, himp, hback⟩ := hL.out ho hw
  refine TWk.imp (s' := ⟨_, _, _⟩) ?_ ((himp _ _).trans (enter_imp (C w) db jb (B o) mb dm l hd (A o) es ck s (joinG g R) (decT dec) esd ckd (xs A0) (aL n B) (aL n C) n i top x0 w o))
  have hp := hI.p w hw
  have ha := hI.a o ho
  have hpk := hp.ok
  refine g_phase (C w) db jb (B o) mb dm l hd (A o) es ck s g R (P w) (decT dec) esd ckd Γ Q (xs A0) (aL n B) (aL n C) n i top x0 w o (x0 % 16) rfl hx0 (frame_pm (X12.phase_h hls hpk) hdj) ?_
  clear hls hdj
  intro s g b25 hls hdj
  have h16 : x0 % 16 < 16 := Nat.mod_lt _ (by decide)
  have bk := fun l' hd' x' es' ck' s' g' p' h1 h2 h3 => g_back Γ Q dm n i A0 B C w o A P db jb mb R l' hd' x' es' ck' s' g' p' (back := hback l' hd' x' es' ck' s' g' p' h1 h2 h3)
  have hsame : Pg.Inv n top gh (Pg.upd A o (A o)) (Pg.upd P w (P w)) dec := by rw [upd_self, upd_self]; exact hI
  by_cases k0 : x0 % 16 = 0
  · -- a ballot begins
    refine k_start (C w) db jb (B o) mb dm b25 l hd (A o) es ck s g R (P w) (decT dec) esd ckd Γ Q (xs A0) (aL n B) (aL n C) n i top x0 w o _ k0 ?_
    refine g_start (C w) db jb (B o) mb dm b25 l hd (A o) es ck s g R (P w) (decT dec) esd ckd Γ Q (xs A0) (aL n B) (aL n C) n i top x0 w o (by omega) h300 (by omega) _ (frame_pm (X12.start_h (b := C w) hls ((top + 1 : Nat) : Int) ((w : Int) + 1) 0) hdj) ?_
    intro s' g' h1 h2
    exact bk l hd (A o) es ck s' g' _ hlo.succ h1 h2 dec esd ckd (top + 1) _ (by rw [upd_self]; exact hI.start hw) (by omega) nx
  by_cases k5 : x0 % 16 ≤ 5
  · -- it asks
    have go : TWk Tryz.prog Γ (fin Tryz.prog Tryz.f3 [] Q) [.code (sub (bd Tryz.f3) [1, 1, 1, 1, 1, 1, 1, 1, 1, 0, 1, 0, 0, 1, 0, 0, 1, 1, 1, 1, 1, 0, 1, 1, 1, 0]), .blk 4, .blk 3, .code (sub (bd Tryz.f3) [1, 1, 1, 1, 1, 1, 1, 1, 1, 0, 1, 0, 0, 1, 1]), .code (sub (bd Tryz.f3) [1, 1, 1, 1, 1, 1, 1, 1, 1, 0, 1, 0]), .blk 2, .code (sub (bd Tryz.f3) [1, 1, 1, 1, 1, 1, 1, 1, 1, 1])] ⟨frame 233 [(1, .sl 1 (xs A0)), (5, int n), (8, .sl 1 (aL n B)), (9, .sl 1 (aL n C)), (16, .mp 8 dm), (17, u32 top), (18, int i), (19, int x0), (21, int o), (22, .ptr 0 (C w) 0), (23, .ptr 6 (B o) 0), (24, int (P w).x.ph), (25, .ptr 9 b25 0)], s.obs (C w) ++ ((obsA db jb (B o) mb (Jrn.jd l) l hd false (A o) es ck).map (ixOb fun k => [3, 4, 5, 6, 7].getD k 0) ++ [(dm, .map .u32 (decT dec) esd ckd), (b25, .cells [u32 (P w).x.n, u8 (P w).x.b])]), joinG g R⟩ := by
      by_cases hph : (P w).x.ph = 1
      · rcases hp.at_ with ⟨h0, _⟩ | ⟨t, t1, t2, hpn, hpb, hown, hask | hl0⟩
        · omega
        · have hbb : (P w).x.b = ((w + 1 : Nat) : Int) := by omega
          rcases prep_z db jb (B o) mb l hd (A o) es ck i (by omega) hlo ha.ok ha.low t (w + 1) (by omega) (by omega) with ⟨_, pr⟩ | ⟨hb, l2, hl2, pr⟩
          · rw [← hpn, ← hbb] at pr
            refine g_askN (C w) db jb (B o) mb dm b25 l hd (A o) es ck s g R (P w) (decT dec) esd ckd Γ Q (xs A0) (aL n B) (aL n C) n i top x0 o h300 hph l (A o) pr ?_
            intro hd es ck
            exact bk l hd (A o) es ck s g (P w) hlo.succ hls hdj dec esd ckd top gh hsame (by omega) nx
          · obtain ⟨L, hLL⟩ := ents_ex ha.ok
            have pr := pr L hLL
            rw [← hpn, ← hbb] at pr
            obtain ⟨hI2, hext⟩ := hI.prepare ho (b := w + 1) t2 (by omega) (by omega)
            obtain ⟨q1, q2⟩ := promise_to (A o) t (w + 1) hb
            by_cases hv : x0 / 4096 % 4 = 0
            · refine g_askL (C w) db jb (B o) mb dm b25 l hd (A o) es ck s g R (P w) (decT dec) esd ckd Γ Q (xs A0) (aL n B) (aL n C) n i top x0 o hx0 hv h300 hph l2 (Acp.promise (A o) t (w + 1)) (Row.aggs enC L) pr ?_
              intro hd es ck
              exact bk l2 hd _ es ck s g (P w) hl2 hls hdj dec esd ckd top gh (by rw [upd_self]; exact hI2) (by omega) nx
            · have hE2 : IsE (Pg.upd A o (Acp.promise (A o) t (w + 1)) o).E 0 L := by rw [Pg.upd_at, (Acp.promise_E (A o) t (w + 1)).1]; exact hLL
              have hask2 : Pg.Ask n gh (Pg.upd A o (Acp.promise (A o) t (w + 1))) t (P w) := hask.ext hext fun _ => rfl
              obtain ⟨gh', hI3⟩ := hI2.promise hw ho hn5 hask2 hpn (by omega) t1 t2 hown (by rw [Pg.upd_at]; exact q1) hE2
              have hlen := ha.ok.len hLL
              have pm := frame_pm (X12.promise_h (b := C w) hls hpk ((o : Int) + 1) t ((w : Int) + 1) (L.map Pg.toEnt) (by omega) (fun e he => by
                obtain ⟨y, hy, rfl⟩ := List.mem_map.1 he
                have := (ha.ok.E _ _ ((hLL.m y).1 hy).1).2.2.2.slot
                exact ⟨Int.natCast_nonneg _, by show (y.slot : Int) < _; omega⟩) (by rw [List.length_map]; omega)) hdj
              rw [← enC_ents, ← hpn, show ((w : Int) + 1) = (P w).x.b from by omega] at pm
              refine g_askP (C w) db jb (B o) mb dm b25 l hd (A o) es ck s g R (P w) (decT dec) esd ckd Γ Q (xs A0) (aL n B) (aL n C) n i top x0 o (by omega) hx0 hv h300 hph l2 (Acp.promise (A o) t (w + 1)) (Row.aggs enC L) _ _ pr pm ?_
              intro hd es ck s' g' h1 h2
              rw [← show ((w : Int) + 1) = (P w).x.b from by omega, hpn] at h1
              exact bk l2 hd _ es ck s' g' _ hl2 h1 h2 dec esd ckd top gh' hI3 (by omega) nx
        · have := hl0.ph; omega
      · refine g_ask0 (C w) db jb (B o) mb dm b25 l hd (A o) es ck s g R (P w) (decT dec) esd ckd Γ Q (xs A0) (aL n B) (aL n C) n i top x0 o h300 hph ?_
        exact bk l hd (A o) es ck s g (P w) hlo.succ hls hdj dec esd ckd top gh hsame (by omega) nx
    have k15 : x0 % 16 = 1 ∨ x0 % 16 = 2 ∨ x0 % 16 = 3 ∨ x0 % 16 = 4 ∨ x0 % 16 = 5 := by omega
    rcases k15 with k | k | k | k | k
    · exact k_ask1 (C w) db jb (B o) mb dm b25 l hd (A o) es ck s g R (P w) (decT dec) esd ckd Γ Q (xs A0) (aL n B) (aL n C) n i top x0 w o _ k go
    · exact k_ask2 (C w) db jb (B o) mb dm b25 l hd (A o) es ck s g R (P w) (decT dec) esd ckd Γ Q (xs A0) (aL n B) (aL n C) n i top x0 w o _ k go
    · exact k_ask3 (C w) db jb (B o) mb dm b25 l hd (A o) es ck s g R (P w) (decT dec) esd ckd Γ Q (xs A0) (aL n B) (aL n C) n i top x0 w o _ k go
    · exact k_ask4 (C w) db jb (B o) mb dm b25 l hd (A o) es ck s g R (P w) (decT dec) esd ckd Γ Q (xs A0) (aL n B) (aL n C) n i top x0 w o _ k go
    · exact k_ask5 (C w) db jb (B o) mb dm b25 l hd (A o) es ck s g R (P w) (decT dec) esd ckd Γ Q (xs A0) (aL n B) (aL n C) n i top x0 w o _ k go
  have pe := frame_pm (X12.pending_h (b := C w) hls hpk) hdj
  have hlenL : (ents ((P w).l.map (·.1))).length = (P w).l.length := by unfold ents; rw [List.length_map, List.length_map]
  by_cases k6 : x0 % 16 = 6
  · -- it proposes
    refine k_prop (C w) db jb (B o) mb dm b25 l hd (A o) es ck s g R (P w) (decT dec) esd ckd Γ Q (xs A0) (aL n B) (aL n C) n i top x0 w o _ k6 ?_
    by_cases h4 : (ents ((P w).l.map (·.1))).length < 4
    · obtain ⟨gh', hI2⟩ := hI.propose hw (c := X12.cmdOf ((x0 / 16 : Nat) : Int)) (cmdOf_ok _ (by omega))
      refine g_prop1 (C w) db jb (B o) mb dm b25 l hd (A o) es ck s g R (P w) (decT dec) esd ckd Γ Q (xs A0) (aL n B) (aL n C) n i top x0 hx0 h300 _ h4 _ _ pe (fun s g h1 h2 => frame_pm (X12.propose_h h1 hpk (X12.cmdOf ((x0 / 16 : Nat) : Int))) h2) ?_
      intro s' g' h1 h2
      exact bk l hd (A o) es ck s' g' _ hlo.succ h1 h2 dec esd ckd top gh' (by rw [upd_self]; exact hI2) (by omega) nx
    · refine g_prop0 (C w) db jb (B o) mb dm b25 l hd (A o) es ck s g R (P w) (decT dec) esd ckd Γ Q (xs A0) (aL n B) (aL n C) n i top x0 h300 _ h4 pe ?_
      intro s' g' h1 h2
      exact bk l hd (A o) es ck s' g' (P w) hlo.succ h1 h2 dec esd ckd top gh hsame (by omega) nx
  refine k_def (C w) db jb (B o) mb dm b25 l hd (A o) es ck s g R (P w) (decT dec) esd ckd Γ Q (xs A0) (aL n B) (aL n C) n i top x0 w o _ (by omega) ?_
  by_cases hl0 : (P w).l = []
  · rw [hl0] at pe
    refine g_def0 (C w) db jb (B o) mb dm b25 l hd (A o) es ck s g R (P w) (decT dec) esd ckd Γ Q (xs A0) (aL n B) (aL n C) n i top x0 o h300 pe ?_
    intro s' g' h1 h2
    exact bk l hd (A o) es ck s' g' (P w) hlo.succ h1 h2 dec esd ckd top gh hsame (by omega) nx
  have hlen0 : 0 < (P w).l.length := List.length_pos_iff.2 hl0
  have hlen16 := hpk.len
  have hk : x0 / 4096 % (ents ((P w).l.map (·.1))).length < (P w).l.length := by rw [hlenL]; exact Nat.mod_lt _ hlen0
  have hqat : (ents ((P w).l.map (·.1)))[((x0 / 4096 % (ents ((P w).l.map (·.1))).length : Nat) : Int).toNat]? = some (.agg (entC ((P w).l[x0 / 4096 % (ents ((P w).l.map (·.1))).length]).1)) := by
    rw [Int.toNat_natCast]
    unfold ents
    rw [List.getElem?_map, List.getElem?_map, List.getElem?_eq_getElem (by simpa [ents] using hk)]; rfl
  have hqm : (P w).l[x0 / 4096 % (ents ((P w).l.map (·.1))).length] ∈ (P w).l := List.getElem_mem _
  generalize (P w).l[x0 / 4096 % (ents ((P w).l.map (·.1))).length] = q at *
  obtain ⟨hyo, hye⟩ := hI.ent hw (by omega) hqm (by omega)
  rw [← hye] at hqat
  rcases acc_z db jb (B o) mb l hd (A o) es ck i (by omega) hlo ha.low (Pg.ofEnt q.1) hyo with ⟨f, hf, ac⟩ | ⟨hs16, hb, hl2, ac⟩
  · refine g_defN (C w) db jb (B o) mb dm b25 l hd (A o) es ck s g R (P w) (decT dec) esd ckd Γ Q (xs A0) (aL n B) (aL n C) n i top x0 o _ hx0 h300 _ (by omega) (by omega) rfl (Pg.ofEnt q.1) hqat pe f hf ac ?_
    intro s' g' hd es ck h1 h2
    exact bk l hd (A o) es ck s' g' (P w) hlo.succ h1 h2 dec esd ckd top gh hsame (by omega) nx
  · have hsl : ((Pg.ofEnt q.1).slot : Int) = q.1.s := by
      have := congrArg X12.Ent.s hye
      exact this
    obtain ⟨gh2, hI2, _, _, t, h2ph, h2n, h2q, h2b, h2v, h2g⟩ := hI.accept hw ho (by omega) hqm (by omega) hb (by omega)
    by_cases hv : x0 / 2048 % 8 = 0
    · refine g_defL (C w) db jb (B o) mb dm b25 l hd (A o) es ck s g R (P w) (decT dec) esd ckd Γ Q (xs A0) (aL n B) (aL n C) n i top x0 o _ hx0 h300 _ (by omega) (by omega) rfl (Pg.ofEnt q.1) hqat pe hv _ _ ac ?_
      intro s' g' hd es ck h1 h2
      exact bk _ hd _ es ck s' g' (P w) hl2 h1 h2 dec esd ckd top gh2 (by rw [upd_self]; exact hI2) (by omega) nx
    · have hyn : ((Pg.ofEnt q.1).n : Int) = t := by
        have := congrArg X12.Ent.n hye
        have h3 : ((Pg.ofEnt q.1).n : Int) = q.1.n := this
        omega
      obtain ⟨hI3, hdone⟩ := hI2.accepted hw ho hn5 (t := t) (s := q.1.s) h2ph h2n h2v ((Pg.ofEnt q.1).b : Int)
      have ad := fun (s : PM) (g : Glb) (h1 : X12.Left (P w) s g) (h2 : Dj g R) => frame_pm (X12.accepted_h (b := C w) (s := s) (gl := g) (p := P w) h1 hpk ((o : Int) + 1) ((Pg.ofEnt q.1).n : Int) ((Pg.ofEnt q.1).b : Int) ((Pg.ofEnt q.1).slot : Int) (by omega)) h2
      rw [hyn, hsl] at ad
      cases hr : (X12.pAccepted (P w) ((o : Int) + 1) t ((Pg.ofEnt q.1).b : Int) q.1.s).2.2 with
      | false =>
        rw [hr, ← hsl, ← hyn] at ad
        refine g_defA0 (C w) db jb (B o) mb dm b25 l hd (A o) es ck s g R (P w) (decT dec) esd ckd Γ Q (xs A0) (aL n B) (aL n C) n i top x0 o _ (by omega) hx0 h300 _ (by omega) (by omega) rfl (Pg.ofEnt q.1) hqat pe hv _ _ ac _ _ (fun s g h1 h2 => ad s g h1 h2) ?_
        intro hd es ck s' g' h1 h2
        rw [hyn, hsl] at h1
        exact bk _ hd _ es ck s' g' _ hl2 h1 h2 dec esd ckd top gh2 hI3 (by omega) nx
      | true =>
        obtain ⟨hmaj, hg⟩ := hdone hr
        obtain ⟨hag, hI4⟩ := hI3.note hmaj hg
        rw [hr, ← hsl, ← hyn] at ad
        rw [← hsl, ← hyn] at hI4 hag
        cases hd0 : dec ((Pg.ofEnt q.1).slot : Int) with
        | none =>
          refine g_dec0 (C w) db jb (B o) mb dm b25 l hd (A o) es ck s g R (P w) (decT dec) esd ckd Γ Q (xs A0) (aL n B) (aL n C) n i top x0 o _ (by omega) hx0 h300 _ (by omega) (by omega) rfl (Pg.ofEnt q.1) hqat pe hv _ _ ac _ _ (fun s g h1 h2 => ad s g h1 h2) (by unfold decT; rw [hd0]; rfl) ?_
          intro esd ckd hd es ck s' g' h1 h2
          rw [← decT_upd]
          exact bk _ hd _ es ck s' g' _ hl2 h1 h2 _ esd ckd top gh2 hI4 (by omega) nx
        | some c0 =>
          have hc0 := hag c0 hd0
          refine g_dec1 (C w) db jb (B o) mb dm b25 l hd (A o) es ck s g R (P w) (decT dec) esd ckd Γ Q (xs A0) (aL n B) (aL n C) n i top x0 o _ (by omega) hx0 h300 _ (by omega) (by omega) rfl (Pg.ofEnt q.1) hqat pe hv _ _ ac _ _ (fun s g h1 h2 => ad s g h1 h2) (by unfold decT; rw [hd0, hc0]; rfl) ?_
          intro esd ckd hd es ck s' g' h1 h2
          rw [← decT_upd]
          exact bk _ hd _ es ck s' g' _ hl2 h1 h2 _ esd ckd top gh2 hI4 (by omega) nx
end
end X11
end Go.Proofs.YtcmcmafeaabjmaaGreat.Vm
