/- Texts of this claim: PL, PgF, PgG. -/
import Derived.Test.YtcmcmafeaabjmaaGreatMg21
import Derived.Test.YtcmcmafeaabjmaaGreatMg15
import Derived.Test.YtcmcmafeaabjmaaGreatMg35
namespace Go.Proofs.YtcmcmafeaabjmaaGreat.Vm
open Go Go.RowKit
set_option maxRecDepth 100000
namespace X12
def s0 : PP := ⟨⟨3, 0, 0, 0, 0, 0, 0⟩, fun _ => none, []⟩
def s1 : PP := pStart s0 1 1 4
def e5 : Ent := ⟨5, 0, 3, cmdOf 7⟩
def s2 : PP := (pPromise s1 2 1 1 [e5]).1
def s3 : PP := (pPromise s2 1 1 1 []).1
def s4 : PP := (pPropose s3 (cmdOf 9)).1
def s5 : PP := (pAccepted s4 3 1 1 6).1
def s6 : PP := (pAccepted s5 1 1 1 6).1
theorem s0_ok : s0.Ok := ⟨by decide, by simp [s0, IsU32], by simp [s0, IsU32], mask0, fun h => by simp [s0] at h, fun q hq => by simp [s0] at hq, by simp [s0]⟩
theorem s1_ok : s1.Ok := pStart_ok s0_ok 1 1 (by simp [IsU32])
theorem s2_ok : s2.Ok := pPromise_ok s1_ok 2 1 1 (by simp [e5, IsU32])
theorem s3_ok : s3.Ok := pPromise_ok s2_ok 1 1 1 (by simp)
theorem s4_ok : s4.Ok := pPropose_ok s3_ok _
theorem s5_ok : s5.Ok := pAccepted_ok s4_ok _ _ _ _
def sl3 : List Ent := [⟨4, 1, 1, c0⟩, ⟨5, 1, 1, cmdOf 7⟩, ⟨6, 1, 1, cmdOf 9⟩]
theorem s4_l : s4.l.map (·.1) = sl3 := by rfl
theorem r2 : (pPromise s1 2 1 1 [e5]).2 = false := by kernel_rfl
theorem r3 : (pPromise s2 1 1 1 []).2 = true := by kernel_rfl
theorem r4 : (pPropose s3 (cmdOf 9)).2 = (6, true) := by kernel_rfl
theorem r5 : (pAccepted s4 3 1 1 6).2 = (c0, false) := by kernel_rfl
theorem r6 : (pAccepted s5 1 1 1 6).2 = (cmdOf 9, true) := by kernel_rfl
theorem idle_left (ms : Int) (gl : Glb) : Left ⟨⟨ms, 0, 0, 0, 0, 0, 0⟩, fun _ => none, []⟩ (.idle ms) gl := ⟨rfl, trivial, trivial⟩
theorem speaks_any (Q : T → Obs → Glb → Prop) (hQ : ∀ gl, Q (bool true) [] gl) : TCalls Tryz.prog 4 [] [] none_ Q := by
  refine TCalls.of Tryz.func4 rfl (CanCall.of Tryz.func4 rfl (by decide)) [] fun Γ => ?_
  refine run_sound (⟨fun | 1, 0 => .call false Nat (fun _ => True) [] false (fun b => .tup [.ptr 0 b 0, .v (.int .i64 0)]) (fun b => (PM.idle 3).obs b) (fun _ => none_) | 2, 1 => told (.agg [u32 1, u8 1]) [] [] | 2, 2 => .withB fun B => pmH (B.getD 0 0) (.tup []) s1 | 3, 1 => told (.agg [u32 1, u8 1]) [] [] | 3, 2 => told (.agg [u32 0, u8 3]) [] [] | 3, 3 => told (.agg (cmdC (cmdOf 7))) [] [] | 3, 6 => .withB fun B => pmH (B.getD 0 0) (bool false) s2 | 4, 1 => told (.agg [u32 1, u8 1]) [] [] | 4, 2 => .withB fun B => pmH (B.getD 0 0) (bool true) s3 | 5, 1 => told (.agg (cmdC (cmdOf 9))) [] [] | 5, 2 => .withB fun B => pmH (B.getD 0 0) (.tup [u32 6, bool true]) s4 | 6, 1 => .withB fun B => pmH (B.getD 0 0) (.sl 8 (ents sl3)) s4 | 7, 1 => told (.agg [u32 1, u8 1]) [] [] | 7, 2 => .withB fun B => pmH (B.getD 0 0) (.tup [.agg (cmdC c0), bool false]) s5 | 8, 1 => told (.agg [u32 1, u8 1]) [] [] | 8, 2 => .withB fun B => pmH (B.getD 0 0) (.tup [.agg (cmdC (cmdOf 9)), bool true]) s6 | 9, 26 => told (.agg (cmdC (cmdOf 7))) [] [] | 9, 38 => told (.agg (cmdC (cmdOf 9))) [] [] | _, _ => .no, [], fun | 9 => some ⟨[4], [], .take true [0,1,2,3,4,5,6,7,8,9,10,11,12,13,14,15,16,17,18,19,20,21,22,23,24,25] (.one 26 (.take true [27,28,29,30,31,32,33,34,35,36,37] (.one 38 (.take true [39,40,41] .done))))⟩ | _ => none⟩) 400 (B := TCalls Tryz.prog (9 : Nat) [T.v (Value.int IntKind.i64 (3 : Int))] [] (fun x => none) (callPost (Hint.call false Nat (fun x => True) [] false (fun b => T.tup [T.ptr (0 : Nat) b (0 : Nat), T.v (Value.int IntKind.i64 (0 : Int))]) (fun b => PM.obs b (PM.idle (3 : Int))) fun x => none_)) ∧ ∀ (a : Nat), True → TCalls Tryz.prog (12 : Nat) [T.v (Value.int IntKind.u32 (1 : Int)), T.v (Value.int IntKind.u8 (1 : Int))] [] (fun x => none) (callPost (Hint.call false Unit (fun x => True) [] false (fun x => T.agg [u32 (1 : Int), u8 (1 : Int)]) (fun x => []) fun x => none_)) ∧ ∀ (a_1 : Unit), True → TCalls Tryz.prog (11 : Nat) [T.ptr (0 : Nat) a (0 : Nat), T.agg [T.v (Value.int IntKind.u32 (1 : Int)), T.v (Value.int IntKind.u8 (1 : Int))], T.v (Value.int IntKind.u32 (4 : Int))] [(a, Ob.cells [T.v (Value.int IntKind.i64 (P0.ms { ms := (3 : Int), ph := (0 : Int), n := (0 : Int), b := (0 : Int), fr := (0 : Int), nx := (0 : Int), pm := (0 : Int) })), T.v (Value.int IntKind.i64 (P0.ph { ms := (3 : Int), ph := (0 : Int), n := (0 : Int), b := (0 : Int), fr := (0 : Int), nx := (0 : Int), pm := (0 : Int) })), T.v (Value.int IntKind.u32 (P0.n { ms := (3 : Int), ph := (0 : Int), n := (0 : Int), b := (0 : Int), fr := (0 : Int), nx := (0 : Int), pm := (0 : Int) })), T.v (Value.int IntKind.u8 (P0.b { ms := (3 : Int), ph := (0 : Int), n := (0 : Int), b := (0 : Int), fr := (0 : Int), nx := (0 : Int), pm := (0 : Int) })), T.v (Value.int IntKind.u32 (P0.fr { ms := (3 : Int), ph := (0 : Int), n := (0 : Int), b := (0 : Int), fr := (0 : Int), nx := (0 : Int), pm := (0 : Int) })), T.v (Value.int IntKind.u32 (P0.nx { ms := (3 : Int), ph := (0 : Int), n := (0 : Int), b := (0 : Int), fr := (0 : Int), nx := (0 : Int), pm := (0 : Int) })), T.v (Value.int IntKind.u64 (P0.pm { ms := (3 : Int), ph := (0 : Int), n := (0 : Int), b := (0 : Int), fr := (0 : Int), nx := (0 : Int), pm := (0 : Int) })), T.v (Value.map none), T.v (Value.slice none (0 : Nat) (0 : Nat))]), ((0 : Nat), Ob.gone), ((0 : Nat), Ob.gone)] (fun x => none) (callPost (Hint.call false (PM × Glb) (fun a => Left s1 (Prod.fst a) (Prod.snd a)) [(0 : Nat), (1 : Nat), (2 : Nat)] true (fun x => T.tup []) (fun a_2 => PM.obs a (Prod.fst a_2)) fun a => Prod.snd a)) ∧ ∀ (a_2 : PM × Glb), Left s1 (Prod.fst a_2) (Prod.snd a_2) → TCalls Tryz.prog (12 : Nat) [T.v (Value.int IntKind.u32 (1 : Int)), T.v (Value.int IntKind.u8 (1 : Int))] [] (fun x => none) (callPost (Hint.call false Unit (fun x => True) [] false (fun x => T.agg [u32 (1 : Int), u8 (1 : Int)]) (fun x => []) fun x => none_)) ∧ ∀ (a_3 : Unit), True → TCalls Tryz.prog (12 : Nat) [T.v (Value.int IntKind.u32 (0 : Int)), T.v (Value.int IntKind.u8 (3 : Int))] [] (fun x => none) (callPost (Hint.call false Unit (fun x => True) [] false (fun x => T.agg [u32 (0 : Int), u8 (3 : Int)]) (fun x => []) fun x => none_)) ∧ ∀ (a_4 : Unit), True → TCalls Tryz.prog (17 : Nat) [T.v (Value.int IntKind.u32 (7 : Int))] [] (fun x => none) (callPost (Hint.call false Unit (fun x => True) [] false (fun x => T.agg (cmdC (cmdOf (7 : Int)))) (fun x => []) fun x => none_)) ∧ ∀ (a_5 : Unit), True → TCalls Tryz.prog (14 : Nat) [T.ptr (0 : Nat) a (0 : Nat), T.v (Value.int IntKind.u8 (2 : Int)), T.agg [T.v (Value.int IntKind.u32 (1 : Int)), T.v (Value.int IntKind.u8 (1 : Int))], T.sl (8 : Nat) [T.agg [T.v (Value.int IntKind.u32 (5 : Int)), T.v (Value.int IntKind.u32 (0 : Int)), T.v (Value.int IntKind.u8 (3 : Int)), T.v (Value.int IntKind.u8 (Cmd.k (cmdOf (7 : Int)))), T.v (Value.int IntKind.u8 (Cmd.d (cmdOf (7 : Int)))), T.v (Value.int IntKind.u8 (Cmd.l (cmdOf (7 : Int)))), T.v (Value.int IntKind.u32 (Cmd.e (cmdOf (7 : Int)))), T.v (Value.int IntKind.u32 (Cmd.q (cmdOf (7 : Int))))]]] [(a, Ob.cells (PM.c0 (Prod.fst a_2))), PM.ob1 (Prod.fst a_2), PM.ob2 (Prod.fst a_2)] (Prod.snd a_2) (callPost (Hint.call false (PM × Glb) (fun a => Left s2 (Prod.fst a) (Prod.snd a)) [(0 : Nat), (1 : Nat), (2 : Nat)] true (fun x => bool false) (fun a_6 => PM.obs a (Prod.fst a_6)) fun a => Prod.snd a)) ∧ ∀ (a_6 : PM × Glb), Left s2 (Prod.fst a_6) (Prod.snd a_6) → TCalls Tryz.prog (12 : Nat) [T.v (Value.int IntKind.u32 (1 : Int)), T.v (Value.int IntKind.u8 (1 : Int))] [] (fun x => none) (callPost (Hint.call false Unit (fun x => True) [] false (fun x => T.agg [u32 (1 : Int), u8 (1 : Int)]) (fun x => []) fun x => none_)) ∧ ∀ (a_7 : Unit), True → TCalls Tryz.prog (14 : Nat) [T.ptr (0 : Nat) a (0 : Nat), T.v (Value.int IntKind.u8 (1 : Int)), T.agg [T.v (Value.int IntKind.u32 (1 : Int)), T.v (Value.int IntKind.u8 (1 : Int))], T.v (Value.slice none (0 : Nat) (0 : Nat))] [(a, Ob.cells (PM.c0 (Prod.fst a_6))), PM.ob1 (Prod.fst a_6), PM.ob2 (Prod.fst a_6)] (Prod.snd a_6) (callPost (Hint.call false (PM × Glb) (fun a => Left s3 (Prod.fst a) (Prod.snd a)) [(0 : Nat), (1 : Nat), (2 : Nat)] true (fun x => bool true) (fun a_8 => PM.obs a (Prod.fst a_8)) fun a => Prod.snd a)) ∧ ∀ (a_8 : PM × Glb), Left s3 (Prod.fst a_8) (Prod.snd a_8) → TCalls Tryz.prog (17 : Nat) [T.v (Value.int IntKind.u32 (9 : Int))] [] (fun x => none) (callPost (Hint.call false Unit (fun x => True) [] false (fun x => T.agg (cmdC (cmdOf (9 : Int)))) (fun x => []) fun x => none_)) ∧ ∀ (a_9 : Unit), True → TCalls Tryz.prog (16 : Nat) [T.ptr (0 : Nat) a (0 : Nat), T.agg [T.v (Value.int IntKind.u8 (Cmd.k (cmdOf (9 : Int)))), T.v (Value.int IntKind.u8 (Cmd.d (cmdOf (9 : Int)))), T.v (Value.int IntKind.u8 (Cmd.l (cmdOf (9 : Int)))), T.v (Value.int IntKind.u32 (Cmd.e (cmdOf (9 : Int)))), T.v (Value.int IntKind.u32 (Cmd.q (cmdOf (9 : Int))))]] [(a, Ob.cells (PM.c0 (Prod.fst a_8))), PM.ob1 (Prod.fst a_8), PM.ob2 (Prod.fst a_8)] (Prod.snd a_8) (callPost (Hint.call false (PM × Glb) (fun a => Left s4 (Prod.fst a) (Prod.snd a)) [(0 : Nat), (1 : Nat), (2 : Nat)] true (fun x => T.tup [u32 (6 : Int), bool true]) (fun a_10 => PM.obs a (Prod.fst a_10)) fun a => Prod.snd a)) ∧ ∀ (a_10 : PM × Glb), Left s4 (Prod.fst a_10) (Prod.snd a_10) → TCalls Tryz.prog (15 : Nat) [T.ptr (0 : Nat) a (0 : Nat)] [(a, Ob.cells (PM.c0 (Prod.fst a_10))), PM.ob1 (Prod.fst a_10), PM.ob2 (Prod.fst a_10)] (Prod.snd a_10) (callPost (Hint.call false (PM × Glb) (fun a => Left s4 (Prod.fst a) (Prod.snd a)) [(0 : Nat), (1 : Nat), (2 : Nat)] true (fun x => T.sl (8 : Nat) (ents sl3)) (fun a_11 => PM.obs a (Prod.fst a_11)) fun a => Prod.snd a)) ∧ ∀ (a_11 : PM × Glb), Left s4 (Prod.fst a_11) (Prod.snd a_11) → TCalls Tryz.prog (12 : Nat) [T.v (Value.int IntKind.u32 (1 : Int)), T.v (Value.int IntKind.u8 (1 : Int))] [] (fun x => none) (callPost (Hint.call false Unit (fun x => True) [] false (fun x => T.agg [u32 (1 : Int), u8 (1 : Int)]) (fun x => []) fun x => none_)) ∧ ∀ (a_12 : Unit), True → TCalls Tryz.prog (19 : Nat) [T.ptr (0 : Nat) a (0 : Nat), T.v (Value.int IntKind.u8 (3 : Int)), T.agg [T.v (Value.int IntKind.u32 (1 : Int)), T.v (Value.int IntKind.u8 (1 : Int))], T.v (Value.int IntKind.u32 (6 : Int))] [(a, Ob.cells (PM.c0 (Prod.fst a_11))), PM.ob1 (Prod.fst a_11), PM.ob2 (Prod.fst a_11)] (Prod.snd a_11) (callPost (Hint.call false (PM × Glb) (fun a => Left s5 (Prod.fst a) (Prod.snd a)) [(0 : Nat), (1 : Nat), (2 : Nat)] true (fun x => T.tup [T.agg (cmdC c0), bool false]) (fun a_13 => PM.obs a (Prod.fst a_13)) fun a => Prod.snd a)) ∧ ∀ (a_13 : PM × Glb), Left s5 (Prod.fst a_13) (Prod.snd a_13) → ∀ (b : Nat), ((5 : Nat) = nat_lit 5 ∧ List.all [T.v (Value.int IntKind.u8 (Cmd.k c0)), T.v (Value.int IntKind.u8 (Cmd.d c0)), T.v (Value.int IntKind.u8 (Cmd.l c0)), T.v (Value.int IntKind.u32 (Cmd.e c0)), T.v (Value.int IntKind.u32 (Cmd.q c0))] T.one = true) ∧ b = b ∧ (0 : Nat) + nat_lit 5 ≤ (5 : Nat) ∧ TCalls Tryz.prog (12 : Nat) [T.v (Value.int IntKind.u32 (1 : Int)), T.v (Value.int IntKind.u8 (1 : Int))] [] (fun x => none) (callPost (Hint.call false Unit (fun x => True) [] false (fun x => T.agg [u32 (1 : Int), u8 (1 : Int)]) (fun x => []) fun x => none_)) ∧ ∀ (a_14 : Unit), True → TCalls Tryz.prog (19 : Nat) [T.ptr (0 : Nat) a (0 : Nat), T.v (Value.int IntKind.u8 (1 : Int)), T.agg [T.v (Value.int IntKind.u32 (1 : Int)), T.v (Value.int IntKind.u8 (1 : Int))], T.v (Value.int IntKind.u32 (6 : Int))] [(a, Ob.cells (PM.c0 (Prod.fst a_13))), PM.ob1 (Prod.fst a_13), PM.ob2 (Prod.fst a_13)] (Prod.snd a_13) (callPost (Hint.call false (PM × Glb) (fun a => Left s6 (Prod.fst a) (Prod.snd a)) [(0 : Nat), (1 : Nat), (2 : Nat)] true (fun x => T.tup [T.agg (cmdC (cmdOf (9 : Int))), bool true]) (fun a_15 => PM.obs a (Prod.fst a_15)) fun a => Prod.snd a)) ∧ ∀ (a : PM × Glb), Left s6 (Prod.fst a) (Prod.snd a) → ∀ (b : Nat), ((5 : Nat) = nat_lit 5 ∧ List.all [T.v (Value.int IntKind.u8 (Cmd.k (cmdOf (9 : Int)))), T.v (Value.int IntKind.u8 (Cmd.d (cmdOf (9 : Int)))), T.v (Value.int IntKind.u8 (Cmd.l (cmdOf (9 : Int)))), T.v (Value.int IntKind.u32 (Cmd.e (cmdOf (9 : Int)))), T.v (Value.int IntKind.u32 (Cmd.q (cmdOf (9 : Int))))] T.one = true) ∧ b = b ∧ (0 : Nat) + nat_lit 5 ≤ (5 : Nat) ∧ (0 : Int) ≤ (1 : Int) ∧ TCalls Tryz.prog (17 : Nat) [T.v (Value.int IntKind.u32 (7 : Int))] [] (fun x => none) (callPost (Hint.call false Unit (fun x => True) [] false (fun x => T.agg (cmdC (cmdOf (7 : Int)))) (fun x => []) fun x => none_)) ∧ ∀ (a_15 : Unit), True → b = b ∧ TCalls Tryz.prog (17 : Nat) [T.v (Value.int IntKind.u32 (9 : Int))] [] (fun x => none) (callPost (Hint.call false Unit (fun x => True) [] false (fun x => T.agg (cmdC (cmdOf (9 : Int)))) (fun x => []) fun x => none_)) ∧ ∀ (a_16 : Unit), True → Q (T.v (Value.bool true)) [] (Prod.snd a)) (by kernel_rfl) ?_
  repeat' (first | exact rfl | exact Nat.le_of_ble_eq_true rfl | refine And.intro ?_ ?_ | intro _ | refine bsplit_mk (fun _ => ?_) (fun _ => ?_))
  · exact new_u _ 3 (by decide) fun b => ⟨b, trivial, rfl, rfl, Nat.le_of_ble_eq_true rfl, fun e => by cases e⟩
  · exact ballot_any _ _ _ fun r h => told_post h
  · exact start_h (s := .idle 3) (p := s0) (idle_left 3 _) 1 1 4
  · exact ballot_any _ _ _ fun r h => told_post h
  · exact ballot_any _ _ _ fun r h => told_post h
  · exact command_any _ _ fun r h => told_post h
  · exact promise_e ‹Left s1 _ _› s1_ok 2 1 1 [e5] (by decide) (by simp [e5, IsU32]) (by simp) r2
  · exact ballot_any _ _ _ fun r h => told_post h
  · exact promise_ne ‹Left s2 _ _› s2_ok 1 1 1 (by decide) r3
  · exact command_any _ _ fun r h => told_post h
  · exact propose_e ‹Left s3 _ _› s3_ok (cmdOf 9) r4
  · exact pending_e ‹Left s4 _ _› s4_ok s4_l
  · exact ballot_any _ _ _ fun r h => told_post h
  · exact accepted_e ‹Left s4 _ _› s4_ok 3 1 1 6 (by decide) r5
  · exact ballot_any _ _ _ fun r h => told_post h
  · exact accepted_e ‹Left s5 _ _› s5_ok 1 1 1 6 (by decide) r6
  · decide
  · exact command_any _ _ fun r h => told_post h
  · exact command_any _ _ fun r h => told_post h
  · exact hQ _
end X12
end Go.Proofs.YtcmcmafeaabjmaaGreat.Vm
namespace Go.Proofs.YtcmcmafeaabjmaaGreat.Vm
open Go Go.RowKit
set_option maxRecDepth 100000
noncomputable abbrev kPgF0 (l : List Nat) : It := .code (sub (bd Tryz.f3) l)
noncomputable abbrev wPgF1 (Γ : Ctx) (Q : T → Obs → Glb → Prop) : List It → S → Prop := TWk Tryz.prog Γ (fin Tryz.prog Tryz.f3 [] Q)
namespace X11
open Acp (En AS Rc blw VOk IsE XOk)
open Jrn (Dk)
open X9 (dkC obsK dkH dk_post)
open X10 (strs jC obsJ)
open X12 (PM PP cmdC entC ents)
open View (VS Mem)
open X5 (viewC mems memC firstM firstL)
theorem Lots.add {k : Nat} {A : Nat → AS} {B : Nat → Nat} {P : Nat → PP} {C : Nat → Nat} {gl : Glb} (h : Lots k 0 A B P C gl) {db jb ab mb pb : Nat} {l : List (List UInt8)} {hd : Value} {es : Array MapEntry} {ck : Nat} {s : PM} (hl : LOk l 0) (hp : X12.Left (P k) s none_) {base : Obs}
    (hap : Apart (base ++ (obsA db jb ab mb (Jrn.jd l) l hd false (A k) es ck ++ s.obs pb)) gl) (hr : Rooms (base ++ (obsA db jb ab mb (Jrn.jd l) l hd false (A k) es ck ++ s.obs pb))) :
    ∃ gl', Lots (k + 1) 0 A (Pg.upd B k ab) P (Pg.upd C k pb) gl' ∧ ∀ ts, Imp ts (base ++ (obsA db jb ab mb (Jrn.jd l) l hd false (A k) es ck ++ s.obs pb)) gl ts base gl' := by
  obtain ⟨ua, up, e, d1, d2, d3, hA, hP⟩ := h.ex
  have hap' : Apart ((base ++ obsA db jb ab mb (Jrn.jd l) l hd false (A k) es ck) ++ s.obs pb) gl := by rw [List.append_assoc]; exact hap
  have hs := hap.sole
  have dOP := hap'.dj
  have dOA : Dj (pkO (obsA db jb ab mb (Jrn.jd l) l hd false (A k) es ck)) gl := fun c hc => hap.dj c (by
    obtain ⟨X, e⟩ := Option.isSome_iff_exists.1 hc
    obtain ⟨i, b, k1, k2⟩ := pkO_some e
    cases e3 : pkO (obsA db jb ab mb (Jrn.jd l) l hd false (A k) es ck ++ s.obs pb) c with
    | some Y => rfl
    | none => exact absurd k2 (pkO_none e3 (i := i) (by rw [List.getElem?_append_left (List.getElem?_eq_some_iff.1 k1).1]; exact k1)))
  have dAP := hs.dj
  rw [e] at dOP dOA
  obtain ⟨ia, ja⟩ := lotG_snoc (u := pkO (obsA db jb ab mb (Jrn.jd l) l hd false (A k) es ck)) d1 (Dj.left dOA)
  obtain ⟨ip, jp⟩ := lotG_snoc (u := pkO (s.obs pb)) d2 (Dj.right dOP)
  have dall : Dj (joinG (pkO (obsA db jb ab mb (Jrn.jd l) l hd false (A k) es ck)) (lotG ua)) (joinG (pkO (s.obs pb)) (lotG up)) := (dAP.join (Dj.right dOA)).joinl ((Dj.left dOP).symm.join d3)
  refine ⟨joinG (lotG (ua ++ [pkO (obsA db jb ab mb (Jrn.jd l) l hd false (A k) es ck)])) (lotG (up ++ [pkO (s.obs pb)])), ⟨_, _, rfl, ja, jp, by rw [ia, ip]; exact dall, ⟨by rw [List.length_append, hA.len]; rfl, fun o ho => ?_⟩, ⟨by rw [List.length_append, hP.len]; rfl, fun w hw => ?_⟩⟩, fun ts => ?_⟩
  · by_cases hk : o = k
    · subst hk
      refine ⟨db, jb, mb, l, hd, es, ck, ?_, hl, ?_, ?_⟩
      · rw [Pg.upd_at, List.getElem?_append_right (by rw [hA.len]; exact Nat.le_refl _), hA.len, Nat.sub_self]; rfl
      · rw [Pg.upd_at]; exact hs.l
      · rw [Pg.upd_at]; exact hr.r.l
    · obtain ⟨db2, jb2, mb2, l2, hd2, es2, ck2, k1, k2, k3, k4⟩ := hA.at_ o (by omega)
      refine ⟨db2, jb2, mb2, l2, hd2, es2, ck2, ?_, k2, ?_, ?_⟩
      · rw [Pg.upd_ne _ _ hk, List.getElem?_append_left (by rw [hA.len]; omega)]; exact k1
      · rw [Pg.upd_ne _ _ hk]; exact k3
      · rw [Pg.upd_ne _ _ hk]; exact k4
  · by_cases hk : w = k
    · subst hk
      refine ⟨s, none_, ?_, hp, ?_, ?_, Dj.none _⟩
      · rw [Pg.upd_at, List.getElem?_append_right (by rw [hP.len]; exact Nat.le_refl _), hP.len, Nat.sub_self, joinG_nil]; rfl
      · rw [Pg.upd_at]; exact hs.r
      · rw [Pg.upd_at]; exact hr.r.r
    · obtain ⟨s2, g2, k1, k2, k3, k4, k5⟩ := hP.at_ w (by omega)
      refine ⟨s2, g2, ?_, k2, ?_, ?_, ?_⟩
      · rw [Pg.upd_ne _ _ hk, List.getElem?_append_left (by rw [hP.len]; omega)]; exact k1
      · rw [Pg.upd_ne _ _ hk]; exact k3
      · rw [Pg.upd_ne _ _ hk]; exact k4
      · rw [Pg.upd_ne _ _ hk]; exact k5
  · rw [ia, ip, two_out dall, ← e, ← List.append_assoc]
    exact Imp.park.trans Imp.park
theorem Lots.nil (A : Nat → AS) (B : Nat → Nat) (P : Nat → PP) (C : Nat → Nat) : Lots 0 0 A B P C none_ :=
  ⟨[], [], rfl, List.Pairwise.nil, List.Pairwise.nil, Dj.none _, ⟨rfl, fun o ho => by omega⟩, ⟨rfl, fun w hw => by omega⟩⟩
theorem aL_succ (k : Nat) (B : Nat → Nat) (ab : Nat) : aL (k + 1) (Pg.upd B k ab) = aL k B ++ [.gp ab 0] := by
  unfold aL
  rw [List.range_succ, List.map_append]
  congr 1
  · refine List.map_congr_left fun j hj => ?_
    rw [Pg.upd_ne _ _ (by have := List.mem_range.1 hj; omega)]
  · simp [Pg.upd_at]
def nwP (n : Int) : Hint := .call false Nat (fun _ => True) [] false (fun b => .tup [.ptr 0 b 0, int 0]) (fun b => (PM.idle n).obs b) (fun _ => none_)
theorem weak_slx {M : Pm} {k i : Nat} {es : List T} {x v : Value} (h : Rel M (.slx k i es x) v) : Rel M (.sl k es) v := weak_rel h
section
variable (Γ : Ctx) (Q : T → Obs → Glb → Prop) (E : List T) (n vb : Nat) (v : VS) (hA hP : Value) (B C : Nat → Nat) (gl : Glb) (k : Nat)
theorem s_app (hn5 : n ≤ 5) (hk : k < n) (ab pb : Nat) (gl' : Glb) (nx : ∀ hA hP, wPgF1 Γ Q [kPgF0 [1,1,1,1,1,1,0,1,0], .blk 0, kPgF0 [1,1,1,1,1,1,1]] ⟨frame 233 [(1, .sl 1 E), (5, int n), (6, .ptr 0 vb 0), (8, .slx 1 1 (aL (k + 1) (Pg.upd B k ab)) hA), (9, .slx 1 2 (aL (k + 1) (Pg.upd C k pb)) hP), (10, int (k + 2 : Nat))], [(vb, .cells (viewC v)), (0, .room 1 37 (aL (k + 1) (Pg.upd B k ab)).length hA), (0, .room 1 40 (aL (k + 1) (Pg.upd C k pb)).length hP)], gl'⟩) : wPgF1 Γ Q [kPgF0 [1,1,1,1,1,1,0,1,0,0,1,0,0,1,1,1,1,1], .blk 1, kPgF0 [1,1,1,1,1,1,0,1,0,0,1,1], kPgF0 [1,1,1,1,1,1,0,1,0], .blk 0, kPgF0 [1,1,1,1,1,1,1]] ⟨frame 233 [(1, .sl 1 E), (5, int n), (6, .ptr 0 vb 0), (8, .slx 1 1 (aL k B) hA), (9, .slx 1 2 (aL k C) hP), (10, int (k + 1 : Nat)), (12, .gp ab 0), (14, .gp pb 0)], [(vb, .cells (viewC v)), (0, .room 1 37 (aL k B).length hA), (0, .room 1 40 (aL k C).length hP)], gl'⟩ := by
  have hl1 := aL_len k B
  have hl2 := aL_len k C
  have hw : T.v (.int .i64 (IntKind.wrap .i64 (((k + 1 : Nat) : Int) + 1))) = int (k + 2 : Nat) := congrArg int (by rw [wrap_i64 (by omega) (by omega)]; omega)
  rw [aL_succ, aL_succ] at nx
  generalize aL k B = LB at *
  generalize aL k C = LC at *
  let HH : Nat → Nat → Hint := fun | 9, 1 => .res (int (k + 2 : Nat)) | _, _ => .no
  exact run_sound ⟨HH, [((2, 8), ([1,5,6,8,9,10], 3))], fun  | _ => none⟩ 400 (by kernel_rfl) (Ya (Yb hA (Ye (List.length LB))) (Ya (Ya (show (List.length LB + 1) * nat_lit 8 ≤ 140737488355328 by simp only [maxLen]; omega) (show List.length LB + 1 ≤ maxLen by simp only [maxLen]; omega)) (fun (Z0 : Value) => (Ya (Yb hP (Ye (List.length LC))) (Ya (Ya (show (List.length LC + 1) * nat_lit 8 ≤ 140737488355328 by simp only [maxLen]; omega) (show List.length LC + 1 ≤ maxLen by simp only [maxLen]; omega)) (fun (Z1 : Value) => (Ya hw (nx Z0 Z1))))))))
set_option maxRecDepth 20000 in
theorem s_end (hk : k = n) (nx : ∀ dm, wPgF1 Γ Q [kPgF0 [1,1,1,1,1,1,1,1,1,0,1,0], .blk 2, kPgF0 [1,1,1,1,1,1,1,1,1,1]] ⟨frame 233 [(1, .sl 1 E), (5, int n), (8, .sl 1 (aL k B)), (9, .sl 1 (aL k C)), (16, .mp 0 dm), (17, u32 0), (18, int 0)], [(dm, .map .u32 (fun _ => none) #[] 0)], gl⟩) : wPgF1 Γ Q [kPgF0 [1,1,1,1,1,1,0,1,0], .blk 0, kPgF0 [1,1,1,1,1,1,1]] ⟨frame 233 [(1, .sl 1 E), (5, int n), (6, .ptr 0 vb 0), (8, .slx 1 1 (aL k B) hA), (9, .slx 1 2 (aL k C) hP), (10, int (k + 1 : Nat))], [(vb, .cells (viewC v)), (0, .room 1 37 (aL k B).length hA), (0, .room 1 40 (aL k C).length hP)], gl⟩ := by
  have nx := fun dm => TWk.imp (s := ⟨frame 233 [(1, .sl 1 E), (5, int n), (8, .slx 1 1 (aL k B) hA), (9, .slx 1 2 (aL k C) hP), (16, .mp 3 dm), (17, u32 0), (18, int 0)], [(vb, .cells (viewC v)), (0, .room 1 37 (aL k B).length hA), (0, .room 1 40 (aL k C).length hP), (dm, .map .u32 (fun _ => none) #[] 0)], gl⟩) (nx dm)
    (((Imp.sel (ob' := [(dm, .map .u32 (fun _ => none) #[] 0)]) [3] (by decide) rfl).trans (Imp.slotR (j := 16) (t := .mp 3 dm) (t' := .mp 0 dm) rfl (fun M v r => by simpa only [Rel] using r))).trans ((Imp.slotR (ts := frame 233 [(1, .sl 1 E), (5, int n), (8, .slx 1 1 (aL k B) hA), (9, .slx 1 2 (aL k C) hP), (16, .mp 0 dm), (17, u32 0), (18, int 0)]) (j := 8) (t := .slx 1 1 (aL k B) hA) (t' := .sl 1 (aL k B)) rfl (fun M v r => weak_slx r)).trans (Imp.slotR (ts := frame 233 [(1, .sl 1 E), (5, int n), (8, .sl 1 (aL k B)), (9, .slx 1 2 (aL k C) hP), (16, .mp 0 dm), (17, u32 0), (18, int 0)]) (j := 9) (t := .slx 1 2 (aL k C) hP) (t' := .sl 1 (aL k C)) rfl (fun M v r => weak_slx r))))
  generalize aL k B = LB at *
  generalize aL k C = LC at *
  let HH : Nat → Nat → Hint := fun _ _ => .no
  exact run_sound ⟨HH, [((2, 21), ([1,5,8,9,16,17,18], 4)), ((0, 10), ([1,5,6,8,9,10], 3))], fun _ => none⟩ 400 (by kernel_rfl) (Ys (decide ((↑(k + 1) : Int) ≤ (↑n : Int))) (fun Z0 => (show wPgF1 Γ Q [kPgF0 [1,1,1,1,1,1,0,1,0,0,1,0,0], It.blk 1, kPgF0 [1,1,1,1,1,1,0,1,0,0,1,1], kPgF0 [1,1,1,1,1,1,0,1,0], It.blk 0, kPgF0 [1,1,1,1,1,1,1]] (S.mk (frame 233 [(1, T.sl 1 E), (5, int n), (6, T.ptr 0 vb 0), (8, T.slx 1 1 LB hA), (9, T.slx 1 2 LC hP), (10, int (k + 1))]) [(vb, Ob.cells (viewC v)), (0, Ob.room 1 37 (List.length LB) hA), (0, Ob.room 1 40 (List.length LC) hP)] gl) by exfalso; have := of_decide_eq_true Z0; omega)) (fun Z1 => (fun (Z2 : Nat) => (nx Z2))))
theorem s_make (hn5 : n ≤ 5) (hk : k < n) (l : List (List UInt8)) (x : AS) (mk : ∀ db, TCalls Tryz.prog 7 [.ptr 0 db 0, u8 (k + 1 : Nat), .agg (viewC v)] (obsK db (Jrn.jd [])) none_ (callPost (told (int 0) [0] (obsK db (Jrn.jd l))))) (op : ∀ db, TCalls Tryz.prog 8 [.ptr 0 db 0, u8 (k + 1 : Nat)] (obsK db (Jrn.jd l)) none_ (callPost (opnP db l x))) (nw : TCalls Tryz.prog 9 [int n] [] none_ (callPost (nwP n)))
    (nx : ∀ db jb ab mb hd es ck pb, wPgF1 Γ Q [kPgF0 [1,1,1,1,1,1,0,1,0,0,1,0,0,1,1,1,1,1], .blk 1, kPgF0 [1,1,1,1,1,1,0,1,0,0,1,1], kPgF0 [1,1,1,1,1,1,0,1,0], .blk 0, kPgF0 [1,1,1,1,1,1,1]] ⟨frame 233 [(1, .sl 1 E), (5, int n), (6, .ptr 0 vb 0), (8, .slx 1 1 (aL k B) hA), (9, .slx 1 2 (aL k C) hP), (10, int (k + 1 : Nat)), (12, .ptr 6 ab 0), (14, .ptr 8 pb 0)], [(vb, .cells (viewC v)), (0, .room 1 37 (aL k B).length hA), (0, .room 1 40 (aL k C).length hP)] ++ ((obsA db jb ab mb (Jrn.jd l) l hd false x es ck).map (ixOb fun k => [3,4,5,6,7].getD k 0) ++ (PM.idle n).obs pb), gl⟩) : wPgF1 Γ Q [kPgF0 [1,1,1,1,1,1,0,1,0], .blk 0, kPgF0 [1,1,1,1,1,1,1]] ⟨frame 233 [(1, .sl 1 E), (5, int n), (6, .ptr 0 vb 0), (8, .slx 1 1 (aL k B) hA), (9, .slx 1 2 (aL k C) hP), (10, int (k + 1 : Nat))], [(vb, .cells (viewC v)), (0, .room 1 37 (aL k B).length hA), (0, .room 1 40 (aL k C).length hP)], gl⟩ := by
  have c1 : T.v (.int .u8 (IntKind.wrap .u8 ((k + 1 : Nat) : Int))) = u8 (k + 1 : Nat) := congrArg u8 (by rw [IntWalk.u8_in _ (by omega)])
  generalize aL k B = LB at *
  generalize aL k C = LC at *
  let HH : Nat → Nat → Hint := fun | 10, 0 => nwH | 11, 2 => .res (u8 (k + 1 : Nat)) | 11, 4 => dkH 3 (Jrn.jd l) (int 0) | 13, 2 => .res (u8 (k + 1 : Nat)) | 13, 3 => opnH 3 l x | 14, 1 => nwP n | _, _ => .no
  exact run_sound ⟨HH, [((0, 17), ([1,5,6,8,9,10,12,14], 11)), ((0, 18), ([1,5,8,9], 3))], fun  | _ => none⟩ 400 (by kernel_rfl) (Ys (decide ((↑(k + 1) : Int) ≤ (↑n : Int))) (fun Z0 => (Ya new_post (fun (Z1 : Nat) => (fun (Z2 : True) => (Ya c1 (Yb vb (Ya (mk Z1) (Yu (Ya c1 (Ya (op Z1) (fun (Z3 : Nat × Nat × Nat × Value × Array MapEntry × Nat) => (fun (Z4 : True) => (Ya nw (fun (Z5 : Nat) => (fun (Z6 : True) => (nx Z1 Z3.fst Z3.snd.fst Z3.snd.snd.fst Z3.snd.snd.snd.fst Z3.snd.snd.snd.snd.fst Z3.snd.snd.snd.snd.snd Z5)))))))))))))))) (fun Z7 => (show wPgF1 Γ Q [kPgF0 [1,1,1,1,1,1,1]] (S.mk (frame 233 [(1, T.sl 1 E), (5, int n), (8, T.slx 1 1 LB hA), (9, T.slx 1 2 LC hP)]) [(vb, Ob.cells (viewC v)), (0, Ob.room 1 37 (List.length LB) hA), (0, Ob.room 1 40 (List.length LC) hP)] gl) by exfalso; have := of_decide_eq_false Z7; omega)))
end
end X11
end Go.Proofs.YtcmcmafeaabjmaaGreat.Vm
namespace Go.Proofs.YtcmcmafeaabjmaaGreat.Vm
open Go Go.RowKit
set_option maxRecDepth 100000
noncomputable abbrev kPgG0 (l : List Nat) : It := .code (sub (bd Tryz.f3) l)
namespace X11
open Acp (En AS Rc blw VOk IsE XOk)
open Jrn (Dk)
open X9 (dkC obsK dkH dk_post)
open X10 (strs jC obsJ)
open X12 (PM PP cmdC entC ents)
open View (VS Mem)
open X5 (viewC mems memC firstM firstL)
def vf : VS := ⟨1, firstM 2, firstL 2⟩
theorem vf_ok : VOk vf := by
  refine ⟨by decide, by decide, by decide, fun m hm => ?_, fun i => ?_⟩
  · have hm : m ∈ firstM 2 := hm
    unfold firstM at hm
    obtain ⟨j, hj, rfl⟩ := List.mem_map.1 hm
    have := List.mem_range.1 hj
    exact ⟨by show j + 1 < 256; omega, by show 1 < 256; decide⟩
  · show firstL 2 i < 256
    unfold firstL
    split <;> decide
theorem cut0_E (k : Nat) : (Acp.cut Acp.st0 0 vf).E k = none := by
  show Acp.cutE (fun _ => none) (max 0 0) k = none
  unfold Acp.cutE
  split <;> rfl
theorem inv0 (n : Nat) (hn : 1 ≤ n) (hn5 : n ≤ 5) : Pg.Inv n 0 ⟨fun _ => 0, fun _ _ => none, fun _ _ _ => false⟩ (fun _ => Acp.cut Acp.st0 0 vf) (fun _ => ⟨⟨n, 0, 0, 0, 0, 0, 0⟩, fun _ => none, []⟩) (fun _ => none) :=
  ⟨fun j _ => ⟨Acp.xok_zero.cut (by decide) vf_ok, rfl, Nat.le_refl _, (fun s y hy => by rw [cut0_E] at hy; cases hy), fun t s hv => by cases hv⟩,
    fun i _ => ⟨⟨⟨by show (1 : Int) ≤ n; omega, by show (n : Int) ≤ 5; omega⟩, (by decide : (0 : Int) ≤ 0 ∧ (0 : Int) < 4294967296), (by decide : (0 : Int) ≤ 0 ∧ (0 : Int) < 4294967296), X12.mask0, (fun h => by cases h), (fun q hq => nomatch hq), Nat.zero_le _⟩, rfl, .inl ⟨rfl, rfl⟩⟩,
    (fun t s c hc => by cases hc), fun s c hc => by cases hc⟩
set_option maxRecDepth 20000 in
theorem made_imp (vb db jb ab mb pb : Nat) (l : List (List UInt8)) (hd : Value) (x : AS) (es : Array MapEntry) (ck : Nat) (s : PM) (gl : Glb) (v : VS) (E : List T) (n k : Nat) (B C : Nat → Nat) (hA hP : Value) :
    Imp (frame 233 [(1, .sl 1 E), (5, int n), (6, .ptr 0 vb 0), (8, .slx 1 1 (aL k B) hA), (9, .slx 1 2 (aL k C) hP), (10, int (k + 1 : Nat)), (12, .ptr 6 ab 0), (14, .ptr 8 pb 0)]) ([(vb, .cells (viewC v)), (0, .room 1 37 (aL k B).length hA), (0, .room 1 40 (aL k C).length hP)] ++ ((obsA db jb ab mb (Jrn.jd l) l hd false x es ck).map (ixOb fun k => [3,4,5,6,7].getD k 0) ++ s.obs pb)) gl (frame 233 [(1, .sl 1 E), (5, int n), (6, .ptr 0 vb 0), (8, .slx 1 1 (aL k B) hA), (9, .slx 1 2 (aL k C) hP), (10, int (k + 1 : Nat)), (12, .ptr 6 ab 0), (14, .ptr 8 pb 0)]) ([(vb, .cells (viewC v)), (0, .room 1 37 (aL k B).length hA), (0, .room 1 40 (aL k C).length hP)] ++ (obsA db jb ab mb (Jrn.jd l) l hd false x es ck ++ s.obs pb)) gl := by
  have h := Imp.ixP (ts := frame 233 [(1, .sl 1 E), (5, int n), (6, .ptr 0 vb 0), (8, .slx 1 1 (aL k B) hA), (9, .slx 1 2 (aL k C) hP), (10, int (k + 1 : Nat)), (12, .ptr 6 ab 0), (14, .ptr 8 pb 0)]) (xs := [(vb, .cells (viewC v)), (0, .room 1 37 (aL k B).length hA), (0, .room 1 40 (aL k C).length hP)]) (ys := (obsA db jb ab mb (Jrn.jd l) l hd false x es ck).map (ixOb fun k => [3,4,5,6,7].getD k 0)) (zs := s.obs pb) (gl := gl) fun k => [0,0,0,0,1,2,3,4].getD k 0
  rw [show ((obsA db jb ab mb (Jrn.jd l) l hd false x es ck).map (ixOb fun k => [3,4,5,6,7].getD k 0)).map (ixOb fun k => [0,0,0,0,1,2,3,4].getD k 0) = obsA db jb ab mb (Jrn.jd l) l hd false x es ck from rfl] at h
  exact h
section
variable (Γ : Ctx) (Q : T → Obs → Glb → Prop) (n : Nat) (A0 : List Nat)
theorem g_loop (dm : Nat) (B C : Nat → Nat) (hn : 1 ≤ n) (hn5 : n ≤ 5) (hx : ∀ z ∈ A0, z < 65536) (hQ : ∀ gl, Q (bool true) [] gl) : ∀ (c i : Nat) (gl : Glb) (gh : Pg.Gh) (A : Nat → AS) (P : Nat → PP) (dec : Int → Option X12.Cmd) (esd : Array MapEntry) (ckd top : Nat), i + c = min A0.length 300 → Lots n i A B P C gl → Pg.Inv n top gh A P dec → top ≤ i → TWk Tryz.prog Γ (fin Tryz.prog Tryz.f3 [] Q) [kPgG0 [1,1,1,1,1,1,1,1,1,0,1,0], .blk 2, kPgG0 [1,1,1,1,1,1,1,1,1,1]] ⟨frame 233 [(1, .sl 1 (xs A0)), (5, int n), (8, .sl 1 (aL n B)), (9, .sl 1 (aL n C)), (16, .mp 0 dm), (17, u32 top), (18, int i)], [(dm, .map .u32 (decT dec) esd ckd)], gl⟩ := by
  intro c
  induction c with
  | zero =>
    intro i gl gh A P dec esd ckd top hi _ _ _
    exact g_end dm (decT dec) esd ckd Γ Q (xs A0) (aL n B) (aL n C) n i top gl (by rw [xs_len]; omega) hQ
  | succ c ih =>
    intro i gl gh A P dec esd ckd top hi hL hI ht
    exact g_round Γ Q dm n i A0 B C gl gh A P dec esd ckd top hL hI ht hn hn5 (by omega) (by omega) hx fun gl gh A P dec esd ckd top h1 h2 h3 => ih (i + 1) gl gh A P dec esd ckd top (by omega) h1 h2 h3
set_option maxRecDepth 20000 in
theorem s_loop (vb : Nat) (hn : 1 ≤ n) (hn5 : n ≤ 5) (hx : ∀ z ∈ A0, z < 65536) (hQ : ∀ gl, Q (bool true) [] gl) : ∀ (c k : Nat) (B C : Nat → Nat) (hA hP : Value) (gl : Glb), k + c = n → Lots k 0 (fun _ => Acp.cut Acp.st0 0 vf) B (fun _ => ⟨⟨n, 0, 0, 0, 0, 0, 0⟩, fun _ => none, []⟩) C gl → TWk Tryz.prog Γ (fin Tryz.prog Tryz.f3 [] Q) [kPgG0 [1,1,1,1,1,1,0,1,0], .blk 0, kPgG0 [1,1,1,1,1,1,1]] ⟨frame 233 [(1, .sl 1 (xs A0)), (5, int n), (6, .ptr 0 vb 0), (8, .slx 1 1 (aL k B) hA), (9, .slx 1 2 (aL k C) hP), (10, int (k + 1 : Nat))], [(vb, .cells (viewC vf)), (0, .room 1 37 (aL k B).length hA), (0, .room 1 40 (aL k C).length hP)], gl⟩ := by
  intro c
  induction c with
  | zero =>
    intro k B C hA hP gl hk hL
    have hk : k = n := by omega
    refine s_end Γ Q (xs A0) n vb vf hA hP B C gl k hk fun dm => ?_
    subst hk
    exact g_loop Γ Q k A0 dm B C hn hn5 hx hQ (min A0.length 300) 0 gl _ _ _ (fun _ => none) #[] 0 0 (by omega) hL (inv0 k hn hn5) (Nat.le_refl _)
  | succ c ih =>
    intro k B C hA hP gl hk hL
    obtain ⟨a1, a2⟩ := vs_one (k + 1) (by omega) vf vf_ok
    refine s_make Γ Q (xs A0) n vb vf hA hP B C gl k hn5 (by omega) [(Rc.birth (k + 1) 0 vf).b] (Acp.cut Acp.st0 0 vf) (fun db => make_new db (k + 1) vf (by omega) vf_ok _ (told_post rfl)) (fun db => opn_post db (k + 1) vf (by omega) vf_ok [] (fun _ h => nomatch h) (by decide) _ rfl a1 _ rfl)
      (X12.new_u _ n (by omega) fun b => ⟨b, trivial, rfl, rfl, Nat.zero_le _, fun h => by cases h⟩) ?_
    intro db jb ab mb hd es ck pb
    refine TWk.imp (s' := ⟨_, _, _⟩) ?_ (made_imp vb db jb ab mb pb [(Rc.birth (k + 1) 0 vf).b] hd (Acp.cut Acp.st0 0 vf) es ck (PM.idle n) gl vf (xs A0) n k B C hA hP)
    refine TWk.fine fun ha hr => ?_
    obtain ⟨gl', h1, h2⟩ := hL.add (A := (fun _ => Acp.cut Acp.st0 0 vf)) (P := (fun _ => ⟨⟨n, 0, 0, 0, 0, 0, 0⟩, fun _ => none, []⟩)) ⟨a1, a2⟩ (X12.idle_left n none_) ha hr
    refine TWk.imp (s' := ⟨_, _, _⟩) ?_ (((h2 _).trans (Imp.slotR (j := 12) (t := .ptr 6 ab 0) (t' := .gp ab 0) rfl (fun M v r => ptr_gp M v r))).trans (Imp.slotR (j := 14) (t := .ptr 8 pb 0) (t' := .gp pb 0) rfl (fun M v r => ptr_gp M v r)))
    exact s_app Γ Q (xs A0) n vb vf hA hP B C k hn5 (by omega) ab pb gl' fun hA hP => ih (k + 1) _ _ hA hP gl' (by omega) h1
end
theorem agrees_any (m : Nat) (hm : m < 256) (A0 : List Nat) (hx : ∀ z ∈ A0, z < 65536) (Q : T → Obs → Glb → Prop) (hQ : ∀ gl, Q (bool true) [] gl) : TCalls Tryz.prog 3 [u8 m, .sl 1 (xs A0)] [] none_ Q := by
  obtain ⟨n, hn⟩ : ∃ n, n = 1 + m % 5 := ⟨_, rfl⟩
  have lp := fun Γ vb => s_loop Γ Q n A0 vb (by omega) (by omega) hx hQ n 0 (fun _ => 0) (fun _ => 0) nilS nilS none_ (by omega) (Lots.nil _ _ _ _)
  have lp := fun Γ vb => TWk.imp (s := ⟨frame 233 [(1, .sl 1 (xs A0)), (5, int n), (6, .ptr 0 vb 0), (8, .v nilS), (9, .v nilS), (10, int 1)], [(vb, .cells (viewC vf))], none_⟩) (lp Γ vb) (((Imp.room 1 37).trans (Imp.room 1 40)).trans ((Imp.slot 1 1 8 rfl).trans (Imp.slot (ts := frame 233 [(1, .sl 1 (xs A0)), (5, int n), (6, .ptr 0 vb 0), (8, .slx 1 1 [] nilS), (9, .v nilS), (10, int 1)]) 1 2 9 rfl)))
  have sp := fun Q' hq => X12.speaks_any Q' hq
  have fi : TCalls Tryz.prog 5 [int 2] [] none_ (callPost (told (.tup [.agg (viewC vf), int 0]) [] [])) := X5.first_any 2 _ (fun h => by omega) fun k hk _ _ => by
    have : k = 2 := by omega
    subst this
    exact told_post rfl
  have c1 : T.v (.int .i64 (IntKind.wrap .i64 (m : Int))) = int m := congrArg int (by rw [wrap_i64 (by omega) (by omega)])
  have c2 : T.v (.int .i64 ((m : Int).tmod 5)) = int (m % 5 : Nat) := congrArg int (by rw [Int.tmod_eq_emod_of_nonneg (by omega)]; omega)
  have c3 : T.v (.int .i64 (IntKind.wrap .i64 (1 + ((m % 5 : Nat) : Int)))) = int n := congrArg int (by rw [wrap_i64 (by omega) (by omega)]; omega)
  clear hQ hx hn
  generalize xs A0 = E at *
  generalize vf = v at *
  refine TCalls.of Tryz.func3 rfl (CanCall.of Tryz.func3 rfl (by decide)) [] fun Γ => ?_
  let HH : Nat → Nat → Hint := fun | 1, 0 => told (bool true) [] [] | 3, 1 => .res (int m) | 3, 2 => .res (int (m % 5 : Nat)) | 3, 3 => .res (int n) | 4, 0 => told (.tup [.agg (viewC v), int 0]) [] [] | _, _ => .no
  exact run_sound ⟨HH, [((2, 8), ([1,5,6,8,9,10], 1))], fun  | _ => none⟩ 400 (by kernel_rfl) (Ya (sp (HH 1 0).P (fun gl => told_post rfl)) (Yu (Ya c1 (Yb (int (m % 5)) (Ya c3 (Ya fi (Yu (fun (Z0 : Nat) => (Yk 10 Z0 (lp Γ Z0))))))))))
end X11
end Go.Proofs.YtcmcmafeaabjmaaGreat.Vm
