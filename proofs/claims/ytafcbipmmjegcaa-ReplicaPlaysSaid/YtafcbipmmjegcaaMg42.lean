/- Texts of this claim: RqF. -/
import Derived.Test.YtafcbipmmjegcaaMg15
import Derived.Test.YtafcbipmmjegcaaMg41
namespace Go.Proofs.Ytafcbipmmjegcaa.Vm
open Go Go.RowKit
set_option maxRecDepth 100000
noncomputable abbrev kRqF0 (l : List Nat) : It := .code (sub (bd Try.f10) l)
noncomputable abbrev kRqF1 (l : List Nat) : It := .code (sub (bd Try.f7) l)
noncomputable abbrev wRqF2 (Γ : Ctx) (Q : T → Obs → Glb → Prop) : List It → S → Prop := TWk Try.prog Γ (fin Try.prog Try.f7 [] Q)
def plRqF0 : Nat → Option RPlan := fun | 6 => some ⟨[], [7], .take true [0,1,2,4,5,6] (.one 3 (.one 7 (.take false [8,9] .done)))⟩ | 16 => some ⟨[], [8, 9], .take true [0,1,2,3,4,6,7] (.one 5 (.one 8 (.one 9 .done)))⟩ | 17 => some ⟨[], [8], .take true [0,1,2,3,4,6,7] (.one 5 (.one 8 .done))⟩ | _ => none
namespace X20
open Rep (Stp Wrd Cel Drv Plc RS Fm Ev setP setC)
open View (Mem VS)
open X5 (viewC lim mems)
def vz : VS := ⟨0, [], fun _ => 0⟩
theorem en0 (Γ : Ctx) (b bv br bo : Nat) (v : VS) (Q : T → Obs → Glb → Prop) (r : RS) (D : Dr) (gl : Glb) (hd : ∀ k, (r.P k).dr = none) (hQ : Q (outT [] []) (obsR b r D) gl) : ∀ (n i : Nat), i + n = 6 →
    TWk Try.prog Γ (fin Try.prog Try.f10 [0] Q) [kRqF0 [1,1,1,1,1,0,1,0], .blk 0, kRqF0 [1,1,1,1,1,1]] ⟨frame 42 [(0, .ptr 0 b 0), (4, .ptr 2 br 0), (5, .ptr 3 bo 0), (19, u8 i)], obsE b bv br bo r D v [] nilS [] nilS, gl⟩ := by
  intro n
  induction n with
  | zero =>
    intro i hi
    have hi : i = 6 := by omega
    subst hi
    exact en_end Γ b bv br bo r D v [] nilS [] nilS gl Q hQ
  | succ n ih =>
    intro i hi
    have hi6 : i < 6 := by omega
    have hw : IntKind.wrap .u8 ((i : Int) + 1) = ((i + 1 : Nat) : Int) := by rw [IntWalk.u8_in _ (by omega)]; omega
    have hdT := dT_none (hd i) (D.g i)
    have nx := ih (i + 1) (by omega)
    clear ih hQ hd
    let HH : Nat → Nat → Hint := fun | 9, 6 => .res (.v (.pointer none)) | 13, 0 => .res (u8 (i + 1 : Nat)) | _, _ => .no
    exact run_sound ⟨HH, [((2, 7), ([0,4,5,19], 6))], fun  | _ => none⟩ 400 (by kernel_rfl) (Ys (decide ((↑i : Int) < (6 : Int))) (fun Z0 => (Yi (↑i : Int) 6 (by omega) (Yb b (Ya (show (List.drop (12 + Int.toNat (↑i : Int) * nat_lit 9 + nat_lit 7) (repC r D))[0]? = some (T.v (Value.pointer none)) by rw [← hdT]; rcases six hi6 with rfl | rfl | rfl | rfl | rfl | rfl <;> rfl) (Ya (congrArg u8 hw) nx))))) (fun Z1 => (Yb bo (Yk 2 br (Yb br (show Q (T.agg [T.sl 34 [], T.sl 5 []]) [(b, Ob.cells (repC r D))] gl by exfalso; have := of_decide_eq_false Z1; omega))))))
theorem enter0 (b : Nat) (r : RS) (D : Dr) (gl : Glb) (hv : r.v = vz) (hd : ∀ k, (r.P k).dr = none) (Q : T → Obs → Glb → Prop) (hQ : Q (outT [] []) (obsR b r D) gl) : TCalls Try.prog 10 [.ptr 0 b 0, .agg (viewC vz)] (obsR b r D) gl Q := by
  have er : r = { r with v := vz } := by rw [← hv]
  have lp : ∀ Γ bv br bo, TWk Try.prog Γ (fin Try.prog Try.f10 [0] Q) [kRqF0 [1,1,1,1,1,0,1,0], .blk 0, kRqF0 [1,1,1,1,1,1]] ⟨frame 42 [(0, .ptr 0 b 0), (4, .ptr 2 br 0), (5, .ptr 3 bo 0), (19, u8 (0 : Nat))], [(b, .cells (repC r D)), (bv, .cells (viewC vz)), (br, .cells [.v nilS, .v nilS]), (bo, .cells [.v nilS, .v nilS])], gl⟩ := fun Γ bv br bo =>
    TWk.imp (s' := ⟨_, obsE b bv br bo r D vz [] nilS [] nilS, gl⟩) (en0 Γ b bv br bo vz Q r D gl hd hQ 6 0 rfl) (imp_outE (b, .cells (repC r D)) (bv, .cells (viewC vz)) (br, .cells [.v nilS, .v nilS]) bo)
  clear hQ
  refine TCalls.of Try.func10 rfl (CanCall.of Try.func10 rfl (by decide)) [0] fun Γ => ?_
  let HH : Nat → Nat → Hint := fun | 4, 2 => told (.sl 3 []) [] [] | 5, 4 => .obj (repC r D) | _, _ => .no
  exact run_sound ⟨HH, [((2, 7), ([0,4,5,19], 4))], fun  | _ => none⟩ 400 (by kernel_rfl) (fun (Z0 : Nat) => (fun (Z1 : Nat) => (fun (Z2 : Nat) => (Yb Z0 (Ya (clone_sl [] (Nat.zero_le _) (HH 4 2).P (told_post rfl)) (Yu (Yl 1 (Yb Z0 (Ya (Yn (2) (10) rfl) (Yb Z0 (Yl 10 (Yb b (Ya (Yn (12) (67) rfl) (Ya (show [u8 r.self, u8 r.life, u32 vz.e, T.sl 3 [], u8 (vz.L 0), u8 (vz.L 1), u8 (vz.L 2), u8 (vz.L 3), u8 (vz.L 4), u8 (vz.L 5), u8 (vz.L 6), u8 (vz.L 7), u32 (r.P 0).c.w.s.n, u8 (r.P 0).c.w.s.b, u8 (r.P 0).c.w.s.l, bool ((r.P 0).c.w.h), T.v (Value.string (r.P 0).c.w.t), bool ((r.P 0).c.w.r), int (r.P 0).c.st, dT (r.P 0).dr (D.g 0), int (r.P 0).age, u32 (r.P 1).c.w.s.n, u8 (r.P 1).c.w.s.b, u8 (r.P 1).c.w.s.l, bool ((r.P 1).c.w.h), T.v (Value.string (r.P 1).c.w.t), bool ((r.P 1).c.w.r), int (r.P 1).c.st, dT (r.P 1).dr (D.g 1), int (r.P 1).age, u32 (r.P 2).c.w.s.n, u8 (r.P 2).c.w.s.b, u8 (r.P 2).c.w.s.l, bool ((r.P 2).c.w.h), T.v (Value.string (r.P 2).c.w.t), bool ((r.P 2).c.w.r), int (r.P 2).c.st, dT (r.P 2).dr (D.g 2), int (r.P 2).age, u32 (r.P 3).c.w.s.n, u8 (r.P 3).c.w.s.b, u8 (r.P 3).c.w.s.l, bool ((r.P 3).c.w.h), T.v (Value.string (r.P 3).c.w.t), bool ((r.P 3).c.w.r), int (r.P 3).c.st, dT (r.P 3).dr (D.g 3), int (r.P 3).age, u32 (r.P 4).c.w.s.n, u8 (r.P 4).c.w.s.b, u8 (r.P 4).c.w.s.l, bool ((r.P 4).c.w.h), T.v (Value.string (r.P 4).c.w.t), bool ((r.P 4).c.w.r), int (r.P 4).c.st, dT (r.P 4).dr (D.g 4), int (r.P 4).age, u32 (r.P 5).c.w.s.n, u8 (r.P 5).c.w.s.b, u8 (r.P 5).c.w.s.l, bool ((r.P 5).c.w.h), T.v (Value.string (r.P 5).c.w.t), bool ((r.P 5).c.w.r), int (r.P 5).c.st, dT (r.P 5).dr (D.g 5), int (r.P 5).age, T.gp D.t 0] = repC r D by rw [er]; rfl) (lp Γ Z0 Z1 Z2)))))))))))))))
theorem enter0n (b : Nat) (r : RS) (D : Dr) (gl : Glb) (hv : r.v = vz) (hd : ∀ k, (r.P k).dr = none) (Q : T → Obs → Glb → Prop) (hQ : Q (outT [] []) (obsR b r D) gl) : TCalls Try.prog 10 [.ptr 0 b 0, .agg [u32 0, .v nilS, u8 0, u8 0, u8 0, u8 0, u8 0, u8 0, u8 0, u8 0]] (obsR b r D) gl Q := by
  refine TCalls.pre (enter0 b r D gl hv hd Q hQ) ?_
  refine Imp.slotR (ts := [.ptr 0 b 0, .agg [u32 0, .v nilS, u8 0, u8 0, u8 0, u8 0, u8 0, u8 0, u8 0, u8 0]]) (j := 1) (t := .agg [u32 0, .v nilS, u8 0, u8 0, u8 0, u8 0, u8 0, u8 0, u8 0, u8 0]) (t' := .agg (viewC vz)) rfl fun M v h => ?_
  simp only [Rel, RelL, viewC, X5.vwT] at h ⊢
  obtain ⟨ys, e, u0, s0, h0, g0, u1, s1, h1, g1, h2⟩ := h
  exact ⟨ys, e, u0, s0, h0, g0, u1, s1, h1, by have h3 := rel_nil_sl (M := M) (k := 3) (v := u1) (by simp only [Rel]; exact g1); simp only [Rel] at h3; exact h3, h2⟩
def repX (r : RS) (D : Dr) : List T := repT r D ++ [.slx 34 3 [] nilS, .slx 5 4 [] nilS]
def obsX (b br b1 bv : Nat) (x : Ply) (r : RS) (D D' : Dr) (v : VS) : Obs := [(b1, .cells (obsPly x)), (br, .cells (repC r D')), (b, .cells (repX r D)), (0, .room 34 70 0 nilS), (0, .room 5 73 0 nilS), (bv, .cells (viewC v))]
theorem rel_slx {M : Pm} {k i j : Nat} {es : List T} {x v : Value} (h : Rel M (.slx k i es x) v) : Rel M (.slx k j es x) v := by simp only [Rel] at h ⊢; exact h
theorem rel_ptr {M : Pm} {i j b o : Nat} {v : Value} (h : Rel M (.ptr i b o) v) : Rel M (.ptr j b o) v := by simp only [Rel] at h ⊢; exact h
theorem imp_start {fr : List T} {gl : Glb} (b br b1 bv : Nat) (x : Ply) (r : RS) (D D' : Dr) (v : VS) (h1 : fr[1]? = some (.ptr 0 b1 0)) (h7 : (fr.set 1 (.ptr 4 b1 0))[7]? = some (.ptr 1 br 0)) (h8 : ((fr.set 1 (.ptr 4 b1 0)).set 7 (.ptr 3 br 0))[8]? = some (.ptr 2 b 0)) :
    Imp fr (obsX b br b1 bv x r D D' v) gl (((fr.set 1 (.ptr 4 b1 0)).set 7 (.ptr 3 br 0)).set 8 (.ptr 0 b 0)) (obsL b br b1 bv x r r D D' [] nilS [] nilS v) gl := by
  have e1 : (repX r D)[67]? = some (.slx 34 3 [] nilS) := rfl
  have e2 : ((repX r D).set 67 (.slx 34 1 [] nilS))[68]? = some (.slx 5 4 [] nilS) := rfl
  have e3 : ((repX r D).set 67 (.slx 34 1 [] nilS)).set 68 (.slx 5 2 [] nilS) = repU r D [] nilS [] nilS := rfl
  refine (Imp.sel (ob' := [(b, .cells (repX r D)), (0, .room 34 70 0 nilS), (0, .room 5 73 0 nilS), (br, .cells (repC r D')), (b1, .cells (obsPly x)), (bv, .cells (viewC v))]) [2,3,4,1,0,5] (by decide) rfl).trans ?_
  refine (Imp.cellR (i := 0) (b := b) (j := 67) (cs := repX r D) (t' := .slx 34 1 [] nilS) rfl e1 fun _ _ h => rel_slx h).trans ?_
  refine (Imp.cellR (i := 0) (b := b) (j := 68) (cs := (repX r D).set 67 (.slx 34 1 [] nilS)) (t' := .slx 5 2 [] nilS) rfl e2 fun _ _ h => rel_slx h).trans ?_
  refine (Imp.slotR (t' := .ptr 4 b1 0) h1 fun _ _ h => rel_ptr h).trans ?_
  refine (Imp.slotR (t' := .ptr 3 br 0) h7 fun _ _ h => rel_ptr h).trans ?_
  unfold obsL
  rw [← e3]
  exact Imp.slotR (t' := .ptr 0 b 0) h8 fun _ _ h => rel_ptr h
theorem pl8 (Γ : Ctx) (b br b1 bv : Nat) (x : Ply) (self every replay : Nat) (hx : ∀ a ∈ x.A, a.n ≤ 4294967295) (Q : T → Obs → Glb → Prop) (hQ : ∀ gl, Q (bool true) [] gl) (r : RS) (v : VS) (D D' : Dr) (gl : Glb) (h : Two 0 r v D D' gl) (hv : r.v = vz) (hd : ∀ k, (r.P k).dr = none) :
    wRqF2 Γ Q [kRqF1 [1,1,1,1,1,1,1]] ⟨frame 183 [(1, .ptr 4 b1 0), (4, u8 self), (5, int every), (6, int replay), (7, .ptr 3 br 0), (8, .ptr 0 b 0), (9, .ptr 5 bv 0)], obsL b br b1 bv x r r D D' [] nilS [] nilS v, gl⟩ := by
  have lp := pl_loop Γ b br b1 bv x self every replay hx Q hQ 70 0 r v D D' gl rfl h
  have hc := tsame_any b br r D D' [] nilS [] nilS gl h.own h.own' h.lim (Nat.zero_le _) (Nat.zero_le _)
  have he := enter0n br r D' gl hv hd
  clear hQ h
  let HH : Nat → Nat → Hint := fun | 8, 4 => .plainAt [0] (toldG (outT [] []) [3] (obsR br r D') gl) | 8, 5 => .plainAt [3] (toldG (bool true) [0,1,2,3] (obsP b br r D D' [] nilS [] nilS) gl) | _, _ => .no
  exact run_sound ⟨HH, [((2, 11), ([1,4,5,6,7,8,9,10], 6))], plRqF0⟩ 400 (by kernel_rfl) (Ya (Ya (repC_plain r D') Yt) (Ya (he (HH 8 4).P (toldG_post rfl)) (Yu (Ya (Ya (repC_plain r D') Yt) (Ya (Ya (repC_plain r D') Yt) (Ya (hc (HH 8 5).P (toldG_post rfl)) (Yu (Ya (Ya (repC_plain r D') Yt) lp))))))))
theorem two_begun (t t' self life : Nat) (w : Bool) (gl : Glb) (v : VS) (hv : View.WF v) (ht : setO gl t' (.cells (trC (fun _ => w) 0)) t = none) :
    Two 0 (Rep.begun self life w) v (Dt t) (Dt t') (setO (setO gl t' (.cells (trC (fun _ => w) 0))) t (.cells (trC (fun _ => w) 0))) := by
  have hne : t' ≠ t := fun e => by subst e; rw [setO_at] at ht; cases ht
  refine ⟨begun_own t self life w _, ⟨?_, (fun _ _ _ h => by cases h), (fun _ _ h => by cases h), (fun _ _ _ _ h => by cases h), (fun _ _ _ _ h => by cases h)⟩, ?_, Fit.begun self life w, hv, Nat.zero_le _⟩
  · exact (setO_ne _ _ hne).trans (setO_at _ _ _)
  · rintro b (h | ⟨k, _, h, _⟩)
    · rintro (h' | ⟨k, _, h', _⟩)
      · exact hne (h'.symm.trans h)
      · cases h'
    · cases h
theorem wf_first {n : Nat} (h1 : 1 ≤ n) (h2 : n ≤ 8) (e : Int) (he : 0 ≤ e ∧ e ≤ 4294967295) : View.WF ⟨e, X5.firstM n, X5.firstL n⟩ := by
  refine ⟨by rw [X5.firstM_len]; exact h2, ?_, ?_, ?_, he.1, he.2, ?_⟩
  · rw [X5.firstM, List.map_map]
    show (List.map (fun i => i + 1) (List.range n)).Nodup
    unfold List.Nodup
    rw [List.pairwise_map]
    exact List.Pairwise.imp (fun h => by omega) (List.pairwise_lt_range (n := n))
  · intro m hm
    obtain ⟨i, hi, rfl⟩ := List.mem_map.1 hm
    have := List.mem_range.1 hi
    exact ⟨by simp, by simp; omega, by simp, by simp [X5.firstL, this]⟩
  · exact View.ready_pos (m := ⟨1, 1, true⟩) (List.mem_map.2 ⟨0, List.mem_range.2 (by omega), rfl⟩) rfl
  · intro k; show X5.firstL n k < 256; unfold X5.firstL; split <;> omega
def tOf : Obs → Nat
  | _ :: (_, Ob.cells l) :: _ => (match l[66]? with | some (T.gp t _) => t | _ => 0)
  | _ => 0
theorem pl6 (Γ : Ctx) (b1 : Nat) (x : Ply) (n self every replay : Nat) (hn : 1 ≤ n) (hn5 : n ≤ 5) (hx : ∀ a ∈ x.A, a.n ≤ 4294967295) (Q : T → Obs → Glb → Prop) (hQ : ∀ gl, Q (bool true) [] gl) (gl : Glb) :
    wRqF2 Γ Q [kRqF1 [1,1,1,1,1]] ⟨frame 183 [(1, .ptr 0 b1 0), (3, int n), (4, u8 self), (5, int every), (6, int replay)], [(b1, .cells (obsPly x))], gl⟩ := by
  have lp := fun b br bv t t' ht => TWk.imp (s := ⟨frame 183 [(1, .ptr 0 b1 0), (4, u8 self), (5, int every), (6, int replay), (7, .ptr 1 br 0), (8, .ptr 2 b 0), (9, .ptr 5 bv 0)], obsX b br b1 bv x (Rep.begun self 1 x.w) (Dt t) (Dt t') (vf n), setO (setO gl t' (.cells (trC (fun _ => x.w) 0))) t (.cells (trC (fun _ => x.w) 0))⟩)
    (pl8 Γ b br b1 bv x self every replay hx Q hQ (Rep.begun self 1 x.w) (vf n) (Dt t) (Dt t') _ (two_begun t t' self 1 x.w gl (vf n) (wf_first hn (by omega) 1 (by decide)) ht) rfl fun _ => rfl) (imp_start b br b1 bv x (Rep.begun self 1 x.w) (Dt t) (Dt t') (vf n) rfl rfl rfl)
  have h1 := fun (Q' : T → Obs → Glb → Prop) => new_any self 1 x.w gl Q'
  have h2 := fun (g : Glb) (Q' : T → Obs → Glb → Prop) => begun_any self 1 x.w g Q'
  clear hQ hx
  let HH : Nat → Nat → Hint := fun | 6, 3 => .call false (Nat × Nat) (fun a => gl a.2 = none) [] true (fun a => .ptr 0 a.1 0) (fun a => obsR a.1 (Rep.begun self 1 x.w) (Dt a.2)) (fun a => setO gl a.2 (.cells (trC (fun _ => x.w) 0))) | 6, 7 => .withA fun ob _ => .call false (Nat × Nat) (fun a => setO gl (tOf ob) (.cells (trC (fun _ => x.w) 0)) a.2 = none) [] true (fun a => .ptr 0 a.1 0) (fun a => obsU a.1 (Rep.begun self 1 x.w) (Dt a.2) [] nilS [] nilS) (fun a => setO (setO gl (tOf ob) (.cells (trC (fun _ => x.w) 0))) a.2 (.cells (trC (fun _ => x.w) 0))) | 7, 1 => told (.agg (viewC (vf n))) [] [] | _, _ => .no
  let z1 := (Rep.begun self 1 x.w).P 0
  let z2 := (Rep.begun self 1 x.w).P 1
  let z3 := (Rep.begun self 1 x.w).P 2
  let z4 := (Rep.begun self 1 x.w).P 3
  let z5 := (Rep.begun self 1 x.w).P 4
  let z6 := (Rep.begun self 1 x.w).P 5
  let z7 := Ob.cells (trC (fun x_1 => x.w) 0)
  let z0 := fun (Z0 : Nat × Nat) => tOf (S.mk (frame 183 [(1, T.ptr 0 b1 0), (3, int n), (4, u8 self), (5, int every), (6, int replay), (41, u8 self), (42, T.ptr 0 b1 2), (43, bool x.w), (44, T.ptr 1 Z0.fst 0), (45, u8 self), (46, T.ptr 0 b1 2), (47, bool x.w)]) [(b1, Ob.cells [u8 x.n, u8 x.self, bool x.w, u8 x.every, u8 x.replay, T.sl 13 (List.map (fun x => T.agg (acC x)) x.A)]), (Z0.fst, Ob.cells [u8 (Rep.begun self 1 x.w).self, u8 (Rep.begun self 1 x.w).life, u32 ((Rep.begun self 1 x.w).v.e), T.sl 3 [], u8 ((Rep.begun self 1 x.w).v.L 0), u8 ((Rep.begun self 1 x.w).v.L 1), u8 ((Rep.begun self 1 x.w).v.L 2), u8 ((Rep.begun self 1 x.w).v.L 3), u8 ((Rep.begun self 1 x.w).v.L 4), u8 ((Rep.begun self 1 x.w).v.L 5), u8 ((Rep.begun self 1 x.w).v.L 6), u8 ((Rep.begun self 1 x.w).v.L 7), u32 z1.c.w.s.n, u8 z1.c.w.s.b, u8 z1.c.w.s.l, bool false, T.v (Value.string z1.c.w.t), bool false, int z1.c.st, T.v (Value.pointer none), int z1.age, u32 z2.c.w.s.n, u8 z2.c.w.s.b, u8 z2.c.w.s.l, bool false, T.v (Value.string z2.c.w.t), bool false, int z2.c.st, T.v (Value.pointer none), int z2.age, u32 z3.c.w.s.n, u8 z3.c.w.s.b, u8 z3.c.w.s.l, bool false, T.v (Value.string z3.c.w.t), bool false, int z3.c.st, T.v (Value.pointer none), int z3.age, u32 z4.c.w.s.n, u8 z4.c.w.s.b, u8 z4.c.w.s.l, bool false, T.v (Value.string z4.c.w.t), bool false, int z4.c.st, T.v (Value.pointer none), int z4.age, u32 z5.c.w.s.n, u8 z5.c.w.s.b, u8 z5.c.w.s.l, bool false, T.v (Value.string z5.c.w.t), bool false, int z5.c.st, T.v (Value.pointer none), int z5.age, u32 z6.c.w.s.n, u8 z6.c.w.s.b, u8 z6.c.w.s.l, bool false, T.v (Value.string z6.c.w.t), bool false, int z6.c.st, T.v (Value.pointer none), int z6.age, T.gp (Dt Z0.snd).t 0])] fun j => if j = Z0.snd then some z7 else gl j).ob
  exact run_sound ⟨HH, [((0, 8), ([1,4,5,6,7,8,9], 6))], fun | 6 => some ⟨[0], [7], .take true [0,1,2,4,5,6] (.one 3 (.one 7 (.take false [8,9] .done)))⟩ | n => plRqF0 n⟩ 400 (by kernel_rfl) (Yb b1 (Yb b1 (Ya (h1 (HH 6 3).P fun b t h => ⟨(b, t), h, rfl, rfl, Nat.zero_le _, fun _ => rfl⟩) (fun (Z0 : Nat × Nat) => (fun (Z1 : gl Z0.snd = none) => (Ya (h2 (setO gl Z0.2 (.cells (trC (fun _ => x.w) 0))) (callPost (Hint.call false (Nat × Nat) (fun a => setO gl (z0 Z0) z7 a.snd = none) [] true (fun a => T.ptr 0 a.fst 0) (fun a => obsU a.fst (Rep.begun self 1 x.w) (Dt a.snd) [] nilS [] nilS) fun a => setO (setO gl (z0 Z0) z7) a.snd z7)) fun b t h => ⟨(b, t), h, rfl, rfl, Nat.zero_le _, fun _ => rfl⟩) (fun (Z2 : Nat × Nat) => (fun (Z3 : (if Z2.snd = tOf (S.mk (frame 183 [(1, T.ptr 0 b1 0), (3, int n), (4, u8 self), (5, int every), (6, int replay), (41, u8 self), (42, T.ptr 0 b1 2), (43, bool x.w), (44, T.ptr 1 Z0.fst 0), (45, u8 self), (46, T.ptr 0 b1 2), (47, bool x.w)]) [(b1, Ob.cells [u8 x.n, u8 x.self, bool x.w, u8 x.every, u8 x.replay, T.sl 13 (List.map (fun x => T.agg (acC x)) x.A)]), (Z0.fst, Ob.cells [u8 (Rep.begun self 1 x.w).self, u8 (Rep.begun self 1 x.w).life, u32 ((Rep.begun self 1 x.w).v.e), T.sl 3 [], u8 ((Rep.begun self 1 x.w).v.L 0), u8 ((Rep.begun self 1 x.w).v.L 1), u8 ((Rep.begun self 1 x.w).v.L 2), u8 ((Rep.begun self 1 x.w).v.L 3), u8 ((Rep.begun self 1 x.w).v.L 4), u8 ((Rep.begun self 1 x.w).v.L 5), u8 ((Rep.begun self 1 x.w).v.L 6), u8 ((Rep.begun self 1 x.w).v.L 7), u32 ((Rep.begun self 1 x.w).P 0).c.w.s.n, u8 ((Rep.begun self 1 x.w).P 0).c.w.s.b, u8 ((Rep.begun self 1 x.w).P 0).c.w.s.l, bool false, T.v (Value.string ((Rep.begun self 1 x.w).P 0).c.w.t), bool false, int ((Rep.begun self 1 x.w).P 0).c.st, T.v (Value.pointer none), int ((Rep.begun self 1 x.w).P 0).age, u32 ((Rep.begun self 1 x.w).P 1).c.w.s.n, u8 ((Rep.begun self 1 x.w).P 1).c.w.s.b, u8 ((Rep.begun self 1 x.w).P 1).c.w.s.l, bool false, T.v (Value.string ((Rep.begun self 1 x.w).P 1).c.w.t), bool false, int ((Rep.begun self 1 x.w).P 1).c.st, T.v (Value.pointer none), int ((Rep.begun self 1 x.w).P 1).age, u32 ((Rep.begun self 1 x.w).P 2).c.w.s.n, u8 ((Rep.begun self 1 x.w).P 2).c.w.s.b, u8 ((Rep.begun self 1 x.w).P 2).c.w.s.l, bool false, T.v (Value.string ((Rep.begun self 1 x.w).P 2).c.w.t), bool false, int ((Rep.begun self 1 x.w).P 2).c.st, T.v (Value.pointer none), int ((Rep.begun self 1 x.w).P 2).age, u32 ((Rep.begun self 1 x.w).P 3).c.w.s.n, u8 ((Rep.begun self 1 x.w).P 3).c.w.s.b, u8 ((Rep.begun self 1 x.w).P 3).c.w.s.l, bool false, T.v (Value.string ((Rep.begun self 1 x.w).P 3).c.w.t), bool false, int ((Rep.begun self 1 x.w).P 3).c.st, T.v (Value.pointer none), int ((Rep.begun self 1 x.w).P 3).age, u32 ((Rep.begun self 1 x.w).P 4).c.w.s.n, u8 ((Rep.begun self 1 x.w).P 4).c.w.s.b, u8 ((Rep.begun self 1 x.w).P 4).c.w.s.l, bool false, T.v (Value.string ((Rep.begun self 1 x.w).P 4).c.w.t), bool false, int ((Rep.begun self 1 x.w).P 4).c.st, T.v (Value.pointer none), int ((Rep.begun self 1 x.w).P 4).age, u32 ((Rep.begun self 1 x.w).P 5).c.w.s.n, u8 ((Rep.begun self 1 x.w).P 5).c.w.s.b, u8 ((Rep.begun self 1 x.w).P 5).c.w.s.l, bool false, T.v (Value.string ((Rep.begun self 1 x.w).P 5).c.w.t), bool false, int ((Rep.begun self 1 x.w).P 5).c.st, T.v (Value.pointer none), int ((Rep.begun self 1 x.w).P 5).age, T.gp (Dt Z0.snd).t 0])] fun j => if j = Z0.snd then some (Ob.cells (trC (fun x_1 => x.w) 0)) else gl j).ob then some (Ob.cells (trC (fun x_1 => x.w) 0)) else gl Z2.snd) = none) => (Ya (show TCalls Try.prog 11 [int n] [] none_ (callPost (told (T.agg (viewC (vf n))) [] [])) from lfirst_any n hn (by omega) _ (told_post rfl)) (Yu (fun (Z4 : Nat) => (Yk 10 Z4 (lp Z2.1 Z0.1 Z4 Z2.2 Z0.2 Z3)))))))))))))
theorem plays_any (x : Ply) (h0 : x.n < 256) (h3 : x.every < 256) (h4 : x.replay < 256) (hx : ∀ a ∈ x.A, a.n ≤ 4294967295) (Q : T → Obs → Glb → Prop) (hQ : ∀ gl, Q (bool true) [] gl) : TCalls Try.prog 7 [.agg (obsPly x)] [] none_ Q := by
  have lp := fun Γ b1 gl => pl6 Γ b1 x (1 + x.n % 5) (1 + x.self % (1 + x.n % 5)) (1 + x.every % 4) (1 + x.replay % 5) (by omega) (by omega) hx Q hQ gl
  clear hQ hx
  have q1 : ∀ n : Nat, n < 256 → IntKind.wrap .i64 (n : Int) = (n : Int) := fun n h => IntWalk.i64_in _ (by omega)
  have q2 : ∀ n m : Nat, Int.tmod (n : Int) (m : Int) = ((n % m : Nat) : Int) := fun n m => IntWalk.up_tmod rfl rfl
  have q5 : ∀ n : Nat, Int.tmod (n : Int) 5 = ((n % 5 : Nat) : Int) := fun n => q2 n 5
  have q4 : ∀ n : Nat, Int.tmod (n : Int) 4 = ((n % 4 : Nat) : Int) := fun n => q2 n 4
  have e1 : IntKind.wrap .i64 (1 + Int.tmod (IntKind.wrap .i64 (x.n : Int)) 5) = ((1 + x.n % 5 : Nat) : Int) := by rw [q1 _ h0, q5, IntWalk.i64_in _ (by omega)]; omega
  have e2 : IntKind.wrap .u8 ((1 + x.n % 5 : Nat) : Int) = ((1 + x.n % 5 : Nat) : Int) := IntWalk.u8_in _ (by omega)
  have e3 : IntKind.wrap .u8 (1 + Int.tmod (x.self : Int) ((1 + x.n % 5 : Nat) : Int)) = ((1 + x.self % (1 + x.n % 5) : Nat) : Int) := by
    rw [q2]
    have : x.self % (1 + x.n % 5) < 1 + x.n % 5 := Nat.mod_lt _ (by omega)
    rw [IntWalk.u8_in _ (by omega)]; omega
  have e4 : IntKind.wrap .i64 (1 + Int.tmod (IntKind.wrap .i64 (x.every : Int)) 4) = ((1 + x.every % 4 : Nat) : Int) := by rw [q1 _ h3, q4, IntWalk.i64_in _ (by omega)]; omega
  have e5 : IntKind.wrap .i64 (1 + Int.tmod (IntKind.wrap .i64 (x.replay : Int)) 5) = ((1 + x.replay % 5 : Nat) : Int) := by rw [q1 _ h4, q5, IntWalk.i64_in _ (by omega)]; omega
  refine TCalls.of Try.func7 rfl (CanCall.of Try.func7 rfl (by decide)) [] fun Γ => ?_
  let HH : Nat → Nat → Hint := fun | 1, 0 => .call false Glb (fun _ => True) [] true (fun _ => bool true) (fun _ => []) (fun a => a) | _, _ => .no
  exact run_sound ⟨HH, [((0, 6), ([1,3,4,5,6], 1))], fun | 5 => some ⟨[0], [], .take true [0,1,2,3,4,5,6,7,8,9,10,11] .done⟩ | n => plRqF0 n⟩ 400 (by kernel_rfl) (fun (Z0 : Nat) => (Ya (speaks_any none_ (HH 1 0).P fun gl' => ⟨gl', trivial, rfl, rfl, Nat.zero_le _, fun _ => rfl⟩) (fun (Z1 : Glb) => (fun (Z2 : True) => (Yb Z0 (Yb Z0 (Ya (show ¬IntKind.wrap IntKind.u8 (IntKind.wrap IntKind.i64 ((1 : Int) + Int.tmod (IntKind.wrap IntKind.i64 (↑x.n : Int)) (5 : Int))) = (0 : Int) by simp only [e1, e2, e3, e4, e5] at *; omega) (Yb Z0 (Yb Z0 (show wRqF2 Γ Q [kRqF1 [1,1,1,1,1]] (S.mk (frame 183 [(1, T.ptr 0 Z0 0), (3, int (IntKind.wrap IntKind.i64 ((1 : Int) + Int.tmod (IntKind.wrap IntKind.i64 (↑x.n : Int)) (5 : Int)))), (4, u8 (IntKind.wrap IntKind.u8 ((1 : Int) + Int.tmod (↑x.self : Int) (IntKind.wrap IntKind.u8 (IntKind.wrap IntKind.i64 ((1 : Int) + Int.tmod (IntKind.wrap IntKind.i64 (↑x.n : Int)) (5 : Int))))))), (5, int (IntKind.wrap IntKind.i64 ((1 : Int) + Int.tmod (IntKind.wrap IntKind.i64 (↑x.every : Int)) (4 : Int)))), (6, int (IntKind.wrap IntKind.i64 ((1 : Int) + Int.tmod (IntKind.wrap IntKind.i64 (↑x.replay : Int)) (5 : Int))))]) [(Z0, Ob.cells [u8 x.n, u8 x.self, bool x.w, u8 x.every, u8 x.replay, T.sl 13 (List.map (fun x => T.agg (acC x)) x.A)])] Z1) by simp only [e1, e2, e3, e4, e5] at *; exact lp _ _ _))))))))))
end X20
end Go.Proofs.Ytafcbipmmjegcaa.Vm
