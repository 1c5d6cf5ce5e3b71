/- Texts of this claim: RpB, Row, RpC. -/
import Derived.Test.YtafcbipmmjegcaaMg15
import Derived.Test.YtafcbipmmjegcaaMg17
import Derived.Test.YtafcbipmmjegcaaMg13
namespace Go.Proofs.Ytafcbipmmjegcaa.Vm
open Go Go.RowKit
set_option maxRecDepth 100000
noncomputable abbrev kRpB0 (l : List Nat) : It := .code (sub (bd Try.f82) l)
noncomputable abbrev wRpB1 (Γ : Ctx) (Q : T → Obs → Glb → Prop) : List It → S → Prop := TWk Try.prog Γ (fin Try.prog Try.f82 [0, 1] Q)
namespace X20
open Rep (Stp Wrd Cel Drv Plc RS Fm Ev)
def ackF (a : Nat → Bool) : Int → Option T := fun z => if 0 ≤ z ∧ a z.toNat = true then some (bool true) else none
def drT (d : Drv) (m : T) : List T := [u32 d.w.s.n, u8 d.w.s.b, u8 d.w.s.l, bool d.w.h, txt d.w.t, bool d.w.r, bool d.own, m, bool d.cov, int d.tk]
def obsD (g m : Nat) (d : Drv) (es : Array MapEntry) (ck : Nat) : Obs := [(g, .cells (drT d (.mp 1 m))), (m, .map .u8 (ackF d.acks) es ck)]
theorem dnew_ob (w : Wrd) (own : Bool) (gl : Glb) (Q : T → Obs → Glb → Prop) (hQ : ∀ g m, Q (.ptr 1 g 0) [(m, .map .u8 (fun _ => none) #[] 0), (g, .cells (drT (Rep.newD w own) (.mp 0 m)))] gl) : TCalls Try.prog 46 [.agg (wdC w), bool own] [] gl Q := by
 refine TCalls.of Try.func46 rfl (CanCall.of Try.func46 rfl (by decide)) [1,2] fun Γ => ?_
 let HH : Nat → Nat → Hint := fun _ _ => .no
 exact run_sound ⟨HH, [], fun _ => none⟩ 400 (by kernel_rfl) (fun (Z0 : Nat) => (Yb Z0 (fun (Z1 : Nat) => (fun (Z2 : Nat) => (hQ Z2 Z1)))))
theorem dword_ob (g m : Nat) (d : Drv) (es : Array MapEntry) (ck : Nat) (gl : Glb) (Q : T → Obs → Glb → Prop) (hQ : Q (.agg (wdC d.w)) (obsD g m d es ck) gl) : TCalls Try.prog 55 [.ptr 0 g 0] (obsD g m d es ck) gl Q := by
 refine TCalls.of Try.func55 rfl (CanCall.of Try.func55 rfl (by decide)) [0,1] fun Γ => ?_
 let HH : Nat → Nat → Hint := fun _ _ => .no
 exact run_sound ⟨HH, [], fun _ => none⟩ 400 (by kernel_rfl) (fun (Z0 : Nat) => (Yb g (Yk 6 Z0 (Yb Z0 hQ))))
theorem down_ob (g m : Nat) (d : Drv) (es : Array MapEntry) (ck : Nat) (gl : Glb) (Q : T → Obs → Glb → Prop) (hQ : Q (bool d.own) (obsD g m d es ck) gl) : TCalls Try.prog 56 [.ptr 0 g 0] (obsD g m d es ck) gl Q := by
 refine TCalls.of Try.func56 rfl (CanCall.of Try.func56 rfl (by decide)) [0,1] fun Γ => ?_
 let HH : Nat → Nat → Hint := fun _ _ => .no
 exact run_sound ⟨HH, [], fun _ => none⟩ 400 (by kernel_rfl) (Yb g hQ)
theorem dtick_ob (g m : Nat) (d : Drv) (es : Array MapEntry) (ck : Nat) (n : Nat) (hd : d.tk ≤ 1000000) (gl : Glb) (Q : T → Obs → Glb → Prop) (hQ : Q (bool (Rep.tickD d n).2) (obsD g m (Rep.tickD d n).1 es ck) gl) : TCalls Try.prog 67 [.ptr 0 g 0, int n] (obsD g m d es ck) gl Q := by
 have hw : IntKind.wrap .i64 ((d.tk : Int) + 1) = ((d.tk + 1 : Nat) : Int) := by rw [wrap_i64 (by omega) (by omega)]; omega
 refine TCalls.of Try.func67 rfl (CanCall.of Try.func67 rfl (by decide)) [0,1] fun Γ => ?_
 let HH : Nat → Nat → Hint := fun _ _ => .no
 exact run_sound ⟨HH, [], fun _ => none⟩ 400 (by kernel_rfl) (Yb g (Yl 1 (Yb g (Ya (Yn (10) (10) rfl) (Yb g (Ys (decide (IntKind.wrap IntKind.i64 ((↑d.tk : Int) + (1 : Int)) < (↑n : Int))) (fun Z0 => (show Q (bool false) [(g, Ob.cells [u32 d.w.s.n, u8 d.w.s.b, u8 d.w.s.l, bool d.w.h, T.v (Value.string d.w.t), bool d.w.r, bool d.own, T.mp 1 m, bool d.cov, int (IntKind.wrap IntKind.i64 ((↑d.tk : Int) + (1 : Int)))]), (m, Ob.map IntKind.u8 (ackF d.acks) es ck)] gl by simp only [hw] at *; have e : Rep.tickD d n = ({ d with tk := d.tk + 1 }, false) := if_pos (by simp at Z0; omega); rw [e] at hQ; exact hQ)) (fun Z1 => (Yl 1 (Yb g (Ya (Yn (10) (10) rfl) (show Q (bool true) [(g, Ob.cells [u32 d.w.s.n, u8 d.w.s.b, u8 d.w.s.l, bool d.w.h, T.v (Value.string d.w.t), bool d.w.r, bool d.own, T.mp 1 m, bool d.cov, int (0 : Int)]), (m, Ob.map IntKind.u8 (ackF d.acks) es ck)] gl by have e : Rep.tickD d n = ({ d with tk := 0 }, true) := if_neg (by simp at Z1; omega); rw [e] at hQ; exact hQ)))))))))))
theorem ack_fn (a : Nat → Bool) (n : Nat) (t : T) : updT (updT (ackF a) (n : Int) t) (n : Int) (bool true) = ackF (Rep.put a n true) := by
 funext z
 unfold updT ackF Rep.put
 by_cases h : z = (n : Int)
 ·subst h; simp
 ·rw [if_neg h, if_neg h]
  by_cases h0 : 0 ≤ z
  ·have : z.toNat ≠ n := by omega
   simp [h0, this]
  ·simp [h0]
theorem dack_ob (g m : Nat) (d : Drv) (es : Array MapEntry) (ck : Nat) (n : Nat) (c : Bool) (gl : Glb) (Q : T → Obs → Glb → Prop) (hQ : ∀ es' ck', Q (.tup []) (obsD g m (Rep.ackD d n c) es' ck') gl) : TCalls Try.prog 73 [.ptr 0 g 0, u8 n, bool c] (obsD g m d es ck) gl Q := by
 refine TCalls.of Try.func73 rfl (CanCall.of Try.func73 rfl (by decide)) [0,1] fun Γ => ?_
 let HH : Nat → Nat → Hint := fun | 1, 15 => .num n | _, _ => .no
 exact run_sound ⟨HH, [], fun | 1 => some ⟨[0], [13,15,18], .take true [0,1,2,3,4,6,7,8,9,10] (.take false [5,11,12] (.one 13 (.take false [14] (.one 15 (.take false [16,17] (.one 18 .done))))))⟩ | _ => none⟩ 400 (by kernel_rfl) (Yb g (Yb g (Ys (d.cov) (fun Z0 => (Yb m (fun (Z1 : Nat) => (fun (Z2 : Array MapEntry) => (fun (Z3 : Nat) => (fun (Z4 : BornE Z2 IntKind.u8 (↑Z1 : Int) (↑n : Int)) => (Yb m (Ya (show BornE Z2 IntKind.u8 (↑Z1 : Int) (↑n : Int) by assumption) (fun (Z5 : Array MapEntry) => (fun (Z6 : Nat) => (Yl 1 (Yb g (Ya (Yn (9) (10) rfl) (show Q (T.tup []) [(g, Ob.cells [u32 d.w.s.n, u8 d.w.s.b, u8 d.w.s.l, bool d.w.h, T.v (Value.string d.w.t), bool d.w.r, bool d.own, T.mp 1 m, bool true, int d.tk]), (m, Ob.map IntKind.u8 (updT (updT (ackF d.acks) (↑n : Int) (Option.getD (ackF d.acks (↑n : Int)) (bool false))) (↑n : Int) (bool true)) Z5 Z6)] gl by have h2 := hQ Z5 Z6; rw [show Rep.ackD d n c = ⟨d.w, d.own, Rep.put d.acks n true, d.cov || c, d.tk⟩ from rfl, Z0] at h2; simp only [obsD] at h2; rw [← ack_fn d.acks n ((ackF d.acks (n : Int)).getD (bool false))] at h2; exact h2)))))))))))))) (fun Z7 => (Yb m (fun (Z8 : Nat) => (fun (Z9 : Array MapEntry) => (fun (Z10 : Nat) => (fun (Z11 : BornE Z9 IntKind.u8 (↑Z8 : Int) (↑n : Int)) => (Yb m (Ya (show BornE Z9 IntKind.u8 (↑Z8 : Int) (↑n : Int) by assumption) (fun (Z12 : Array MapEntry) => (fun (Z13 : Nat) => (Yl 1 (Yb g (Ya (Yn (9) (10) rfl) (show Q (T.tup []) [(g, Ob.cells [u32 d.w.s.n, u8 d.w.s.b, u8 d.w.s.l, bool d.w.h, T.v (Value.string d.w.t), bool d.w.r, bool d.own, T.mp 1 m, bool c, int d.tk]), (m, Ob.map IntKind.u8 (updT (updT (ackF d.acks) (↑n : Int) (Option.getD (ackF d.acks (↑n : Int)) (bool false))) (↑n : Int) (bool true)) Z12 Z13)] gl by have h2 := hQ Z12 Z13; rw [show Rep.ackD d n c = ⟨d.w, d.own, Rep.put d.acks n true, d.cov || c, d.tk⟩ from rfl, Z7] at h2; simp only [obsD] at h2; rw [← ack_fn d.acks n ((ackF d.acks (n : Int)).getD (bool false))] at h2; exact h2)))))))))))))))))
theorem dagain_ob (g m : Nat) (d : Drv) (es : Array MapEntry) (ck : Nat) (gl : Glb) (Q : T → Obs → Glb → Prop) (hQ : ∀ m', Q (.tup []) [(g, .cells (drT (Rep.newD d.w d.own) (.mp 2 m'))), (m, .map .u8 (ackF d.acks) es ck), (m', .map .u8 (fun _ => none) #[] 0)] gl) : TCalls Try.prog 34 [.ptr 0 g 0] (obsD g m d es ck) gl Q := by
 refine TCalls.of Try.func34 rfl (CanCall.of Try.func34 rfl (by decide)) [0,1,2] fun Γ => ?_
 let HH : Nat → Nat → Hint := fun | 1, 9 => .withB fun B => .call false (Nat × Nat) (fun _ => True) [] false (fun a => .ptr 1 a.1 0) (fun a => [(a.2, .map .u8 (fun _ => none) #[] 0), (a.1, .cells (drT (Rep.newD d.w d.own) (.mp 0 a.2)))]) (fun _ => none_) | _, _ => .no
 exact run_sound ⟨HH, [], fun | 1 => some ⟨[0], [13], .take true [0,1,2,3,4,5,6,7,8] (.one 9 (.take true [10] (.one 11 (.take true [12] (.one 13 .done)))))⟩ | _ => none⟩ 400 (by kernel_rfl) (Yb g (Yb g (Ya (dnew_ob d.w d.own (fun x => none) (callPost (Hint.call false (Nat × Nat) (fun x => True) [] false (fun a => T.ptr 1 a.fst 0) (fun a => [(a.snd, Ob.map IntKind.u8 (fun x => none) #[] 0), (a.fst, Ob.cells (drT (Rep.newD d.w d.own) (T.mp 0 a.snd)))]) fun x => none_)) fun g m => ⟨(g, m), trivial, rfl, rfl, Nat.zero_le _, fun h => by cases h⟩) (fun (Z0 : Nat × Nat) => (fun (Z1 : True) => (Yb Z0.fst (Yk 10 g (hQ Z0.2))))))))
theorem u8s_at {l : List Nat} {i x : Nat} (h : l[i]? = some x) : (X5.u8s l)[i]? = some (u8 x) := by rw [X5.u8s, List.getElem?_map, h]; rfl
theorem ackF_at (a : Nat → Bool) (x : Nat) : (ackF a (x : Int)).getD (bool false) = bool (a x) := by
 unfold ackF
 cases h : a x <;> simp [h]
theorem ddone_loop (Γ : Ctx) (g m : Nat) (d : Drv) (es : Array MapEntry) (ck : Nat) (l : List Nat) (hl : l.length ≤ 1000000) (gl : Glb) (Q : T → Obs → Glb → Prop) (hQ : Q (.tup [bool (Rep.doneD d l), bool d.cov]) (obsD g m d es ck) gl) : ∀ (r d0 : List Nat) (k : Int), l = d0 ++ r → k = d0.length → d0.all d.acks = true →
  wRpB1 Γ Q [kRpB0 [1,1,0,1,0], .blk 0, kRpB0 [1,1,1]] ⟨frame 32 [(0, .ptr 0 g 0), (10, .sl 1 (X5.u8s l)), (11, int l.length), (12, int k)], obsD g m d es ck, gl⟩ := by
 intro r
 induction r with
 | nil =>
  intro d0 k h1 hk ha
  have hlk : (l.length : Int) = k := by rw [h1, hk]; simp
  have hd : Rep.doneD d l = true := by rw [Rep.doneD, h1, List.append_nil]; exact ha
  rw [hd] at hQ
  clear h1 hd
  generalize X5.u8s l = L at *
  generalize (l.length : Int) = n at *
  subst hlk
  let HH : Nat → Nat → Hint := fun | 5, 0 => .res (u8 0) | 6, 5 => .res (bool true) | _, _ => .no
  exact run_sound ⟨HH, [((2, 4), ([0,10,11,12], 2))], fun  | _ => none⟩ 400 (by kernel_rfl) (Ys (decide (n < n)) (fun Z0 => (Ya (show (0 : Int) ≤ n by omega) (Ya (show L[Int.toNat n]? = some (u8 (0 : Int)) by exfalso; simp at *; done) (Yb g (Yb m (Ya (show some (if false = true then T.tup [Option.getD (ackF d.acks (0 : Int)) (bool false), bool (Option.isSome (ackF d.acks (0 : Int)))] else Option.getD (ackF d.acks (0 : Int)) (bool false)) = some (bool true) by exfalso; simp at *; done) (show wRpB1 Γ Q [kRpB0 [1,1,0,1,0], It.blk 0, kRpB0 [1,1,1]] (S.mk (frame 32 [(0, T.ptr 0 g 0), (10, T.sl 1 L), (11, int n), (12, int (IntKind.wrap IntKind.i64 (n + (1 : Int))))]) [(g, Ob.cells [u32 d.w.s.n, u8 d.w.s.b, u8 d.w.s.l, bool d.w.h, T.v (Value.string d.w.t), bool d.w.r, bool d.own, T.mp 1 m, bool d.cov, int d.tk]), (m, Ob.map IntKind.u8 (ackF d.acks) es ck)] gl) by exfalso; simp at *; done))))))) (fun Z1 => (Yb g hQ)))
 | cons x r ih =>
  intro d0 k h1 hk ha
  have hlk : k < (l.length : Int) := by rw [h1, hk]; simp; omega
  have hk0 : 0 ≤ k := by omega
  have hw : IntKind.wrap .i64 (k + 1) = k + 1 := wrap_i64 (by omega) (by omega)
  have e1 : (X5.u8s l)[k.toNat]? = some (u8 x) := u8s_at (by rw [h1, hk]; simp)
  have nx : d.acks x = true → wRpB1 Γ Q [kRpB0 [1,1,0,1,0], .blk 0, kRpB0 [1,1,1]] ⟨frame 32 [(0, .ptr 0 g 0), (10, .sl 1 (X5.u8s l)), (11, int l.length), (12, int (k + 1))], obsD g m d es ck, gl⟩ := fun e => ih (d0 ++ [x]) (k + 1) (by simp [h1]) (by simp [hk]) (by simp [List.all_append, ha, e])
  have no : d.acks x = false → Rep.doneD d l = false := fun e => by rw [Rep.doneD, h1, List.all_append, List.all_cons, e]; simp
  have e2 := ackF_at d.acks x
  have l1 : (X5.u8s l).length = l.length := X5.u8s_len l
  clear ih h1
  generalize X5.u8s l = L at *
  generalize (l.length : Int) = n at *
  let HH : Nat → Nat → Hint := fun | 5, 0 => .res (u8 x) | 6, 5 => .res (bool (d.acks x)) | 8, 0 => .res (int (k + 1)) | _, _ => .no
  exact run_sound ⟨HH, [((2, 4), ([0,10,11,12], 2))], fun  | _ => none⟩ 400 (by kernel_rfl) (Ys (decide (k < n)) (fun Z0 => (Ya (show (0 : Int) ≤ k by omega) (Ya e1 (Yb g (Yb m (Ya (congrArg some e2) (Ys (!d.acks x) (fun Z1 => (Yb g (show Q (T.tup [bool false, bool d.cov]) [(g, Ob.cells [u32 d.w.s.n, u8 d.w.s.b, u8 d.w.s.l, bool d.w.h, T.v (Value.string d.w.t), bool d.w.r, bool d.own, T.mp 1 m, bool d.cov, int d.tk]), (m, Ob.map IntKind.u8 (ackF d.acks) es ck)] gl by rw [no (by simpa using Z1)] at hQ; exact hQ))) (fun Z2 => (Ya (congrArg int hw) (show wRpB1 Γ Q [kRpB0 [1,1,0,1,0], It.blk 0, kRpB0 [1,1,1]] (S.mk (frame 32 [(0, T.ptr 0 g 0), (10, T.sl 1 L), (11, int n), (12, int (k + (1 : Int)))]) [(g, Ob.cells [u32 d.w.s.n, u8 d.w.s.b, u8 d.w.s.l, bool d.w.h, T.v (Value.string d.w.t), bool d.w.r, bool d.own, T.mp 1 m, bool d.cov, int d.tk]), (m, Ob.map IntKind.u8 (ackF d.acks) es ck)] gl) by refine nx ?_; simpa using Z2)))))))))) (fun Z3 => (Yb g (show Q (T.tup [bool true, bool d.cov]) [(g, Ob.cells [u32 d.w.s.n, u8 d.w.s.b, u8 d.w.s.l, bool d.w.h, T.v (Value.string d.w.t), bool d.w.r, bool d.own, T.mp 1 m, bool d.cov, int d.tk]), (m, Ob.map IntKind.u8 (ackF d.acks) es ck)] gl by exfalso; have := of_decide_eq_false Z3; omega))))
theorem ddone_ob (g m : Nat) (d : Drv) (es : Array MapEntry) (ck : Nat) (l : List Nat) (hl : l.length ≤ 1000000) (gl : Glb) (Q : T → Obs → Glb → Prop) (hQ : Q (.tup [bool (Rep.doneD d l), bool d.cov]) (obsD g m d es ck) gl) : TCalls Try.prog 82 [.ptr 0 g 0, .sl 1 (X5.u8s l)] (obsD g m d es ck) gl Q := by
 have lp := fun Γ => ddone_loop Γ g m d es ck l hl gl Q hQ l [] 0 rfl rfl rfl
 rw [← X5.u8s_len l] at lp
 clear hQ
 generalize X5.u8s l = L at *
 refine TCalls.of Try.func82 rfl (CanCall.of Try.func82 rfl (by decide)) [0,1] fun Γ => ?_
 let HH : Nat → Nat → Hint := fun _ _ => .no
 exact run_sound ⟨HH, [((2, 4), ([0,10,11,12], 2))], fun _ => none⟩ 400 (by kernel_rfl) (lp Γ)
def gD (m : Nat) (d : Drv) : Ob := .cells (drT d (.v (.map (some m))))
def setDr (gl : Glb) (g m : Nat) (d : Drv) (es : Array MapEntry) (ck : Nat) : Glb := setO (setO gl m (.map .u8 (ackF d.acks) es ck)) g (gD m d)
theorem drop2_set (gl : Glb) (g m : Nat) (d : Drv) (es : Array MapEntry) (ck : Nat) : setO (setO (dropO (dropO gl g) m) m (.map .u8 (ackF d.acks) es ck)) g (gD m d) = setDr gl g m d es ck := by
 funext j
 unfold setDr setO dropO
 by_cases h1 : j = g
 ·simp [h1]
 ·by_cases h2 : j = m
  ·simp [h2]
  ·simp [h1, h2]
theorem into_fam {g m : Nat} {d : Drv} {es : Array MapEntry} {ck : Nat} {gl : Glb} {ts : List T} : Imp ts (obsD g m d es ck) gl ts [] (setO (setO gl m (.map .u8 (ackF d.acks) es ck)) g (gD m d)) := by
 refine (Imp.cellR (i := 0) (j := 7) rfl rfl mp_v).trans ?_
 refine (Imp.intoG (ob := [(g, gD m d)]) (b := m) (X := .map .u8 (ackF d.acks) es ck) rfl).trans ?_
 exact Imp.intoG (ob := []) rfl
theorem out_fam {g m : Nat} {d : Drv} {es : Array MapEntry} {ck : Nat} {gl : Glb} {a : List T} (hg : gl g = some (gD m d)) (hm : gl m = some (.map .u8 (ackF d.acks) es ck)) (h : g ≠ m) : Imp (.gp g 0 :: a) [] gl (.ptr 0 g 0 :: a) (obsD g m d es ck) (dropO (dropO gl g) m) := by
 refine (Imp.slotR (j := 0) rfl (gp_ptr (i := 0))).trans ?_
 refine (Imp.outG (b := g) rfl hg).trans ?_
 refine (Imp.outG (b := m) rfl ((dropO_ne gl (Ne.symm h)).trans hm)).trans ?_
 exact Imp.cellR (i := 0) (b := g) (j := 7) (cs := drT d (.v (.map (some m)))) (t' := .mp 1 m) rfl rfl v_mp
theorem fam {f : FuncId} {a : List T} {g m : Nat} {d : Drv} {es : Array MapEntry} {ck : Nat} {gl : Glb} {Q Q' : T → Obs → Glb → Prop} (hg : gl g = some (gD m d)) (hm : gl m = some (.map .u8 (ackF d.acks) es ck)) (hne : g ≠ m)
  (h : TCalls Try.prog f (.ptr 0 g 0 :: a) (obsD g m d es ck) (dropO (dropO gl g) m) Q')
  (hq : ∀ r ob' gl', Q' r ob' gl' → ∃ d' es' ck', ob' = obsD g m d' es' ck' ∧ gl' = dropO (dropO gl g) m ∧ Q r [] (setDr gl g m d' es' ck')) : TCalls Try.prog f (.gp g 0 :: a) [] gl Q :=
 (h.post fun r ob' gl' hr => by
  obtain ⟨d', es', ck', rfl, rfl, h3⟩ := hq r ob' gl' hr
  refine ⟨r, [], _, into_fam, ?_⟩
  rw [drop2_set]
  exact h3).pre (out_fam hg hm hne)
theorem setDr_self {gl : Glb} {g m : Nat} {d : Drv} {es : Array MapEntry} {ck : Nat} (hg : gl g = some (gD m d)) (hm : gl m = some (.map .u8 (ackF d.acks) es ck)) : setDr gl g m d es ck = gl := by
 unfold setDr
 rw [setO_self gl hm, setO_self gl hg]
def Lies (gl : Glb) (g m : Nat) (d : Drv) : Prop := gl g = some (gD m d) ∧ ∃ es ck, gl m = some (.map .u8 (ackF d.acks) es ck)
theorem Lies.ne {gl : Glb} {g m : Nat} {d : Drv} (h : Lies gl g m d) : g ≠ m := fun e => by
 obtain ⟨h1, es, ck, h2⟩ := h
 rw [e, h2] at h1
 cases h1
theorem dwordG {gl : Glb} {g m : Nat} {d : Drv} (h : Lies gl g m d) (Q : T → Obs → Glb → Prop) (hQ : Q (.agg (wdC d.w)) [] gl) : TCalls Try.prog 55 [.gp g 0] [] gl Q := by
 obtain ⟨hg, es, ck, hm⟩ := id h
 exact fam hg hm h.ne (dword_ob g m d es ck _ (fun r ob' gl' => r = .agg (wdC d.w) ∧ ob' = obsD g m d es ck ∧ gl' = dropO (dropO gl g) m) ⟨rfl, rfl, rfl⟩) (fun r ob' gl' ⟨h1, h2, h3⟩ => ⟨d, es, ck, h2, h3, by rw [h1, setDr_self hg hm]; exact hQ⟩)
theorem downG {gl : Glb} {g m : Nat} {d : Drv} (h : Lies gl g m d) (Q : T → Obs → Glb → Prop) (hQ : Q (bool d.own) [] gl) : TCalls Try.prog 56 [.gp g 0] [] gl Q := by
 obtain ⟨hg, es, ck, hm⟩ := id h
 exact fam hg hm h.ne (down_ob g m d es ck _ (fun r ob' gl' => r = bool d.own ∧ ob' = obsD g m d es ck ∧ gl' = dropO (dropO gl g) m) ⟨rfl, rfl, rfl⟩) (fun r ob' gl' ⟨h1, h2, h3⟩ => ⟨d, es, ck, h2, h3, by rw [h1, setDr_self hg hm]; exact hQ⟩)
theorem ddoneG {gl : Glb} {g m : Nat} {d : Drv} (h : Lies gl g m d) (l : List Nat) (hl : l.length ≤ 1000000) (Q : T → Obs → Glb → Prop) (hQ : Q (.tup [bool (Rep.doneD d l), bool d.cov]) [] gl) : TCalls Try.prog 82 [.gp g 0, .sl 1 (X5.u8s l)] [] gl Q := by
 obtain ⟨hg, es, ck, hm⟩ := id h
 exact fam hg hm h.ne (ddone_ob g m d es ck l hl _ (fun r ob' gl' => r = .tup [bool (Rep.doneD d l), bool d.cov] ∧ ob' = obsD g m d es ck ∧ gl' = dropO (dropO gl g) m) ⟨rfl, rfl, rfl⟩) (fun r ob' gl' ⟨h1, h2, h3⟩ => ⟨d, es, ck, h2, h3, by rw [h1, setDr_self hg hm]; exact hQ⟩)
theorem dtickG {gl : Glb} {g m : Nat} {d : Drv} (h : Lies gl g m d) (n : Nat) (hd : d.tk ≤ 1000000) (Q : T → Obs → Glb → Prop) (hQ : ∀ es ck, Q (bool (Rep.tickD d n).2) [] (setDr gl g m (Rep.tickD d n).1 es ck)) : TCalls Try.prog 67 [.gp g 0, int n] [] gl Q := by
 obtain ⟨hg, es, ck, hm⟩ := id h
 exact fam hg hm h.ne (dtick_ob g m d es ck n hd _ (fun r ob' gl' => r = bool (Rep.tickD d n).2 ∧ ob' = obsD g m (Rep.tickD d n).1 es ck ∧ gl' = dropO (dropO gl g) m) ⟨rfl, rfl, rfl⟩) (fun r ob' gl' ⟨h1, h2, h3⟩ => ⟨_, es, ck, h2, h3, by rw [h1]; exact hQ es ck⟩)
theorem dackG {gl : Glb} {g m : Nat} {d : Drv} (h : Lies gl g m d) (n : Nat) (c : Bool) (Q : T → Obs → Glb → Prop) (hQ : ∀ es ck, Q (.tup []) [] (setDr gl g m (Rep.ackD d n c) es ck)) : TCalls Try.prog 73 [.gp g 0, u8 n, bool c] [] gl Q := by
 obtain ⟨hg, es, ck, hm⟩ := id h
 exact fam hg hm h.ne (dack_ob g m d es ck n c _ (fun r ob' gl' => r = .tup [] ∧ (∃ es' ck', ob' = obsD g m (Rep.ackD d n c) es' ck') ∧ gl' = dropO (dropO gl g) m) fun es' ck' => ⟨rfl, ⟨es', ck', rfl⟩, rfl⟩) (fun r ob' gl' ⟨h1, ⟨es', ck', h2⟩, h3⟩ => ⟨_, es', ck', h2, h3, by rw [h1]; exact hQ es' ck'⟩)
theorem ackF_none : ackF (fun _ => false) = fun _ => none := by funext z; unfold ackF; simp
theorem dnewG (w : Wrd) (own : Bool) (gl : Glb) (Q : T → Obs → Glb → Prop) (hQ : ∀ g m es ck, gl g = none → gl m = none → g ≠ m → Q (.gp g 0) [] (setDr gl g m (Rep.newD w own) es ck)) : TCalls Try.prog 46 [.agg (wdC w), bool own] [] gl Q := by
 refine TCalls.postA (dnew_ob w own gl (fun r ob' gl' => ∃ g m, r = .ptr 1 g 0 ∧ ob' = [(m, .map .u8 (fun _ => none) #[] 0), (g, .cells (drT (Rep.newD w own) (.mp 0 m)))] ∧ gl' = gl) fun g m => ⟨g, m, rfl, rfl, rfl⟩) ?_
 rintro r ob' gl' ha ⟨g, m, rfl, rfl, rfl⟩
 have hg := ha.sep 1 _ g rfl rfl
 have hm := ha.sep 0 _ m rfl rfl
 have hne : g ≠ m := fun e => by have := ha.apart 1 0 _ _ g rfl rfl rfl (by rw [e]; rfl); omega
 refine ⟨.gp g 0, [], setDr gl' g m (Rep.newD w own) #[] 0, ?_, hQ g m #[] 0 hg hm hne⟩
 refine (Imp.slotR (j := 0) rfl ptr_gp).trans ?_
 refine (Imp.cellR (i := 1) (j := 7) rfl rfl mp_v).trans ?_
 refine (Imp.intoG (ob := [(m, .map .u8 (fun _ => none) #[] 0)]) (b := g) (X := gD m (Rep.newD w own)) rfl).trans ?_
 refine (Imp.intoG (ob := []) rfl).trans ?_
 unfold setDr
 rw [setO_comm _ _ _ hne, show ackF (Rep.newD w own).acks = fun _ => none from ackF_none]
 exact Imp.refl _ _ _
theorem dagainG {gl : Glb} {g m : Nat} {d : Drv} (h : Lies gl g m d) (Q : T → Obs → Glb → Prop) (hQ : ∀ m' es ck, gl m' = none → Q (.tup []) [] (setDr gl g m' (Rep.newD d.w d.own) es ck)) : TCalls Try.prog 34 [.gp g 0] [] gl Q := by
 obtain ⟨hg, es, ck, hm⟩ := id h
 refine TCalls.pre (TCalls.postA (dagain_ob g m d es ck (dropO (dropO gl g) m) (fun r ob' gl' => ∃ m', r = .tup [] ∧ ob' = [(g, .cells (drT (Rep.newD d.w d.own) (.mp 2 m'))), (m, .map .u8 (ackF d.acks) es ck), (m', .map .u8 (fun _ => none) #[] 0)] ∧ gl' = dropO (dropO gl g) m) fun m' => ⟨m', rfl, rfl, rfl⟩) ?_) (out_fam hg hm h.ne)
 rintro r ob' gl' ha ⟨m', rfl, rfl, rfl⟩
 have h1 := ha.sep 2 _ m' rfl rfl
 have n1 : m' ≠ g := fun e => by have := ha.apart 2 0 _ _ m' rfl rfl rfl (by rw [e]; rfl); omega
 have n2 : m' ≠ m := fun e => by have := ha.apart 2 1 _ _ m' rfl rfl rfl (by rw [e]; rfl); omega
 rw [dropO_ne _ n2, dropO_ne _ n1] at h1
 refine ⟨.tup [], [], setDr gl g m' (Rep.newD d.w d.own) #[] 0, ?_, hQ m' #[] 0 h1⟩
 refine (Imp.cellR (i := 0) (j := 7) rfl rfl mp_v).trans ?_
 refine (Imp.intoG (ob := [(g, gD m' (Rep.newD d.w d.own)), (m, .map .u8 (ackF d.acks) es ck)]) (b := m') (X := .map .u8 (fun _ => none) #[] 0) rfl).trans ?_
 refine (Imp.intoG (ob := [(g, gD m' (Rep.newD d.w d.own))]) (b := m) (X := .map .u8 (ackF d.acks) es ck) rfl).trans ?_
 refine (Imp.intoG (ob := []) rfl).trans ?_
 have e : setO (setO (setO (dropO (dropO gl g) m) m' (.map .u8 (fun _ => none) #[] 0)) m (.map .u8 (ackF d.acks) es ck)) g (gD m' (Rep.newD d.w d.own)) = setDr gl g m' (Rep.newD d.w d.own) #[] 0 := by
  unfold setDr
  rw [show ackF (Rep.newD d.w d.own).acks = fun _ => none from ackF_none]
  funext j
  unfold setO dropO
  by_cases e1 : j = g
  ·simp [e1]
  ·by_cases e2 : j = m'
   ·subst e2; simp [e1, n2]
   ·by_cases e3 : j = m
    ·subst e3; simp [e1, e2, hm]
    ·simp [e1, e2, e3]
 rw [e]
 exact Imp.refl _ _ _
end X20
end Go.Proofs.Ytafcbipmmjegcaa.Vm
namespace Go.Proofs.Ytafcbipmmjegcaa.Vm
open Go Go.RowKit
namespace Row
section
variable {α : Type} {C : α → List T} {k : Nat}
def aggs (C : α → List T) (l : List α) : List T := l.map fun x => .agg (C x)
def flat (C : α → List T) (l : List α) : List T := l.flatMap C
theorem aggs_len (l : List α) : (aggs C l).length = l.length := by simp [aggs]
theorem aggs_at {l : List α} {i : Nat} {x : α} (h : l[i]? = some x) : (aggs C l)[i]? = some (.agg (C x)) := by rw [aggs, List.getElem?_map, h]; rfl
theorem flat_cons (x : α) (l : List α) : flat C (x :: l) = C x ++ flat C l := by simp [flat]
theorem flat_len (hk : ∀ x, (C x).length = k) : ∀ l : List α, (flat C l).length = l.length * k
 | [] => by simp [flat]
 | x :: l => by rw [flat_cons, List.length_append, hk, flat_len hk l, List.length_cons, Nat.add_mul]; omega
theorem takes (hk : ∀ x, (C x).length = k) (l : List α) (R : List T) : ((flat C l ++ R).drop 0).take (l.length * k) = flat C l := by
 rw [List.drop_zero, List.take_left' (flat_len hk l)]
theorem one (h : ∀ x, (C x).all T.one = true) : ∀ l : List α, (flat C l).all T.one = true
 | [] => rfl
 | x :: l => by rw [flat_cons, List.all_append, h x, one h l]; rfl
theorem chunk_flat (hk : ∀ x, (C x).length = k) : ∀ l : List α, chunk true k l.length (flat C l) = aggs C l
 | [] => rfl
 | x :: l => by
  rw [flat_cons]
  show (if true then T.agg ((C x ++ flat C l).take k) else _) :: chunk true k l.length ((C x ++ flat C l).drop k) = _
  rw [if_pos rfl, List.take_left' (hk x), List.drop_left' (hk x), chunk_flat hk l]; rfl
theorem fit (hk : ∀ x, (C x).length = k) (l : List α) (i : Nat) (hi : i < l.length) (R : List T) : i * k + k ≤ (flat C l ++ R).length := by
 rw [List.length_append, flat_len hk]
 have : (i + 1) * k ≤ l.length * k := Nat.mul_le_mul_right k hi
 rw [Nat.add_mul] at this
 omega
theorem fz_len (hk : ∀ x, (C x).length = k) {cs R : List T} {l : List α} {n : Nat} (h : cs = flat C l ++ R) (hn : n = l.length) : 0 + n * k ≤ cs.length := by rw [h, hn, List.length_append, flat_len hk]; omega
theorem fz_one (hk : ∀ x, (C x).length = k) (h1 : ∀ x, (C x).all T.one = true) {cs R : List T} {l : List α} {n : Nat} (h : cs = flat C l ++ R) (hn : n = l.length) : ((cs.drop 0).take (n * k)).all T.one = true := by rw [h, hn, takes hk]; exact one h1 l
theorem fz_es (hk : ∀ x, (C x).length = k) {cs R : List T} {l : List α} {n : Nat} (h : cs = flat C l ++ R) (hn : n = l.length) : chunk true k n ((cs.drop 0).take (n * k)) = aggs C l := by rw [h, hn, takes hk]; exact chunk_flat hk l
end
end Row
end Go.Proofs.Ytafcbipmmjegcaa.Vm
namespace Go.Proofs.Ytafcbipmmjegcaa.Vm
open Go Go.RowKit
set_option maxRecDepth 100000
namespace X20
open Rep (Stp Wrd Cel Drv Plc RS Fm Ev)
def trC (h : Nat → Bool) (c : Nat) : List T := [bool (h 0), bool (h 1), bool (h 2), bool (h 3), bool (h 4), bool (h 5), int c]
def obsT (b : Nat) (h : Nat → Bool) (c : Nat) : Obs := [(b, .cells (trC h c))]
theorem six {k : Nat} (h : k < 6) : k = 0 ∨ k = 1 ∨ k = 2 ∨ k = 3 ∨ k = 4 ∨ k = 5 := by omega
theorem tnew_ob (w : Bool) (gl : Glb) (Q : T → Obs → Glb → Prop) (hQ : ∀ b, Q (.ptr 0 b 0) (obsT b (fun _ => w) 0) gl) : TCalls Try.prog 31 [bool w] [] gl Q := by
 refine TCalls.of Try.func31 rfl (CanCall.of Try.func31 rfl (by decide)) [0] fun Γ => ?_
 let HH : Nat → Nat → Hint := fun _ _ => .no
 exact run_sound ⟨HH, [], fun _ => none⟩ 400 (by kernel_rfl) (fun (Z0 : Nat) => (Ya (Ya (show (0 : Int) ≤ (0 : Int) by omega) (show (0 : Int) < (↑(6 : Nat) : Int) by omega)) (Yl 1 (Yb Z0 (Ya (Yn (1) (7) rfl) (Ya (Ya (show (0 : Int) ≤ IntKind.wrap IntKind.i64 ((0 : Int) + (1 : Int)) by decide) (show IntKind.wrap IntKind.i64 ((0 : Int) + (1 : Int)) < (↑(6 : Nat) : Int) by decide)) (Yl 1 (Yb Z0 (Ya (Yn (2) (7) rfl) (Ya (Ya (show (0 : Int) ≤ IntKind.wrap IntKind.i64 (IntKind.wrap IntKind.i64 ((0 : Int) + (1 : Int)) + (1 : Int)) by decide) (show IntKind.wrap IntKind.i64 (IntKind.wrap IntKind.i64 ((0 : Int) + (1 : Int)) + (1 : Int)) < (↑(6 : Nat) : Int) by decide)) (Yl 1 (Yb Z0 (Ya (Yn (3) (7) rfl) (Ya (Ya (show (0 : Int) ≤ IntKind.wrap IntKind.i64 (IntKind.wrap IntKind.i64 (IntKind.wrap IntKind.i64 ((0 : Int) + (1 : Int)) + (1 : Int)) + (1 : Int)) by decide) (show IntKind.wrap IntKind.i64 (IntKind.wrap IntKind.i64 (IntKind.wrap IntKind.i64 ((0 : Int) + (1 : Int)) + (1 : Int)) + (1 : Int)) < (↑(6 : Nat) : Int) by decide)) (Yl 1 (Yb Z0 (Ya (Yn (4) (7) rfl) (Ya (Ya (show (0 : Int) ≤ IntKind.wrap IntKind.i64 (IntKind.wrap IntKind.i64 (IntKind.wrap IntKind.i64 (IntKind.wrap IntKind.i64 ((0 : Int) + (1 : Int)) + (1 : Int)) + (1 : Int)) + (1 : Int)) by decide) (show IntKind.wrap IntKind.i64 (IntKind.wrap IntKind.i64 (IntKind.wrap IntKind.i64 (IntKind.wrap IntKind.i64 ((0 : Int) + (1 : Int)) + (1 : Int)) + (1 : Int)) + (1 : Int)) < (↑(6 : Nat) : Int) by decide)) (Yl 1 (Yb Z0 (Ya (Yn (5) (7) rfl) (Ya (Ya (show (0 : Int) ≤ IntKind.wrap IntKind.i64 (IntKind.wrap IntKind.i64 (IntKind.wrap IntKind.i64 (IntKind.wrap IntKind.i64 (IntKind.wrap IntKind.i64 ((0 : Int) + (1 : Int)) + (1 : Int)) + (1 : Int)) + (1 : Int)) + (1 : Int)) by decide) (show IntKind.wrap IntKind.i64 (IntKind.wrap IntKind.i64 (IntKind.wrap IntKind.i64 (IntKind.wrap IntKind.i64 (IntKind.wrap IntKind.i64 ((0 : Int) + (1 : Int)) + (1 : Int)) + (1 : Int)) + (1 : Int)) + (1 : Int)) < (↑(6 : Nat) : Int) by decide)) (Yl 1 (Yb Z0 (Ya (Yn (6) (7) rfl) (hQ Z0))))))))))))))))))))))))))
theorem thas_ob (b : Nat) (h : Nat → Bool) (c k : Nat) (gl : Glb) (Q : T → Obs → Glb → Prop) (hQ : Q (bool (decide (k < 6) && h k)) (obsT b h c) gl) : TCalls Try.prog 42 [.ptr 0 b 0, u8 k] (obsT b h c) gl Q := by
 refine TCalls.of Try.func42 rfl (CanCall.of Try.func42 rfl (by decide)) [0] fun Γ => ?_
 let HH : Nat → Nat → Hint := fun | 1, 12 => .res (bool (h k)) | _, _ => .no
 exact run_sound ⟨HH, [], fun  | _ => none⟩ 400 (by kernel_rfl) (Ys (decide ((↑k : Int) < (6 : Int))) (fun Z0 => (Ya (Ya (show (0 : Int) ≤ (↑k : Int) by omega) (show (↑k : Int) < (↑(6 : Nat) : Int) by have Z0 := of_decide_eq_true Z0; omega)) (Yb b (Ya (show (List.drop (0 + Int.toNat (↑k : Int) * nat_lit 1) [bool (h 0), bool (h 1), bool (h 2), bool (h 3), bool (h 4), bool (h 5), int c])[0]? = some (bool (h k)) by have Z0 := of_decide_eq_true Z0; rcases six (show k < 6 by omega) with rfl|rfl|rfl|rfl|rfl|rfl <;> rfl) (show Q (bool (h k)) [(b, Ob.cells [bool (h 0), bool (h 1), bool (h 2), bool (h 3), bool (h 4), bool (h 5), int c])] gl by have Z0 := of_decide_eq_true Z0; rw [decide_eq_true (show k < 6 by omega), Bool.true_and] at hQ; exact hQ))))) (fun Z1 => (show Q (bool false) [(b, Ob.cells [bool (h 0), bool (h 1), bool (h 2), bool (h 3), bool (h 4), bool (h 5), int c])] gl by have Z1 := of_decide_eq_false Z1; rw [decide_eq_false (show ¬ k < 6 by omega), Bool.false_and] at hQ; exact hQ)))
theorem tgot_ob (b : Nat) (h : Nat → Bool) (c k : Nat) (hk : k < 6) (gl : Glb) (Q : T → Obs → Glb → Prop) (hQ : Q (.tup []) (obsT b (Rep.put h k true) c) gl) : TCalls Try.prog 76 [.ptr 0 b 0, u8 k] (obsT b h c) gl Q := by
 refine TCalls.of Try.func76 rfl (CanCall.of Try.func76 rfl (by decide)) [0] fun Γ => ?_
 let HH : Nat → Nat → Hint := fun | 1, 5 => .obj (trC (Rep.put h k true) c) | _, _ => .no
 exact run_sound ⟨HH, [], fun  | _ => none⟩ 400 (by kernel_rfl) (Ys (decide ((↑k : Int) < (6 : Int))) (fun Z0 => (Yi (↑k : Int) 6 (by omega) (Yl 1 (Yb b (Ya (show 0 + Int.toNat (↑k : Int) * nat_lit 1 + nat_lit 1 ≤ 7 by rcases six hk with rfl|rfl|rfl|rfl|rfl|rfl <;> decide) (Ya (show List.take (0 + Int.toNat (↑k : Int) * nat_lit 1) [bool (h 0), bool (h 1), bool (h 2), bool (h 3), bool (h 4), bool (h 5), int c] ++ List.map T.v #[Value.bool true].toList ++ List.drop (0 + Int.toNat (↑k : Int) * nat_lit 1 + 1) [bool (h 0), bool (h 1), bool (h 2), bool (h 3), bool (h 4), bool (h 5), int c] = [bool (Rep.put h k true 0), bool (Rep.put h k true 1), bool (Rep.put h k true 2), bool (Rep.put h k true 3), bool (Rep.put h k true 4), bool (Rep.put h k true 5), int c] by rcases six hk with rfl|rfl|rfl|rfl|rfl|rfl <;> rfl) hQ)))))) (fun Z1 => (show Q (T.tup []) [(b, Ob.cells [bool (h 0), bool (h 1), bool (h 2), bool (h 3), bool (h 4), bool (h 5), int c])] gl by exfalso; have := of_decide_eq_false Z1; omega)))
def hasH (b : Nat) (h : Nat → Bool) (c : Nat) (gl : Glb) : Hint := .withA fun _ args => match args with
 | [_, .v (.int _ k)] => toldG (bool (h k.toNat)) [0] (obsT b h c) gl
 | _ => .no
theorem tcomplete_ob (b : Nat) (h : Nat → Bool) (c : Nat) (gl : Glb) (Q : T → Obs → Glb → Prop) (hQ : Q (bool (h 0 && (h 1 && (h 2 && (h 3 && (h 4 && h 5)))))) (obsT b h c) gl) : TCalls Try.prog 57 [.ptr 0 b 0] (obsT b h c) gl Q := by
 refine TCalls.of Try.func57 rfl (CanCall.of Try.func57 rfl (by decide)) [0] fun Γ => ?_
 let HH : Nat → Nat → Hint := fun | 4, 2 => hasH b h c gl | _, _ => .no
 let z1 := IntKind.wrap IntKind.u8 ((0 : Int) + (1 : Int)) + (1 : Int)
 let z0 := IntKind.wrap IntKind.u8 z1 + (1 : Int)
 exact run_sound ⟨HH, [], fun  | _ => none⟩ 400 (by kernel_rfl) (Ya (thas_ob b h c 0 gl (callPost (toldG (bool (h (Int.toNat (0 : Int)))) [0] (obsT b h c) gl)) (toldG_post rfl)) (Yu (Ys (!h (Int.toNat (0 : Int))) (fun Z0 => (show Q (bool false) [(b, Ob.cells [bool (h 0), bool (h 1), bool (h 2), bool (h 3), bool (h 4), bool (h 5), int c])] gl by simp only [Int.reduceToNat, Int.toNat_zero, Int.toNat_one, Bool.not_eq_true', Bool.not_eq_false'] at *; simp only [*, Bool.and_true, Bool.false_and, Bool.and_false] at hQ; exact hQ)) (fun Z1 => (Ya (thas_ob b h c 1 gl (callPost (toldG (bool (h (Int.toNat (IntKind.wrap IntKind.u8 ((0 : Int) + (1 : Int)))))) [0] (obsT b h c) gl)) (toldG_post rfl)) (Yu (Ys (!h (Int.toNat (IntKind.wrap IntKind.u8 ((0 : Int) + (1 : Int))))) (fun Z2 => (show Q (bool false) [(b, Ob.cells [bool (h 0), bool (h 1), bool (h 2), bool (h 3), bool (h 4), bool (h 5), int c])] gl by simp only [show IntKind.wrap .u8 (0 + 1) = 1 by decide, show IntKind.wrap .u8 (1 + 1) = 2 by decide, show IntKind.wrap .u8 (2 + 1) = 3 by decide, show IntKind.wrap .u8 (3 + 1) = 4 by decide, show IntKind.wrap .u8 (4 + 1) = 5 by decide] at *; simp only [Int.reduceToNat, Int.toNat_zero, Int.toNat_one, Bool.not_eq_true', Bool.not_eq_false'] at *; simp only [*, Bool.and_true, Bool.false_and, Bool.and_false] at hQ; exact hQ)) (fun Z3 => (Ya (thas_ob b h c 2 gl (callPost (toldG (bool (h (Int.toNat (IntKind.wrap IntKind.u8 z1)))) [0] (obsT b h c) gl)) (toldG_post rfl)) (Yu (Ys (!h (Int.toNat (IntKind.wrap IntKind.u8 (IntKind.wrap IntKind.u8 ((0 : Int) + (1 : Int)) + (1 : Int))))) (fun Z4 => (show Q (bool false) [(b, Ob.cells [bool (h 0), bool (h 1), bool (h 2), bool (h 3), bool (h 4), bool (h 5), int c])] gl by simp only [show IntKind.wrap .u8 (0 + 1) = 1 by decide, show IntKind.wrap .u8 (1 + 1) = 2 by decide, show IntKind.wrap .u8 (2 + 1) = 3 by decide, show IntKind.wrap .u8 (3 + 1) = 4 by decide, show IntKind.wrap .u8 (4 + 1) = 5 by decide] at *; simp only [Int.reduceToNat, Int.toNat_zero, Int.toNat_one, Bool.not_eq_true', Bool.not_eq_false'] at *; simp only [*, Bool.and_true, Bool.false_and, Bool.and_false] at hQ; exact hQ)) (fun Z5 => (Ya (thas_ob b h c 3 gl (callPost (toldG (bool (h (Int.toNat (IntKind.wrap IntKind.u8 z0)))) [0] (obsT b h c) gl)) (toldG_post rfl)) (Yu (Ys (!h (Int.toNat (IntKind.wrap IntKind.u8 (IntKind.wrap IntKind.u8 (IntKind.wrap IntKind.u8 ((0 : Int) + (1 : Int)) + (1 : Int)) + (1 : Int))))) (fun Z6 => (show Q (bool false) [(b, Ob.cells [bool (h 0), bool (h 1), bool (h 2), bool (h 3), bool (h 4), bool (h 5), int c])] gl by simp only [show IntKind.wrap .u8 (0 + 1) = 1 by decide, show IntKind.wrap .u8 (1 + 1) = 2 by decide, show IntKind.wrap .u8 (2 + 1) = 3 by decide, show IntKind.wrap .u8 (3 + 1) = 4 by decide, show IntKind.wrap .u8 (4 + 1) = 5 by decide] at *; simp only [Int.reduceToNat, Int.toNat_zero, Int.toNat_one, Bool.not_eq_true', Bool.not_eq_false'] at *; simp only [*, Bool.and_true, Bool.false_and, Bool.and_false] at hQ; exact hQ)) (fun Z7 => (Ya (thas_ob b h c 4 gl (callPost (toldG (bool (h (Int.toNat (IntKind.wrap IntKind.u8 (IntKind.wrap IntKind.u8 z0 + (1 : Int)))))) [0] (obsT b h c) gl)) (toldG_post rfl)) (Yu (Ys (!h (Int.toNat (IntKind.wrap IntKind.u8 (IntKind.wrap IntKind.u8 (IntKind.wrap IntKind.u8 (IntKind.wrap IntKind.u8 ((0 : Int) + (1 : Int)) + (1 : Int)) + (1 : Int)) + (1 : Int))))) (fun Z8 => (show Q (bool false) [(b, Ob.cells [bool (h 0), bool (h 1), bool (h 2), bool (h 3), bool (h 4), bool (h 5), int c])] gl by simp only [show IntKind.wrap .u8 (0 + 1) = 1 by decide, show IntKind.wrap .u8 (1 + 1) = 2 by decide, show IntKind.wrap .u8 (2 + 1) = 3 by decide, show IntKind.wrap .u8 (3 + 1) = 4 by decide, show IntKind.wrap .u8 (4 + 1) = 5 by decide] at *; simp only [Int.reduceToNat, Int.toNat_zero, Int.toNat_one, Bool.not_eq_true', Bool.not_eq_false'] at *; simp only [*, Bool.and_true, Bool.false_and, Bool.and_false] at hQ; exact hQ)) (fun Z9 => (Ya (thas_ob b h c 5 gl (callPost (toldG (bool (h (Int.toNat (IntKind.wrap IntKind.u8 (IntKind.wrap IntKind.u8 (IntKind.wrap IntKind.u8 z0 + (1 : Int)) + (1 : Int)))))) [0] (obsT b h c) gl)) (toldG_post rfl)) (Yu (Ys (!h (Int.toNat (IntKind.wrap IntKind.u8 (IntKind.wrap IntKind.u8 (IntKind.wrap IntKind.u8 (IntKind.wrap IntKind.u8 (IntKind.wrap IntKind.u8 ((0 : Int) + (1 : Int)) + (1 : Int)) + (1 : Int)) + (1 : Int)) + (1 : Int))))) (fun Z10 => (show Q (bool false) [(b, Ob.cells [bool (h 0), bool (h 1), bool (h 2), bool (h 3), bool (h 4), bool (h 5), int c])] gl by simp only [show IntKind.wrap .u8 (0 + 1) = 1 by decide, show IntKind.wrap .u8 (1 + 1) = 2 by decide, show IntKind.wrap .u8 (2 + 1) = 3 by decide, show IntKind.wrap .u8 (3 + 1) = 4 by decide, show IntKind.wrap .u8 (4 + 1) = 5 by decide] at *; simp only [Int.reduceToNat, Int.toNat_zero, Int.toNat_one, Bool.not_eq_true', Bool.not_eq_false'] at *; simp only [*, Bool.and_true, Bool.false_and, Bool.and_false] at hQ; exact hQ)) (fun Z11 => (show Q (bool true) [(b, Ob.cells [bool (h 0), bool (h 1), bool (h 2), bool (h 3), bool (h 4), bool (h 5), int c])] gl by simp only [show IntKind.wrap .u8 (0 + 1) = 1 by decide, show IntKind.wrap .u8 (1 + 1) = 2 by decide, show IntKind.wrap .u8 (2 + 1) = 3 by decide, show IntKind.wrap .u8 (3 + 1) = 4 by decide, show IntKind.wrap .u8 (4 + 1) = 5 by decide] at *; simp only [Int.reduceToNat, Int.toNat_zero, Int.toNat_one, Bool.not_eq_true', Bool.not_eq_false'] at *; simp only [*, Bool.and_true, Bool.false_and, Bool.and_false] at hQ; exact hQ)))))))))))))))))))))))))
theorem famT {f : FuncId} {a : List T} {b : Nat} {h : Nat → Bool} {c : Nat} {gl : Glb} {Q Q' : T → Obs → Glb → Prop} (hg : gl b = some (.cells (trC h c)))
  (H : TCalls Try.prog f (.ptr 0 b 0 :: a) (obsT b h c) (dropO gl b) Q')
  (hq : ∀ r ob' gl', Q' r ob' gl' → ∃ h' c', ob' = obsT b h' c' ∧ gl' = dropO gl b ∧ Q r [] (setO gl b (.cells (trC h' c')))) : TCalls Try.prog f (.gp b 0 :: a) [] gl Q :=
 (H.post fun r ob' gl' hr => by
  obtain ⟨h', c', rfl, rfl, h3⟩ := hq r ob' gl' hr
  refine ⟨r, [], _, Imp.intoG (ob := []) rfl, ?_⟩
  rw [setO_drop]
  exact h3).pre ((Imp.slotR (j := 0) rfl (gp_ptr (i := 0))).trans (Imp.outG (b := b) rfl hg))
theorem thasG {b : Nat} {h : Nat → Bool} {c : Nat} {gl : Glb} (hg : gl b = some (.cells (trC h c))) (k : Nat) (Q : T → Obs → Glb → Prop) (hQ : Q (bool (decide (k < 6) && h k)) [] gl) : TCalls Try.prog 42 [.gp b 0, u8 k] [] gl Q :=
 famT hg (thas_ob b h c k _ (fun r ob' gl' => r = bool (decide (k < 6) && h k) ∧ ob' = obsT b h c ∧ gl' = dropO gl b) ⟨rfl, rfl, rfl⟩) fun r ob' gl' ⟨h1, h2, h3⟩ => ⟨h, c, h2, h3, by rw [h1, setO_self gl hg]; exact hQ⟩
theorem tcompleteG {b : Nat} {h : Nat → Bool} {c : Nat} {gl : Glb} (hg : gl b = some (.cells (trC h c))) (Q : T → Obs → Glb → Prop) (hQ : Q (bool (h 0 && (h 1 && (h 2 && (h 3 && (h 4 && h 5)))))) [] gl) : TCalls Try.prog 57 [.gp b 0] [] gl Q :=
 famT hg (tcomplete_ob b h c _ (fun r ob' gl' => r = bool (h 0 && (h 1 && (h 2 && (h 3 && (h 4 && h 5))))) ∧ ob' = obsT b h c ∧ gl' = dropO gl b) ⟨rfl, rfl, rfl⟩) fun r ob' gl' ⟨h1, h2, h3⟩ => ⟨h, c, h2, h3, by rw [h1, setO_self gl hg]; exact hQ⟩
theorem tgotG {b : Nat} {h : Nat → Bool} {c : Nat} {gl : Glb} (hg : gl b = some (.cells (trC h c))) (k : Nat) (hk : k < 6) (Q : T → Obs → Glb → Prop) (hQ : Q (.tup []) [] (setO gl b (.cells (trC (Rep.put h k true) c)))) : TCalls Try.prog 76 [.gp b 0, u8 k] [] gl Q :=
 famT hg (tgot_ob b h c k hk _ (fun r ob' gl' => r = .tup [] ∧ ob' = obsT b (Rep.put h k true) c ∧ gl' = dropO gl b) ⟨rfl, rfl, rfl⟩) fun r ob' gl' ⟨h1, h2, h3⟩ => ⟨_, c, h2, h3, by rw [h1]; exact hQ⟩
theorem tnewG (w : Bool) (gl : Glb) (Q : T → Obs → Glb → Prop) (hQ : ∀ b, gl b = none → Q (.gp b 0) [] (setO gl b (.cells (trC (fun _ => w) 0)))) : TCalls Try.prog 31 [bool w] [] gl Q := by
 refine TCalls.postA (tnew_ob w gl (fun r ob' gl' => ∃ b, r = .ptr 0 b 0 ∧ ob' = obsT b (fun _ => w) 0 ∧ gl' = gl) fun b => ⟨b, rfl, rfl, rfl⟩) ?_
 rintro r ob' gl' ha ⟨b, rfl, rfl, rfl⟩
 exact ⟨.gp b 0, [], _, (Imp.slotR (j := 0) rfl ptr_gp).trans (Imp.intoG (ob := []) rfl), hQ b (ha.sep 0 _ b rfl rfl)⟩
end X20
end Go.Proofs.Ytafcbipmmjegcaa.Vm
