/- Texts of this claim: AcI, AcJ, AcP, AcQ. -/
import Derived.Test.YtcmcmafeaabjmaaMg15
import Derived.Test.YtcmcmafeaabjmaaMg22
import Derived.Test.YtcmcmafeaabjmaaMg19
namespace Go.Proofs.Ytcmcmafeaabjmaa.Vm
open Go Go.RowKit
set_option maxRecDepth 100000
noncomputable abbrev kAcI0 (l : List Nat) : It := .code (sub (bd Try.f10) l)
noncomputable abbrev wAcI1 (Γ : Ctx) (Q : T → Obs → Glb → Prop) : List It → S → Prop := TWk Try.prog Γ (fin Try.prog Try.f10 [0, 1, 2, 3, 4] Q)
namespace X11
open Acp (En AS Rc blw VOk)
open View (VS Mem)
open X5 (viewC mems memC)
open Jrn (Dk)
open X9 (dkC obsK dkH dk_post)
open X10 (strs jC obsJ)
def acO (jb mb : Nat) : List T := [.ptr 1 jb 0, u32 0, u8 0, u32 0, u32 0, .v nilS, u8 0, u8 0, u8 0, u8 0, u8 0, u8 0, u8 0, u8 0, .mp 3 mb]
section
variable (db : Nat) (d : Dk) (self : Nat)
theorem open_bad (hg : ¬ (1 ≤ self ∧ self ≤ 5)) (Q : T → Obs → Glb → Prop) (hQ : Q (.tup [.v (.pointer none), int 1]) (obsK db d) none_) : TCalls Try.prog 10 [.ptr 0 db 0, u8 self] (obsK db d) none_ Q := by
  have hgd := fun Q' hq => good_any self Q' hq
  rw [decide_eq_false hg] at hgd
  refine TCalls.of Try.func10 rfl (CanCall.of Try.func10 rfl (by decide)) [0] fun Γ => ?_
  let HH : Nat → Nat → Hint := fun | 1, 1 => told (bool false) [] [] | _, _ => .no
  exact run_sound ⟨HH, [], fun  | _ => none⟩ 400 (by kernel_rfl) (Ya (hgd (HH 1 1).P (told_post rfl)) (Yu hQ))
theorem open_form (s low : Nat) (v : VS) (hs : s < 256) (hv8 : VOk v) (l0 : List (List UInt8)) (hne : s ≠ self) (hv : Jrn.Vs ((Rc.birth s low v).b :: l0)) (hl : l0.length ≤ 1000000) (hg : 1 ≤ self ∧ self ≤ 5) (Q : T → Obs → Glb → Prop) (hQ : Q (.tup [.v (.pointer none), int 4]) (obsK db (Jrn.jd ((Rc.birth s low v).b :: l0))) none_) : TCalls Try.prog 10 [.ptr 0 db 0, u8 self] (obsK db (Jrn.jd ((Rc.birth s low v).b :: l0))) none_ Q := by
  have hgd := fun Q' hq => good_any self Q' hq
  rw [decide_eq_true hg] at hgd
  have op := op_jd db hv
  have rc : ∀ jb h, TCalls Try.prog 34 [.ptr 1 jb 0] (obsJ db jb (Jrn.jd ((Rc.birth s low v).b :: l0)) ((Rc.birth s low v).b :: l0) h false) none_ (callPost (told (.sl 1 (str (Rc.birth s low v).b :: strs l0)) [0,1,2] (obsJ db jb (Jrn.jd ((Rc.birth s low v).b :: l0)) ((Rc.birth s low v).b :: l0) h false))) := fun jb h => rc_post db jb (Jrn.jd ((Rc.birth s low v).b :: l0)) ((Rc.birth s low v).b :: l0) (by rw [List.length_cons]; omega) h false
  have ow := fun Q' hq => owner_any s low v hs hv8 Q' hq
  have hc : ∀ S0 : List T, T.v (.bool (decide (((S0.length + 1 : Nat) : Int) = 0))) = bool false := fun S0 => congrArg bool (decide_eq_false (by omega))
  have hc2 : ∀ S0 : List T, T.v (.bool (((S0.length + 1 : Nat) : Int) == 0)) = bool false := fun S0 => congrArg bool (by rw [beq_eq_false_iff_ne]; omega)
  generalize Jrn.jd ((Rc.birth s low v).b :: l0) = d0 at *
  generalize (Rc.birth s low v).b = sb at *
  generalize sb :: l0 = l1 at *
  generalize strs l0 = S0 at *
  refine TCalls.of Try.func10 rfl (CanCall.of Try.func10 rfl (by decide)) [0] fun Γ => ?_
  let HH : Nat → Nat → Hint := fun | 1, 1 => told (bool true) [] [] | 3, 1 => opH 0 d0 l1 | 6, 1 => keepH [0,1,2] (.sl 1 (str sb :: S0)) | 7, 2 => .res (bool false) | 9, 3 => told (u8 s) [] [] | _, _ => .no
  exact run_sound ⟨HH, [], fun  | _ => none⟩ 400 (by kernel_rfl) (Ya (hgd (HH 1 1).P (told_post rfl)) (Yu (Ya op (fun (Z0 : Nat × Value) => (fun (Z1 : True) => (Ya (rc Z0.fst Z0.snd) (Yu (Yb (bool false) (Ya (show (0 : Int) ≤ (0 : Int) by omega) (Ya (ow (HH 9 3).P (told_post rfl)) (Yu (Ys ((↑s : Int) != (↑self : Int)) (fun Z2 => hQ) (fun Z3 => (fun (Z4 : Nat) => (fun (Z5 : Nat) => (Ys (decide ((0 : Int) < (↑(List.length (T.v (Value.string (ByteArray.mk (List.toArray sb))) :: S0)) : Int))) (fun Z6 => (Ya (show (0 : Int) ≤ (0 : Int) by omega) (show False by exfalso; simp only [beq_iff_eq, bne_eq_false_iff_eq] at *; omega))) (fun Z7 => (show Q (T.tup [T.ptr 4 Z5 0, int (0 : Int)]) [(db, Ob.cells [T.v (Value.string (ByteArray.mk (List.toArray d0.b))), int d0.n, bool d0.off])] fun x => none by exfalso; simp only [beq_iff_eq, bne_eq_false_iff_eq] at *; omega))))))))))))))))))
end
section
variable (db jb ab mb : Nat) (d : Dk) (l : List (List UInt8)) (hd : Value) (x : AS) (es : Array MapEntry) (ck : Nat) (Γ : Ctx) (Q : T → Obs → Glb → Prop)
theorem open_end (SL : List T) (n k : Nat) (hk : n ≤ k) (hQ : Q (.tup [.ptr 3 ab 0, int 0]) (obsA db jb ab mb d l hd false x es ck) none_) : wAcI1 Γ Q [kAcI0 [1,1,1,1,1,1,1,0,1,0], .blk 1, kAcI0 [1,1,1,1,1,1,1,1]] ⟨frame 54 [(9, .ptr 3 ab 0), (41, .sl 1 SL), (42, int n), (43, int k)], obsA db jb ab mb d l hd false x es ck, none_⟩ := by
  let HH : Nat → Nat → Hint := fun _ _ => .no
  exact run_sound ⟨HH, [((0, 14), ([9,41,42,43], 5))], fun _ => none⟩ 400 (by kernel_rfl) (Ys (decide ((↑k : Int) < (↑n : Int))) (fun Z0 => (show wAcI1 Γ Q [kAcI0 [1,1,1,1,1,1,1,0,1,0,0,1,1,0,0], It.blk 2, kAcI0 [1,1,1,1,1,1,1,0,1,0,0,1,1,1], kAcI0 [1,1,1,1,1,1,1,0,1,0], It.blk 1, kAcI0 [1,1,1,1,1,1,1,1]] (S.mk (frame 54 [(9, T.ptr 3 ab 0), (41, T.sl 1 SL), (42, int n), (43, int k)]) [(db, Ob.cells [T.v (Value.string (ByteArray.mk (List.toArray d.b))), int d.n, bool d.off]), (jb, Ob.cells [T.ptr 0 db 0, T.slx 1 2 (strs l) hd, bool false]), (0, Ob.room 1 9 (List.length (strs l)) hd), (ab, Ob.cells [T.ptr 1 jb 0, u32 x.pn, u8 x.pb, u32 x.low, u32 x.v.e, T.sl 3 (mems x.v.ms), u8 (x.v.L 0), u8 (x.v.L 1), u8 (x.v.L 2), u8 (x.v.L 3), u8 (x.v.L 4), u8 (x.v.L 5), u8 (x.v.L 6), u8 (x.v.L 7), T.mp 4 mb]), (mb, Ob.map IntKind.u32 (enF x.E) es ck)] fun x => none) by exfalso; have := of_decide_eq_true Z0; omega)) (fun Z1 => hQ))
theorem open_step (SL : List T) (n k : Nat) (hk : k < n) (hn : n ≤ 1000000) (r : Rc) (hr : r.Ok) (hat : SL[((k : Nat) : Int).toNat]? = some (str r.b))
    (nx : ∀ es ck, wAcI1 Γ Q [kAcI0 [1,1,1,1,1,1,1,0,1,0], .blk 1, kAcI0 [1,1,1,1,1,1,1,1]] ⟨frame 54 [(9, .ptr 3 ab 0), (41, .sl 1 SL), (42, int n), (43, int (k + 1 : Nat))], obsA db jb ab mb d l hd false (Acp.step x r) es ck, none_⟩) : wAcI1 Γ Q [kAcI0 [1,1,1,1,1,1,1,0,1,0], .blk 1, kAcI0 [1,1,1,1,1,1,1,1]] ⟨frame 54 [(9, .ptr 3 ab 0), (41, .sl 1 SL), (42, int n), (43, int k)], obsA db jb ab mb d l hd false x es ck, none_⟩ := by
  have hw : T.v (.int .i64 (IntKind.wrap .i64 ((k : Int) + 1))) = int (k + 1 : Nat) := congrArg int (by rw [wrap_i64 (by omega) (by omega)]; omega)
  have tk := fun Q' hq => take_any db jb ab mb d l hd false x es ck r hr Q' hq
  generalize r.b = s at *
  generalize Acp.step x r = x1 at *
  let HH : Nat → Nat → Hint := fun | 14, 0 => .res (str s) | 15, 4 => .call false (Array MapEntry × Nat) (fun _ => True) [0,1,2,3,4] false (fun _ => .tup []) (fun a => obsA db jb ab mb d l hd false x1 a.1 a.2) (fun _ => none_) | 16, 0 => .res (int (k + 1 : Nat)) | _, _ => .no
  exact run_sound ⟨HH, [((2, 13), ([9,41,42,43], 5)), ((0, 17), ([9], 5))], fun  | _ => none⟩ 400 (by kernel_rfl) (Ys (decide ((↑k : Int) < (↑n : Int))) (fun Z0 => (Ya (show (0 : Int) ≤ (↑k : Int) by omega) (Ya hat (Ya (tk (HH 15 4).P fun es ck => ⟨(es, ck), trivial, rfl, rfl, Nat.le_of_ble_eq_true rfl, fun h => by cases h⟩) (fun (Z1 : Array MapEntry × Nat) => (fun (Z2 : True) => (Ya hw (nx Z1.fst Z1.snd)))))))) (fun Z3 => (show wAcI1 Γ Q [kAcI0 [1,1,1,1,1,1,1,1]] (S.mk (frame 54 [(9, T.ptr 3 ab 0)]) [(db, Ob.cells [T.v (Value.string (ByteArray.mk (List.toArray d.b))), int d.n, bool d.off]), (jb, Ob.cells [T.ptr 0 db 0, T.slx 1 2 (strs l) hd, bool false]), (0, Ob.room 1 9 (List.length (strs l)) hd), (ab, Ob.cells [T.ptr 1 jb 0, u32 x.pn, u8 x.pb, u32 x.low, u32 x.v.e, T.sl 3 (mems x.v.ms), u8 (x.v.L 0), u8 (x.v.L 1), u8 (x.v.L 2), u8 (x.v.L 3), u8 (x.v.L 4), u8 (x.v.L 5), u8 (x.v.L 6), u8 (x.v.L 7), T.mp 4 mb]), (mb, Ob.map IntKind.u32 (enF x.E) es ck)] fun x => none) by exfalso; have := of_decide_eq_false Z3; omega)))
end
theorem rel_nil0 {M : Pm} {k : Nat} {v : Value} (h : Rel M (.v nilS) v) : Rel M (.sl k []) v := by
  simp only [Rel] at h ⊢
  exact ⟨none, 0, h, ⟨Nat.le_refl _, by omega, fun _ => ⟨rfl, rfl⟩, fun a e => by cases e⟩, by simp [El], by simp⟩
theorem relL_set {M : Pm} {j : Nat} {ts : List T} {xs : List Value} {t t' : T} (hj : ts[j]? = some t) (ht : ∀ v, Rel M t v → Rel M t' v) (h : RelL M ts xs) : RelL M (ts.set j t') xs := by
  obtain ⟨y, h1, h2⟩ := h.get hj
  have h3 := h.set j (ht y h2)
  have e : xs.set j y = xs := by
    obtain ⟨hl, he⟩ := List.getElem?_eq_some_iff.1 h1
    rw [← he, List.set_getElem_self]
  rwa [e] at h3
theorem Imp.cellR {ts : List T} {ob : Obs} {gl : Glb} {i b j : Nat} {cs : List T} {t t' : T} (hi : ob[i]? = some (b, .cells cs)) (hj : cs[j]? = some t) (ht : ∀ M v, Rel M t v → Rel M t' v) : Imp ts ob gl ts (ob.set i (b, .cells (cs.set j t'))) gl :=
  Imp.ob hi (fun M _ ⟨C, ty, h1, h2, h3⟩ => ⟨C, ty, h1, relL_set hj (ht M) h2, h3⟩) (fun _ h => h)
theorem run_take {x : AS} {R : List Rc} {k : Nat} {r : Rc} (h : R[k]? = some r) : Acp.run x (R.take (k + 1)) = Acp.step (Acp.run x (R.take k)) r := by
  rw [List.take_add_one, h]
  exact Acp.run_snoc _ _ _
theorem open_loop (db jb ab mb : Nat) (d : Dk) (l : List (List UInt8)) (hd : Value) (Γ : Ctx) (Q : T → Obs → Glb → Prop) (R : List Rc) (hl : l = R.map Rc.b) (hR : ∀ r ∈ R, r.Ok) (hn : R.length ≤ 1000000)
    (hQ : ∀ es ck, Q (.tup [.ptr 3 ab 0, int 0]) (obsA db jb ab mb d l hd false (Acp.run Acp.st0 R) es ck) none_) : ∀ (c k : Nat) (es : Array MapEntry) (ck : Nat), k + c = R.length →
    wAcI1 Γ Q [kAcI0 [1,1,1,1,1,1,1,0,1,0], .blk 1, kAcI0 [1,1,1,1,1,1,1,1]] ⟨frame 54 [(9, .ptr 3 ab 0), (41, .sl 1 (strs l)), (42, int R.length), (43, int k)], obsA db jb ab mb d l hd false (Acp.run Acp.st0 (R.take k)) es ck, none_⟩ := by
  intro c
  induction c with
  | zero =>
    intro k es ck h
    have hk : k = R.length := by omega
    refine open_end db jb ab mb d l hd _ es ck Γ Q (strs l) R.length k (by omega) ?_
    rw [hk, List.take_length]
    exact hQ es ck
  | succ c ih =>
    intro k es ck h
    have hlt : k < R.length := by omega
    have hat : R[k]? = some R[k] := List.getElem?_eq_getElem hlt
    refine open_step db jb ab mb d l hd _ es ck Γ Q (strs l) R.length k hlt hn R[k] (hR _ (List.getElem_mem hlt)) ?_ fun es ck => ?_
    · rw [Int.toNat_natCast, hl]
      unfold strs
      rw [List.getElem?_map, List.getElem?_map, hat]; rfl
    · rw [← run_take hat]
      exact ih (k + 1) es ck (by omega)
theorem open_imp (db jb ab mb : Nat) (d : Dk) (l : List (List UInt8)) (hd : Value) (a41 a42 a43 : T) :
    Imp (frame 54 [(9, .ptr 4 ab 0), (41, a41), (42, a42), (43, a43)]) (obsJ db jb d l hd false ++ [(mb, .map .u32 (fun _ => none) #[] 0), (ab, .cells (acO jb mb))]) none_ (frame 54 [(9, .ptr 3 ab 0), (41, a41), (42, a42), (43, a43)]) (obsA db jb ab mb d l hd false Acp.st0 #[] 0) none_ := by
  have hE : enF Acp.st0.E = fun _ => none := by
    funext z
    unfold enF
    split <;> rfl
  rw [show obsA db jb ab mb d l hd false Acp.st0 #[] 0 = obsJ db jb d l hd false ++ [(ab, .cells (((acO jb mb).set 14 (.mp 4 mb)).set 5 (.sl 3 []))), (mb, .map .u32 (fun _ => none) #[] 0)] from by rw [← hE]; rfl]
  refine (Imp.sel (ob' := obsJ db jb d l hd false ++ [(ab, .cells (acO jb mb)), (mb, .map .u32 (fun _ => none) #[] 0)]) [0,1,2,4,3] (by decide) rfl).trans ?_
  refine (Imp.slotR (j := 9) (t := .ptr 4 ab 0) (t' := .ptr 3 ab 0) rfl (fun M v r => by simpa only [Rel] using r)).trans ?_
  refine (Imp.cellR (i := 3) (j := 14) (b := ab) (cs := acO jb mb) (t := .mp 3 mb) (t' := .mp 4 mb) rfl rfl (fun M v r => by simpa only [Rel] using r)).trans ?_
  exact Imp.cellR (ob := obsJ db jb d l hd false ++ [(ab, .cells ((acO jb mb).set 14 (.mp 4 mb))), (mb, .map .u32 (fun _ => none) #[] 0)]) (i := 3) (j := 5) (b := ab) (cs := (acO jb mb).set 14 (.mp 4 mb)) (t := .v nilS) (t' := .sl 3 []) rfl rfl (fun M v h => rel_nil0 h)
theorem open_ok (db self : Nat) (v : VS) (hg : 1 ≤ self ∧ self ≤ 5) (hv8 : VOk v) (rs : List Rc) (hR : ∀ r ∈ rs, r.Ok) (hn : rs.length ≤ 100000) (l : List (List UInt8)) (hl : l = (Rc.birth self 0 v :: rs).map Rc.b) (hv : Jrn.Vs l) (Q : T → Obs → Glb → Prop)
    (hQ : ∀ jb ab mb hd es ck, Q (.tup [.ptr 3 ab 0, int 0]) (obsA db jb ab mb (Jrn.jd l) l hd false (Acp.run Acp.st0 (Rc.birth self 0 v :: rs)) es ck) none_) : TCalls Try.prog 10 [.ptr 0 db 0, u8 self] (obsK db (Jrn.jd l)) none_ Q := by
  have hgd := fun Q' hq => good_any self Q' hq
  rw [decide_eq_true hg] at hgd
  have hll : l.length = rs.length + 1 := by rw [hl, List.length_map, List.length_cons]
  have op := op_jd db hv
  have e1 : strs l = str (Rc.birth self 0 v).b :: strs (rs.map Rc.b) := by rw [hl]; rfl
  have rc : ∀ jb h, TCalls Try.prog 34 [.ptr 1 jb 0] (obsJ db jb (Jrn.jd l) l h false) none_ (callPost (told (.sl 1 (str (Rc.birth self 0 v).b :: strs (rs.map Rc.b))) [0,1,2] (obsJ db jb (Jrn.jd l) l h false))) := fun jb h => by
    have := rc_post db jb (Jrn.jd l) l (by omega) h false
    rw [show T.sl 1 (strs l) = T.sl 1 (str (Rc.birth self 0 v).b :: strs (rs.map Rc.b)) from congrArg _ e1] at this
    exact this
  have ow := fun Q' hq => owner_any self 0 v (by omega) hv8 Q' hq
  have lp := fun Γ jb ab mb hd => open_loop db jb ab mb (Jrn.jd l) l hd Γ Q (Rc.birth self 0 v :: rs) hl (fun r hr => by
    rcases List.mem_cons.1 hr with rfl | hr
    · exact ⟨by omega, by decide, hv8⟩
    · exact hR r hr) (by rw [List.length_cons]; omega) (fun es ck => hQ jb ab mb hd es ck) (rs.length + 1) 0 #[] 0 (by rw [List.length_cons]; omega)
  have hle : (rs.map Rc.b).length = rs.length := List.length_map ..
  have hs0 : (strs (rs.map Rc.b)).length = rs.length := by rw [X10.strs_len, hle]
  rw [e1, List.length_cons, show Acp.run Acp.st0 ((Rc.birth self 0 v :: rs).take 0) = Acp.st0 from rfl] at lp
  rw [← hs0] at lp
  have lp2 := fun Γ jb ab mb hd => TWk.imp (s := ⟨frame 54 [(9, .ptr 4 ab 0), (41, .sl 1 (str (Rc.birth self 0 v).b :: strs (rs.map Rc.b))), (42, int ((strs (rs.map Rc.b)).length + 1 : Nat)), (43, int 0)], obsJ db jb (Jrn.jd l) l hd false ++ [(mb, .map .u32 (fun _ => none) #[] 0), (ab, .cells (acO jb mb))], none_⟩) (lp Γ jb ab mb hd) (open_imp db jb ab mb (Jrn.jd l) l hd _ _ _)
  have hc : ∀ S0 : List T, T.v (.bool (decide (((S0.length + 1 : Nat) : Int) = 0))) = bool false := fun S0 => congrArg bool (decide_eq_false (by omega))
  have hc2 : ∀ S0 : List T, T.v (.bool (((S0.length + 1 : Nat) : Int) == 0)) = bool false := fun S0 => congrArg bool (by rw [beq_eq_false_iff_ne]; omega)
  clear lp hQ hR hl e1 hs0 hle hv
  generalize Jrn.jd l = d0 at *
  generalize (Rc.birth self 0 v).b = sb at *
  generalize strs (rs.map Rc.b) = S0 at *
  refine TCalls.of Try.func10 rfl (CanCall.of Try.func10 rfl (by decide)) [0,1,2,3,4] fun Γ => ?_
  let HH : Nat → Nat → Hint := fun | 1, 1 => told (bool true) [] [] | 3, 1 => opH 0 d0 l | 6, 1 => keepH [0,1,2] (.sl 1 (str sb :: S0)) | 7, 2 => .res (bool false) | 9, 3 => told (u8 self) [] [] | _, _ => .no
  exact run_sound ⟨HH, [((2, 13), ([9,41,42,43], 5))], fun  | _ => none⟩ 400 (by kernel_rfl) (Ya (hgd (HH 1 1).P (told_post rfl)) (Yu (Ya op (fun (Z0 : Nat × Value) => (fun (Z1 : True) => (Ya (rc Z0.fst Z0.snd) (Yu (Yb (bool false) (Ya (show (0 : Int) ≤ (0 : Int) by omega) (Ya (ow (HH 9 3).P (told_post rfl)) (Yu (Ys ((↑self : Int) != (↑self : Int)) (fun Z2 => (show False by exfalso; simp only [beq_iff_eq, bne_iff_ne, ne_eq, not_true_eq_false] at *; done)) (fun Z3 => (fun (Z4 : Nat) => (fun (Z5 : Nat) => (lp2 Γ Z0.fst Z5 Z4 Z0.snd))))))))))))))))
end X11
end Go.Proofs.Ytcmcmafeaabjmaa.Vm
namespace Go.Proofs.Ytcmcmafeaabjmaa.Vm
open Go Go.RowKit
set_option maxRecDepth 100000
namespace X11
open Acp (En AS Rc blw VOk)
open View (VS Mem)
open X5 (viewC mems memC firstM firstL)
open Jrn (Dk)
open X9 (dkC obsK dkH dk_post)
open X10 (strs jC obsJ)
theorem lballot_any (n b : Nat) (Q : T → Obs → Glb → Prop) (hQ : Q (.agg [u32 n, u8 b]) [] none_) : TCalls Try.prog 11 [u32 n, u8 b] [] none_ Q := by
  refine TCalls.of Try.func11 rfl (CanCall.of Try.func11 rfl (by decide)) [] fun Γ => ?_
  let HH : Nat → Nat → Hint := fun _ _ => .no
  exact run_sound ⟨HH, [], fun _ => none⟩ 400 (by kernel_rfl) (fun (Z0 : Nat) => (Yk 2 Z0 (Yb Z0 hQ)))
def cmd (n : Nat) : T := .agg [u8 (n % 256 : Nat), u8 (n / 8 % 256 : Nat), u8 (n / 64 % 256 : Nat), u32 n, u32 (n / 2 : Nat)]
theorem lcommand_any (n : Nat) (Q : T → Obs → Glb → Prop) (hQ : Q (cmd n) [] none_) : TCalls Try.prog 18 [u32 n] [] none_ Q := by
  have hQ : Q (.agg [u8 (n % 256 : Nat), u8 (n / 8 % 256 : Nat), u8 (n / 64 % 256 : Nat), u32 n, u32 (n / 2 : Nat)]) [] none_ := hQ
  have s1 : T.v (.int .u32 ((n : Int).fdiv (2 ^ min (3 : Int).toNat (IntKind.bits .u32)))) = u32 (n / 8 : Nat) := congrArg u32 (by show (n : Int).fdiv 8 = _; rw [Int.fdiv_eq_ediv_of_nonneg _ (by omega)]; omega)
  have s2 : T.v (.int .u32 ((n : Int).fdiv (2 ^ min (6 : Int).toNat (IntKind.bits .u32)))) = u32 (n / 64 : Nat) := congrArg u32 (by show (n : Int).fdiv 64 = _; rw [Int.fdiv_eq_ediv_of_nonneg _ (by omega)]; omega)
  have s3 : T.v (.int .u32 ((n : Int).fdiv (2 ^ min (1 : Int).toNat (IntKind.bits .u32)))) = u32 (n / 2 : Nat) := congrArg u32 (by show (n : Int).fdiv 2 = _; rw [Int.fdiv_eq_ediv_of_nonneg _ (by omega)]; omega)
  refine TCalls.of Try.func18 rfl (CanCall.of Try.func18 rfl (by decide)) [] fun Γ => ?_
  let HH : Nat → Nat → Hint := fun | 1, 1 => .res (u8 (n % 256 : Nat)) | 1, 3 => .res (u32 (n / 8 : Nat)) | 1, 4 => .res (u8 (n / 8 % 256 : Nat)) | 1, 6 => .res (u32 (n / 64 : Nat)) | 1, 7 => .res (u8 (n / 64 % 256 : Nat)) | 1, 10 => .res (u32 (n / 2 : Nat)) | _, _ => .no
  exact run_sound ⟨HH, [], fun  | _ => none⟩ 400 (by kernel_rfl) (fun (Z0 : Nat) => (Yb (u8 (n % 256)) (Ya s1 (Yb (u8 (n / 8 % 256)) (Ya s2 (Yb (u8 (n / 64 % 256)) (Ya s3 (Yk 5 Z0 (Yb Z0 hQ)))))))))
def vw (n : Nat) : VS := ⟨n, firstM (1 + n % 8), firstL (1 + n % 8)⟩
theorem vw_ok (n : Nat) (hn : n < 4294967296) : VOk (vw n) := by
  refine ⟨by show (0 : Int) ≤ (n : Int); omega, by show (n : Int) ≤ _; omega, by show (firstM _).length ≤ 8; rw [X5.firstM_len]; omega, fun m hm => ?_, fun i => ?_⟩
  · have hm : m ∈ firstM (1 + n % 8) := hm
    unfold firstM at hm
    obtain ⟨j, hj, rfl⟩ := List.mem_map.1 hm
    have := List.mem_range.1 hj
    exact ⟨by show j + 1 < 256; omega, by show 1 < 256; decide⟩
  · show firstL _ i < 256
    unfold firstL
    split <;> decide
theorem viewOf_any (n : Nat) (hn : n < 4294967296) (Q : T → Obs → Glb → Prop) (hQ : Q (.agg (viewC (vw n))) [] none_) : TCalls Try.prog 9 [u32 n] [] none_ Q := by
  have hQ : Q (.agg [u32 (vw n).e, .sl 3 (mems (vw n).ms), u8 ((vw n).L 0), u8 ((vw n).L 1), u8 ((vw n).L 2), u8 ((vw n).L 3), u8 ((vw n).L 4), u8 ((vw n).L 5), u8 ((vw n).L 6), u8 ((vw n).L 7)]) [] none_ := hQ
  have hQ : Q (.agg [u32 n, .sl 3 (mems (firstM (1 + n % 8))), u8 (firstL (1 + n % 8) 0), u8 (firstL (1 + n % 8) 1), u8 (firstL (1 + n % 8) 2), u8 (firstL (1 + n % 8) 3), u8 (firstL (1 + n % 8) 4), u8 (firstL (1 + n % 8) 5), u8 (firstL (1 + n % 8) 6), u8 (firstL (1 + n % 8) 7)]) [] none_ := hQ
  have fi : ∀ (k : Nat), k = 1 + n % 8 → TCalls Try.prog 30 [int k] [] none_ (callPost (told (.tup [.agg [u32 1, .sl 3 (mems (firstM k)), u8 (firstL k 0), u8 (firstL k 1), u8 (firstL k 2), u8 (firstL k 3), u8 (firstL k 4), u8 (firstL k 5), u8 (firstL k 6), u8 (firstL k 7)], int 0]) [] [])) := fun k hk =>
    X5.first_any (k : Int) _ (fun h => by omega) fun k' h1 _ _ => by
      have : k = k' := by omega
      subst this
      exact told_post rfl
  have r1 : T.v (.int .u32 ((n : Int).tmod 8)) = u32 (n % 8 : Nat) := congrArg u32 (by rw [Int.tmod_eq_emod_of_nonneg (by omega)]; omega)
  obtain ⟨k, hk⟩ : ∃ k, k = 1 + n % 8 := ⟨_, rfl⟩
  have r2 : T.v (.int .i64 (IntKind.wrap .i64 ((n % 8 : Nat) : Int))) = int (n % 8 : Nat) := congrArg int (by rw [wrap_i64 (by omega) (by omega)])
  have r3 : T.v (.int .i64 (IntKind.wrap .i64 (1 + ((n % 8 : Nat) : Int)))) = int k := congrArg int (by rw [wrap_i64 (by omega) (by omega)]; omega)
  have fi := fi k hk
  rw [← hk] at hQ
  refine TCalls.of Try.func9 rfl (CanCall.of Try.func9 rfl (by decide)) [] fun Γ => ?_
  let HH : Nat → Nat → Hint := fun | 1, 1 => .res (u32 (n % 8 : Nat)) | 1, 2 => .res (int (n % 8 : Nat)) | 1, 3 => .res (int k) | 1, 4 => told (.tup [.agg [u32 1, .sl 3 (mems (firstM k)), u8 (firstL k 0), u8 (firstL k 1), u8 (firstL k 2), u8 (firstL k 3), u8 (firstL k 4), u8 (firstL k 5), u8 (firstL k 6), u8 (firstL k 7)], int 0]) [] [] | _, _ => .no
  exact run_sound ⟨HH, [], fun  | _ => none⟩ 400 (by kernel_rfl) (fun (Z0 : Nat) => (Yb (u32 (n % 8)) (Ya r2 (Ya r3 (Ya fi (Yu (fun (Z1 : Nat) => (Yk 10 Z1 (Yl 1 (Yb Z1 (Ya (Yn (1) (10) rfl) (Yb Z1 (Yk 10 Z0 (Yb Z0 hQ))))))))))))))
end X11
end Go.Proofs.Ytcmcmafeaabjmaa.Vm
namespace Go.Proofs.Ytcmcmafeaabjmaa.Vm
open Go Go.RowKit
set_option maxRecDepth 100000
noncomputable abbrev kAcP0 (l : List Nat) : It := .code (sub (bd Try.f27) l)
noncomputable abbrev wAcP1 (Γ : Ctx) (Q : T → Obs → Glb → Prop) : List It → S → Prop := TWk Try.prog Γ (fin Try.prog Try.f27 [] Q)
namespace X11
open Acp (En AS Rc blw VOk IsE XOk RE RA fromR)
open View (VS Mem)
theorem mul64 {a b c : Nat} (h : a * b = c) (hc : c < 18446744073709551616) : T.v (.int .u64 (IntKind.wrap .u64 ((a : Int) * (b : Int)))) = u64 c := congrArg u64 (by
  subst h
  rw [← Int.natCast_mul]
  exact IntWalk.u64_in _ (by omega))
theorem add64 {a b c : Nat} (h : a + b = c) (hc : c < 18446744073709551616) : T.v (.int .u64 (IntKind.wrap .u64 ((a : Int) + (b : Int)))) = u64 c := congrArg u64 (by
  subst h
  rw [← Int.natCast_add]
  exact IntWalk.u64_in _ (by omega))
theorem to64 {a : Nat} (hc : a < 18446744073709551616) : T.v (.int .u64 (IntKind.wrap .u64 (a : Int))) = u64 a := congrArg u64 (IntWalk.u64_in _ (by omega))
theorem value_any (n b : Nat) (hn : n < 4294967296) (hb : b < 256) (Q : T → Obs → Glb → Prop) (hQ : Q (u64 (n * 65536 + b * 256 : Nat)) [] none_) : TCalls Try.prog 74 [.agg [u32 n, u8 b, u8 0]] [] none_ Q := by
  have m1 := mul64 (a := n) (b := 65536) rfl (by omega)
  have m2 := mul64 (a := b) (b := 256) rfl (by omega)
  have a1 := add64 (a := n * 65536) (b := b * 256) rfl (by omega)
  have t1 := to64 (a := n) (by omega)
  have t2 := to64 (a := b) (by omega)
  have t0 : T.v (.int .u64 (IntKind.wrap .u64 0)) = u64 0 := rfl
  have a2 : T.v (.int .u64 (IntKind.wrap .u64 (((n * 65536 + b * 256 : Nat) : Int) + 0))) = u64 (n * 65536 + b * 256 : Nat) := congrArg u64 (by rw [Int.add_zero]; exact IntWalk.u64_in _ (by omega))
  generalize n * 65536 + b * 256 = s at *
  generalize n * 65536 = p at *
  generalize b * 256 = q at *
  refine TCalls.of Try.func74 rfl (CanCall.of Try.func74 rfl (by decide)) [] fun Γ => ?_
  let HH : Nat → Nat → Hint := fun | 1, 2 => .res (u64 n) | 1, 3 => .res (u64 p) | 1, 6 => .res (u64 b) | 1, 7 => .res (u64 q) | 1, 8 => .res (u64 s) | 1, 11 => .res (u64 0) | 1, 12 => .res (u64 s) | _, _ => .no
  exact run_sound ⟨HH, [], fun  | _ => none⟩ 400 (by kernel_rfl) (fun (Z0 : Nat) => (Yb Z0 (Ya t1 (Ya m1 (Yb Z0 (Ya t2 (Ya m2 (Ya a1 (Yb Z0 (Yb (u64 (0 : Int)) (Ya a2 hQ)))))))))))
theorem less_gen (n b n2 b2 p q : Nat) (r : Bool) (v1 : ∀ Q' : T → Obs → Glb → Prop, Q' (u64 p) [] none_ → TCalls Try.prog 74 [.agg [u32 n, u8 b, u8 0]] [] none_ Q') (v2 : ∀ Q' : T → Obs → Glb → Prop, Q' (u64 q) [] none_ → TCalls Try.prog 74 [.agg [u32 n2, u8 b2, u8 0]] [] none_ Q')
    (e : T.v (.bool (decide ((p : Int) < (q : Int)))) = bool r) (Q : T → Obs → Glb → Prop) (hQ : Q (bool r) [] none_) : TCalls Try.prog 50 [.agg [u32 n, u8 b, u8 0], .agg [u32 n2, u8 b2, u8 0]] [] none_ Q := by
  refine TCalls.of Try.func50 rfl (CanCall.of Try.func50 rfl (by decide)) [] fun Γ => ?_
  let HH : Nat → Nat → Hint := fun | 1, 1 => told (u64 p) [] [] | 1, 3 => told (u64 q) [] [] | 1, 4 => .res (bool r) | _, _ => .no
  exact run_sound ⟨HH, [], fun | 1 => some ⟨[0,1], [3], .take true [0,2] (.one 1 (.one 3 (.take false [4,5] .done)))⟩ | _ => none⟩ 400 (by kernel_rfl) (fun (Z0 : Nat) => (fun (Z1 : Nat) => (Yb Z0 (Yb Z1 (Ya (v1 (HH 1 1).P (told_post rfl)) (Yu (Ya (v2 (HH 1 3).P (told_post rfl)) (Yu (Ya e hQ)))))))))
theorem less_any (n b n2 b2 : Nat) (hn : n < 4294967296) (hb : b < 256) (hn2 : n2 < 4294967296) (hb2 : b2 < 256) (Q : T → Obs → Glb → Prop) (hQ : Q (bool (blw n b n2 b2)) [] none_) : TCalls Try.prog 50 [.agg [u32 n, u8 b, u8 0], .agg [u32 n2, u8 b2, u8 0]] [] none_ Q :=
  less_gen n b n2 b2 _ _ _ (fun Q' hq => value_any n b hn hb Q' hq) (fun Q' hq => value_any n2 b2 hn2 hb2 Q' hq) (congrArg bool (by unfold blw; rw [decide_eq_decide]; omega)) Q hQ
def reC (r : RE) : List T := [u32 r.slot, u32 r.n, u8 r.b, u8 0, u32 r.c]
def raT (n b low : Nat) (E : List T) : List T := [u32 n, u8 b, u8 0, u32 low, .sl 5 E]
def raC (m : RA) : List T := raT m.n m.b m.low (Row.aggs reC m.l)
def obsRe (b n by_ low : Nat) (E : List T) (D : List T) (hd : Value) : Obs := [(b, .cells (raT n by_ low E)), (0, .room 5 113 D.length hd)]
section
variable (Γ : Ctx) (b2 : Nat) (n by_ low : Nat) (E : List T) (f : Nat) (Q : T → Obs → Glb → Prop)
theorem fr_end (k : Nat) (hk : E.length ≤ k) (D : List T) (hd : Value) (hQ : Q (.sl 5 D) [] none_) : wAcP1 Γ Q [kAcP0 [1,1,0,1,0], .blk 0, kAcP0 [1,1,1]] ⟨frame 31 [(1, u32 f), (2, .ptr 0 b2 0), (5, .slx 5 1 D hd), (6, int k)], obsRe b2 n by_ low E D hd, none_⟩ := by
  let HH : Nat → Nat → Hint := fun _ _ => .no
  exact run_sound ⟨HH, [((0, 5), ([1,2,5,6], 2))], fun _ => none⟩ 400 (by kernel_rfl) (Yb b2 (Ys (decide ((↑k : Int) < (↑(List.length E) : Int))) (fun Z0 => (show wAcP1 Γ Q [kAcP0 [1,1,0,1,0,0,1,0,0], It.blk 1, kAcP0 [1,1,0,1,0,0,1,1], kAcP0 [1,1,0,1,0], It.blk 0, kAcP0 [1,1,1]] (S.mk (frame 31 [(1, u32 f), (2, T.ptr 0 b2 0), (5, T.slx 5 1 D hd), (6, int k)]) [(b2, Ob.cells [u32 n, u8 by_, u8 (0 : Int), u32 low, T.sl 5 E]), (0, Ob.room 5 113 (List.length D) hd)] fun x => none) by exfalso; have := of_decide_eq_true Z0; omega)) (fun Z1 => hQ)))
theorem fr_skip (k : Nat) (hk : k < E.length) (hm : E.length ≤ 1000) (r : RE) (hat : E[((k : Nat) : Int).toNat]? = some (.agg (reC r))) (hf : ¬ f ≤ r.slot) (D : List T) (hd : Value) (nx : wAcP1 Γ Q [kAcP0 [1,1,0,1,0], .blk 0, kAcP0 [1,1,1]] ⟨frame 31 [(1, u32 f), (2, .ptr 0 b2 0), (5, .slx 5 1 D hd), (6, int (k + 1 : Nat))], obsRe b2 n by_ low E D hd, none_⟩) : wAcP1 Γ Q [kAcP0 [1,1,0,1,0], .blk 0, kAcP0 [1,1,1]] ⟨frame 31 [(1, u32 f), (2, .ptr 0 b2 0), (5, .slx 5 1 D hd), (6, int k)], obsRe b2 n by_ low E D hd, none_⟩ := by
  have hw : T.v (.int .i64 (IntKind.wrap .i64 ((k : Int) + 1))) = int (k + 1 : Nat) := congrArg int (by rw [wrap_i64 (by omega) (by omega)]; omega)
  let HH : Nat → Nat → Hint := fun | 5, 3 => .res (.agg (reC r)) | 4, 1 => .res (int (k + 1 : Nat)) | _, _ => .no
  let z0 := [(b2, Ob.cells [u32 n, u8 by_, u8 (0 : Int), u32 low, T.sl 5 E]), (0, Ob.room 5 113 (List.length D) hd)]
  exact run_sound ⟨HH, [((2, 3), ([1,2,5,6], 2)), ((0, 6), ([1,2,5,6], 2)), ((0, 7), ([5], 2))], fun  | _ => none⟩ 400 (by kernel_rfl) (Yb b2 (Ys (decide ((↑k : Int) < (↑(List.length E) : Int))) (fun Z0 => (Yb b2 (Ya (show (0 : Int) ≤ (↑k : Int) by omega) (Ya hat (Ys (decide ((↑r.slot : Int) ≥ (↑f : Int))) (fun Z1 => (show wAcP1 Γ Q [kAcP0 [1,1,0,1,0,0,1,0,0,1,0], It.blk 1, kAcP0 [1,1,0,1,0,0,1,1], kAcP0 [1,1,0,1,0], It.blk 0, kAcP0 [1,1,1]] (S.mk (frame 31 [(1, u32 f), (2, T.ptr 0 b2 0), (5, T.slx 5 1 D hd), (6, int k)]) z0 fun x => none) by exfalso; have := of_decide_eq_true Z1; omega)) (fun Z2 => (Ya hw nx))))))) (fun Z3 => (show wAcP1 Γ Q [kAcP0 [1,1,1]] (S.mk (frame 31 [(5, T.slx 5 1 D hd)]) z0 fun x => none) by exfalso; have := of_decide_eq_false Z3; omega))))
theorem fr_take (k : Nat) (hk : k < E.length) (hm : E.length ≤ 1000) (r : RE) (hat : E[((k : Nat) : Int).toNat]? = some (.agg (reC r))) (hf : f ≤ r.slot) (D : List T) (hD : D.length ≤ 1000) (hd : Value) (nx : ∀ hd, wAcP1 Γ Q [kAcP0 [1,1,0,1,0], .blk 0, kAcP0 [1,1,1]] ⟨frame 31 [(1, u32 f), (2, .ptr 0 b2 0), (5, .slx 5 1 (D ++ [.agg (reC r)]) hd), (6, int (k + 1 : Nat))], obsRe b2 n by_ low E (D ++ [.agg (reC r)]) hd, none_⟩) : wAcP1 Γ Q [kAcP0 [1,1,0,1,0], .blk 0, kAcP0 [1,1,1]] ⟨frame 31 [(1, u32 f), (2, .ptr 0 b2 0), (5, .slx 5 1 D hd), (6, int k)], obsRe b2 n by_ low E D hd, none_⟩ := by
  have hw : T.v (.int .i64 (IntKind.wrap .i64 ((k : Int) + 1))) = int (k + 1 : Nat) := congrArg int (by rw [wrap_i64 (by omega) (by omega)]; omega)
  let HH : Nat → Nat → Hint := fun | 5, 3 => .res (.agg (reC r)) | 6, 4 => .res (.agg (reC r)) | 4, 1 => .res (int (k + 1 : Nat)) | _, _ => .no
  let z0 := [(b2, Ob.cells [u32 n, u8 by_, u8 (0 : Int), u32 low, T.sl 5 E]), (0, Ob.room 5 113 (List.length D) hd)]
  exact run_sound ⟨HH, [((2, 3), ([1,2,5,6], 2)), ((0, 7), ([5], 2))], fun  | _ => none⟩ 400 (by kernel_rfl) (Yb b2 (Ys (decide ((↑k : Int) < (↑(List.length E) : Int))) (fun Z0 => (Yb b2 (Ya (show (0 : Int) ≤ (↑k : Int) by omega) (Ya hat (Ys (decide ((↑r.slot : Int) ≥ (↑f : Int))) (fun Z1 => (Yb b2 (Ya (show (0 : Int) ≤ (↑k : Int) by omega) (Ya hat (Ya (Yb hd (Ye (List.length D))) (Ya (Ya (show (List.length D + 1) * nat_lit 16 ≤ 140737488355328 by simp only [maxLen]; omega) (show List.length D + 1 ≤ maxLen by simp only [maxLen]; omega)) (fun (Z2 : Value) => (Ya hw (nx Z2))))))))) (fun Z3 => (Ya hw (show wAcP1 Γ Q [kAcP0 [1,1,0,1,0], It.blk 0, kAcP0 [1,1,1]] (S.mk (frame 31 [(1, u32 f), (2, T.ptr 0 b2 0), (5, T.slx 5 1 D hd), (6, int (k + 1))]) z0 fun x => none) by exfalso; have := of_decide_eq_false Z3; omega)))))))) (fun Z4 => (show wAcP1 Γ Q [kAcP0 [1,1,1]] (S.mk (frame 31 [(5, T.slx 5 1 D hd)]) z0 fun x => none) by exfalso; have := of_decide_eq_false Z4; omega))))
end
theorem fr_loop (Γ : Ctx) (b2 : Nat) (m : RA) (f : Nat) (Q : T → Obs → Glb → Prop) (hm : m.l.length ≤ 1000) (hQ : Q (.sl 5 (Row.aggs reC (fromR m.l f))) [] none_) : ∀ (c k : Nat) (hd : Value), k + c = m.l.length →
    wAcP1 Γ Q [kAcP0 [1,1,0,1,0], .blk 0, kAcP0 [1,1,1]] ⟨frame 31 [(1, u32 f), (2, .ptr 0 b2 0), (5, .slx 5 1 (Row.aggs reC (fromR (m.l.take k) f)) hd), (6, int k)], obsRe b2 m.n m.b m.low (Row.aggs reC m.l) (Row.aggs reC (fromR (m.l.take k) f)) hd, none_⟩ := by
  have hal := Row.aggs_len (C := reC) m.l
  intro c
  induction c with
  | zero =>
    intro k hd hk
    have e : k = m.l.length := by omega
    rw [e, List.take_length]
    exact fr_end Γ b2 m.n m.b m.low (Row.aggs reC m.l) f Q _ (Nat.le_of_eq hal) _ hd hQ
  | succ c ih =>
    intro k hd hk
    have hlt : k < m.l.length := by omega
    have hat : (Row.aggs reC m.l)[((k : Nat) : Int).toNat]? = some (.agg (reC m.l[k])) := by rw [Int.toNat_natCast]; exact Row.aggs_at (List.getElem?_eq_getElem hlt)
    have et : m.l.take (k + 1) = m.l.take k ++ [m.l[k]] := by rw [List.take_add_one, List.getElem?_eq_getElem hlt]; rfl
    have hl : (Row.aggs reC (fromR (m.l.take k) f)).length ≤ 1000 := by
      rw [Row.aggs_len]
      have := List.length_filter_le (fun r : RE => decide (f ≤ r.slot)) (m.l.take k)
      have h2 : (m.l.take k).length ≤ m.l.length := by rw [List.length_take]; omega
      exact Nat.le_trans this (by omega)
    by_cases hf : f ≤ m.l[k].slot
    · refine fr_take Γ b2 m.n m.b m.low (Row.aggs reC m.l) f Q k (by omega) (by omega) _ hat hf _ hl hd fun hd => ?_
      have := ih (k + 1) hd (by omega)
      rw [et] at this
      unfold fromR at this
      rw [List.filter_append, List.filter_cons_of_pos (by simpa using hf), List.filter_nil, Row.aggs_snoc] at this
      exact this
    · refine fr_skip Γ b2 m.n m.b m.low (Row.aggs reC m.l) f Q k (by omega) (by omega) _ hat hf _ hd ?_
      have := ih (k + 1) hd (by omega)
      rw [et] at this
      unfold fromR at this
      rw [List.filter_append, List.filter_cons_of_neg (by simpa using hf), List.filter_nil, List.append_nil] at this
      exact this
theorem from_any (m : RA) (f : Nat) (hm : m.l.length ≤ 1000) (Q : T → Obs → Glb → Prop) (hQ : Q (.sl 5 (Row.aggs reC (fromR m.l f))) [] none_) : TCalls Try.prog 27 [.agg (raC m), u32 f] [] none_ Q := by
  have lp := fun Γ b2 => TWk.imp (s := ⟨frame 31 [(1, u32 f), (2, .ptr 0 b2 0), (5, .v nilS), (6, int 0)], [(b2, .cells (raC m))], none_⟩) (fr_loop Γ b2 m f Q hm hQ m.l.length 0 nilS (by omega)) ((Imp.room 5 113).trans (Imp.slot 5 1 5 rfl))
  clear hQ
  refine TCalls.of Try.func27 rfl (CanCall.of Try.func27 rfl (by decide)) [] fun Γ => ?_
  let HH : Nat → Nat → Hint := fun _ _ => .no
  exact run_sound ⟨HH, [((2, 3), ([1,2,5,6], 1))], fun _ => none⟩ 400 (by kernel_rfl) (fun (Z0 : Nat) => (lp Γ Z0))
end X11
end Go.Proofs.Ytcmcmafeaabjmaa.Vm
namespace Go.Proofs.Ytcmcmafeaabjmaa.Vm
open Go Go.RowKit
set_option maxRecDepth 100000
noncomputable abbrev kAcQ0 (l : List Nat) : It := .code (sub (bd Try.f24) l)
noncomputable abbrev kAcQ1 (l : List Nat) : It := .code (sub (bd Try.f28) l)
noncomputable abbrev wAcQ2 (Γ : Ctx) (Q : T → Obs → Glb → Prop) : List It → S → Prop := TWk Try.prog Γ (fin Try.prog Try.f24 [] Q)
noncomputable abbrev wAcQ3 (Γ : Ctx) (Q : T → Obs → Glb → Prop) : List It → S → Prop := TWk Try.prog Γ (fin Try.prog Try.f28 [] Q)
def plAcQ0 : Nat → Option RPlan := fun | 6 => some ⟨[], [4], .take true [0,1,2] (.one 3 (.one 4 (.take false [5,6] .done)))⟩ | _ => none
namespace X11
open Acp (En AS Rc blw VOk IsE XOk RE RA fromR insR)
open View (VS Mem)
section
variable (mn mb low : Nat) (E : List T) (n b f : Nat)
theorem rprep_low (h : f < low) (Q : T → Obs → Glb → Prop) (hQ : Q (.tup [.agg (raT mn mb low E), .v nilS, int 9]) [] none_) : TCalls Try.prog 24 [.agg (raT mn mb low E), .agg [u32 n, u8 b, u8 0], u32 f] [] none_ Q := by
  refine TCalls.of Try.func24 rfl (CanCall.of Try.func24 rfl (by decide)) [] fun Γ => ?_
  let HH : Nat → Nat → Hint := fun  | _, _ => .no
  exact run_sound ⟨HH, [((0, 3), ([2,3,4,6], 3))], plAcQ0⟩ 400 (by kernel_rfl) (fun (Z0 : Nat) => (fun (Z1 : Nat) => (fun (Z2 : Nat) => (Yb Z0 (Ys (decide ((↑f : Int) < (↑low : Int))) (fun Z3 => (Yb Z0 (Yk 5 Z2 (Yb Z2 hQ)))) (fun Z4 => (show wAcQ2 Γ Q [kAcQ0 [1,1]] (S.mk (frame 25 [(2, u32 f), (3, T.ptr 0 Z0 0), (4, T.ptr 1 Z1 0), (6, T.ptr 2 Z2 0)]) [(Z0, Ob.cells [u32 mn, u8 mb, u8 (0 : Int), u32 low, T.sl 5 E]), (Z1, Ob.cells [u32 n, u8 b, u8 (0 : Int)]), (Z2, Ob.cells [u32 (0 : Int), u8 (0 : Int), u8 (0 : Int), u32 (0 : Int), T.v (Value.slice none 0 0)])] fun x => none) by exfalso; have := of_decide_eq_false Z4; omega)))))))
theorem rprep_old (h : ¬ f < low) (hl : ∀ Q' : T → Obs → Glb → Prop, Q' (bool true) [] none_ → TCalls Try.prog 50 [.agg [u32 n, u8 b, u8 0], .agg [u32 mn, u8 mb, u8 0]] [] none_ Q') (Q : T → Obs → Glb → Prop) (hQ : Q (.tup [.agg (raT mn mb low E), .v nilS, int 8]) [] none_) : TCalls Try.prog 24 [.agg (raT mn mb low E), .agg [u32 n, u8 b, u8 0], u32 f] [] none_ Q := by
  refine TCalls.of Try.func24 rfl (CanCall.of Try.func24 rfl (by decide)) [] fun Γ => ?_
  let HH : Nat → Nat → Hint := fun | 3, 3 => told (bool true) [] [] | _, _ => .no
  exact run_sound ⟨HH, [((0, 2), ([3,6], 3))], plAcQ0⟩ 400 (by kernel_rfl) (fun (Z0 : Nat) => (fun (Z1 : Nat) => (fun (Z2 : Nat) => (Yb Z0 (Ys (decide ((↑f : Int) < (↑low : Int))) (fun Z3 => (show wAcQ2 Γ Q [kAcQ0 [1,0,1,0], kAcQ0 [1,1]] (S.mk (frame 25 [(3, T.ptr 0 Z0 0), (6, T.ptr 2 Z2 0)]) [(Z0, Ob.cells [u32 mn, u8 mb, u8 (0 : Int), u32 low, T.sl 5 E]), (Z1, Ob.cells [u32 n, u8 b, u8 (0 : Int)]), (Z2, Ob.cells [u32 (0 : Int), u8 (0 : Int), u8 (0 : Int), u32 (0 : Int), T.v (Value.slice none 0 0)])] fun x => none) by exfalso; have := of_decide_eq_true Z3; omega)) (fun Z4 => (Yb Z1 (Yb Z0 (Ya (hl (HH 3 3).P (told_post rfl)) (Yu (Yb Z0 (Yk 5 Z2 (Yb Z2 hQ)))))))))))))
theorem rprep_new (h : ¬ f < low) (hl : ∀ Q' : T → Obs → Glb → Prop, Q' (bool false) [] none_ → TCalls Try.prog 50 [.agg [u32 n, u8 b, u8 0], .agg [u32 mn, u8 mb, u8 0]] [] none_ Q') (F : List T) (hf : ∀ Q' : T → Obs → Glb → Prop, Q' (.sl 5 F) [] none_ → TCalls Try.prog 27 [.agg (raT n b low E), u32 f] [] none_ Q') (Q : T → Obs → Glb → Prop) (hQ : Q (.tup [.agg (raT n b low E), .sl 5 F, int 0]) [] none_) : TCalls Try.prog 24 [.agg (raT mn mb low E), .agg [u32 n, u8 b, u8 0], u32 f] [] none_ Q := by
  refine TCalls.of Try.func24 rfl (CanCall.of Try.func24 rfl (by decide)) [] fun Γ => ?_
  let HH : Nat → Nat → Hint := fun | 3, 3 => told (bool false) [] [] | 6, 3 => told (.sl 5 F) [] [] | _, _ => .no
  exact run_sound ⟨HH, [((0, 2), ([3,6], 3))], fun | 6 => some ⟨[0], [4], .take true [0,1,2] (.one 3 (.one 4 (.take false [5,6] .done)))⟩ | n => plAcQ0 n⟩ 400 (by kernel_rfl) (fun (Z0 : Nat) => (fun (Z1 : Nat) => (fun (Z2 : Nat) => (Yb Z0 (Ys (decide ((↑f : Int) < (↑low : Int))) (fun Z3 => (show wAcQ2 Γ Q [kAcQ0 [1,0,1,0], kAcQ0 [1,1]] (S.mk (frame 25 [(3, T.ptr 0 Z0 0), (6, T.ptr 2 Z2 0)]) [(Z0, Ob.cells [u32 mn, u8 mb, u8 (0 : Int), u32 low, T.sl 5 E]), (Z1, Ob.cells [u32 n, u8 b, u8 (0 : Int)]), (Z2, Ob.cells [u32 (0 : Int), u8 (0 : Int), u8 (0 : Int), u32 (0 : Int), T.v (Value.slice none 0 0)])] fun x => none) by exfalso; have := of_decide_eq_true Z3; omega)) (fun Z4 => (Yb Z1 (Yb Z0 (Ya (hl (HH 3 3).P (told_post rfl)) (Yu (Yb Z1 (Yl 3 (Yb Z0 (Ya (Yn (3) (5) rfl) (Yb Z0 (Yb Z0 (Ya (hf (HH 6 3).P (told_post rfl)) (Yu (Yk 5 Z2 (Yb Z2 hQ))))))))))))))))))))
theorem rtrunc_none (h : ¬ low < f) (Q : T → Obs → Glb → Prop) (hQ : Q (.agg (raT mn mb low E)) [] none_) : TCalls Try.prog 26 [.agg (raT mn mb low E), u32 f] [] none_ Q := by
  refine TCalls.of Try.func26 rfl (CanCall.of Try.func26 rfl (by decide)) [] fun Γ => ?_
  let HH : Nat → Nat → Hint := fun _ _ => .no
  exact run_sound ⟨HH, [((0, 2), ([1,2,4], 2))], fun _ => none⟩ 400 (by kernel_rfl) (fun (Z0 : Nat) => (fun (Z1 : Nat) => (Yb Z0 (Ys (decide ((↑f : Int) > (↑low : Int))) (fun Z2 => (show TWk Try.prog Γ (fin Try.prog Try.f26 [] Q) [It.code (sub (bd Try.f26) [1,0,1,0]), It.code (sub (bd Try.f26) [1,1])] (S.mk (frame 16 [(1, u32 f), (2, T.ptr 0 Z0 0), (4, T.ptr 1 Z1 0)]) [(Z0, Ob.cells [u32 mn, u8 mb, u8 (0 : Int), u32 low, T.sl 5 E]), (Z1, Ob.cells [u32 (0 : Int), u8 (0 : Int), u8 (0 : Int), u32 (0 : Int), T.v (Value.slice none 0 0)])] fun x => none) by exfalso; have := of_decide_eq_true Z2; omega)) (fun Z3 => (Yb Z0 (Yk 5 Z1 (Yb Z1 hQ))))))))
theorem rtrunc_new (h : low < f) (F : List T) (hf : ∀ Q' : T → Obs → Glb → Prop, Q' (.sl 5 F) [] none_ → TCalls Try.prog 27 [.agg (raT mn mb f E), u32 f] [] none_ Q') (Q : T → Obs → Glb → Prop) (hQ : Q (.agg (raT mn mb f F)) [] none_) : TCalls Try.prog 26 [.agg (raT mn mb low E), u32 f] [] none_ Q := by
  refine TCalls.of Try.func26 rfl (CanCall.of Try.func26 rfl (by decide)) [] fun Γ => ?_
  let HH : Nat → Nat → Hint := fun | 3, 2 => told (.sl 5 F) [] [] | _, _ => .no
  exact run_sound ⟨HH, [], fun  | _ => none⟩ 400 (by kernel_rfl) (fun (Z0 : Nat) => (fun (Z1 : Nat) => (Yb Z0 (Ys (decide ((↑f : Int) > (↑low : Int))) (fun Z2 => (Yl 1 (Yb Z0 (Ya (Yn (4) (5) rfl) (Yb Z0 (Ya (hf (HH 3 2).P (told_post rfl)) (Yu (Yl 1 (Yb Z0 (Ya (Yn (5) (5) rfl) (Yb Z0 (Yk 5 Z1 (Yb Z1 hQ))))))))))))) (fun Z3 => (Yb Z0 (Yk 5 Z1 (Yb Z1 (show Q (T.agg [u32 mn, u8 mb, u8 (0 : Int), u32 low, T.sl 5 E]) [] fun x => none by exfalso; have := of_decide_eq_false Z3; omega)))))))))
end
section
variable (mn mb low : Nat) (E : List T) (n b slot c : Nat)
theorem racc_low (h : slot < low) (Q : T → Obs → Glb → Prop) (hQ : Q (.tup [.agg (raT mn mb low E), int 9]) [] none_) : TCalls Try.prog 28 [.agg (raT mn mb low E), .agg [u32 n, u8 b, u8 0], u32 slot, u32 c] [] none_ Q := by
  refine TCalls.of Try.func28 rfl (CanCall.of Try.func28 rfl (by decide)) [] fun Γ => ?_
  let HH : Nat → Nat → Hint := fun _ _ => .no
  exact run_sound ⟨HH, [((0, 3), ([2,3,4,5,8], 3))], fun _ => none⟩ 400 (by kernel_rfl) (fun (Z0 : Nat) => (fun (Z1 : Nat) => (fun (Z2 : Nat) => (Yb Z0 (Ys (decide ((↑slot : Int) < (↑low : Int))) (fun Z3 => (Yb Z0 (Yk 5 Z2 (Yb Z2 hQ)))) (fun Z4 => (show wAcQ3 Γ Q [kAcQ1 [1,1]] (S.mk (frame 81 [(2, u32 slot), (3, u32 c), (4, T.ptr 0 Z0 0), (5, T.ptr 1 Z1 0), (8, T.ptr 2 Z2 0)]) [(Z0, Ob.cells [u32 mn, u8 mb, u8 (0 : Int), u32 low, T.sl 5 E]), (Z1, Ob.cells [u32 n, u8 b, u8 (0 : Int)]), (Z2, Ob.cells [u32 (0 : Int), u8 (0 : Int), u8 (0 : Int), u32 (0 : Int), T.v (Value.slice none 0 0)])] fun x => none) by exfalso; have := of_decide_eq_false Z4; omega)))))))
theorem racc_full (h : ¬ slot < low) (h2 : low + 16 ≤ slot) (hs : slot < 4294967296) (Q : T → Obs → Glb → Prop) (hQ : Q (.tup [.agg (raT mn mb low E), int 6]) [] none_) : TCalls Try.prog 28 [.agg (raT mn mb low E), .agg [u32 n, u8 b, u8 0], u32 slot, u32 c] [] none_ Q := by
  have t1 := to64 (a := slot) (by omega)
  have t2 := to64 (a := low) (by omega)
  have a1 := add64 (a := low) (b := 16) rfl (by omega)
  refine TCalls.of Try.func28 rfl (CanCall.of Try.func28 rfl (by decide)) [] fun Γ => ?_
  let HH : Nat → Nat → Hint := fun | 3, 1 => .res (u64 slot) | 3, 4 => .res (u64 low) | 3, 5 => .res (u64 (low + 16 : Nat)) | _, _ => .no
  let z0 := fun (Z0 : Nat) (Z1 : Nat) (Z2 : Nat) => [(Z0, Ob.cells [u32 mn, u8 mb, u8 (0 : Int), u32 low, T.sl 5 E]), (Z1, Ob.cells [u32 n, u8 b, u8 (0 : Int)]), (Z2, Ob.cells [u32 (0 : Int), u8 (0 : Int), u8 (0 : Int), u32 (0 : Int), T.v (Value.slice none 0 0)])]
  exact run_sound ⟨HH, [((0, 2), ([4,8], 3)), ((0, 5), ([2,3,4,5,8], 3))], fun  | _ => none⟩ 400 (by kernel_rfl) (fun (Z0 : Nat) => (fun (Z1 : Nat) => (fun (Z2 : Nat) => (Yb Z0 (Ys (decide ((↑slot : Int) < (↑low : Int))) (fun Z3 => (show wAcQ3 Γ Q [kAcQ1 [1,0,1,0], kAcQ1 [1,1]] (S.mk (frame 81 [(4, T.ptr 0 Z0 0), (8, T.ptr 2 Z2 0)]) (z0 Z0 Z1 Z2) fun x => none) by exfalso; have := of_decide_eq_true Z3; omega)) (fun Z4 => (Ya t1 (Yb Z0 (Ya t2 (Ya a1 (Ys (decide ((↑slot : Int) ≥ (↑(low + 16) : Int))) (fun Z5 => (Yb Z0 (Yk 5 Z2 (Yb Z2 hQ)))) (fun Z6 => (show wAcQ3 Γ Q [kAcQ1 [1,1,1]] (S.mk (frame 81 [(2, u32 slot), (3, u32 c), (4, T.ptr 0 Z0 0), (5, T.ptr 1 Z1 0), (8, T.ptr 2 Z2 0)]) (z0 Z0 Z1 Z2) fun x => none) by exfalso; have := of_decide_eq_false Z6; omega)))))))))))))
theorem racc_old (h : ¬ slot < low) (h2 : slot < low + 16) (hs : slot < 4294967296) (hl : ∀ Q' : T → Obs → Glb → Prop, Q' (bool true) [] none_ → TCalls Try.prog 50 [.agg [u32 n, u8 b, u8 0], .agg [u32 mn, u8 mb, u8 0]] [] none_ Q') (Q : T → Obs → Glb → Prop) (hQ : Q (.tup [.agg (raT mn mb low E), int 8]) [] none_) : TCalls Try.prog 28 [.agg (raT mn mb low E), .agg [u32 n, u8 b, u8 0], u32 slot, u32 c] [] none_ Q := by
  have t1 := to64 (a := slot) (by omega)
  have t2 := to64 (a := low) (by omega)
  have a1 := add64 (a := low) (b := 16) rfl (by omega)
  refine TCalls.of Try.func28 rfl (CanCall.of Try.func28 rfl (by decide)) [] fun Γ => ?_
  let HH : Nat → Nat → Hint := fun | 3, 1 => .res (u64 slot) | 3, 4 => .res (u64 low) | 3, 5 => .res (u64 (low + 16 : Nat)) | 5, 3 => told (bool true) [] [] | _, _ => .no
  let z0 := fun (Z0 : Nat) (Z1 : Nat) (Z2 : Nat) => S.mk (frame 81 [(4, T.ptr 0 Z0 0), (8, T.ptr 2 Z2 0)]) [(Z0, Ob.cells [u32 mn, u8 mb, u8 (0 : Int), u32 low, T.sl 5 E]), (Z1, Ob.cells [u32 n, u8 b, u8 (0 : Int)]), (Z2, Ob.cells [u32 (0 : Int), u8 (0 : Int), u8 (0 : Int), u32 (0 : Int), T.v (Value.slice none 0 0)])] fun x => none
  exact run_sound ⟨HH, [((0, 2), ([4,8], 3)), ((0, 4), ([4,8], 3))], fun  | _ => none⟩ 400 (by kernel_rfl) (fun (Z0 : Nat) => (fun (Z1 : Nat) => (fun (Z2 : Nat) => (Yb Z0 (Ys (decide ((↑slot : Int) < (↑low : Int))) (fun Z3 => (show wAcQ3 Γ Q [kAcQ1 [1,0,1,0], kAcQ1 [1,1]] (z0 Z0 Z1 Z2) by exfalso; have := of_decide_eq_true Z3; omega)) (fun Z4 => (Ya t1 (Yb Z0 (Ya t2 (Ya a1 (Ys (decide ((↑slot : Int) ≥ (↑(low + 16) : Int))) (fun Z5 => (show wAcQ3 Γ Q [kAcQ1 [1,1,0,1,0], kAcQ1 [1,1,1]] (z0 Z0 Z1 Z2) by exfalso; have := of_decide_eq_true Z5; omega)) (fun Z6 => (Yb Z1 (Yb Z0 (Ya (hl (HH 5 3).P (told_post rfl)) (Yu (Yb Z0 (Yk 5 Z2 (Yb Z2 hQ)))))))))))))))))))
end
end X11
end Go.Proofs.Ytcmcmafeaabjmaa.Vm
