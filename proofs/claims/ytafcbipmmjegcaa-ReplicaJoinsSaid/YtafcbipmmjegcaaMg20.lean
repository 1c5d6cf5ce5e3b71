/- Texts of this claim: RpE, RpF. -/
import Derived.Test.YtafcbipmmjegcaaMg15
import Derived.Test.YtafcbipmmjegcaaMg19
namespace Go.Proofs.Ytafcbipmmjegcaa.Vm
open Go Go.RowKit
set_option maxRecDepth 100000
noncomputable abbrev kRpE0 (l : List Nat) : It := .code (sub (bd Try.f35) l)
noncomputable abbrev kRpE1 (l : List Nat) : It := .code (sub (bd Try.f47) l)
noncomputable abbrev wRpE2 (Γ : Ctx) (Q : T → Obs → Glb → Prop) : List It → S → Prop := TWk Try.prog Γ (fin Try.prog Try.f35 [0, 1, 2, 3] Q)
noncomputable abbrev wRpE3 (Γ : Ctx) (Q : T → Obs → Glb → Prop) : List It → S → Prop := TWk Try.prog Γ (fin Try.prog Try.f47 [0, 1, 2, 3] Q)
def plRpE0 : Nat → Option RPlan := fun | 1 => some ⟨[], [8], .take true [0,1,2,3,4,5,6,7] (.one 8 (.take false [9,10,11,12,13] .done))⟩ | _ => none
def plRpE1 : Nat → Option RPlan := fun | 1 => some ⟨[], [6], .take true [0,1,2,3,4] (.one 5 (.one 6 (.take false [7,8,9,10,11] .done)))⟩ | 9 => some ⟨[], [6, 12], .take false [0,1,2,3] (.take true [4,5] (.one 6 (.take false [7,8,9,10,11] (.one 12 .done))))⟩ | _ => none
namespace X20
open Rep (Stp Wrd Cel Drv Plc RS Fm Ev setP)
open X5 (viewC lim othV hasV aheadV behindV ends_any)
def sendH (i bo : Nat) (F : List Fm) (E : List Ev) (he : Value) (f : Fm) : Hint := .call false Value (fun _ => True) [i, i + 1, i + 2] false (fun _ => .tup []) (fun hf => obsO 0 bo (F ++ [f]) hf E he) (fun _ => none_)
def happH (i bo : Nat) (F : List Fm) (hf : Value) (E : List Ev) (e : Ev) : Hint := .call false Value (fun _ => True) [i, i + 1, i + 2] false (fun _ => .tup []) (fun he => obsO 0 bo F hf (E ++ [e]) he) (fun _ => none_)
def frameH (b : Nat) (r : RS) (D : Dr) (k n key : Nat) : Hint := .plainAt [0] (told (.agg (frC (Rep.fr r k n key))) [0] (obsR b r D))
def wordedH (b : Nat) (r : RS) (D : Dr) (k n key : Nat) (w : Wrd) : Hint := .plainAt [0] (told (.agg (frC (Rep.frW r k n key w false 0))) [0] (obsR b r D))
def othH (b : Nat) (r : RS) (D : Dr) : Hint := told (.sl 1 (X5.u8s (Rep.oth r))) [0] (obsR b r D)
theorem send1 (bo : Nat) (F : List Fm) (hf : Value) (E : List Ev) (he : Value) (f : Fm) (hl : F.length + 1 ≤ 1000000) : TCalls Try.prog 39 [.ptr 0 bo 0, .sl 34 [.agg (frC f)]] (obsO 0 bo F hf E he) none_ (callPost (.call false Value (fun _ => True) [1,2,3] false (fun _ => .tup []) (fun hf => obsO 0 bo (F ++ [f]) hf E he) (fun _ => none_))) :=
 send_any bo F hf E he [f] hl _ fun v => ⟨v, trivial, rfl, rfl, Nat.le_of_ble_eq_true rfl, fun h => by cases h⟩
theorem so_end (Γ : Ctx) (b bo bw : Nat) (r : RS) (D : Dr) (F : List Fm) (hf : Value) (E : List Ev) (he : Value) (key a c : Nat) (w : Wrd) (gl : Glb) (Q : T → Obs → Glb → Prop) (hQ : Q (.tup []) (obsR b r D ++ obsO 1 bo F hf E he) gl) :
  wRpE2 Γ Q [kRpE0 [1,1,1,0], .blk 0] ⟨frame 54 [(0, .ptr 0 b 0), (1, .ptr 1 bo 0), (2, u8 key), (6, .ptr 4 bw 0), (34, .agg [u8 0, u8 a, u8 c]), (35, int 3)], obsR b r D ++ obsO 1 bo F hf E he ++ [(bw, .cells (wdC w))], gl⟩ := by
 let HH : Nat → Nat → Hint := fun  | _, _ => .no
 exact run_sound ⟨HH, [], plRpE0⟩ 400 (by kernel_rfl) hQ
theorem so_2 (Γ : Ctx) (b bo bw : Nat) (r : RS) (D : Dr) (F : List Fm) (hf : Value) (E : List Ev) (he : Value) (key a c : Nat) (w : Wrd) (gl : Glb) (hF : F.length + 1 ≤ 1000000) (Q : T → Obs → Glb → Prop) (hQ : ∀ hf', Q (.tup []) (obsR b r D ++ obsO 1 bo (F ++ if c = 0 then [] else [Rep.frW r 1 c key w false 2]) hf' E he) gl) :
  wRpE2 Γ Q [kRpE0 [1,1,1,0], .blk 0] ⟨frame 54 [(0, .ptr 0 b 0), (1, .ptr 1 bo 0), (2, u8 key), (6, .ptr 4 bw 0), (34, .agg [u8 0, u8 a, u8 c]), (35, int 2)], obsR b r D ++ obsO 1 bo F hf E he ++ [(bw, .cells (wdC w))], gl⟩ := by
 have fin := fun F hf hq => so_end Γ b bo bw r D F hf E he key a c w gl Q hq
 by_cases hc : c = 0
 ·subst hc
  simp only [if_true, List.append_nil] at hQ
  have fin := fin F hf (hQ hf)
  let HH : Nat → Nat → Hint := fun  | _, _ => .no
  exact run_sound ⟨HH, [((2, 3), ([0,1,2,6,34,35], 5))], plRpE0⟩ 400 (by kernel_rfl) (Ya (Ya (show (0 : Int) ≤ (2 : Int) by omega) (show (2 : Int) < (↑(3 : Nat) : Int) by omega)) fin)
 ·simp only [if_neg hc] at hQ
  have fin := fun hf' => fin _ hf' (hQ hf')
  have w2 : IntKind.wrap .u8 2 = 2 := by decide
  let HH : Nat → Nat → Hint := fun | 6, 4 => wordedH b r D 1 c key w | 8, 3 => sendH 1 bo F E he (Rep.frW r 1 c key w false 2) | _, _ => .no
  exact run_sound ⟨HH, [((2, 3), ([0,1,2,6,34,35], 5))], plRpE0⟩ 400 (by kernel_rfl) (Ya (Ya (show (0 : Int) ≤ (2 : Int) by omega) (show (2 : Int) < (↑(3 : Nat) : Int) by omega)) (Ys ((↑c : Int) != (0 : Int)) (fun Z0 => (Yb bw (Ya (Ya (repC_plain r D) Yt) (Ya (worded_any b r D 1 c key w (HH 6 4).P (told_post rfl)) (Yu (Ya (Ya (repC_plain r D) Yt) (fun (Z1 : Nat) => (Yk 34 Z1 (Yl 1 (Yb Z1 (Ya (Yn (13) (34) rfl) (Yb Z1 (Ya (send1 bo F hf E he (Rep.frW r 1 c key w false 2) hF) (fun (Z2 : Value) => (fun (Z3 : True) => (fin Z2)))))))))))))))) (fun Z4 => (show TWk Try.prog Γ (Vm.fin Try.prog Try.f35 [0,1,2,3] Q) [kRpE0 [1,1,1,0], It.blk 0] (S.mk (frame 54 [(0, T.ptr 0 b 0), (1, T.ptr 1 bo 0), (2, u8 key), (6, T.ptr 4 bw 0), (34, T.agg [u8 (0 : Int), u8 a, u8 c]), (35, int (IntKind.wrap IntKind.i64 ((2 : Int) + (1 : Int))))]) [(b, Ob.cells (repC r D)), (bo, Ob.cells [T.slx 34 2 (List.map (fun x => T.agg (frC x)) F) hf, T.slx 5 3 (List.map (fun x => T.agg (evC x)) E) he]), (0, Ob.room 34 70 (List.length (List.map (fun x => T.agg (frC x)) F)) hf), (0, Ob.room 5 73 (List.length (List.map (fun x => T.agg (evC x)) E)) he), (bw, Ob.cells (wdC w))] gl) by exfalso; simp at Z4; omega))))
theorem so_1 (Γ : Ctx) (b bo bw : Nat) (r : RS) (D : Dr) (F : List Fm) (hf : Value) (E : List Ev) (he : Value) (key a c : Nat) (w : Wrd) (gl : Glb) (hF : F.length + 2 ≤ 1000000) (Q : T → Obs → Glb → Prop) (hQ : ∀ hf', Q (.tup []) (obsR b r D ++ obsO 1 bo (F ++ ((if a = 0 then [] else [Rep.frW r 1 a key w false 1]) ++ if c = 0 then [] else [Rep.frW r 1 c key w false 2])) hf' E he) gl) :
  wRpE2 Γ Q [kRpE0 [1,1,1,0], .blk 0] ⟨frame 54 [(0, .ptr 0 b 0), (1, .ptr 1 bo 0), (2, u8 key), (6, .ptr 4 bw 0), (34, .agg [u8 0, u8 a, u8 c]), (35, int 1)], obsR b r D ++ obsO 1 bo F hf E he ++ [(bw, .cells (wdC w))], gl⟩ := by
 have fin := fun F hf hl hq => so_2 Γ b bo bw r D F hf E he key a c w gl hl Q hq
 by_cases hc : a = 0
 ·subst hc
  simp only [if_true, List.nil_append] at hQ
  have fin := fin F hf (by omega) hQ
  let HH : Nat → Nat → Hint := fun  | _, _ => .no
  exact run_sound ⟨HH, [((2, 3), ([0,1,2,6,34,35], 5))], plRpE0⟩ 400 (by kernel_rfl) (Ya (Ya (show (0 : Int) ≤ (1 : Int) by omega) (show (1 : Int) < (↑(3 : Nat) : Int) by omega)) fin)
 ·simp only [if_neg hc, ← List.append_assoc] at hQ
  have fin := fun hf' => fin _ hf' (by simp; omega) hQ
  have w2 : IntKind.wrap .u8 1 = 1 := by decide
  let HH : Nat → Nat → Hint := fun | 6, 4 => wordedH b r D 1 a key w | 8, 3 => sendH 1 bo F E he (Rep.frW r 1 a key w false 1) | _, _ => .no
  let z0 := Rep.frW r 1 a key w false 0
  let z1 := List.map (fun x => T.agg (frC x)) F
  let z2 := List.map (fun x => T.agg (evC x)) E
  exact run_sound ⟨HH, [((2, 3), ([0,1,2,6,34,35], 5))], plRpE0⟩ 400 (by kernel_rfl) (Ya (Ya (show (0 : Int) ≤ (1 : Int) by omega) (show (1 : Int) < (↑(3 : Nat) : Int) by omega)) (Ys ((↑a : Int) != (0 : Int)) (fun Z0 => (Yb bw (Ya (Ya (repC_plain r D) Yt) (Ya (worded_any b r D 1 a key w (HH 6 4).P (told_post rfl)) (Yu (Ya (Ya (repC_plain r D) Yt) (fun (Z1 : Nat) => (Yk 34 Z1 (Yl 1 (Yb Z1 (Ya (Yn (13) (34) rfl) (Yb Z1 (Ya (show TCalls Try.prog 39 [T.ptr 0 bo 0, T.sl 34 [T.agg [u8 z0.kind, u8 z0.frm, u8 z0.to, u32 (z0.epoch), u8 z0.key, u32 z0.w.s.n, u8 z0.w.s.b, u8 z0.w.s.l, bool (z0.w.h), T.v (Value.string z0.w.t), bool (z0.w.r), bool false, u8 (IntKind.wrap IntKind.u8 (1 : Int)), u8 (0 : Int), u32 (0 : Int), u32 (0 : Int), u8 (0 : Int), u32 (0 : Int), u8 (0 : Int), u8 (0 : Int), u8 (0 : Int), u32 (0 : Int), u32 (0 : Int), u32 (0 : Int), T.v (Value.slice none 0 0), u8 (0 : Int), u8 (0 : Int), u8 (0 : Int), u8 (0 : Int), u8 (0 : Int), u8 (0 : Int), u8 (0 : Int), u8 (0 : Int), T.v (Value.slice none 0 0)]]] [(bo, Ob.cells [T.slx 34 1 z1 hf, T.slx 5 2 z2 he]), (0, Ob.room 34 70 (List.length z1) hf), (0, Ob.room 5 73 (List.length z2) he)] none_ (callPost (Hint.call false Value (fun x => True) [1, 1 + 1, 1 + 2] false (fun x => T.tup []) (fun hf => obsO 0 bo (F ++ [Rep.frW r 1 a key w false 1]) hf E he) fun x => none_)) from send1 bo F hf E he (Rep.frW r 1 a key w false 1) (by omega)) (fun (Z2 : Value) => (fun (Z3 : True) => (fin Z2)))))))))))))))) (fun Z4 => (show TWk Try.prog Γ (Vm.fin Try.prog Try.f35 [0,1,2,3] Q) [kRpE0 [1,1,1,0], It.blk 0] (S.mk (frame 54 [(0, T.ptr 0 b 0), (1, T.ptr 1 bo 0), (2, u8 key), (6, T.ptr 4 bw 0), (34, T.agg [u8 (0 : Int), u8 a, u8 c]), (35, int (IntKind.wrap IntKind.i64 ((1 : Int) + (1 : Int))))]) [(b, Ob.cells (repC r D)), (bo, Ob.cells [T.slx 34 2 z1 hf, T.slx 5 3 z2 he]), (0, Ob.room 34 70 (List.length z1) hf), (0, Ob.room 5 73 (List.length z2) he), (bw, Ob.cells (wdC w))] gl) by exfalso; simp at Z4; omega))))
theorem so_0 (Γ : Ctx) (b bo bw : Nat) (r : RS) (D : Dr) (F : List Fm) (hf : Value) (E : List Ev) (he : Value) (key a c : Nat) (w : Wrd) (gl : Glb) (hF : F.length + 2 ≤ 1000000) (Q : T → Obs → Glb → Prop) (hQ : ∀ hf', Q (.tup []) (obsR b r D ++ obsO 1 bo (F ++ ((if a = 0 then [] else [Rep.frW r 1 a key w false 1]) ++ if c = 0 then [] else [Rep.frW r 1 c key w false 2])) hf' E he) gl) :
  wRpE2 Γ Q [kRpE0 [1,1,1,0], .blk 0] ⟨frame 54 [(0, .ptr 0 b 0), (1, .ptr 1 bo 0), (2, u8 key), (6, .ptr 4 bw 0), (34, .agg [u8 0, u8 a, u8 c]), (35, int 0)], obsR b r D ++ obsO 1 bo F hf E he ++ [(bw, .cells (wdC w))], gl⟩ := by
 have fin := so_1 Γ b bo bw r D F hf E he key a c w gl hF Q hQ
 let HH : Nat → Nat → Hint := fun  | _, _ => .no
 exact run_sound ⟨HH, [((2, 3), ([0,1,2,6,34,35], 5))], plRpE0⟩ 400 (by kernel_rfl) (Ya (Ya (show (0 : Int) ≤ (0 : Int) by omega) (show (0 : Int) < (↑(3 : Nat) : Int) by omega)) fin)
theorem dT_some {o : Option Drv} {d : Drv} (h : o = some d) (g : Nat) : dT o g = .gp g 0 := by rw [h]; rfl
theorem dT_none {o : Option Drv} (h : o = none) (g : Nat) : dT o g = .v (.pointer none) := by rw [h]; rfl
def wordG (d : Drv) (gl : Glb) : Hint := toldG (.agg (wdC d.w)) [] [] gl
theorem sendout_any (b bo : Nat) (r : RS) (D : Dr) (F : List Fm) (hf : Value) (E : List Ev) (he : Value) (k : Nat) (hk : k < 6) (d : Drv) (hd : (r.P k).dr = some d) (gl : Glb) (ho : Own D r gl) (hl : lim r.v.ms) (hF : F.length + 2 ≤ 1000000) (Q : T → Obs → Glb → Prop) (hQ : ∀ hf', Q (.tup []) (obsR b r D ++ obsO 1 bo (F ++ Rep.sent r k d.w) hf' E he) gl) :
  TCalls Try.prog 35 [.ptr 0 b 0, .ptr 1 bo 0, u8 k] (obsR b r D ++ obsO 1 bo F hf E he) gl Q := by
 have lp := fun Γ bw => so_0 Γ b bo bw r D F hf E he k (aheadV r.v.ms r.self) (behindV r.v.ms r.self) d.w gl hF Q hQ
 have hle := ho.dr k hk d hd
 have hdT : dT (r.P k).dr (D.g k) = .gp (D.g k) 0 := dT_some hd _
 clear hQ
 refine TCalls.of Try.func35 rfl (CanCall.of Try.func35 rfl (by decide)) [0,1,2,3] fun Γ => ?_
 let HH : Nat → Nat → Hint := fun | 0, 6 => .res (.gp (D.g k) 0) | 0, 7 => wordG d gl | 1, 8 => told (.tup [u8 (aheadV r.v.ms r.self), u8 (behindV r.v.ms r.self)]) [] [] | _, _ => .no
 exact run_sound ⟨HH, [((2, 3), ([0,1,2,6,34,35], 5))], fun | 1 => some ⟨[0], [8], .take true [0,1,2,3,4,5,6,7] (.one 8 (.take false [9,10,11,12,13] .done))⟩ | n => plRpE0 n⟩ 400 (by kernel_rfl) (Yi (↑k : Int) 6 (by omega) (Yb b (Ya (show (List.drop (12 + Int.toNat (↑k : Int) * nat_lit 9 + nat_lit 7) (repC r D))[0]? = some (T.gp (D.g k) 0) by rcases six hk with rfl|rfl|rfl|rfl|rfl|rfl <;> (rw [← hdT]; rfl)) (Ya (dwordG hle (HH 0 7).P (toldG_post rfl)) (Yu (fun (Z0 : Nat) => (Yk 6 Z0 (Yb b (Yb b (Ya (ends_any r.v r.self hl (HH 1 8).P fun _ h => told_post h) (Yu (lp Γ Z0))))))))))))
def val3 (r : RS) (k : Nat) (s : Stp) (l : List Nat) : List Fm := l.map fun n => Rep.frW r 3 n k (Rep.zS s) false 0
theorem lk_loop (Γ : Ctx) (b bo bw : Nat) (r : RS) (D : Dr) (E : List Ev) (he : Value) (k : Nat) (s : Stp) (gl : Glb) (L : List Nat) (Q : T → Obs → Glb → Prop) (F0 : List Fm) (hF : F0.length + L.length + 1 ≤ 1000000) (hQ : ∀ hf', Q (.tup []) (obsR b r D ++ obsO 1 bo (F0 ++ val3 r k s L) hf' E he) gl) :
  ∀ (x d : List Nat) (i : Int) (hf : Value), L = d ++ x → i = d.length →
  wRpE3 Γ Q [kRpE1 [1,1,1,1,1,1,1,1,1,1,0], .blk 0] ⟨frame 88 [(0, .ptr 0 b 0), (1, .ptr 1 bo 0), (2, u8 k), (10, .ptr 4 bw 0), (71, .sl 1 (X5.u8s L)), (72, int L.length), (73, int i)], obsR b r D ++ obsO 1 bo (F0 ++ val3 r k s d) hf E he ++ [(bw, .cells (stC s))], gl⟩ := by
 intro x
 induction x with
 | nil =>
  intro d i hf h1 hi
  have hLi : (L.length : Int) = i := by rw [h1, hi]; simp
  have hQ := hQ hf
  rw [show d = L by simp [h1]]
  clear h1
  generalize X5.u8s L = U at *
  generalize (L.length : Int) = n at *
  subst hLi
  generalize F0 ++ val3 r k s L = G at *
  let HH : Nat → Nat → Hint := fun | 12, 0 => .res (u8 0) | 13, 3 => .no | 15, 3 => .no | _, _ => .no
  exact run_sound ⟨HH, [((2, 11), ([0,1,2,10,71,72,73], 5))], plRpE1⟩ 400 (by kernel_rfl) (Ys (decide (n < n)) (fun Z0 => (Ya (show (0 : Int) ≤ n by omega) (Ya (show U[Int.toNat n]? = some (u8 (0 : Int)) by exfalso; simp at *; done) (show False by exfalso; simp at *; done)))) (fun Z1 => hQ))
 | cons y x ih =>
  intro d i hf h1 hi
  have hLi : i < (L.length : Int) := by rw [h1, hi]; simp; omega
  have hL0 : L.length ≤ 1000000 := by omega
  have hw : IntKind.wrap .i64 (i + 1) = i + 1 := wrap_i64 (by omega) (by omega)
  have e1 : (X5.u8s L)[i.toNat]? = some (u8 y) := u8s_at (by rw [h1, hi]; simp)
  have hl : (F0 ++ val3 r k s d).length + 1 ≤ 1000000 := by
   have : L.length = d.length + (x.length + 1) := by rw [h1]; simp
   simp [val3]; omega
  have nx := fun hf => ih (d ++ [y]) (i + 1) hf (by simp [h1]) (by simp [hi])
  rw [show F0 ++ val3 r k s (d ++ [y]) = (F0 ++ val3 r k s d) ++ [Rep.frW r 3 y k (Rep.zS s) false 0] by simp [val3]] at nx
  have l1 : (X5.u8s L).length = L.length := X5.u8s_len L
  clear ih h1
  generalize X5.u8s L = U at *
  generalize (L.length : Int) = n at *
  generalize F0 ++ val3 r k s d = G at *
  let HH : Nat → Nat → Hint := fun | 12, 0 => .res (u8 y) | 13, 3 => frameH b r D 3 y k | 15, 3 => sendH 1 bo G E he (Rep.frW r 3 y k (Rep.zS s) false 0) | 16, 0 => .res (int (i + 1)) | _, _ => .no
  exact run_sound ⟨HH, [((2, 11), ([0,1,2,10,71,72,73], 5))], plRpE1⟩ 400 (by kernel_rfl) (Ys (decide (i < n)) (fun Z0 => (Ya (show (0 : Int) ≤ i by omega) (Ya e1 (Ya (Ya (repC_plain r D) Yt) (Ya (frame_any b r D 3 y k (HH 13 3).P (told_post rfl)) (Yu (Ya (Ya (repC_plain r D) Yt) (fun (Z1 : Nat) => (Yk 34 Z1 (Yb bw (Yl 3 (Yb Z1 (Ya (Yn (8) (34) rfl) (Yb Z1 (Ya (send1 bo G hf E he (Rep.frW r 3 y k (Rep.zS s) false 0) hl) (fun (Z2 : Value) => (fun (Z3 : True) => (Ya (congrArg int hw) (nx Z2))))))))))))))))))) (fun Z4 => (show Q (T.tup []) [(b, Ob.cells (repC r D)), (bo, Ob.cells [T.slx 34 2 (List.map (fun x => T.agg (frC x)) G) hf, T.slx 5 3 (List.map (fun x => T.agg (evC x)) E) he]), (0, Ob.room 34 70 (List.length (List.map (fun x => T.agg (frC x)) G)) hf), (0, Ob.room 5 73 (List.length (List.map (fun x => T.agg (evC x)) E)) he)] gl by exfalso; have := of_decide_eq_false Z4; omega)))
theorem lk8 (Γ : Ctx) (b bo bw : Nat) (r : RS) (D : Dr) (F : List Fm) (hf : Value) (E : List Ev) (he : Value) (k : Nat) (hk : k < 6) (s : Stp) (cov : Bool) (gl : Glb) (hl : lim r.v.ms) (hF : F.length + (Rep.oth r).length + 1 ≤ 1000000) (Q : T → Obs → Glb → Prop)
  (hQ0 : ¬ ((r.P k).c.w.s = s ∧ cov = false) → Q (.tup []) (obsR b r D ++ obsO 1 bo F hf E he) gl)
  (hQ1 : (r.P k).c.w.s = s ∧ cov = false → ∀ hf', Q (.tup []) (obsR b (Rep.setC r k (Rep.val (r.P k).c s).1) D ++ obsO 1 bo (F ++ val3 r k s (Rep.oth r)) hf' E he) gl) :
  wRpE3 Γ Q [kRpE1 [1,1,1,1,1,1,1]] ⟨frame 88 [(0, .ptr 0 b 0), (1, .ptr 1 bo 0), (2, u8 k), (6, .ptr 0 b (12 + (k : Int).toNat * 9)), (8, bool cov), (10, .ptr 4 bw 0)], obsR b r D ++ obsO 1 bo F hf E he ++ [(bw, .cells (stC s))], gl⟩ := by
 by_cases hc : (r.P k).c.w.s = s ∧ cov = false
 ·have q1 := hQ1 hc
  clear hQ0 hQ1
  obtain ⟨rfl, rfl⟩ := hc
  obtain ⟨r1, hr1⟩ : ∃ r1, r1 = Rep.setC r k (Rep.val (r.P k).c (r.P k).c.w.s).1 := ⟨_, rfl⟩
  rw [← hr1] at q1
  have e1 : Rep.oth r1 = Rep.oth r := by rw [hr1]; rfl
  have e2 : lim r1.v.ms := by rw [hr1]; exact hl
  have e3 : ∀ s l, val3 r k s l = val3 r1 k s l := fun s l => by rw [hr1]; rfl
  rw [e3] at q1
  have lp := lk_loop Γ b bo bw r1 D E he k (r.P k).c.w.s gl (Rep.oth r) Q F hF q1 (Rep.oth r) [] 0 hf rfl rfl
  rw [show ∀ s, F ++ val3 r1 k s [] = F from fun s => by simp [val3]] at lp
  rw [← e1] at lp
  rw [← X5.u8s_len (Rep.oth r1)] at lp
  have hval := val_any (r.P k).c (r.P k).c.w.s
  clear q1
  let HH : Nat → Nat → Hint := fun | 8, 5 => .res (.agg (stC (r.P k).c.w.s)) | 9, 4 => .res (.agg (clC (r.P k).c)) | 9, 6 => told (vlT (Rep.val (r.P k).c (r.P k).c.w.s)) [] [] | 9, 12 => .obj (repC r1 D) | 10, 1 => othH b r1 D | _, _ => .no
  exact run_sound ⟨HH, [((2, 11), ([0,1,2,10,71,72,73], 5))], fun | 9 => some ⟨[0,4], [6,12], .take false [0,1,2,3] (.take true [4,5] (.one 6 (.take false [7,8,9,10,11] (.one 12 .done))))⟩ | n => plRpE1 n⟩ 400 (by kernel_rfl) (Yb b (Ya (show (if List.length (List.drop (12 + Int.toNat (↑k : Int) * 9 + nat_lit 0 + nat_lit 0 + nat_lit 0) (repC r D)) < (fun x => x.size) Try.prog.types[51] then none else some (T.agg (List.take (nat_lit 3) (List.drop (12 + Int.toNat (↑k : Int) * 9 + nat_lit 0 + nat_lit 0 + nat_lit 0) (repC r D))))) = some (T.agg (stC (r.P k).c.w.s)) by rcases six hk with rfl|rfl|rfl|rfl|rfl|rfl <;> rfl) (Yb bw (Ys (!((↑(r.P k).c.w.s.n : Int) == (↑(r.P k).c.w.s.n : Int) && ((↑(r.P k).c.w.s.b : Int) == (↑(r.P k).c.w.s.b : Int) && true) && ((↑(r.P k).c.w.s.l : Int) == (↑(r.P k).c.w.s.l : Int) && true))) (fun Z0 => (show Q (T.tup []) [(b, Ob.cells (repC r D)), (bo, Ob.cells [T.slx 34 2 (List.map (fun x => T.agg (frC x)) F) hf, T.slx 5 3 (List.map (fun x => T.agg (evC x)) E) he]), (0, Ob.room 34 70 (List.length (List.map (fun x => T.agg (frC x)) F)) hf), (0, Ob.room 5 73 (List.length (List.map (fun x => T.agg (evC x)) E)) he)] gl by exfalso; simp at Z0; done)) (fun Z1 => (Yb b (Ya (show (if List.length (List.drop (12 + Int.toNat (↑k : Int) * 9 + nat_lit 0) (repC r D)) < (fun x => x.size) Try.prog.types[57] then none else some (T.agg (List.take (nat_lit 7) (List.drop (12 + Int.toNat (↑k : Int) * 9 + nat_lit 0) (repC r D))))) = some (T.agg (clC (r.P k).c)) by rcases six hk with rfl|rfl|rfl|rfl|rfl|rfl <;> rfl) (Yb bw (Ya (hval (HH 9 6).P fun _ h => told_post h) (Yu (Yl 7 (Yb b (Ya (show 12 + Int.toNat (↑k : Int) * 9 + nat_lit 0 + nat_lit 7 ≤ 67 by rcases six hk with rfl|rfl|rfl|rfl|rfl|rfl <;> decide) (Ya (show setCells (repC r D) (12 + Int.toNat (↑k : Int) * 9 + nat_lit 0) (clC (Rep.val (r.P k).c (r.P k).c.w.s).fst) = repC r1 D by rw [hr1]; rcases six hk with rfl|rfl|rfl|rfl|rfl|rfl <;> rfl) (Ya (oth_any b r1 D e2 (HH 10 1).P (told_post rfl)) (Yu lp))))))))))))))))
 ·have q0 := hQ0 hc
  clear hQ0 hQ1
  let HH : Nat → Nat → Hint := fun | 8, 5 => .res (.agg (stC (r.P k).c.w.s)) | 9, 4 => .res .und | _, _ => .no
  exact run_sound ⟨HH, [((0, 9), ([0,1,2,6,10], 4))], plRpE1⟩ 400 (by kernel_rfl) (Yb b (Ya (show (if List.length (List.drop (12 + Int.toNat (↑k : Int) * 9 + nat_lit 0 + nat_lit 0 + nat_lit 0) (repC r D)) < (fun x => x.size) Try.prog.types[51] then none else some (T.agg (List.take (nat_lit 3) (List.drop (12 + Int.toNat (↑k : Int) * 9 + nat_lit 0 + nat_lit 0 + nat_lit 0) (repC r D))))) = some (T.agg (stC (r.P k).c.w.s)) by rcases six hk with rfl|rfl|rfl|rfl|rfl|rfl <;> rfl) (Yb bw (Ys (!((↑(r.P k).c.w.s.n : Int) == (↑s.n : Int) && ((↑(r.P k).c.w.s.b : Int) == (↑s.b : Int) && true) && ((↑(r.P k).c.w.s.l : Int) == (↑s.l : Int) && true))) (fun Z0 => q0) (fun Z1 => (Ys (cov) (fun Z2 => q0) (fun Z3 => (show wRpE3 Γ Q [kRpE1 [1,1,1,1,1,1,1,1]] (S.mk (frame 88 [(0, T.ptr 0 b 0), (1, T.ptr 1 bo 0), (2, u8 k), (6, T.ptr 0 b (12 + Int.toNat (↑k : Int) * 9)), (10, T.ptr 4 bw 0)]) [(b, Ob.cells (repC r D)), (bo, Ob.cells [T.slx 34 2 (List.map (fun x => T.agg (frC x)) F) hf, T.slx 5 3 (List.map (fun x => T.agg (evC x)) E) he]), (0, Ob.room 34 70 (List.length (List.map (fun x => T.agg (frC x)) F)) hf), (0, Ob.room 5 73 (List.length (List.map (fun x => T.agg (evC x)) E)) he)] gl) by exfalso; rw [st_eq2] at Z1; simp at Z1 Z3; exact hc ⟨Z1, Z3⟩))))))))
theorem look_any (b bo : Nat) (r : RS) (D : Dr) (F : List Fm) (hf : Value) (E : List Ev) (he : Value) (k : Nat) (hk : k < 6) (d : Drv) (hd : (r.P k).dr = some d) (gl : Glb) (ho : Own D r gl) (hl : lim r.v.ms) (hF : F.length + (Rep.oth r).length + 1 ≤ 1000000) (hE : E.length + 1 ≤ 1000000) (Q : T → Obs → Glb → Prop) (hQ : ∀ hf' he', Q (.tup []) (obsR b (Rep.look r k).1 D ++ obsO 1 bo (F ++ (Rep.look r k).2.1) hf' (E ++ (Rep.look r k).2.2) he') gl) :
  TCalls Try.prog 47 [.ptr 0 b 0, .ptr 1 bo 0, u8 k] (obsR b r D ++ obsO 1 bo F hf E he) gl Q := by
 have hle := ho.dr k hk d hd
 have hdT : dT (r.P k).dr (D.g k) = .gp (D.g k) 0 := dT_some hd _
 have hlen : (Rep.oth r).length ≤ 1000000 := Nat.le_trans (X5.othV_len _ _) hl
 cases hdn : Rep.doneD d (Rep.oth r) with
 | false =>
  have hQ := hQ hf he
  rw [show Rep.look r k = (r, [], []) by unfold Rep.look; rw [hd]; simp [hdn]] at hQ
  simp only [List.append_nil] at hQ
  refine TCalls.of Try.func47 rfl (CanCall.of Try.func47 rfl (by decide)) [0,1,2,3] fun Γ => ?_
  let HH : Nat → Nat → Hint := fun | 1, 3 => .res (.gp (D.g k) 0) | 1, 5 => othH b r D | 1, 6 => toldG (.tup [bool false, bool d.cov]) [] [] gl | _, _ => .no
  exact run_sound ⟨HH, [((0, 3), ([0,1,2,6,8], 4))], fun | 1 => some ⟨[], [5,6], .take false [0,1,2,4] (.two 3 5 (.one 5 (.one 6 (.take false [7,8,9,10,11] .done))) (.one 3 (.one 6 (.take false [7,8,9,10,11] .done))))⟩ | n => plRpE1 n⟩ 400 (by kernel_rfl) (Yi (↑k : Int) 6 (by omega) (Ya (Yb b (Ya (show (List.drop (12 + Int.toNat (↑k : Int) * nat_lit 9 + nat_lit 7) (repC r D))[0]? = some (T.gp (D.g k) 0) by rcases six hk with rfl|rfl|rfl|rfl|rfl|rfl <;> (rw [← hdT]; rfl)) (Ya (oth_any b r D hl (HH 1 5).P (told_post rfl)) (Yu (Ya (ddoneG hle (Rep.oth r) hlen (HH 1 6).P (toldG_post (by rw [hdn]))) (Yu hQ)))))) (Ya (oth_any b r D hl (HH 1 5).P (told_post rfl)) (Yu (Yb b (Ya (show (List.drop (12 + Int.toNat (↑k : Int) * nat_lit 9 + nat_lit 7) (repC r D))[0]? = some (T.gp (D.g k) 0) by rcases six hk with rfl|rfl|rfl|rfl|rfl|rfl <;> (rw [← hdT]; rfl)) (Ya (ddoneG hle (Rep.oth r) hlen (HH 1 6).P (toldG_post (by rw [hdn]))) (Yu hQ))))))))
 | true =>
  obtain ⟨r1, hr1⟩ : ∃ r1, r1 = setP r k { r.P k with dr := none } := ⟨_, rfl⟩
  have hlk : Rep.look r k = if (r1.P k).c.w.s = d.w.s ∧ d.cov = false then (Rep.setC r1 k (Rep.val (r1.P k).c d.w.s).1, val3 r1 k d.w.s (Rep.oth r1), if d.own then [⟨k, 1, d.w.s⟩] else []) else (r1, [], if d.own then [⟨k, 1, d.w.s⟩] else []) := by
   unfold Rep.look
   rw [hd]
   simp only [hdn, if_true]
   have h1 : r1.P k = { r.P k with dr := none } := by rw [hr1, P_at]
   have h2 : ∀ c, Rep.setC r1 k c = setP r k { r.P k with dr := none, c := c } := fun c => by
    unfold Rep.setC
    rw [h1, hr1]
    unfold setP
    simp only [Rep.put_put]
   rw [h2, h1, ← hr1]
   rw [show val3 r1 k d.w.s (Rep.oth r1) = (Rep.oth r).map fun n => Rep.frW r 3 n k (Rep.zS d.w.s) false 0 by rw [hr1]; rfl]
  have lp := fun Γ bw E he hq0 hq1 => lk8 Γ b bo bw r1 D F hf E he k hk d.w.s d.cov gl (by rw [hr1]; exact hl) (by rw [hr1]; exact hF) Q hq0 hq1
  cases hown : d.own with
  | false =>
   have lp := fun Γ bw => lp Γ bw E he (fun hn => by have := hQ hf he; rw [hlk, if_neg hn, hown] at this; simpa using this) (fun hy hf' => by have := hQ hf' he; rw [hlk, if_pos hy, hown] at this; simpa using this)
   clear hQ
   refine TCalls.of Try.func47 rfl (CanCall.of Try.func47 rfl (by decide)) [0,1,2,3] fun Γ => ?_
   let HH : Nat → Nat → Hint := fun | 1, 3 => .res (.gp (D.g k) 0) | 1, 5 => othH b r D | 1, 6 => toldG (.tup [bool true, bool d.cov]) [] [] gl | 3, 3 => .res (.gp (D.g k) 0) | 4, 3 => .obj (repC r1 D) | 5, 1 => wordG d gl | 6, 1 => toldG (bool false) [] [] gl | _, _ => .no
   exact run_sound ⟨HH, [((0, 8), ([0,1,2,6,8,10], 5))], fun | 1 => some ⟨[], [5,6], .take false [0,1,2,4] (.two 3 5 (.one 5 (.one 6 (.take false [7,8,9,10,11] .done))) (.one 3 (.one 6 (.take false [7,8,9,10,11] .done))))⟩ | n => plRpE1 n⟩ 400 (by kernel_rfl) (Yi (↑k : Int) 6 (by omega) (Ya (Yb b (Ya (show (List.drop (12 + Int.toNat (↑k : Int) * nat_lit 9 + nat_lit 7) (repC r D))[0]? = some (T.gp (D.g k) 0) by rcases six hk with rfl|rfl|rfl|rfl|rfl|rfl <;> (rw [← hdT]; rfl)) (Ya (oth_any b r D hl (HH 1 5).P (told_post rfl)) (Yu (Ya (ddoneG hle (Rep.oth r) hlen (HH 1 6).P (toldG_post (by rw [hdn]))) (Yu (Yb b (Ya (show (List.drop (12 + Int.toNat (↑k : Int) * nat_lit 9 + nat_lit 7) (repC r D))[0]? = some (T.gp (D.g k) 0) by rcases six hk with rfl|rfl|rfl|rfl|rfl|rfl <;> (rw [← hdT]; rfl)) (Yl 1 (Yb b (Ya (show 12 + Int.toNat (↑k : Int) * nat_lit 9 + nat_lit 7 + nat_lit 1 ≤ 67 by rcases six hk with rfl|rfl|rfl|rfl|rfl|rfl <;> decide) (Ya (show setCells (repC r D) (12 + Int.toNat (↑k : Int) * nat_lit 9 + nat_lit 7) [T.v (Value.pointer none)] = repC r1 D by rw [hr1]; rcases six hk with rfl|rfl|rfl|rfl|rfl|rfl <;> rfl) (Ya (dwordG hle (HH 5 1).P (toldG_post rfl)) (Yu (fun (Z0 : Nat) => (Yk 3 Z0 (Ya (downG hle (HH 6 1).P (toldG_post (by rw [hown]))) (Yu (lp Γ Z0))))))))))))))))))) (Ya (oth_any b r D hl (HH 1 5).P (told_post rfl)) (Yu (Yb b (Ya (show (List.drop (12 + Int.toNat (↑k : Int) * nat_lit 9 + nat_lit 7) (repC r D))[0]? = some (T.gp (D.g k) 0) by rcases six hk with rfl|rfl|rfl|rfl|rfl|rfl <;> (rw [← hdT]; rfl)) (Ya (ddoneG hle (Rep.oth r) hlen (HH 1 6).P (toldG_post (by rw [hdn]))) (Yu (Yb b (Ya (show (List.drop (12 + Int.toNat (↑k : Int) * nat_lit 9 + nat_lit 7) (repC r D))[0]? = some (T.gp (D.g k) 0) by rcases six hk with rfl|rfl|rfl|rfl|rfl|rfl <;> (rw [← hdT]; rfl)) (Yl 1 (Yb b (Ya (show 12 + Int.toNat (↑k : Int) * nat_lit 9 + nat_lit 7 + nat_lit 1 ≤ 67 by rcases six hk with rfl|rfl|rfl|rfl|rfl|rfl <;> decide) (Ya (show setCells (repC r D) (12 + Int.toNat (↑k : Int) * nat_lit 9 + nat_lit 7) [T.v (Value.pointer none)] = repC r1 D by rw [hr1]; rcases six hk with rfl|rfl|rfl|rfl|rfl|rfl <;> rfl) (Ya (dwordG hle (HH 5 1).P (toldG_post rfl)) (Yu (fun (Z1 : Nat) => (Yk 3 Z1 (Ya (downG hle (HH 6 1).P (toldG_post (by rw [hown]))) (Yu (lp Γ Z1)))))))))))))))))))))
  | true =>
   have lp := fun Γ bw he' => lp Γ bw (E ++ [⟨k, 1, d.w.s⟩]) he' (fun hn => by have := hQ hf he'; rw [hlk, if_neg hn, hown] at this; simpa using this) (fun hy hf' => by have := hQ hf' he'; rw [hlk, if_pos hy, hown] at this; simpa using this)
   clear hQ
   refine TCalls.of Try.func47 rfl (CanCall.of Try.func47 rfl (by decide)) [0,1,2,3] fun Γ => ?_
   let HH : Nat → Nat → Hint := fun | 1, 3 => .res (.gp (D.g k) 0) | 1, 5 => othH b r D | 1, 6 => toldG (.tup [bool true, bool d.cov]) [] [] gl | 3, 3 => .res (.gp (D.g k) 0) | 4, 3 => .obj (repC r1 D) | 5, 1 => wordG d gl | 6, 1 => toldG (bool true) [] [] gl | 7, 3 => happH 1 bo F hf E ⟨k, 1, d.w.s⟩ | _, _ => .no
   exact run_sound ⟨HH, [((0, 8), ([0,1,2,6,8,10], 5))], fun | 1 => some ⟨[], [5,6], .take false [0,1,2,4] (.two 3 5 (.one 5 (.one 6 (.take false [7,8,9,10,11] .done))) (.one 3 (.one 6 (.take false [7,8,9,10,11] .done))))⟩ | n => plRpE1 n⟩ 400 (by kernel_rfl) (Yi (↑k : Int) 6 (by omega) (Ya (Yb b (Ya (show (List.drop (12 + Int.toNat (↑k : Int) * nat_lit 9 + nat_lit 7) (repC r D))[0]? = some (T.gp (D.g k) 0) by rcases six hk with rfl|rfl|rfl|rfl|rfl|rfl <;> (rw [← hdT]; rfl)) (Ya (oth_any b r D hl (HH 1 5).P (told_post rfl)) (Yu (Ya (ddoneG hle (Rep.oth r) hlen (HH 1 6).P (toldG_post (by rw [hdn]))) (Yu (Yb b (Ya (show (List.drop (12 + Int.toNat (↑k : Int) * nat_lit 9 + nat_lit 7) (repC r D))[0]? = some (T.gp (D.g k) 0) by rcases six hk with rfl|rfl|rfl|rfl|rfl|rfl <;> (rw [← hdT]; rfl)) (Yl 1 (Yb b (Ya (show 12 + Int.toNat (↑k : Int) * nat_lit 9 + nat_lit 7 + nat_lit 1 ≤ 67 by rcases six hk with rfl|rfl|rfl|rfl|rfl|rfl <;> decide) (Ya (show setCells (repC r D) (12 + Int.toNat (↑k : Int) * nat_lit 9 + nat_lit 7) [T.v (Value.pointer none)] = repC r1 D by rw [hr1]; rcases six hk with rfl|rfl|rfl|rfl|rfl|rfl <;> rfl) (Ya (dwordG hle (HH 5 1).P (toldG_post rfl)) (Yu (fun (Z0 : Nat) => (Yk 3 Z0 (Ya (downG hle (HH 6 1).P (toldG_post (by rw [hown]))) (Yu (Yb Z0 (Ya (happen_any bo F hf E he k 1 d.w.s hE (HH 7 3).P fun v => ⟨v, trivial, rfl, rfl, Nat.le_of_ble_eq_true rfl, fun h => by cases h⟩) (fun (Z1 : Value) => (fun (Z2 : True) => (lp Γ Z0 Z1))))))))))))))))))))))) (Ya (oth_any b r D hl (HH 1 5).P (told_post rfl)) (Yu (Yb b (Ya (show (List.drop (12 + Int.toNat (↑k : Int) * nat_lit 9 + nat_lit 7) (repC r D))[0]? = some (T.gp (D.g k) 0) by rcases six hk with rfl|rfl|rfl|rfl|rfl|rfl <;> (rw [← hdT]; rfl)) (Ya (ddoneG hle (Rep.oth r) hlen (HH 1 6).P (toldG_post (by rw [hdn]))) (Yu (Yb b (Ya (show (List.drop (12 + Int.toNat (↑k : Int) * nat_lit 9 + nat_lit 7) (repC r D))[0]? = some (T.gp (D.g k) 0) by rcases six hk with rfl|rfl|rfl|rfl|rfl|rfl <;> (rw [← hdT]; rfl)) (Yl 1 (Yb b (Ya (show 12 + Int.toNat (↑k : Int) * nat_lit 9 + nat_lit 7 + nat_lit 1 ≤ 67 by rcases six hk with rfl|rfl|rfl|rfl|rfl|rfl <;> decide) (Ya (show setCells (repC r D) (12 + Int.toNat (↑k : Int) * nat_lit 9 + nat_lit 7) [T.v (Value.pointer none)] = repC r1 D by rw [hr1]; rcases six hk with rfl|rfl|rfl|rfl|rfl|rfl <;> rfl) (Ya (dwordG hle (HH 5 1).P (toldG_post rfl)) (Yu (fun (Z3 : Nat) => (Yk 3 Z3 (Ya (downG hle (HH 6 1).P (toldG_post (by rw [hown]))) (Yu (Yb Z3 (Ya (happen_any bo F hf E he k 1 d.w.s hE (HH 7 3).P fun v => ⟨v, trivial, rfl, rfl, Nat.le_of_ble_eq_true rfl, fun h => by cases h⟩) (fun (Z4 : Value) => (fun (Z5 : True) => (lp Γ Z3 Z4)))))))))))))))))))))))))
end X20
end Go.Proofs.Ytafcbipmmjegcaa.Vm
namespace Go.Proofs.Ytafcbipmmjegcaa.Vm
open Go Go.RowKit
set_option maxRecDepth 100000
namespace X20
open Rep (Stp Wrd Cel Drv Plc RS Fm Ev setP)
open X5 (viewC lim othV hasV aheadV behindV ends_any)
theorem way_any (b bo : Nat) (r : RS) (D : Dr) (F : List Fm) (hf : Value) (E : List Ev) (he : Value) (k : Nat) (hk : k < 6) (gl : Glb) (ho : Own D r gl) (hE : E.length + 1 ≤ 1000000) (Q : T → Obs → Glb → Prop) (hQ : ∀ he', Q (.tup []) (obsR b (Rep.way r k).1 D ++ obsO 1 bo F hf (E ++ (Rep.way r k).2) he') gl) :
  TCalls Try.prog 87 [.ptr 0 b 0, .ptr 1 bo 0, u8 k] (obsR b r D ++ obsO 1 bo F hf E he) gl Q := by
 obtain ⟨r0, hr0⟩ : ∃ r0, r0 = setP r k { r.P k with age := 0 } := ⟨_, rfl⟩
 obtain ⟨r1, hr1⟩ : ∃ r1, r1 = setP r k { r.P k with age := 0, dr := none } := ⟨_, rfl⟩
 cases hd : (r.P k).dr with
 | none =>
  have hdT := dT_none hd (D.g k)
  have hQ := hQ he
  rw [show Rep.way r k = (r0, []) by unfold Rep.way; rw [hd, hr0], List.append_nil] at hQ
  refine TCalls.of Try.func87 rfl (CanCall.of Try.func87 rfl (by decide)) [0,1,2,3] fun Γ => ?_
  let HH : Nat → Nat → Hint := fun | 1, 3 => .obj (repC r0 D) | 2, 3 => .res (.v (.pointer none)) | _, _ => .no
  exact run_sound ⟨HH, [], fun  | _ => none⟩ 400 (by kernel_rfl) (Yi (↑k : Int) 6 (by omega) (Yl 1 (Yb b (Ya (show 12 + Int.toNat (↑k : Int) * nat_lit 9 + nat_lit 8 + nat_lit 1 ≤ 67 by rcases six hk with rfl|rfl|rfl|rfl|rfl|rfl <;> decide) (Ya (show setCells (repC r D) (12 + Int.toNat (↑k : Int) * nat_lit 9 + nat_lit 8) [int (0 : Int)] = repC r0 D by rw [hr0]; rcases six hk with rfl|rfl|rfl|rfl|rfl|rfl <;> rfl) (Yb b (Ya (show (List.drop (12 + Int.toNat (↑k : Int) * nat_lit 9 + nat_lit 7) (repC r0 D))[0]? = some (T.v (Value.pointer none)) by rw [hr0, ← hdT]; rcases six hk with rfl|rfl|rfl|rfl|rfl|rfl <;> rfl) hQ)))))))
 | some d =>
  have hle := ho.dr k hk d hd
  have hdT : dT (r.P k).dr (D.g k) = .gp (D.g k) 0 := dT_some hd _
  cases hown : d.own with
  | false =>
   have hQ := hQ he
   rw [show Rep.way r k = (r1, []) by unfold Rep.way; rw [hd, hr1]; simp [hown], List.append_nil] at hQ
   refine TCalls.of Try.func87 rfl (CanCall.of Try.func87 rfl (by decide)) [0,1,2,3] fun Γ => ?_
   let HH : Nat → Nat → Hint := fun | 1, 3 => .obj (repC r0 D) | 2, 3 => .res (.gp (D.g k) 0) | 4, 1 => toldG (bool false) [] [] gl | 5, 3 => .obj (repC r1 D) | _, _ => .no
   exact run_sound ⟨HH, [], fun  | _ => none⟩ 400 (by kernel_rfl) (Yi (↑k : Int) 6 (by omega) (Yl 1 (Yb b (Ya (show 12 + Int.toNat (↑k : Int) * nat_lit 9 + nat_lit 8 + nat_lit 1 ≤ 67 by rcases six hk with rfl|rfl|rfl|rfl|rfl|rfl <;> decide) (Ya (show setCells (repC r D) (12 + Int.toNat (↑k : Int) * nat_lit 9 + nat_lit 8) [int (0 : Int)] = repC r0 D by rw [hr0]; rcases six hk with rfl|rfl|rfl|rfl|rfl|rfl <;> rfl) (Yb b (Ya (show (List.drop (12 + Int.toNat (↑k : Int) * nat_lit 9 + nat_lit 7) (repC r0 D))[0]? = some (T.gp (D.g k) 0) by rw [hr0, ← hdT]; rcases six hk with rfl|rfl|rfl|rfl|rfl|rfl <;> rfl) (Ya (downG hle (HH 4 1).P (toldG_post (by rw [hown]))) (Yu (Yl 1 (Yb b (Ya (show 12 + Int.toNat (↑k : Int) * nat_lit 9 + nat_lit 7 + nat_lit 1 ≤ 67 by rcases six hk with rfl|rfl|rfl|rfl|rfl|rfl <;> decide) (Ya (show setCells (repC r0 D) (12 + Int.toNat (↑k : Int) * nat_lit 9 + nat_lit 7) [T.v (Value.pointer none)] = repC r1 D by rw [hr0, hr1]; rcases six hk with rfl|rfl|rfl|rfl|rfl|rfl <;> rfl) hQ)))))))))))))
  | true =>
   cases hrm : d.w.r with
   | false =>
    have hQ := hQ he
    rw [show Rep.way r k = (r0, []) by unfold Rep.way; rw [hd, hr0]; simp [hown, hrm], List.append_nil] at hQ
    refine TCalls.of Try.func87 rfl (CanCall.of Try.func87 rfl (by decide)) [0,1,2,3] fun Γ => ?_
    let HH : Nat → Nat → Hint := fun | 1, 3 => .obj (repC r0 D) | 2, 3 => .res (.gp (D.g k) 0) | 4, 1 => toldG (bool true) [] [] gl | 6, 1 => wordG d gl | 6, 2 => .res (bool false) | _, _ => .no
    exact run_sound ⟨HH, [], fun  | _ => none⟩ 400 (by kernel_rfl) (Yi (↑k : Int) 6 (by omega) (Yl 1 (Yb b (Ya (show 12 + Int.toNat (↑k : Int) * nat_lit 9 + nat_lit 8 + nat_lit 1 ≤ 67 by rcases six hk with rfl|rfl|rfl|rfl|rfl|rfl <;> decide) (Ya (show setCells (repC r D) (12 + Int.toNat (↑k : Int) * nat_lit 9 + nat_lit 8) [int (0 : Int)] = repC r0 D by rw [hr0]; rcases six hk with rfl|rfl|rfl|rfl|rfl|rfl <;> rfl) (Yb b (Ya (show (List.drop (12 + Int.toNat (↑k : Int) * nat_lit 9 + nat_lit 7) (repC r0 D))[0]? = some (T.gp (D.g k) 0) by rw [hr0, ← hdT]; rcases six hk with rfl|rfl|rfl|rfl|rfl|rfl <;> rfl) (Ya (downG hle (HH 4 1).P (toldG_post (by rw [hown]))) (Yu (Ya (dwordG hle (HH 6 1).P (toldG_post rfl)) (Yu (Ya (congrArg (fun x => some (bool x)) hrm) hQ))))))))))))
   | true =>
    rw [show Rep.way r k = (r1, [⟨k, 2, d.w.s⟩]) by unfold Rep.way; rw [hd, hr1]; simp [hown, hrm]] at hQ
    refine TCalls.of Try.func87 rfl (CanCall.of Try.func87 rfl (by decide)) [0,1,2,3] fun Γ => ?_
    let HH : Nat → Nat → Hint := fun | 1, 3 => .obj (repC r0 D) | 2, 3 => .res (.gp (D.g k) 0) | 4, 1 => toldG (bool true) [] [] gl | 6, 1 => wordG d gl | 6, 2 => .res (bool true) | 7, 3 => .obj (repC r1 D) | 8, 3 => wordG d gl | 8, 5 => happH 1 bo F hf E ⟨k, 2, d.w.s⟩ | _, _ => .no
    exact run_sound ⟨HH, [], fun  | _ => none⟩ 400 (by kernel_rfl) (Yi (↑k : Int) 6 (by omega) (Yl 1 (Yb b (Ya (show 12 + Int.toNat (↑k : Int) * nat_lit 9 + nat_lit 8 + nat_lit 1 ≤ 67 by rcases six hk with rfl|rfl|rfl|rfl|rfl|rfl <;> decide) (Ya (show setCells (repC r D) (12 + Int.toNat (↑k : Int) * nat_lit 9 + nat_lit 8) [int (0 : Int)] = repC r0 D by rw [hr0]; rcases six hk with rfl|rfl|rfl|rfl|rfl|rfl <;> rfl) (Yb b (Ya (show (List.drop (12 + Int.toNat (↑k : Int) * nat_lit 9 + nat_lit 7) (repC r0 D))[0]? = some (T.gp (D.g k) 0) by rw [hr0, ← hdT]; rcases six hk with rfl|rfl|rfl|rfl|rfl|rfl <;> rfl) (Ya (downG hle (HH 4 1).P (toldG_post (by rw [hown]))) (Yu (Ya (dwordG hle (HH 6 1).P (toldG_post rfl)) (Yu (Ya (congrArg (fun x => some (bool x)) hrm) (Yl 1 (Yb b (Ya (show 12 + Int.toNat (↑k : Int) * nat_lit 9 + nat_lit 7 + nat_lit 1 ≤ 67 by rcases six hk with rfl|rfl|rfl|rfl|rfl|rfl <;> decide) (Ya (show setCells (repC r0 D) (12 + Int.toNat (↑k : Int) * nat_lit 9 + nat_lit 7) [T.v (Value.pointer none)] = repC r1 D by rw [hr0, hr1]; rcases six hk with rfl|rfl|rfl|rfl|rfl|rfl <;> rfl) (Ya (dwordG hle (HH 6 1).P (toldG_post rfl)) (Yu (Ya (happen_any bo F hf E he k 2 d.w.s hE (HH 8 5).P fun v => ⟨v, trivial, rfl, rfl, Nat.le_of_ble_eq_true rfl, fun h => by cases h⟩) (fun (Z0 : Value) => (fun (Z1 : True) => (hQ Z0))))))))))))))))))))))
theorem settle_any (b : Nat) (r : RS) (D : Dr) (k : Nat) (hk : k < 6) (gl : Glb) (ho : Own D r gl) (Q : T → Obs → Glb → Prop) (hQ : Q (.tup []) (obsR b (Rep.rest r k) D) gl) :
  TCalls Try.prog 88 [.ptr 0 b (12 + (k : Int).toNat * 9)] (obsR b r D) gl Q := by
 obtain ⟨r0, hr0⟩ : ∃ r0, r0 = setP r k { r.P k with age := 0 } := ⟨_, rfl⟩
 obtain ⟨r1, hr1⟩ : ∃ r1, r1 = setP r k { r.P k with age := 0, dr := none } := ⟨_, rfl⟩
 cases hd : (r.P k).dr with
 | none =>
  have hdT := dT_none hd (D.g k)
  rw [show Rep.rest r k = r0 by unfold Rep.rest; rw [hd, hr0]] at hQ
  refine TCalls.of Try.func88 rfl (CanCall.of Try.func88 rfl (by decide)) [0] fun Γ => ?_
  let HH : Nat → Nat → Hint := fun | 0, 3 => .obj (repC r0 D) | 1, 3 => .res (.v (.pointer none)) | _, _ => .no
  exact run_sound ⟨HH, [], fun  | _ => none⟩ 400 (by kernel_rfl) (Yl 1 (Yb b (Ya (show 12 + Int.toNat (↑k : Int) * 9 + nat_lit 8 + nat_lit 1 ≤ 67 by rcases six hk with rfl|rfl|rfl|rfl|rfl|rfl <;> decide) (Ya (show setCells (repC r D) (12 + Int.toNat (↑k : Int) * 9 + nat_lit 8) [int (0 : Int)] = repC r0 D by rw [hr0]; rcases six hk with rfl|rfl|rfl|rfl|rfl|rfl <;> rfl) (Yb b (Ya (show (List.drop (12 + Int.toNat (↑k : Int) * 9 + nat_lit 7) (repC r0 D))[0]? = some (T.v (Value.pointer none)) by rw [hr0, ← hdT]; rcases six hk with rfl|rfl|rfl|rfl|rfl|rfl <;> rfl) hQ))))))
 | some d =>
  have hle := ho.dr k hk d hd
  have hdT : dT (r.P k).dr (D.g k) = .gp (D.g k) 0 := dT_some hd _
  cases hown : d.own with
  | false =>
   rw [show Rep.rest r k = r1 by unfold Rep.rest; rw [hd, hr1]; simp [hown]] at hQ
   refine TCalls.of Try.func88 rfl (CanCall.of Try.func88 rfl (by decide)) [0] fun Γ => ?_
   let HH : Nat → Nat → Hint := fun | 0, 3 => .obj (repC r0 D) | 1, 3 => .res (.gp (D.g k) 0) | 1, 9 => .res (.gp (D.g k) 0) | 1, 10 => toldG (bool false) [] [] gl | 2, 3 => .obj (repC r1 D) | _, _ => .no
   exact run_sound ⟨HH, [], fun  | _ => none⟩ 400 (by kernel_rfl) (Yl 1 (Yb b (Ya (show 12 + Int.toNat (↑k : Int) * 9 + nat_lit 8 + nat_lit 1 ≤ 67 by rcases six hk with rfl|rfl|rfl|rfl|rfl|rfl <;> decide) (Ya (show setCells (repC r D) (12 + Int.toNat (↑k : Int) * 9 + nat_lit 8) [int (0 : Int)] = repC r0 D by rw [hr0]; rcases six hk with rfl|rfl|rfl|rfl|rfl|rfl <;> rfl) (Yb b (Ya (show (List.drop (12 + Int.toNat (↑k : Int) * 9 + nat_lit 7) (repC r0 D))[0]? = some (T.gp (D.g k) 0) by rw [hr0, ← hdT]; rcases six hk with rfl|rfl|rfl|rfl|rfl|rfl <;> rfl) (Yb b (Ya (show (List.drop (12 + Int.toNat (↑k : Int) * 9 + nat_lit 7) (repC r0 D))[0]? = some (T.gp (D.g k) 0) by rw [hr0, ← hdT]; rcases six hk with rfl|rfl|rfl|rfl|rfl|rfl <;> rfl) (Ya (downG hle (HH 1 10).P (toldG_post (by rw [hown]))) (Yu (Yl 1 (Yb b (Ya (show 12 + Int.toNat (↑k : Int) * 9 + nat_lit 7 + nat_lit 1 ≤ 67 by rcases six hk with rfl|rfl|rfl|rfl|rfl|rfl <;> decide) (Ya (show setCells (repC r0 D) (12 + Int.toNat (↑k : Int) * 9 + nat_lit 7) [T.v (Value.pointer none)] = repC r1 D by rw [hr0, hr1]; rcases six hk with rfl|rfl|rfl|rfl|rfl|rfl <;> rfl) hQ))))))))))))))
  | true =>
   rw [show Rep.rest r k = r0 by unfold Rep.rest; rw [hd, hr0]; simp [hown]] at hQ
   refine TCalls.of Try.func88 rfl (CanCall.of Try.func88 rfl (by decide)) [0] fun Γ => ?_
   let HH : Nat → Nat → Hint := fun | 0, 3 => .obj (repC r0 D) | 1, 3 => .res (.gp (D.g k) 0) | 1, 9 => .res (.gp (D.g k) 0) | 1, 10 => toldG (bool true) [] [] gl | _, _ => .no
   exact run_sound ⟨HH, [], fun  | _ => none⟩ 400 (by kernel_rfl) (Yl 1 (Yb b (Ya (show 12 + Int.toNat (↑k : Int) * 9 + nat_lit 8 + nat_lit 1 ≤ 67 by rcases six hk with rfl|rfl|rfl|rfl|rfl|rfl <;> decide) (Ya (show setCells (repC r D) (12 + Int.toNat (↑k : Int) * 9 + nat_lit 8) [int (0 : Int)] = repC r0 D by rw [hr0]; rcases six hk with rfl|rfl|rfl|rfl|rfl|rfl <;> rfl) (Yb b (Ya (show (List.drop (12 + Int.toNat (↑k : Int) * 9 + nat_lit 7) (repC r0 D))[0]? = some (T.gp (D.g k) 0) by rw [hr0, ← hdT]; rcases six hk with rfl|rfl|rfl|rfl|rfl|rfl <;> rfl) (Yb b (Ya (show (List.drop (12 + Int.toNat (↑k : Int) * 9 + nat_lit 7) (repC r0 D))[0]? = some (T.gp (D.g k) 0) by rw [hr0, ← hdT]; rcases six hk with rfl|rfl|rfl|rfl|rfl|rfl <;> rfl) (Ya (downG hle (HH 1 10).P (toldG_post (by rw [hown]))) (Yu hQ))))))))))
end X20
end Go.Proofs.Ytafcbipmmjegcaa.Vm
