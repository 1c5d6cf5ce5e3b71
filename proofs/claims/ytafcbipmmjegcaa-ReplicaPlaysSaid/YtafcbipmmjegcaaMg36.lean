/- Texts of this claim: RqC, ViewWF, RqP. -/
import Derived.Test.YtafcbipmmjegcaaMg15
import Derived.Test.YtafcbipmmjegcaaMg32
import Derived.Test.YtafcbipmmjegcaaMg35
import Derived.Test.YtafcbipmmjegcaaMg29
namespace Go.Proofs.Ytafcbipmmjegcaa.Vm
open Go Go.RowKit
set_option maxRecDepth 100000
noncomputable abbrev kRqC0 (l : List Nat) : It := .code (sub (bd Try.f26) l)
noncomputable abbrev wRqC1 (Γ : Ctx) (Q : T → Obs → Glb → Prop) : List It → S → Prop := TWk Try.prog Γ (fin Try.prog Try.f26 [0, 1, 2, 3] Q)
def plRqC0 : Nat → Option RPlan := fun | 1 => some ⟨[], [37], .take true [0,1,2,3,4,5,6,7,8,9,10,11,12,13,14,15,16,17,18,19,20,21,23,24,25,26] (.one 22 (.one 27 (.take true [28,29,30,31,33,34,35,36] (.one 32 (.one 37 (.take false [38,39] .done))))))⟩ | 6 => some ⟨[], [12], .take true [0,1,2,3,4,5,6,7,8,9,10,11] (.one 12 (.take false [13] .done))⟩ | 19 => some ⟨[], [35], .take true [0,1,2,3,4,5,6,7,8,9,10,11,12,13,14] (.one 15 (.take true [16,17,18,19,20,21,22,23,24,25,26,27,28] (.one 29 (.take true [30,31,32,34] (.take false [33] (.one 35 (.take false [36,37,38,39] .done)))))))⟩ | _ => none
namespace X20
open Rep (Stp Wrd Cel Drv Plc RS Fm Ev setP setC)
open View (Mem VS)
open X5 (viewC lim mems)
theorem sameB_self (v : VS) : X5.sameB v v = true := by
  unfold X5.sameB X5.livesB
  simp
def obsP (b br : Nat) (r : RS) (D D' : Dr) (F : List Fm) (hf : Value) (E : List Ev) (he : Value) : Obs := [(b, .cells (repU r D F hf E he)), (0, .room 34 70 (Row.aggs frC F).length hf), (0, .room 5 73 (Row.aggs evC E).length he), (br, .cells (repC r D'))]
def obsS (b br bo : Nat) (r : RS) (D D' : Dr) (F : List Fm) (hf : Value) (E : List Ev) (he : Value) : Obs := [(b, .cells (repU r D F hf E he)), (0, .room 34 70 (Row.aggs frC F).length hf), (0, .room 5 73 (Row.aggs evC E).length he), (br, .cells (repC r D')), (bo, .cells [.sl 34 (Row.aggs frC F), .sl 5 (Row.aggs evC E)])]
def repV (r : RS) (D : Dr) : List T := repT r D ++ [.v nilS, .v nilS]
def obsQ (b br : Nat) (r : RS) (D D' : Dr) (n m : Nat) (hf he : Value) : Obs := [(b, .cells (repV r D)), (0, .room 34 70 n hf), (0, .room 5 73 m he), (br, .cells (repC r D'))]
theorem imp_room {ts : List T} {ob : Obs} {gl : Glb} {i k n : Nat} {e : TypeId} {h : Value} (hi : ob[i]? = some (0, .room k e n h)) : Imp ts ob gl ts (ob.set i (0, .room k e 0 nilS)) gl :=
  Imp.ob hi (fun _ _ _ => by simp [ObRel]) (fun _ h => by simp [obBlk, Value.ownBlock] at h)
theorem imp_same {ts : List T} {gl : Glb} (b br : Nat) (r : RS) (D D' : Dr) (n m : Nat) (hf he : Value) : Imp ts (obsQ b br r D D' n m hf he) gl ts (obsP b br r D D' [] nilS [] nilS) gl := by
  have e1 : (repV r D)[67]? = some (.v nilS) := rfl
  have e2 : ((repV r D).set 67 (.slx 34 1 [] nilS))[68]? = some (.v nilS) := rfl
  have e3 : (((repV r D).set 67 (.slx 34 1 [] nilS)).set 68 (.slx 5 2 [] nilS)) = repU r D [] nilS [] nilS := rfl
  unfold obsQ obsP
  rw [← e3]
  exact (((imp_room (i := 1) rfl).trans (imp_room (i := 2) rfl))).trans
    ((Imp.cell (i := 0) (b := b) (j := 67) (cs := repV r D) 34 1 rfl e1).trans
    (Imp.cell (i := 0) (b := b) (j := 68) (cs := (repV r D).set 67 (.slx 34 1 [] nilS)) 5 2 rfl e2))
theorem ts_key (Γ : Ctx) (b br : Nat) (r : RS) (D D' : Dr) (F : List Fm) (hf : Value) (E : List Ev) (he : Value) (gl : Glb) (ho : Own D r gl) (ho' : Own D' r gl) (Q : T → Obs → Glb → Prop)
    (hQ : Q (bool true) (obsQ b br r D D' (Row.aggs frC F).length (Row.aggs evC E).length hf he) gl) : ∀ (n k : Nat), k + n = 6 →
    wRqC1 Γ Q [kRqC0 [1,1,1,1,0,1,0], .blk 4, kRqC0 [1,1,1,1,1]] ⟨frame 170 [(0, .ptr 0 b 0), (1, .ptr 3 br 0), (9, u8 k)], obsP b br r D D' F hf E he, gl⟩ := by
  intro n
  induction n with
  | zero =>
    intro k hk
    have hk : k = 6 := by omega
    subst hk
    let HH : Nat → Nat → Hint := fun | 21, 4 => .obj (repT r D ++ [.v nilS, .slx 5 2 (Row.aggs evC E) he]) | 21, 7 => .obj (repV r D) | _, _ => .no
    exact run_sound ⟨HH, [], plRqC0⟩ 400 (by kernel_rfl) (Yl 1 (Yb b (Ya (Yn (68) (69) rfl) (Ya (Ye ([u8 r.self, u8 r.life, u32 r.v.e, T.sl 3 (mems r.v.ms), u8 (r.v.L 0), u8 (r.v.L 1), u8 (r.v.L 2), u8 (r.v.L 3), u8 (r.v.L 4), u8 (r.v.L 5), u8 (r.v.L 6), u8 (r.v.L 7), u32 (r.P 0).c.w.s.n, u8 (r.P 0).c.w.s.b, u8 (r.P 0).c.w.s.l, bool ((r.P 0).c.w.h), T.v (Value.string (r.P 0).c.w.t), bool ((r.P 0).c.w.r), int (r.P 0).c.st, u32 (r.P 1).c.w.s.n, u8 (r.P 1).c.w.s.b, u8 (r.P 1).c.w.s.l, bool ((r.P 1).c.w.h), T.v (Value.string (r.P 1).c.w.t), bool ((r.P 1).c.w.r), int (r.P 1).c.st, u32 (r.P 2).c.w.s.n, u8 (r.P 2).c.w.s.b, u8 (r.P 2).c.w.s.l, bool ((r.P 2).c.w.h), T.v (Value.string (r.P 2).c.w.t), bool ((r.P 2).c.w.r), int (r.P 2).c.st, u32 (r.P 3).c.w.s.n, u8 (r.P 3).c.w.s.b, u8 (r.P 3).c.w.s.l, bool ((r.P 3).c.w.h), T.v (Value.string (r.P 3).c.w.t), bool ((r.P 3).c.w.r), int (r.P 3).c.st, u32 (r.P 4).c.w.s.n, u8 (r.P 4).c.w.s.b, u8 (r.P 4).c.w.s.l, bool ((r.P 4).c.w.h), T.v (Value.string (r.P 4).c.w.t), bool ((r.P 4).c.w.r), int (r.P 4).c.st, u32 (r.P 5).c.w.s.n, u8 (r.P 5).c.w.s.b, u8 (r.P 5).c.w.s.l, bool ((r.P 5).c.w.h), T.v (Value.string (r.P 5).c.w.t), bool ((r.P 5).c.w.r), int (r.P 5).c.st, dT (r.P 0).dr (D.g 0), dT (r.P 1).dr (D.g 1), dT (r.P 2).dr (D.g 2), dT (r.P 3).dr (D.g 3), dT (r.P 4).dr (D.g 4), dT (r.P 5).dr (D.g 5), int (r.P 0).age, int (r.P 1).age, int (r.P 2).age, int (r.P 3).age, int (r.P 4).age, int (r.P 5).age, T.gp D.t 0, T.v (Value.slice none 0 0), T.slx 5 2 (List.map (fun x => T.agg (evC x)) E) he])) (Yl 1 (Yb b (Ya (Yn (69) (69) rfl) (Yb (repV r D) hQ))))))))
  | succ n ih =>
    intro k hk
    have ih := ih (k + 1) (by omega)
    have hk6 : k < 6 := by omega
    have hw : IntKind.wrap .u8 ((k : Int) + 1) = ((k + 1 : Nat) : Int) := by rw [IntWalk.u8_in _ (by omega)]; omega
    have hc := cell_any br r D' k gl ho'
    have hv := driving_any br r D' k gl ho'
    have hh := thasG ho.tr k
    rw [cellOf, if_pos hk6] at hc
    clear hQ
    cases hd : (r.P k).dr with
    | none =>
      have hdT : dT (r.P k).dr (D.g k) = .v (.pointer none) := dT_none hd _
      rw [drvT, if_pos hk6, hd] at hv
      let HH : Nat → Nat → Hint := fun | 16, 2 => .plainAt [0] (toldG (.tup [.agg (clC (r.P k).c), bool (decide (k < 6) && r.has k)]) [3] (obsR br r D') gl) | 17, 2 => .plainAt [0] (toldG (.tup [.agg [u32 0, u8 0, u8 0], bool false, bool false]) [3] (obsR br r D') gl) | 18, 5 => .res (.v (.pointer none)) | 19, 6 => .res (.agg (clC (r.P k).c)) | 19, 15 => toldG (bool (decide (k < 6) && r.has k)) [] [] gl | 15, 1 => .res (u8 (k + 1)) | _, _ => .no
      let z0 := [(b, Ob.cells (repU r D F hf E he)), (0, Ob.room 34 70 (List.length (List.map (fun x => T.agg (frC x)) F)) hf), (0, Ob.room 5 73 (List.length (List.map (fun x => T.agg (evC x)) E)) he), (br, Ob.cells (repC r D'))]
      exact run_sound ⟨HH, [((2, 14), ([0,1,9], 4)), ((0, 21), ([0], 1))], fun | 19 => some ⟨[0,4], [35], .take true [0,1,2,3,4,5,6,7,8,9,10,11,12,13,14] (.one 15 (.take true [16,17,18,19,20,21,22,23,24,25,26,27,28] (.one 29 (.take true [30,31,32,34] (.take false [33] (.one 35 (.take false [36,37,38,39] .done)))))))⟩ | n => plRqC0 n⟩ 400 (by kernel_rfl) (Ys (decide ((↑k : Int) < (6 : Int))) (fun Z0 => (Ya (Ya (repC_plain r D') Yt) (Ya (hc (HH 16 2).P (toldG_post rfl)) (Yu (Ya (Ya (repC_plain r D') Yt) (fun (Z1 : Nat) => (Yk 7 Z1 (Ya (Ya (repC_plain r D') Yt) (Ya (hv (HH 17 2).P (toldG_post rfl)) (Yu (Ya (Ya (repC_plain r D') Yt) (fun (Z2 : Nat) => (Yk 3 Z2 (Yi (↑k : Int) 6 (by omega) (Yb b (Ya (show (List.drop (54 + Int.toNat (↑k : Int) * nat_lit 1) (repU r D F hf E he))[0]? = some (T.v (Value.pointer none)) by rcases six hk6 with rfl | rfl | rfl | rfl | rfl | rfl <;> (rw [← hdT]; rfl)) (Yb Z1 (Yi (↑k : Int) 6 (by omega) (Yb b (Ya (show (if List.length (List.drop (12 + Int.toNat (↑k : Int) * nat_lit 7) (repU r D F hf E he)) < (fun x => x.size) Try.prog.types[57] then none else some (T.agg (List.take (nat_lit 7) (List.drop (12 + Int.toNat (↑k : Int) * nat_lit 7) (repU r D F hf E he))))) = some (T.agg (clC (r.P k).c)) by rcases six hk6 with rfl | rfl | rfl | rfl | rfl | rfl <;> rfl) (Ys (!((↑(r.P k).c.w.s.n : Int) == (↑(r.P k).c.w.s.n : Int) && ((↑(r.P k).c.w.s.b : Int) == (↑(r.P k).c.w.s.b : Int) && true) && ((↑(r.P k).c.w.s.l : Int) == (↑(r.P k).c.w.s.l : Int) && true) && ((r.P k).c.w.h == (r.P k).c.w.h && (ByteArray.toList (r.P k).c.w.t == ByteArray.toList (r.P k).c.w.t && true) && ((r.P k).c.w.r == (r.P k).c.w.r && true)) && ((↑(r.P k).c.st : Int) == (↑(r.P k).c.st : Int) && true))) (fun Z3 => (show Q (bool false) z0 gl by exfalso; simp at Z3; done)) (fun Z4 => (Yb b (Ya (hh (HH 19 15).P (toldG_post rfl)) (Yu (Ys (!(decide (k < 6) && r.has k) == (decide (k < 6) && r.has k)) (fun Z5 => (show Q (bool false) z0 gl by exfalso; simp at Z5; done)) (fun Z6 => (Ya (congrArg u8 hw) ih)))))))))))))))))))))))))))) (fun Z7 => (show wRqC1 Γ Q [kRqC0 [1,1,1,1,1]] (S.mk (frame 170 [(0, T.ptr 0 b 0)]) [(b, Ob.cells (repU r D F hf E he))] gl) by exfalso; have := of_decide_eq_false Z7; omega)))
    | some d =>
      have hdT : dT (r.P k).dr (D.g k) = .gp (D.g k) 0 := dT_some hd _
      rw [drvT, if_pos hk6, hd] at hv
      have hle := ho.dr k hk6 d hd
      let HH : Nat → Nat → Hint := fun | 16, 2 => .plainAt [0] (toldG (.tup [.agg (clC (r.P k).c), bool (decide (k < 6) && r.has k)]) [3] (obsR br r D') gl) | 17, 2 => .plainAt [0] (toldG (.tup [.agg (stC d.w.s), bool d.own, bool true]) [3] (obsR br r D') gl) | 18, 5 => .res (.gp (D.g k) 0) | 19, 6 => .res (.agg (clC (r.P k).c)) | 19, 15 => toldG (bool (decide (k < 6) && r.has k)) [] [] gl | 19, 29 => toldG (.agg (wdC d.w)) [] [] gl | 19, 35 => toldG (bool d.own) [] [] gl | 15, 1 => .res (u8 (k + 1)) | _, _ => .no
      let z0 := [(b, Ob.cells (repU r D F hf E he)), (0, Ob.room 34 70 (List.length (List.map (fun x => T.agg (frC x)) F)) hf), (0, Ob.room 5 73 (List.length (List.map (fun x => T.agg (evC x)) E)) he), (br, Ob.cells (repC r D'))]
      exact run_sound ⟨HH, [((2, 14), ([0,1,9], 4)), ((0, 21), ([0], 1))], fun | 19 => some ⟨[0,4,5], [35], .take true [0,1,2,3,4,5,6,7,8,9,10,11,12,13,14] (.one 15 (.take true [16,17,18,19,20,21,22,23,24,25,26,27,28] (.one 29 (.take true [30,31,32,34] (.take false [33] (.one 35 (.take false [36,37,38,39] .done)))))))⟩ | n => plRqC0 n⟩ 400 (by kernel_rfl) (Ys (decide ((↑k : Int) < (6 : Int))) (fun Z0 => (Ya (Ya (repC_plain r D') Yt) (Ya (hc (HH 16 2).P (toldG_post rfl)) (Yu (Ya (Ya (repC_plain r D') Yt) (fun (Z1 : Nat) => (Yk 7 Z1 (Ya (Ya (repC_plain r D') Yt) (Ya (hv (HH 17 2).P (toldG_post rfl)) (Yu (Ya (Ya (repC_plain r D') Yt) (fun (Z2 : Nat) => (Yk 3 Z2 (Yi (↑k : Int) 6 (by omega) (Yb b (Ya (show (List.drop (54 + Int.toNat (↑k : Int) * nat_lit 1) (repU r D F hf E he))[0]? = some (T.gp (D.g k) 0) by rcases six hk6 with rfl | rfl | rfl | rfl | rfl | rfl <;> (rw [← hdT]; rfl)) (Yb Z1 (Yi (↑k : Int) 6 (by omega) (Yb b (Ya (show (if List.length (List.drop (12 + Int.toNat (↑k : Int) * nat_lit 7) (repU r D F hf E he)) < (fun x => x.size) Try.prog.types[57] then none else some (T.agg (List.take (nat_lit 7) (List.drop (12 + Int.toNat (↑k : Int) * nat_lit 7) (repU r D F hf E he))))) = some (T.agg (clC (r.P k).c)) by rcases six hk6 with rfl | rfl | rfl | rfl | rfl | rfl <;> rfl) (Ys (!((↑(r.P k).c.w.s.n : Int) == (↑(r.P k).c.w.s.n : Int) && ((↑(r.P k).c.w.s.b : Int) == (↑(r.P k).c.w.s.b : Int) && true) && ((↑(r.P k).c.w.s.l : Int) == (↑(r.P k).c.w.s.l : Int) && true) && ((r.P k).c.w.h == (r.P k).c.w.h && (ByteArray.toList (r.P k).c.w.t == ByteArray.toList (r.P k).c.w.t && true) && ((r.P k).c.w.r == (r.P k).c.w.r && true)) && ((↑(r.P k).c.st : Int) == (↑(r.P k).c.st : Int) && true))) (fun Z3 => (show Q (bool false) z0 gl by exfalso; simp at Z3; done)) (fun Z4 => (Yb b (Ya (hh (HH 19 15).P (toldG_post rfl)) (Yu (Ys (!(decide (k < 6) && r.has k) == (decide (k < 6) && r.has k)) (fun Z5 => (show Q (bool false) z0 gl by exfalso; simp at Z5; done)) (fun Z6 => (Yb Z2 (Ya (dwordG hle (HH 19 29).P (toldG_post rfl)) (Yu (Ys (!((↑d.w.s.n : Int) == (↑d.w.s.n : Int) && ((↑d.w.s.b : Int) == (↑d.w.s.b : Int) && true) && ((↑d.w.s.l : Int) == (↑d.w.s.l : Int) && true))) (fun Z7 => (show Q (bool false) z0 gl by exfalso; simp at Z7; done)) (fun Z8 => (Ya (downG hle (HH 19 35).P (toldG_post rfl)) (Yu (Ys (!d.own == d.own) (fun Z9 => (show Q (bool false) z0 gl by exfalso; simp at Z9; done)) (fun Z10 => (Ya (congrArg u8 hw) ih))))))))))))))))))))))))))))))))))))) (fun Z11 => (show wRqC1 Γ Q [kRqC0 [1,1,1,1,1]] (S.mk (frame 170 [(0, T.ptr 0 b 0)]) [(b, Ob.cells (repU r D F hf E he))] gl) by exfalso; have := of_decide_eq_false Z11; omega)))
theorem ts_ev (Γ : Ctx) (b br bo : Nat) (r : RS) (D D' : Dr) (F : List Fm) (hf : Value) (E : List Ev) (he : Value) (gl : Glb) (hE : E.length ≤ 1000000) (Q : T → Obs → Glb → Prop)
    (lp : wRqC1 Γ Q [kRqC0 [1,1,1,1,0,1,0], .blk 4, kRqC0 [1,1,1,1,1]] ⟨frame 170 [(0, .ptr 0 b 0), (1, .ptr 3 br 0), (9, u8 (0 : Nat))], obsP b br r D D' F hf E he, gl⟩) :
    ∀ (x d : List Ev) (i : Int), E = d ++ x → i = d.length →
    wRqC1 Γ Q [kRqC0 [1,1,1,0,1,0], .blk 2, kRqC0 [1,1,1,1]] ⟨frame 170 [(0, .ptr 0 b 0), (1, .ptr 3 br 0), (5, .ptr 4 bo 0), (8, int i)], obsS b br bo r D D' F hf E he, gl⟩ := by
  intro x
  induction x with
  | nil =>
    intro d i h1 hi
    have hLi : (E.length : Int) = i := by rw [h1, hi]; simp
    have l1 : ((Row.aggs evC E).length : Int) = i := by rw [Row.aggs_len E]; exact hLi
    clear h1 hi hLi
    let HH : Nat → Nat → Hint := fun  | _, _ => .no
    exact run_sound ⟨HH, [((2, 14), ([0,1,9], 4)), ((0, 11), ([0,1,5,8], 1))], plRqC0⟩ 400 (by kernel_rfl) (Yb b (Ys (decide (i < (↑(List.length (List.map (fun x => T.agg (evC x)) E)) : Int))) (fun Z0 => (show wRqC1 Γ Q [kRqC0 [1,1,1,0,1,0,0,1,0,0], It.blk 3, kRqC0 [1,1,1,0,1,0,0,1,1], kRqC0 [1,1,1,0,1,0], It.blk 2, kRqC0 [1,1,1,1]] (S.mk (frame 170 [(0, T.ptr 0 b 0), (1, T.ptr 3 br 0), (5, T.ptr 4 bo 0), (8, int i)]) [(b, Ob.cells (repU r D F hf E he))] gl) by exfalso; have h2 := of_decide_eq_true Z0; simp only [List.length_map, Row.aggs_len] at h2 l1; omega)) (fun Z1 => lp)))
  | cons y x ih =>
    intro d i h1 hi
    have hLi : i < (E.length : Int) := by rw [h1, hi]; simp; omega
    have hw : IntKind.wrap .i64 (i + 1) = i + 1 := wrap_i64 (by omega) (by omega)
    have e1 : (Row.aggs evC E)[i.toNat]? = some (.agg (evC y)) := Row.aggs_at (by rw [h1, hi]; simp)
    have l1 : ((Row.aggs evC E).length : Int) = E.length := by rw [Row.aggs_len E]
    have nx := ih (d ++ [y]) (i + 1) (by simp [h1]) (by simp [hi])
    have h0 : 0 ≤ i := by omega
    clear ih h1 hi lp
    let HH : Nat → Nat → Hint := fun | 11, 3 => .res (.agg (evC y)) | 11, 10 => .res (.agg (evC y)) | 10, 1 => .res (int (i + 1)) | _, _ => .no
    exact run_sound ⟨HH, [((2, 9), ([0,1,5,8], 5)), ((0, 13), ([0,1], 1))], fun | 11 => some ⟨[0,4], [], .take true [0,1,2,3,4,5,6,7,8,9,10,11,12] .done⟩ | n => plRqC0 n⟩ 400 (by kernel_rfl) (Yb b (Ys (decide (i < (↑(List.length (List.map (fun x => T.agg (evC x)) E)) : Int))) (fun Z0 => (Yb bo (Ya (show (0 : Int) ≤ i by omega) (Ya e1 (Yb b (Ya (show (0 : Int) ≤ i by omega) (Ya e1 (Ys (!((↑y.key : Int) == (↑y.key : Int) && ((↑y.kind : Int) == (↑y.kind : Int) && ((↑y.s.n : Int) == (↑y.s.n : Int) && ((↑y.s.b : Int) == (↑y.s.b : Int) && true) && ((↑y.s.l : Int) == (↑y.s.l : Int) && true) && true)))) (fun Z1 => (show Q (bool false) [(b, Ob.cells (repU r D F hf E he)), (0, Ob.room 34 70 (List.length (List.map (fun x => T.agg (frC x)) F)) hf), (0, Ob.room 5 73 (List.length (List.map (fun x => T.agg (evC x)) E)) he), (br, Ob.cells (repC r D'))] gl by exfalso; simp at Z1; done)) (fun Z2 => (Ya (congrArg int hw) nx)))))))))) (fun Z3 => (show wRqC1 Γ Q [kRqC0 [1,1,1,1]] (S.mk (frame 170 [(0, T.ptr 0 b 0), (1, T.ptr 3 br 0)]) [(b, Ob.cells (repU r D F hf E he))] gl) by exfalso; have h2 := of_decide_eq_false Z3; simp only [List.length_map, Row.aggs_len] at h2 l1; omega))))
theorem ts_fr (Γ : Ctx) (b br bo : Nat) (r : RS) (D D' : Dr) (F : List Fm) (hf : Value) (E : List Ev) (he : Value) (gl : Glb) (hF : F.length ≤ 1000000) (Q : T → Obs → Glb → Prop)
    (lp : wRqC1 Γ Q [kRqC0 [1,1,1,0,1,0], .blk 2, kRqC0 [1,1,1,1]] ⟨frame 170 [(0, .ptr 0 b 0), (1, .ptr 3 br 0), (5, .ptr 4 bo 0), (8, int 0)], obsS b br bo r D D' F hf E he, gl⟩) :
    ∀ (x d : List Fm) (i : Int), F = d ++ x → i = d.length →
    wRqC1 Γ Q [kRqC0 [1,1,0,1,0], .blk 0, kRqC0 [1,1,1]] ⟨frame 170 [(0, .ptr 0 b 0), (1, .ptr 3 br 0), (5, .ptr 4 bo 0), (7, int i)], obsS b br bo r D D' F hf E he, gl⟩ := by
  intro x
  induction x with
  | nil =>
    intro d i h1 hi
    have hLi : (F.length : Int) = i := by rw [h1, hi]; simp
    have l1 : ((Row.aggs frC F).length : Int) = i := by rw [Row.aggs_len F]; exact hLi
    clear h1 hi hLi
    let HH : Nat → Nat → Hint := fun  | _, _ => .no
    exact run_sound ⟨HH, [((2, 9), ([0,1,5,8], 5)), ((0, 6), ([0,1,5,7], 1))], plRqC0⟩ 400 (by kernel_rfl) (Yb b (Ys (decide (i < (↑(List.length (List.map (fun x => T.agg (frC x)) F)) : Int))) (fun Z0 => (show wRqC1 Γ Q [kRqC0 [1,1,0,1,0,0,1,0,0], It.blk 1, kRqC0 [1,1,0,1,0,0,1,1], kRqC0 [1,1,0,1,0], It.blk 0, kRqC0 [1,1,1]] (S.mk (frame 170 [(0, T.ptr 0 b 0), (1, T.ptr 3 br 0), (5, T.ptr 4 bo 0), (7, int i)]) [(b, Ob.cells (repU r D F hf E he))] gl) by exfalso; have h2 := of_decide_eq_true Z0; simp only [List.length_map, Row.aggs_len] at h2 l1; omega)) (fun Z1 => lp)))
  | cons y x ih =>
    intro d i h1 hi
    have hLi : i < (F.length : Int) := by rw [h1, hi]; simp; omega
    have hw : IntKind.wrap .i64 (i + 1) = i + 1 := wrap_i64 (by omega) (by omega)
    have e1 : (Row.aggs frC F)[i.toNat]? = some (.agg (frC y)) := Row.aggs_at (by rw [h1, hi]; simp)
    have l1 : ((Row.aggs frC F).length : Int) = F.length := by rw [Row.aggs_len F]
    have nx := ih (d ++ [y]) (i + 1) (by simp [h1]) (by simp [hi])
    have h0 : 0 ≤ i := by omega
    clear ih h1 hi lp
    let HH : Nat → Nat → Hint := fun | 6, 3 => .res (.agg (frC y)) | 6, 10 => .res (.agg (frC y)) | 6, 12 => told (bool true) [] [] | 5, 1 => .res (int (i + 1)) | _, _ => .no
    exact run_sound ⟨HH, [((2, 4), ([0,1,5,7], 5)), ((0, 8), ([0,1,5], 1))], fun | 6 => some ⟨[0,4], [12], .take true [0,1,2,3,4,5,6,7,8,9,10,11] (.one 12 (.take false [13] .done))⟩ | n => plRqC0 n⟩ 400 (by kernel_rfl) (Yb b (Ys (decide (i < (↑(List.length (List.map (fun x => T.agg (frC x)) F)) : Int))) (fun Z0 => (Yb bo (Ya (show (0 : Int) ≤ i by omega) (Ya e1 (Yb b (Ya (show (0 : Int) ≤ i by omega) (Ya e1 (Ya (fsame_any y (HH 6 12).P (told_post rfl)) (Yu (Ya (congrArg int hw) nx)))))))))) (fun Z1 => (show wRqC1 Γ Q [kRqC0 [1,1,1]] (S.mk (frame 170 [(0, T.ptr 0 b 0), (1, T.ptr 3 br 0), (5, T.ptr 4 bo 0)]) [(b, Ob.cells (repU r D F hf E he))] gl) by exfalso; have h2 := of_decide_eq_false Z1; simp only [List.length_map, Row.aggs_len] at h2 l1; omega))))
theorem tsame_ob (b br : Nat) (r : RS) (D D' : Dr) (F : List Fm) (hf : Value) (E : List Ev) (he : Value) (gl : Glb) (ho : Own D r gl) (ho' : Own D' r gl) (hl : lim r.v.ms) (hF : F.length ≤ 1000000) (hE : E.length ≤ 1000000) (Q : T → Obs → Glb → Prop)
    (hQ : Q (bool true) (obsQ b br r D D' (Row.aggs frC F).length (Row.aggs evC E).length hf he) gl) :
    TCalls Try.prog 26 [.ptr 0 b 0, .ptr 3 br 0, outT F E] (obsP b br r D D' F hf E he) gl Q := by
  have lp := fun Γ bo => ts_fr Γ b br bo r D D' F hf E he gl hF Q (ts_ev Γ b br bo r D D' F hf E he gl hE Q (ts_key Γ b br r D D' F hf E he gl ho ho' Q hQ 6 0 rfl) E [] 0 rfl rfl) F [] 0 rfl rfl
  clear hQ
  have hc := complete_any br r D' gl ho'
  have ht := tcompleteG ho.tr
  have hv := view_any br r D' hl
  have hs := X5.same_any r.v r.v hl hl
  rw [show Rep.complete r = (r.has 0 && (r.has 1 && (r.has 2 && (r.has 3 && (r.has 4 && r.has 5))))) from rfl] at hc
  generalize (r.has 0 && (r.has 1 && (r.has 2 && (r.has 3 && (r.has 4 && r.has 5))))) = cc at *
  have l1 := Row.aggs_len (C := frC) F
  have l2 := Row.aggs_len (C := evC) E
  refine TCalls.of Try.func26 rfl (CanCall.of Try.func26 rfl (by decide)) [0,1,2,3] fun Γ => ?_
  let HH : Nat → Nat → Hint := fun | 1, 22 => .plainAt [0] (toldG (bool cc) [3] (obsR br r D') gl) | 1, 27 => toldG (bool cc) [] [] gl | 1, 32 => .plainAt [0] (told (.agg (viewC r.v)) [3] (obsR br r D')) | 1, 37 => told (bool true) [] [] | _, _ => .no
  let z0 := [(b, Ob.cells (repU r D F hf E he)), (0, Ob.room 34 70 (List.length (List.map (fun x => T.agg (frC x)) F)) hf), (0, Ob.room 5 73 (List.length (List.map (fun x => T.agg (evC x)) E)) he), (br, Ob.cells (repC r D'))]
  exact run_sound ⟨HH, [((2, 4), ([0,1,5,7], 5))], fun | 1 => some ⟨[0,4], [37], .take true [0,1,2,3,4,5,6,7,8,9,10,11,12,13,14,15,16,17,18,19,20,21,23,24,25,26] (.one 22 (.one 27 (.take true [28,29,30,31,33,34,35,36] (.one 32 (.one 37 (.take false [38,39] .done))))))⟩ | n => plRqC0 n⟩ 400 (by kernel_rfl) (fun (Z0 : Nat) => (Yb Z0 (Yb b (Ys ((↑(List.length (List.map (fun x => T.agg (frC x)) F)) : Int) != (↑(List.length (List.map (fun x => T.agg (frC x)) F)) : Int)) (fun Z1 => (show Q (bool false) z0 gl by exfalso; simp at Z1; done)) (fun Z2 => (Yb Z0 (Yb b (Ys ((↑(List.length (List.map (fun x => T.agg (evC x)) E)) : Int) != (↑(List.length (List.map (fun x => T.agg (evC x)) E)) : Int)) (fun Z3 => (show Q (bool false) z0 gl by exfalso; simp at Z3; done)) (fun Z4 => (Yb b (Ya (Ya (repC_plain r D') Yt) (Ya (hc (HH 1 22).P (toldG_post rfl)) (Yu (Ya (Ya (repC_plain r D') Yt) (Ya (ht (HH 1 27).P (toldG_post rfl)) (Yu (Ys (!cc == cc) (fun Z5 => (show Q (bool false) z0 gl by exfalso; simp at Z5; done)) (fun Z6 => (Yb b (Ya (Ya (repC_plain r D') Yt) (Ya (hv (HH 1 32).P (told_post rfl)) (Yu (Ya (Ya (repC_plain r D') Yt) (Ya (hs (HH 1 37).P fun _ h => told_post (by rw [h, sameB_self])) (Yu (lp Γ Z0))))))))))))))))))))))))))
theorem tsame_any (b br : Nat) (r : RS) (D D' : Dr) (F : List Fm) (hf : Value) (E : List Ev) (he : Value) (gl : Glb) (ho : Own D r gl) (ho' : Own D' r gl) (hl : lim r.v.ms) (hF : F.length ≤ 1000000) (hE : E.length ≤ 1000000) (Q : T → Obs → Glb → Prop)
    (hQ : Q (bool true) (obsP b br r D D' [] nilS [] nilS) gl) :
    TCalls Try.prog 26 [.ptr 0 b 0, .ptr 3 br 0, outT F E] (obsP b br r D D' F hf E he) gl Q := by
  refine TCalls.post (tsame_ob b br r D D' F hf E he gl ho ho' hl hF hE (fun x ob gl' => x = bool true ∧ ob = obsQ b br r D D' (Row.aggs frC F).length (Row.aggs evC E).length hf he ∧ gl' = gl) ⟨rfl, rfl, rfl⟩) ?_
  rintro x ob gl' ⟨rfl, rfl, rfl⟩
  exact ⟨bool true, _, _, imp_same b br r D D' _ _ hf he, hQ⟩
end X20
end Go.Proofs.Ytafcbipmmjegcaa.Vm
namespace Go.Proofs.Ytafcbipmmjegcaa
namespace View
structure WF (v : VS) : Prop where
  len : v.ms.length ≤ 8
  nd : (v.ms.map (·.node)).Nodup
  mem : ∀ m ∈ v.ms, 1 ≤ m.node ∧ m.node ≤ 8 ∧ m.life < 256 ∧ v.L (m.node - 1) = m.life
  rdy : 0 < ready v.ms
  e0 : 0 ≤ v.e
  e1 : v.e ≤ 4294967295
  L : ∀ k, v.L k < 256
theorem map_set_node {ms : List Mem} {i : Nat} (h : i < ms.length) (m : Mem) (hm : m.node = ms[i].node) : (ms.set i m).map (·.node) = ms.map (·.node) := by
  rw [List.map_set, hm]
  exact List.ext_getElem (by simp) (fun k h1 h2 => by
    rw [List.getElem_set]; split
    · subst_vars; simp
    · rfl)
theorem ready_pos {ms : List Mem} {m : Mem} (h : m ∈ ms) (hr : m.ready = true) : 0 < ready ms := by
  unfold ready
  exact List.length_pos_of_mem (List.mem_filter.2 ⟨h, hr⟩)
inductive Step (v : VS) : VS → Bool → Prop where
  | same (b : Bool) : Step v v b
  | more (node life : Nat) (h1 : 1 ≤ node) (h2 : node ≤ 8) (h3 : life ≤ 200) (hat : ∀ m ∈ v.ms, m.node ≠ node) (hl : v.ms.length < 8) (hL : v.L (node - 1) < life) (he : v.e ≠ 4294967295) :
      Step v ⟨v.e + 1, v.ms ++ [⟨node, life, false⟩], upd v.L (node - 1) life⟩ true
  | less (i : Nat) (hi : i < v.ms.length) (hr : 0 < ready (v.ms.eraseIdx i)) (he : v.e ≠ 4294967295) : Step v ⟨v.e + 1, v.ms.eraseIdx i, v.L⟩ true
  | settle (i : Nat) (hi : i < v.ms.length) : Step v ⟨v.e, v.ms.set i { v.ms[i] with ready := true }, v.L⟩ true
theorem step_apply (v : VS) (kind node life : Nat) (ep : Int) : Step v (applyV v kind node life ep).1 (applyV v kind node life ep).2 := by
  unfold applyV
  split
  · exact .same _
  split
  · unfold addV
    split
    · rename_i h
      split
      · exact .same _
      · rename_i he
        unfold may at h
        obtain ⟨a, b, c, d, e, f, g⟩ := of_decide_eq_true h
        exact .more node life a b d (fun m hm hx => by
          obtain ⟨k, hk, rfl⟩ := List.mem_iff_getElem.1 hm
          exact atN_none e k hk hx) f g he
    · exact .same _
  split
  · exact .same _
  · rename_i i hat
    obtain ⟨hi, h1, h2⟩ := atN_some hat
    split
    · exact .same _
    · rename_i m hm
      rw [List.getElem?_eq_getElem hi] at hm
      injection hm with hm
      subst hm
      split
      · exact .same _
      split
      · unfold removeV
        split
        · exact .same _
        · unfold next
          split
          · exact .same _
          · exact .less i hi (by omega) (by assumption)
      split
      · exact .settle i hi
      · exact .same _
theorem WF.step {v v' : VS} {b : Bool} (h : WF v) (hs : Step v v' b) : WF v' := by
  cases hs with
  | same => exact h
  | more node life h1 h2 h3 hat hl hL he =>
    refine ⟨by simp; omega, ?_, ?_, ?_, by have := h.e0; simp; omega, by have := h.e1; simp; omega, ?_⟩
    · simp only [List.map_append, List.map_cons, List.map_nil]
      rw [List.nodup_append]
      refine ⟨h.nd, by simp, ?_⟩
      intro a ha b hb
      obtain ⟨m, hm, rfl⟩ := List.mem_map.1 ha
      simp at hb
      subst hb
      exact hat m hm
    · intro m hm
      simp only [List.mem_append, List.mem_singleton] at hm
      rcases hm with hm | rfl
      · obtain ⟨a, b, c, d⟩ := h.mem m hm
        refine ⟨a, b, c, ?_⟩
        have := hat m hm
        simp only [upd]
        rw [if_neg (by omega)]
        exact d
      · exact ⟨h1, h2, by simp; omega, by simp [upd]⟩
    · have := h.rdy
      unfold ready at *
      rw [List.filter_append, List.length_append]; omega
    · intro k
      simp only [upd]
      split
      · omega
      · exact h.L k
  | less i hi hr he =>
    refine ⟨by have := List.length_eraseIdx_of_lt hi; have := h.len; simp only; omega, ?_, ?_, hr, by have := h.e0; simp; omega, by have := h.e1; simp; omega, h.L⟩
    · exact List.Sublist.nodup ((List.eraseIdx_sublist _ _).map _) h.nd
    · intro m hm
      exact h.mem m (List.mem_of_mem_eraseIdx hm)
  | settle i hi =>
    refine ⟨by simpa using h.len, ?_, ?_, ?_, h.e0, h.e1, h.L⟩
    · show ((v.ms.set i { v.ms[i] with ready := true }).map (·.node)).Nodup
      rw [map_set_node hi { v.ms[i] with ready := true } rfl]
      exact h.nd
    · intro m hm
      rcases List.mem_or_eq_of_mem_set hm with hm | rfl
      · exact h.mem m hm
      · exact h.mem v.ms[i] (by simp)
    · exact ready_pos (List.mem_set hi _) rfl
end View
end Go.Proofs.Ytafcbipmmjegcaa
namespace Go.Proofs.Ytafcbipmmjegcaa.Vm
open Go Go.RowKit
namespace X20
open Rep (Stp Wrd Cel Drv Plc RS Fm Ev setP setC)
open View (Mem VS)
structure Fit (m : Nat) (r : RS) : Prop where
  age : ∀ k, (r.P k).age ≤ m
  tk : ∀ k d, (r.P k).dr = some d → d.tk ≤ m
  ca : r.calls ≤ m
  st : ∀ k, (r.P k).c.w.s.n ≤ 4294967295
  sd : ∀ k d, (r.P k).dr = some d → d.w.s.n ≤ 4294967295
theorem Fit.mono {m m' : Nat} {r : RS} (h : Fit m r) (hm : m ≤ m') : Fit m' r :=
  ⟨fun k => Nat.le_trans (h.age k) hm, fun k d hd => Nat.le_trans (h.tk k d hd) hm, Nat.le_trans h.ca hm, h.st, h.sd⟩
theorem Fit.bd {m N : Nat} {r : RS} (h : Fit m r) (hm : m ≤ N) : Bd N r 0 := fun j _ _ => ⟨Nat.le_trans (h.age j) hm, fun d hd => Nat.le_trans (h.tk j d hd) hm⟩
theorem Fit.set {m : Nat} {r : RS} (h : Fit m r) (k : Nat) (p : Plc) (h1 : p.age ≤ m) (h2 : ∀ d, p.dr = some d → d.tk ≤ m ∧ d.w.s.n ≤ 4294967295) (h3 : p.c.w.s.n ≤ 4294967295) : Fit m (setP r k p) := by
  refine ⟨fun j => ?_, fun j d hd => ?_, h.ca, fun j => ?_, fun j d hd => ?_⟩ <;> by_cases e : j = k
  · subst e; rw [P_at]; exact h1
  · rw [P_ne _ _ _ e]; exact h.age j
  · subst e; rw [P_at] at hd; exact (h2 d hd).1
  · rw [P_ne _ _ _ e] at hd; exact h.tk j d hd
  · subst e; rw [P_at]; exact h3
  · rw [P_ne _ _ _ e]; exact h.st j
  · subst e; rw [P_at] at hd; exact (h2 d hd).2
  · rw [P_ne _ _ _ e] at hd; exact h.sd j d hd
theorem Fit.drv {m : Nat} {r : RS} (h : Fit m r) {k : Nat} : ∀ d, (r.P k).dr = some d → d.tk ≤ m ∧ d.w.s.n ≤ 4294967295 := fun d hd => ⟨h.tk k d hd, h.sd k d hd⟩
theorem Fit.setC {m : Nat} {r : RS} (h : Fit m r) (k : Nat) (c : Cel) (hc : c.w.s.n ≤ 4294967295) : Fit m (setC r k c) := h.set k _ (h.age k) h.drv hc
theorem val_n (c : Cel) (s : Stp) : (Rep.val c s).1.w = c.w := by unfold Rep.val; split <;> rfl
theorem nextS_n {s x : Stp} {d n l : Nat} (h : Rep.nextS s d n l = some x) : x.n ≤ 4294967295 := by
  unfold Rep.nextS at h
  split at h
  · rename_i h2; injection h with e; subst e; exact h2
  · cases h
theorem Fit.look {m : Nat} {r : RS} (h : Fit m r) (k : Nat) : Fit m (Rep.look r k).1 := by
  unfold Rep.look
  split
  · exact h
  · split
    · split
      · exact h.set k _ (h.age k) (fun _ h => by cases h) (by show (Rep.val _ _).1.w.s.n ≤ _; rw [val_n]; exact h.st k)
      · exact h.set k _ (h.age k) (fun _ h => by cases h) (h.st k)
    · exact h
theorem Fit.way {m : Nat} {r : RS} (h : Fit m r) (k : Nat) : Fit m (Rep.way r k).1 := by
  unfold Rep.way
  split
  · exact h.set k _ (Nat.zero_le _) (by rename_i e; rw [e]; exact fun _ h => by cases h) (h.st k)
  · split
    · split
      · exact h.set k _ (Nat.zero_le _) (fun _ h => by cases h) (h.st k)
      · exact h.set k _ (Nat.zero_le _) h.drv (h.st k)
    · exact h.set k _ (Nat.zero_le _) (fun _ h => by cases h) (h.st k)
theorem Fit.rest {m : Nat} {r : RS} (h : Fit m r) (k : Nat) : Fit m (Rep.rest r k) := by
  unfold Rep.rest
  split
  · exact h.set k _ (Nat.zero_le _) (by rename_i e; rw [e]; exact fun _ h => by cases h) (h.st k)
  · split
    · exact h.set k _ (Nat.zero_le _) h.drv (h.st k)
    · exact h.set k _ (Nat.zero_le _) (fun _ h => by cases h) (h.st k)
theorem Fit.again {m : Nat} {r : RS} (h : Fit m r) (k : Nat) : Fit m (Rep.again r k).1 := by
  unfold Rep.again
  split
  · exact h
  · rename_i d hd
    split
    · exact h.set k _ (h.age k) (fun d' e => by injection e with e; subst e; exact ⟨Nat.zero_le _, h.sd k d hd⟩) (h.st k)
    · exact h
theorem Fit.againL {m : Nat} : ∀ (l : List Nat) {r : RS}, Fit m r → Fit m (Rep.againL r l).1
  | [], _, h => h
  | k :: l, _, h => Fit.againL l (h.again k)
theorem Fit.enter {m : Nat} {r : RS} (h : Fit m r) (v : VS) : Fit m (Rep.enter r v).1 := by
  unfold Rep.enter
  exact Fit.againL _ ⟨h.age, h.tk, h.ca, h.st, h.sd⟩
theorem Fit.write {m : Nat} {r : RS} (h : Fit m r) (k : Nat) (b : Bool) (t : ByteArray) (rmw : Bool) : Fit m (Rep.write r k b t rmw).1.1 := by
  unfold Rep.write
  split
  · split
    · exact h
    · rename_i s hs
      have hn := nextS_n hs
      exact Fit.look (h.set k _ (Nat.zero_le _) (fun d e => by injection e with e; subst e; exact ⟨Nat.zero_le _, hn⟩) hn) k
  · exact h
theorem Fit.onInv {m : Nat} {r : RS} (h : Fit m r) (f : Fm) (frm : Nat) (hf : f.w.s.n ≤ 4294967295) : Fit m (Rep.onInv r f frm).1 := by
  have hc : (Rep.inv (r.P f.key).c f.w).1.w.s.n ≤ 4294967295 := by
    unfold Rep.inv
    split
    · exact hf
    · split
      · exact h.st _
      · split <;> exact h.st _
  unfold Rep.onInv
  split
  · exact h
  · split
    · exact (h.setC _ _ hc).way _
    · exact h.setC _ _ hc
theorem Fit.onAck {m : Nat} {r : RS} (h : Fit m r) (f : Fm) (frm : Nat) : Fit m (Rep.onAck r f frm).1 := by
  unfold Rep.onAck
  split
  · exact h
  · rename_i d hd
    split
    · exact Fit.look (h.set f.key { r.P f.key with dr := some (Rep.ackD d frm f.flag) } (h.age _) (fun d' e => by injection e with e; subst e; exact ⟨h.tk _ d hd, h.sd _ d hd⟩) (h.st _)) _
    · exact h
theorem Fit.onVal {m : Nat} {r : RS} (h : Fit m r) (f : Fm) : Fit m (Rep.onVal r f) := by
  unfold Rep.onVal
  split
  · exact (h.setC _ _ (by rw [val_n]; exact h.st _)).rest _
  · exact h
theorem Fit.got {m : Nat} {r : RS} (h : Fit m r) (k : Nat) : Fit m (Rep.got r k) := ⟨h.age, h.tk, h.ca, h.st, h.sd⟩
theorem Fit.onGive {m : Nat} {r : RS} (h : Fit m r) (f : Fm) (hf : f.w.s.n ≤ 4294967295) : Fit m (Rep.onGive r f).1 := by
  have hc : (Rep.give (r.P f.key).c f.w f.flag).1.w.s.n ≤ 4294967295 := by
    unfold Rep.give
    split
    · exact hf
    · split
      · rw [val_n]; exact h.st _
      · exact h.st _
  unfold Rep.onGive
  split
  · split
    · exact ((h.got f.key).setC _ _ hc).way _
    · exact ((h.got f.key).setC _ _ hc).rest _
  · exact h.got _
theorem Fit.on {m : Nat} {r : RS} (h : Fit m r) (f : Fm) (lease : Bool) (hf : f.w.s.n ≤ 4294967295) : Fit m (Rep.on r f lease).1 := by
  unfold Rep.on
  split
  · exact h
  · rename_i frm _
    split
    · exact h.onInv f frm hf
    · split
      · split
        · exact h.onAck f frm
        · exact h
      · split
        · exact h.onVal f
        · split
          · exact h
          · split
            · exact h.onGive f hf
            · exact h
theorem Fit.beat {m : Nat} {r : RS} (h : Fit m r) (k every : Nat) : Fit (m + 1) (Rep.beat r k every).1 := by
  unfold Rep.beat
  split
  · exact h.mono (Nat.le_succ _)
  · rename_i d hd
    have h' := h.mono (Nat.le_succ m)
    refine h'.set k _ (h'.age k) (fun d' e => ?_) (h.st k)
    injection e with e
    subst e
    unfold Rep.tickD
    split
    · exact ⟨by have := h.tk k d hd; show d.tk + 1 ≤ m + 1; omega, h.sd k d hd⟩
    · exact ⟨Nat.zero_le _, h.sd k d hd⟩
theorem Fit.stall {m : Nat} {r : RS} (h : Fit m r) (k replay : Nat) (lease : Bool) : Fit (m + 1) (Rep.stall r k replay lease).1 := by
  have h' := h.mono (Nat.le_succ m)
  unfold Rep.stall
  split
  · split
    · split
      · exact h'.set k _ (Nat.zero_le _) h'.drv (h.st k)
      · exact h'.set k _ (Nat.zero_le _) (fun d e => by injection e with e; subst e; exact ⟨Nat.zero_le _, h.st k⟩) (h.st k)
    · exact h'.set k _ (by have := h.age k; show (r.P k).age + 1 ≤ m + 1; omega) h'.drv (h.st k)
  · exact h'
theorem Fit.tickK {m : Nat} {r : RS} (h : Fit m r) (k every replay : Nat) (lease : Bool) : Fit (m + 1) (Rep.tickK r k every replay lease).1 := by
  unfold Rep.tickK
  split
  · split
    · exact (h.look k).beat k every
    · exact h.beat k every
  · exact h.stall k replay lease
theorem Fit.tickL {every replay : Nat} {lease : Bool} : ∀ (l : List Nat) {m : Nat} {r : RS}, Fit m r → Fit (m + l.length) (Rep.tickL r every replay lease l).1
  | [], _, _, h => h
  | k :: l, m, r, h => by
    have := Fit.tickL (every := every) (replay := replay) (lease := lease) l (h.tickK k every replay lease)
    rw [show m + (k :: l).length = m + 1 + l.length by simp; omega]
    exact this
theorem Fit.asked {m : Nat} {r : RS} (h : Fit m r) : Fit (m + 1) (Rep.asked r).1 := by
  unfold Rep.asked
  split
  · exact h.mono (Nat.le_succ _)
  · exact ⟨fun k => Nat.le_succ_of_le (h.age k), fun k d hd => Nat.le_succ_of_le (h.tk k d hd), Nat.succ_le_succ h.ca, h.st, h.sd⟩
theorem Fit.tick {m : Nat} {r : RS} (h : Fit m r) (every replay : Nat) (lease : Bool) : Fit (m + 7) (Rep.tick r every replay lease).1 := by
  unfold Rep.tick
  split
  · have h2 := Fit.tickL (every := every) (replay := replay) (lease := lease) [0, 1, 2, 3, 4, 5] h.asked
    rw [show m + 1 + [0, 1, 2, 3, 4, 5].length = m + 7 from rfl] at h2
    exact h2
  · exact h.mono (by omega)
theorem Fit.begun (self life : Nat) (w : Bool) : Fit 0 (Rep.begun self life w) := ⟨fun _ => Nat.le_refl _, (fun _ _ h => by cases h), Nat.le_refl _, fun _ => Nat.zero_le _, (fun _ _ h => by cases h)⟩
theorem againL_self : ∀ (l : List Nat) (r : RS), (Rep.againL r l).1.self = r.self ∧ (Rep.againL r l).1.life = r.life ∧ (Rep.againL r l).1.v = r.v
  | [], _ => ⟨rfl, rfl, rfl⟩
  | k :: l, r => by
    obtain ⟨h1, h2, h3⟩ := againL_self l (Rep.again r k).1
    obtain ⟨g1, g2, g3, -⟩ := again_self r k
    exact ⟨h1.trans g1, h2.trans g2, h3.trans g3⟩
theorem enter_v (r : RS) (v : VS) : (Rep.enter r v).1.v = v := (againL_self _ _).2.2
theorem rest_v (r : RS) (k : Nat) : (Rep.rest r k).v = r.v := by
  unfold Rep.rest; split
  · rfl
  · split <;> rfl
theorem write_v (r : RS) (k : Nat) (b : Bool) (t : ByteArray) (rmw : Bool) : (Rep.write r k b t rmw).1.1.v = r.v := by
  unfold Rep.write
  split
  · split
    · rfl
    · exact (look_self _ _).2.2.1
  · rfl
theorem on_v (r : RS) (f : Fm) (lease : Bool) : (Rep.on r f lease).1.v = r.v := by
  unfold Rep.on
  split
  · rfl
  · rename_i frm _
    split
    · unfold Rep.onInv
      split
      · rfl
      · split
        · exact (way_self _ _).2.2.1
        · rfl
    · split
      · split
        · unfold Rep.onAck
          split
          · rfl
          · split
            · exact (look_self _ _).2.2.1
            · rfl
        · rfl
      · split
        · show (Rep.onVal r f).v = r.v
          unfold Rep.onVal
          split
          · exact rest_v _ _
          · rfl
        · split
          · rfl
          · split
            · show (Rep.onGive r f).1.v = r.v
              unfold Rep.onGive
              split
              · split
                · exact (way_self _ _).2.2.1
                · exact rest_v _ _
              · rfl
            · rfl
theorem tickL_v {every replay : Nat} {lease : Bool} : ∀ (l : List Nat) (r : RS), (Rep.tickL r every replay lease l).1.v = r.v
  | [], _ => rfl
  | k :: l, r => (tickL_v l _).trans (tickK_self r k every replay lease).2.2.1
theorem tick_v (r : RS) (every replay : Nat) (lease : Bool) : (Rep.tick r every replay lease).1.v = r.v := by
  unfold Rep.tick
  split
  · refine (tickL_v _ _).trans ?_
    unfold Rep.asked
    split <;> rfl
  · rfl
theorem again_len (r : RS) (k : Nat) : (Rep.again r k).2.length ≤ 2 := by
  unfold Rep.again
  split
  · exact Nat.zero_le _
  · split
    · exact sent_len _ _ _
    · exact Nat.zero_le _
theorem againL_len : ∀ (l : List Nat) (r : RS), (Rep.againL r l).2.length ≤ 2 * l.length
  | [], _ => Nat.le_refl _
  | k :: l, r => by
    have h1 := again_len r k
    have h2 := againL_len l (Rep.again r k).1
    simp only [Rep.againL, List.length_append, List.length_cons]
    omega
theorem enter_len (r : RS) (v : VS) : (Rep.enter r v).2.length ≤ 12 := againL_len [0, 1, 2, 3, 4, 5] { r with v := v }
theorem write_len (r : RS) (k : Nat) (b : Bool) (t : ByteArray) (rmw : Bool) (ho : (Rep.oth r).length ≤ 1000) : (Rep.write r k b t rmw).1.2.1.length ≤ 2000 ∧ (Rep.write r k b t rmw).1.2.2.length ≤ 2000 := by
  unfold Rep.write
  split
  · split
    · exact ⟨Nat.zero_le _, Nat.zero_le _⟩
    · rename_i s _
      have h1 := look_ev (setP r k ⟨⟨⟨s, b, t, rmw⟩, 2⟩, some (Rep.newD ⟨s, b, t, rmw⟩ true), 0⟩) k
      have h2 := sent_len r k ⟨s, b, t, rmw⟩
      have e : Rep.oth (setP r k ⟨⟨⟨s, b, t, rmw⟩, 2⟩, some (Rep.newD ⟨s, b, t, rmw⟩ true), 0⟩) = Rep.oth r := rfl
      rw [e] at h1
      dsimp only
      rw [List.length_append]
      omega
  · exact ⟨Nat.zero_le _, Nat.zero_le _⟩
theorem onAck_len (r : RS) (f : Fm) (frm : Nat) (ho : (Rep.oth r).length ≤ 1000) : (Rep.onAck r f frm).2.1.length ≤ 2000 ∧ (Rep.onAck r f frm).2.2.length ≤ 2000 := by
  unfold Rep.onAck
  split
  · exact ⟨Nat.zero_le _, Nat.zero_le _⟩
  · rename_i d _
    split
    · have h1 := look_ev (setP r f.key { r.P f.key with dr := some (Rep.ackD d frm f.flag) }) f.key
      have e : Rep.oth (setP r f.key { r.P f.key with dr := some (Rep.ackD d frm f.flag) }) = Rep.oth r := rfl
      rw [e] at h1
      omega
    · exact ⟨Nat.zero_le _, Nat.zero_le _⟩
theorem sendOn_len (r : RS) (f : Fm) : (Rep.sendOn r f).length ≤ 1 := by
  unfold Rep.sendOn
  split
  · split <;> simp
  · split
    · split <;> simp
    · simp
theorem onInv_len (r : RS) (f : Fm) (frm : Nat) : (Rep.onInv r f frm).2.1.length ≤ 2000 ∧ (Rep.onInv r f frm).2.2.length ≤ 2000 := by
  have h1 := sendOn_len r f
  have h2 := way_len (setC r f.key (Rep.inv (r.P f.key).c f.w).1) f.key
  unfold Rep.onInv
  split
  · simp; omega
  · split
    · simp; omega
    · simp; omega
theorem on_len (r : RS) (f : Fm) (lease : Bool) (ho : (Rep.oth r).length ≤ 1000) : (Rep.on r f lease).2.1.length ≤ 2000 ∧ (Rep.on r f lease).2.2.length ≤ 2000 := by
  unfold Rep.on
  split
  · exact ⟨Nat.zero_le _, Nat.zero_le _⟩
  · rename_i frm _
    split
    · exact onInv_len r f frm
    · split
      · split
        · exact onAck_len r f frm ho
        · exact ⟨Nat.zero_le _, Nat.zero_le _⟩
      · split
        · exact ⟨Nat.zero_le _, Nat.zero_le _⟩
        · split
          · refine ⟨?_, Nat.zero_le _⟩
            show (Rep.onNeed r f frm).length ≤ 2000
            unfold Rep.onNeed
            split <;> simp
          · split
            · refine ⟨Nat.zero_le _, ?_⟩
              show (Rep.onGive r f).2.length ≤ 2000
              unfold Rep.onGive
              split
              · split
                · exact Nat.le_trans (way_len _ _) (by decide)
                · exact Nat.zero_le _
              · exact Nat.zero_le _
            · exact ⟨Nat.zero_le _, Nat.zero_le _⟩
theorem tickL_len {every replay : Nat} {lease : Bool} : ∀ (l : List Nat) (r : RS), (Rep.oth r).length ≤ 1000 → (Rep.tickL r every replay lease l).2.1.length ≤ 1002 * l.length ∧ (Rep.tickL r every replay lease l).2.2.length ≤ l.length
  | [], _, _ => ⟨Nat.le_refl _, Nat.le_refl _⟩
  | k :: l, r, ho => by
    have h1 := tickK_len r k every replay lease
    obtain ⟨g1, -, g3, -⟩ := tickK_self r k every replay lease
    have e : Rep.oth (Rep.tickK r k every replay lease).1 = Rep.oth r := by unfold Rep.oth; rw [g1, g3]
    have h2 := tickL_len (every := every) (replay := replay) (lease := lease) l (Rep.tickK r k every replay lease).1 (by rw [e]; exact ho)
    simp only [Rep.tickL, List.length_append, List.length_cons]
    omega
theorem tick_len (r : RS) (every replay : Nat) (lease : Bool) (ho : (Rep.oth r).length ≤ 1000) : (Rep.tick r every replay lease).2.1.length ≤ 8000 ∧ (Rep.tick r every replay lease).2.2.length ≤ 2000 := by
  have ha : Rep.oth (Rep.asked r).1 = Rep.oth r ∧ (Rep.asked r).2.length ≤ 6 := by
    unfold Rep.asked
    split
    · exact ⟨rfl, Nat.zero_le _⟩
    · exact ⟨rfl, by simp only [List.length_map]; exact needs_len r⟩
  have h1 := tickL_len (every := every) (replay := replay) (lease := lease) [0, 1, 2, 3, 4, 5] (Rep.asked r).1 (by rw [ha.1]; exact ho)
  unfold Rep.tick
  split
  · dsimp only
    rw [List.length_append]
    simp only [List.length_cons, List.length_nil] at h1
    omega
  · exact ⟨Nat.zero_le _, Nat.zero_le _⟩
structure Two (m : Nat) (r : RS) (v : VS) (D D' : Dr) (gl : Glb) : Prop where
  own : Own D r gl
  own' : Own D' r gl
  sep : ∀ b, In_ D r b → ¬ In_ D' r b
  fit : Fit m r
  wf : View.WF v
  vl : r.v.ms.length ≤ 8
theorem Two.lim {m : Nat} {r : RS} {v : VS} {D D' : Dr} {gl : Glb} (h : Two m r v D D' gl) : X5.lim r.v.ms := Nat.le_trans h.vl (by decide)
theorem Two.oth {m : Nat} {r : RS} {v : VS} {D D' : Dr} {gl : Glb} (h : Two m r v D D' gl) : (Rep.oth r).length ≤ 1000 := Nat.le_trans (X5.othV_len _ _) (Nat.le_trans h.vl (by decide))
theorem Two.next {m m' : Nat} {r r2 : RS} {v v' : VS} {D D' E E' : Dr} {gl g1 g2 : Glb} (h : Two m r v D D' gl) (h1 : Own E' r2 g1) (s1 : Step gl D' r g1 E' r2)
    (h2 : Own E r2 g2) (s2 : Step g1 D r g2 E r2) (hf : Fit m' r2) (hw : View.WF v') (hv : r2.v.ms.length ≤ 8) : Two m' r2 v' E E' g2 := by
  have a1 := s1.other h.own fun b hb hb' => h.sep b hb' hb
  have a2 := s2.other h1 fun b hb hb' => a1.2 b hb' hb
  exact ⟨h2, a2.1, a2.2, hf, hw, hv⟩
theorem Two.mid {m : Nat} {r r2 : RS} {v : VS} {D D' E' : Dr} {gl g1 : Glb} (h : Two m r v D D' gl) (s1 : Step gl D' r g1 E' r2) : Own D r g1 :=
  (s1.other h.own fun b hb hb' => h.sep b hb' hb).1
end X20
end Go.Proofs.Ytafcbipmmjegcaa.Vm
