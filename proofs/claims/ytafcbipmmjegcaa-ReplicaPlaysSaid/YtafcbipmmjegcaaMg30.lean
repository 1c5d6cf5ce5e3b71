/- Texts of this claim: RpT, RpU. -/
import Derived.Test.YtafcbipmmjegcaaMg15
import Derived.Test.YtafcbipmmjegcaaMg29
namespace Go.Proofs.Ytafcbipmmjegcaa.Vm
open Go Go.RowKit
set_option maxRecDepth 100000
def plRpT0 : Nat → Option RPlan := fun | 0 => some ⟨[0], [8], .take true [0,1,2,3,4,5,6,7] (.one 8 (.take false [9,10,11,12,13] .done))⟩ | _ => none
namespace X20
open Rep (Stp Wrd Cel Drv Plc RS Fm Ev setP setC)
open View (Mem VS)
open X5 (viewC lim mems othV hasV aheadV behindV has_any others_any ends_any)
def repT (r : RS) (D : Dr) : List T := u8 r.self :: u8 r.life :: (viewC r.v ++ (clC (r.P 0).c ++ (clC (r.P 1).c ++ (clC (r.P 2).c ++ (clC (r.P 3).c ++ (clC (r.P 4).c ++ (clC (r.P 5).c ++
  [dT (r.P 0).dr (D.g 0), dT (r.P 1).dr (D.g 1), dT (r.P 2).dr (D.g 2), dT (r.P 3).dr (D.g 3), dT (r.P 4).dr (D.g 4), dT (r.P 5).dr (D.g 5),
   int (r.P 0).age, int (r.P 1).age, int (r.P 2).age, int (r.P 3).age, int (r.P 4).age, int (r.P 5).age, .gp D.t 0])))))))
def repU (r : RS) (D : Dr) (F : List Fm) (hf : Value) (E : List Ev) (he : Value) : List T := repT r D ++ [.slx 34 1 (Row.aggs frC F) hf, .slx 5 2 (Row.aggs evC E) he]
def obsU (b : Nat) (r : RS) (D : Dr) (F : List Fm) (hf : Value) (E : List Ev) (he : Value) : Obs := [(b, .cells (repU r D F hf E he)), (0, .room 34 70 (Row.aggs frC F).length hf), (0, .room 5 73 (Row.aggs evC E).length he)]
section
variable (b : Nat) (r : RS) (D : Dr) (F : List Fm) (hf : Value) (E : List Ev) (he : Value)
theorem tin_any (hl : lim r.v.ms) (Q : T → Obs → Glb → Prop) (hQ : Q (bool (Rep.inR r)) (obsU b r D F hf E he) none_) : TCalls Try.prog 63 [.ptr 0 b 0] (obsU b r D F hf E he) none_ Q := by
  refine TCalls.of Try.func63 rfl (CanCall.of Try.func63 rfl (by decide)) [0,1,2] fun Γ => ?_
  let HH : Nat → Nat → Hint := fun | 1, 12 => told (bool (Rep.inR r)) [] [] | _, _ => .no
  exact run_sound ⟨HH, [], fun | 1 => some ⟨[0], [12], .take true [0,1,2,3,4,5,6,7,8,9,10,11] (.one 12 (.take false [13] .done))⟩ | _ => none⟩ 400 (by kernel_rfl) (Yb b (Yb b (Yb b (Ya (has_any r.v r.self r.life hl (HH 1 12).P fun _ h => told_post h) (Yu hQ)))))
theorem twd_any (k : Nat) (w : Wrd) (Q : T → Obs → Glb → Prop) (hQ : Q (.agg (frC ⟨0, 0, 0, 0, k, w, false, 0⟩)) [] none_) : TCalls Try.prog 71 [u8 k, .agg (wdC w)] [] none_ Q := by
  refine TCalls.of Try.func71 rfl (CanCall.of Try.func71 rfl (by decide)) [] fun Γ => ?_
  let HH : Nat → Nat → Hint := fun _ _ => .no
  exact run_sound ⟨HH, [], fun _ => none⟩ 400 (by kernel_rfl) (fun (Z0 : Nat) => (fun (Z1 : Nat) => (Yb Z0 (Yb Z0 (Yb Z0 (Yk 34 Z1 (Yb Z1 hQ)))))))
theorem tsend_any (kind node : Nat) (f : Fm) (hF : F.length + 1 ≤ 1000000) (Q : T → Obs → Glb → Prop) (hQ : ∀ hf', Q (.tup []) (obsU b r D (F ++ [{ f with kind := kind, frm := Rep.ad r.self, to := Rep.ad node, epoch := r.v.e }]) hf' E he) none_) : TCalls Try.prog 65 [.ptr 0 b 0, u8 kind, u8 node, .agg (frC f)] (obsU b r D F hf E he) none_ Q := by
  refine TCalls.of Try.func65 rfl (CanCall.of Try.func65 rfl (by decide)) [0,1,2] fun Γ => ?_
  let HH : Nat → Nat → Hint := fun  | _, _ => .no
  exact run_sound ⟨HH, [], fun | 3 => some ⟨[0,3], [7,10], .take false [0,1,2,3] (.take true [4,5] (.one 6 (.one 7 (.take false [8,9] (.one 10 .done)))))⟩ | _ => none⟩ 400 (by kernel_rfl) (fun (Z0 : Nat) => (Yb b (Yl 3 (Yb Z0 (Ya (Yn (3) (34) rfl) (Yb b (Yl 1 (Yb Z0 (Ya (Yn (4) (34) rfl) (Yb b (Yb Z0 (Ya (Yb hf (Ye (List.length (List.map (fun x => T.agg (frC x)) F)))) (Ya (Ya (show (List.length (List.map (fun x => T.agg (frC x)) F) + 1) * nat_lit 144 ≤ 140737488355328 by simp only [List.length_map, maxLen]; omega) (show List.length (List.map (fun x => T.agg (frC x)) F) + 1 ≤ maxLen by simp only [List.length_map, maxLen]; omega)) (fun (Z1 : Value) => (Yl 1 (Yb b (Ya (Yn (68) (69) rfl) (show Q (T.tup []) [(b, Ob.cells [u8 r.self, u8 r.life, u32 r.v.e, T.sl 3 (mems r.v.ms), u8 (r.v.L 0), u8 (r.v.L 1), u8 (r.v.L 2), u8 (r.v.L 3), u8 (r.v.L 4), u8 (r.v.L 5), u8 (r.v.L 6), u8 (r.v.L 7), u32 (r.P 0).c.w.s.n, u8 (r.P 0).c.w.s.b, u8 (r.P 0).c.w.s.l, bool ((r.P 0).c.w.h), T.v (Value.string (r.P 0).c.w.t), bool ((r.P 0).c.w.r), int (r.P 0).c.st, u32 (r.P 1).c.w.s.n, u8 (r.P 1).c.w.s.b, u8 (r.P 1).c.w.s.l, bool ((r.P 1).c.w.h), T.v (Value.string (r.P 1).c.w.t), bool ((r.P 1).c.w.r), int (r.P 1).c.st, u32 (r.P 2).c.w.s.n, u8 (r.P 2).c.w.s.b, u8 (r.P 2).c.w.s.l, bool ((r.P 2).c.w.h), T.v (Value.string (r.P 2).c.w.t), bool ((r.P 2).c.w.r), int (r.P 2).c.st, u32 (r.P 3).c.w.s.n, u8 (r.P 3).c.w.s.b, u8 (r.P 3).c.w.s.l, bool ((r.P 3).c.w.h), T.v (Value.string (r.P 3).c.w.t), bool ((r.P 3).c.w.r), int (r.P 3).c.st, u32 (r.P 4).c.w.s.n, u8 (r.P 4).c.w.s.b, u8 (r.P 4).c.w.s.l, bool ((r.P 4).c.w.h), T.v (Value.string (r.P 4).c.w.t), bool ((r.P 4).c.w.r), int (r.P 4).c.st, u32 (r.P 5).c.w.s.n, u8 (r.P 5).c.w.s.b, u8 (r.P 5).c.w.s.l, bool ((r.P 5).c.w.h), T.v (Value.string (r.P 5).c.w.t), bool ((r.P 5).c.w.r), int (r.P 5).c.st, dT (r.P 0).dr (D.g 0), dT (r.P 1).dr (D.g 1), dT (r.P 2).dr (D.g 2), dT (r.P 3).dr (D.g 3), dT (r.P 4).dr (D.g 4), dT (r.P 5).dr (D.g 5), int (r.P 0).age, int (r.P 1).age, int (r.P 2).age, int (r.P 3).age, int (r.P 4).age, int (r.P 5).age, T.gp D.t 0, T.slx 34 1 (List.map (fun x => T.agg (frC x)) F ++ [T.agg [u8 kind, u8 (IntKind.wrap IntKind.u8 ((16 : Int) + (↑r.self : Int))), u8 (IntKind.wrap IntKind.u8 ((16 : Int) + (↑node : Int))), u32 r.v.e, u8 f.key, u32 f.w.s.n, u8 f.w.s.b, u8 f.w.s.l, bool f.w.h, T.v (Value.string f.w.t), bool f.w.r, bool f.flag, u8 f.dir, u8 (0 : Int), u32 (0 : Int), u32 (0 : Int), u8 (0 : Int), u32 (0 : Int), u8 (0 : Int), u8 (0 : Int), u8 (0 : Int), u32 (0 : Int), u32 (0 : Int), u32 (0 : Int), T.v (Value.slice none 0 0), u8 (0 : Int), u8 (0 : Int), u8 (0 : Int), u8 (0 : Int), u8 (0 : Int), u8 (0 : Int), u8 (0 : Int), u8 (0 : Int), T.v (Value.slice none 0 0)]]) Z1, T.slx 5 2 (List.map (fun x => T.agg (evC x)) E) he]), (0, Ob.room 34 70 (List.length (List.map (fun x => T.agg (frC x)) F ++ [T.agg [u8 kind, u8 (IntKind.wrap IntKind.u8 ((16 : Int) + (↑r.self : Int))), u8 (IntKind.wrap IntKind.u8 ((16 : Int) + (↑node : Int))), u32 r.v.e, u8 f.key, u32 f.w.s.n, u8 f.w.s.b, u8 f.w.s.l, bool f.w.h, T.v (Value.string f.w.t), bool f.w.r, bool f.flag, u8 f.dir, u8 (0 : Int), u32 (0 : Int), u32 (0 : Int), u8 (0 : Int), u32 (0 : Int), u8 (0 : Int), u8 (0 : Int), u8 (0 : Int), u32 (0 : Int), u32 (0 : Int), u32 (0 : Int), T.v (Value.slice none 0 0), u8 (0 : Int), u8 (0 : Int), u8 (0 : Int), u8 (0 : Int), u8 (0 : Int), u8 (0 : Int), u8 (0 : Int), u8 (0 : Int), T.v (Value.slice none 0 0)]])) Z1), (0, Ob.room 5 73 (List.length (List.map (fun x => T.agg (evC x)) E)) he)] fun x => none by have h2 := hQ Z1; simp only [obsU, repU, Row.aggs, List.map_append, List.map_cons, List.map_nil] at h2; exact h2))))))))))))))))))
end
def tsH (b : Nat) (r : RS) (D : Dr) (F : List Fm) (E : List Ev) (he : Value) (f : Fm) : Hint := .call false Value (fun _ => True) [0,1,2] false (fun _ => .tup []) (fun hf => obsU b r D (F ++ [f]) hf E he) (fun _ => none_)
theorem tsend1 (b : Nat) (r : RS) (D : Dr) (F : List Fm) (hf : Value) (E : List Ev) (he : Value) (kind node k : Nat) (w : Wrd) (fl : Bool) (dir : Nat) (x1 x2 x3 : Nat) (x4 : Int) (hF : F.length + 1 ≤ 1000000) : TCalls Try.prog 65 [.ptr 0 b 0, u8 kind, u8 node, .agg (frC ⟨x1, x2, x3, x4, k, w, fl, dir⟩)] (obsU b r D F hf E he) none_ (callPost (.call false Value (fun _ => True) [0,1,2] false (fun _ => .tup []) (fun hf => obsU b r D (F ++ [Rep.frW r kind node k w fl dir]) hf E he) (fun _ => none_))) :=
  tsend_any b r D F hf E he kind node ⟨x1, x2, x3, x4, k, w, fl, dir⟩ hF _ fun v => ⟨v, trivial, rfl, rfl, Nat.le_of_ble_eq_true rfl, fun h => by cases h⟩
theorem tout_any (b : Nat) (r : RS) (D : Dr) (F : List Fm) (hf : Value) (E : List Ev) (he : Value) (k : Nat) (hk : k < 6) (d : Drv) (hd : (r.P k).dr = some d) (gl : Glb) (hle : Lies gl (D.g k) (D.m k) d) (hl : lim r.v.ms) (hF : F.length + 2 ≤ 1000000) (Q : T → Obs → Glb → Prop) (hQ : ∀ hf', Q (.tup []) (obsU b r D (F ++ Rep.sent r k d.w) hf' E he) gl) :
    TCalls Try.prog 68 [.ptr 0 b 0, u8 k] (obsU b r D F hf E he) gl Q := by
  have hdT : dT (r.P k).dr (D.g k) = .gp (D.g k) 0 := dT_some hd _
  have hen := ends_any r.v r.self hl
  unfold Rep.sent at hQ
  generalize aheadV r.v.ms r.self = a at *
  generalize behindV r.v.ms r.self = c at *
  by_cases ha : a = 0
  · by_cases hc : c = 0
    · have q2 := hQ hf
      clear hQ
      simp only [if_pos ha, if_pos hc, List.append_nil] at q2
      subst ha hc
      refine TCalls.of Try.func68 rfl (CanCall.of Try.func68 rfl (by decide)) [0,1,2] fun Γ => ?_
      let HH : Nat → Nat → Hint := fun | 0, 8 => told (.tup [u8 (0 : Nat), u8 (0 : Nat)]) [] [] | 1, 6 => .res (.gp (D.g k) 0) | 1, 7 => wordG d gl | 1, 8 => told (.agg (frC ⟨0, 0, 0, 0, k, d.w, false, 0⟩)) [] [] | _, _ => .no
      exact run_sound ⟨HH, [], plRpT0⟩ 400 (by kernel_rfl) (Yb b (Yb b (Ya (hen (HH 0 8).P fun _ h => told_post h) (Yu (Yi (↑k : Int) 6 (by omega) (Yb b (Ya (show (List.drop (54 + Int.toNat (↑k : Int) * nat_lit 1) (repU r D F hf E he))[0]? = some (T.gp (D.g k) 0) by rw [← hdT]; rcases six hk with rfl | rfl | rfl | rfl | rfl | rfl <;> rfl) (Ya (dwordG hle (HH 1 7).P (toldG_post rfl)) (Yu (Ya (twd_any k d.w (HH 1 8).P (told_post rfl)) (Yu (fun (Z0 : Nat) => (Yk 34 Z0 q2)))))))))))))
    · rw [if_pos ha, if_neg hc, List.nil_append] at hQ
      subst ha
      refine TCalls.of Try.func68 rfl (CanCall.of Try.func68 rfl (by decide)) [0,1,2] fun Γ => ?_
      let HH : Nat → Nat → Hint := fun | 0, 8 => told (.tup [u8 (0 : Nat), u8 c]) [] [] | 1, 6 => .res (.gp (D.g k) 0) | 1, 7 => wordG d gl | 1, 8 => told (.agg (frC ⟨0, 0, 0, 0, k, d.w, false, 0⟩)) [] [] | 7, 3 => tsH b r D F E he (Rep.frW r 1 c k d.w false 2) | _, _ => .no
      let z0 := Fm.mk 0 0 0 (0 : Int) k d.w false 0
      let z1 := [(b, Ob.cells (repU r D F hf E he)), (0, Ob.room 34 70 (List.length (List.map (fun x => T.agg (frC x)) F)) hf), (0, Ob.room 5 73 (List.length (List.map (fun x => T.agg (evC x)) E)) he)]
      exact run_sound ⟨HH, [], plRpT0⟩ 400 (by kernel_rfl) (Yb b (Yb b (Ya (hen (HH 0 8).P fun _ h => told_post h) (Yu (Yi (↑k : Int) 6 (by omega) (Yb b (Ya (show (List.drop (54 + Int.toNat (↑k : Int) * nat_lit 1) (repU r D F hf E he))[0]? = some (T.gp (D.g k) 0) by rw [← hdT]; rcases six hk with rfl | rfl | rfl | rfl | rfl | rfl <;> rfl) (Ya (dwordG hle (HH 1 7).P (toldG_post rfl)) (Yu (Ya (twd_any k d.w (HH 1 8).P (told_post rfl)) (Yu (fun (Z0 : Nat) => (Yk 34 Z0 (Ys ((↑c : Int) != (0 : Int)) (fun Z1 => (Yl 1 (Yb Z0 (Ya (Yn (13) (34) rfl) (Yb Z0 (Ya (show TCalls Try.prog 65 [T.ptr 0 b 0, u8 (1 : Int), u8 c, T.agg [u8 z0.kind, u8 z0.frm, u8 z0.to, u32 (z0.epoch), u8 z0.key, u32 z0.w.s.n, u8 z0.w.s.b, u8 z0.w.s.l, bool (z0.w.h), T.v (Value.string z0.w.t), bool (z0.w.r), bool false, u8 (2 : Int), u8 (0 : Int), u32 (0 : Int), u32 (0 : Int), u8 (0 : Int), u32 (0 : Int), u8 (0 : Int), u8 (0 : Int), u8 (0 : Int), u32 (0 : Int), u32 (0 : Int), u32 (0 : Int), T.v (Value.slice none 0 0), u8 (0 : Int), u8 (0 : Int), u8 (0 : Int), u8 (0 : Int), u8 (0 : Int), u8 (0 : Int), u8 (0 : Int), u8 (0 : Int), T.v (Value.slice none 0 0)]] z1 none_ (callPost (Hint.call false Value (fun x => True) [0,1,2] false (fun x => T.tup []) (fun hf => obsU b r D (F ++ [Rep.frW r 1 c k d.w false 2]) hf E he) fun x => none_)) from tsend1 b r D F hf E he 1 c k d.w false 2 0 0 0 0 (by omega)) (fun (Z2 : Value) => (fun (Z3 : True) => (hQ Z2))))))))) (fun Z4 => (show Q (T.tup []) z1 gl by exfalso; simp only [bne_eq_false_iff_eq] at *; omega))))))))))))))))
  · by_cases hc : c = 0
    · rw [if_neg ha, if_pos hc, List.append_nil] at hQ
      subst hc
      refine TCalls.of Try.func68 rfl (CanCall.of Try.func68 rfl (by decide)) [0,1,2] fun Γ => ?_
      let HH : Nat → Nat → Hint := fun | 0, 8 => told (.tup [u8 a, u8 (0 : Nat)]) [] [] | 1, 6 => .res (.gp (D.g k) 0) | 1, 7 => wordG d gl | 1, 8 => told (.agg (frC ⟨0, 0, 0, 0, k, d.w, false, 0⟩)) [] [] | 4, 3 => tsH b r D F E he (Rep.frW r 1 a k d.w false 1) | _, _ => .no
      let z0 := Fm.mk 0 0 0 (0 : Int) k d.w false 0
      let z1 := [(b, Ob.cells (repU r D F hf E he)), (0, Ob.room 34 70 (List.length (List.map (fun x => T.agg (frC x)) F)) hf), (0, Ob.room 5 73 (List.length (List.map (fun x => T.agg (evC x)) E)) he)]
      exact run_sound ⟨HH, [], plRpT0⟩ 400 (by kernel_rfl) (Yb b (Yb b (Ya (hen (HH 0 8).P fun _ h => told_post h) (Yu (Yi (↑k : Int) 6 (by omega) (Yb b (Ya (show (List.drop (54 + Int.toNat (↑k : Int) * nat_lit 1) (repU r D F hf E he))[0]? = some (T.gp (D.g k) 0) by rw [← hdT]; rcases six hk with rfl | rfl | rfl | rfl | rfl | rfl <;> rfl) (Ya (dwordG hle (HH 1 7).P (toldG_post rfl)) (Yu (Ya (twd_any k d.w (HH 1 8).P (told_post rfl)) (Yu (fun (Z0 : Nat) => (Yk 34 Z0 (Ys ((↑a : Int) != (0 : Int)) (fun Z1 => (Yl 1 (Yb Z0 (Ya (Yn (13) (34) rfl) (Yb Z0 (Ya (show TCalls Try.prog 65 [T.ptr 0 b 0, u8 (1 : Int), u8 a, T.agg [u8 z0.kind, u8 z0.frm, u8 z0.to, u32 (z0.epoch), u8 z0.key, u32 z0.w.s.n, u8 z0.w.s.b, u8 z0.w.s.l, bool (z0.w.h), T.v (Value.string z0.w.t), bool (z0.w.r), bool false, u8 (1 : Int), u8 (0 : Int), u32 (0 : Int), u32 (0 : Int), u8 (0 : Int), u32 (0 : Int), u8 (0 : Int), u8 (0 : Int), u8 (0 : Int), u32 (0 : Int), u32 (0 : Int), u32 (0 : Int), T.v (Value.slice none 0 0), u8 (0 : Int), u8 (0 : Int), u8 (0 : Int), u8 (0 : Int), u8 (0 : Int), u8 (0 : Int), u8 (0 : Int), u8 (0 : Int), T.v (Value.slice none 0 0)]] z1 none_ (callPost (Hint.call false Value (fun x => True) [0,1,2] false (fun x => T.tup []) (fun hf => obsU b r D (F ++ [Rep.frW r 1 a k d.w false 1]) hf E he) fun x => none_)) from tsend1 b r D F hf E he 1 a k d.w false 1 0 0 0 0 (by omega)) (fun (Z2 : Value) => (fun (Z3 : True) => (hQ Z2))))))))) (fun Z4 => (show Q (T.tup []) z1 gl by exfalso; simp only [bne_eq_false_iff_eq] at *; omega))))))))))))))))
    · rw [if_neg ha, if_neg hc, ← List.append_assoc] at hQ
      have hl1 : (F ++ [Rep.frW r 1 a k d.w false 1]).length + 1 ≤ 1000000 := by simp; omega
      have hs1 := tsend1 b r D F hf E he 1 a k d.w false 1 0 0 0 0 (by omega)
      generalize hG : F ++ [Rep.frW r 1 a k d.w false 1] = G at *
      refine TCalls.of Try.func68 rfl (CanCall.of Try.func68 rfl (by decide)) [0,1,2] fun Γ => ?_
      let HH : Nat → Nat → Hint := fun | 0, 8 => told (.tup [u8 a, u8 c]) [] [] | 1, 6 => .res (.gp (D.g k) 0) | 1, 7 => wordG d gl | 1, 8 => told (.agg (frC ⟨0, 0, 0, 0, k, d.w, false, 0⟩)) [] [] | 4, 3 => .call false Value (fun _ => True) [0,1,2] false (fun _ => .tup []) (fun hf => obsU b r D G hf E he) (fun _ => none_) | 7, 3 => tsH b r D G E he (Rep.frW r 1 c k d.w false 2) | _, _ => .no
      let z0 := Fm.mk 0 0 0 (0 : Int) k d.w false 0
      let z2 := (0, Ob.room 5 73 (List.length (List.map (fun x => T.agg (evC x)) E)) he)
      let z1 := [(b, Ob.cells (repU r D F hf E he)), (0, Ob.room 34 70 (List.length (List.map (fun x => T.agg (frC x)) F)) hf), z2]
      exact run_sound ⟨HH, [], plRpT0⟩ 400 (by kernel_rfl) (Yb b (Yb b (Ya (hen (HH 0 8).P fun _ h => told_post h) (Yu (Yi (↑k : Int) 6 (by omega) (Yb b (Ya (show (List.drop (54 + Int.toNat (↑k : Int) * nat_lit 1) (repU r D F hf E he))[0]? = some (T.gp (D.g k) 0) by rw [← hdT]; rcases six hk with rfl | rfl | rfl | rfl | rfl | rfl <;> rfl) (Ya (dwordG hle (HH 1 7).P (toldG_post rfl)) (Yu (Ya (twd_any k d.w (HH 1 8).P (told_post rfl)) (Yu (fun (Z0 : Nat) => (Yk 34 Z0 (Ys ((↑a : Int) != (0 : Int)) (fun Z1 => (Yl 1 (Yb Z0 (Ya (Yn (13) (34) rfl) (Yb Z0 (Ya hs1 (fun (Z2 : Value) => (fun (Z3 : True) => (Ys ((↑c : Int) != (0 : Int)) (fun Z4 => (Yl 1 (Yb Z0 (Ya (Yn (13) (34) rfl) (Yb Z0 (Ya (tsend1 b r D G Z2 E he 1 c k d.w false 2 0 0 0 0 hl1) (fun (Z5 : Value) => (fun (Z6 : True) => (hQ Z5))))))))) (fun Z7 => (show Q (T.tup []) [(b, Ob.cells (repU r D G Z2 E he)), (0, Ob.room 34 70 (List.length (List.map (fun x => T.agg (frC x)) G)) Z2), z2] gl by exfalso; simp only [bne_iff_ne, bne_eq_false_iff_eq] at *; omega))))))))))) (fun Z8 => (Ys ((↑c : Int) != (0 : Int)) (fun Z9 => (Yl 1 (Yb Z0 (Ya (Yn (13) (34) rfl) (Yb Z0 (Ya (show TCalls Try.prog 65 [T.ptr 0 b 0, u8 (1 : Int), u8 c, T.agg [u8 z0.kind, u8 z0.frm, u8 z0.to, u32 (z0.epoch), u8 z0.key, u32 z0.w.s.n, u8 z0.w.s.b, u8 z0.w.s.l, bool (z0.w.h), T.v (Value.string z0.w.t), bool (z0.w.r), bool false, u8 (2 : Int), u8 (0 : Int), u32 (0 : Int), u32 (0 : Int), u8 (0 : Int), u32 (0 : Int), u8 (0 : Int), u8 (0 : Int), u8 (0 : Int), u32 (0 : Int), u32 (0 : Int), u32 (0 : Int), T.v (Value.slice none 0 0), u8 (0 : Int), u8 (0 : Int), u8 (0 : Int), u8 (0 : Int), u8 (0 : Int), u8 (0 : Int), u8 (0 : Int), u8 (0 : Int), T.v (Value.slice none 0 0)]] z1 none_ (callPost (Hint.call false Value (fun x => True) [0,1,2] false (fun x => T.tup []) (fun hf => obsU b r D (G ++ [Rep.frW r 1 c k d.w false 2]) hf E he) fun x => none_)) by exfalso; simp only [bne_iff_ne, bne_eq_false_iff_eq] at *; omega) (fun (Z10 : Value) => (fun (Z11 : True) => (hQ Z10))))))))) (fun Z12 => (show Q (T.tup []) z1 gl by exfalso; simp only [bne_iff_ne, bne_eq_false_iff_eq] at *; omega))))))))))))))))))
end X20
end Go.Proofs.Ytafcbipmmjegcaa.Vm
namespace Go.Proofs.Ytafcbipmmjegcaa.Vm
open Go Go.RowKit
set_option maxRecDepth 100000
noncomputable abbrev kRpU0 (l : List Nat) : It := .code (sub (bd Try.f66) l)
noncomputable abbrev wRpU1 (Γ : Ctx) (Q : T → Obs → Glb → Prop) : List It → S → Prop := TWk Try.prog Γ (fin Try.prog Try.f66 [0, 1, 2] Q)
def plRpU0 : Nat → Option RPlan := fun | 1 => some ⟨[], [8], .take true [0,1,2,3,4,5,6,7] (.one 8 (.take false [9] .done))⟩ | 6 => some ⟨[], [11, 14], .take false [0,1,2,3,5,6] (.take true [4] (.one 7 (.take true [8,9] (.one 10 (.one 11 (.take false [12,13] (.one 14 .done)))))))⟩ | 7 => some ⟨[], [], .take true [0,1,2,3,4,5,6,7,8] (.one 9 (.take true [10,11,12,13,14,15] .done))⟩ | 8 => some ⟨[], [11, 18], .take false [0,1,2,3,4,5,6,8,15,16] (.take true [7] (.one 9 (.take true [10] (.one 11 (.take false [12,13,14,17] (.one 18 .done))))))⟩ | 12 => some ⟨[], [10], .take true [0,1,2,3,4,5,6] (.one 7 (.take true [8,9] (.one 10 .done)))⟩ | _ => none
namespace X20
open Rep (Stp Wrd Cel Drv Plc RS Fm Ev setP setC)
open View (Mem VS)
open X5 (viewC lim mems othV hasV aheadV behindV has_any others_any ends_any)
theorem tlk_loop (Γ : Ctx) (b : Nat) (r : RS) (D : Dr) (E : List Ev) (he : Value) (k g m : Nat) (d : Drv) (gl : Glb) (hle : Lies gl g m d) (L : List Nat) (Q : T → Obs → Glb → Prop) (F0 : List Fm) (hF : F0.length + L.length + 1 ≤ 1000000) (hQ : ∀ hf', Q (.tup []) (obsU b r D (F0 ++ val3 r k d.w.s L) hf' E he) gl) :
    ∀ (x p : List Nat) (i : Int) (hf : Value), L = p ++ x → i = p.length →
    wRpU1 Γ Q [kRpU0 [1,1,1,1,1,1,1,0,1,1,0], .blk 0] ⟨frame 104 [(0, .ptr 0 b 0), (1, u8 k), (4, .gp g 0), (5, .sl 1 (X5.u8s L)), (8, int i)], obsU b r D (F0 ++ val3 r k d.w.s p) hf E he, gl⟩ := by
  intro x
  induction x with
  | nil =>
    intro p i hf h1 hi
    have hLi : (L.length : Int) = i := by rw [h1, hi]; simp
    have hQ := hQ hf
    have l1 : (X5.u8s L).length = L.length := X5.u8s_len L
    rw [show p = L by simp [h1]]
    clear h1
    generalize X5.u8s L = U at *
    generalize F0 ++ val3 r k d.w.s L = G at *
    subst hLi
    let HH : Nat → Nat → Hint := fun | 12, 3 => .res (u8 0) | 12, 7 => .no | 12, 10 => .no | _, _ => .no
    exact run_sound ⟨HH, [((2, 10), ([0,1,4,5,8], 3))], plRpU0⟩ 400 (by kernel_rfl) (Ys (decide ((↑(List.length L) : Int) < (↑(List.length U) : Int))) (fun Z0 => (Ya (show (0 : Int) ≤ (↑(List.length L) : Int) by omega) (Ya (show U[Int.toNat (↑(List.length L) : Int)]? = some (u8 (0 : Int)) by exfalso; rw [l1] at Z0; simp at Z0; done) (show False by exfalso; rw [l1] at Z0; simp at Z0; done)))) (fun Z1 => hQ))
  | cons y x ih =>
    intro p i hf h1 hi
    have hLi : i < (L.length : Int) := by rw [h1, hi]; simp; omega
    have hL0 : L.length ≤ 1000000 := by omega
    have hw : IntKind.wrap .i64 (i + 1) = i + 1 := wrap_i64 (by omega) (by omega)
    have e1 : (X5.u8s L)[i.toNat]? = some (u8 y) := u8s_at (by rw [h1, hi]; simp)
    have l1 : (X5.u8s L).length = L.length := X5.u8s_len L
    have hl : (F0 ++ val3 r k d.w.s p).length + 1 ≤ 1000000 := by
      have : L.length = p.length + (x.length + 1) := by rw [h1]; simp
      simp [val3]; omega
    have nx := fun hf => ih (p ++ [y]) (i + 1) hf (by simp [h1]) (by simp [hi])
    rw [show F0 ++ val3 r k d.w.s (p ++ [y]) = (F0 ++ val3 r k d.w.s p) ++ [Rep.frW r 3 y k (Rep.zS d.w.s) false 0] by simp [val3]] at nx
    have hs1 := tsend1 b r D (F0 ++ val3 r k d.w.s p) hf E he 3 y k (Rep.zS d.w.s) false 0 0 0 0 0 hl
    clear ih h1
    generalize X5.u8s L = U at *
    generalize F0 ++ val3 r k d.w.s p = G at *
    let HH : Nat → Nat → Hint := fun | 12, 3 => .res (u8 y) | 12, 7 => wordG d gl | 12, 10 => tsH b r D G E he (Rep.frW r 3 y k (Rep.zS d.w.s) false 0) | 11, 1 => .res (int (i + 1)) | _, _ => .no
    exact run_sound ⟨HH, [((2, 10), ([0,1,4,5,8], 3))], fun | 12 => some ⟨[], [7,10], .take false [0,1,2,3,5,6] (.two 4 7 (.one 7 (.take false [8,9] (.one 10 .done))) (.take false [8,9] (.one 4 (.one 10 .done))))⟩ | n => plRpU0 n⟩ 400 (by kernel_rfl) (Ys (decide (i < (↑(List.length U) : Int))) (fun Z0 => (Ya (show (0 : Int) ≤ i by omega) (Ya e1 (Ya (Ya (dwordG hle (HH 12 7).P (toldG_post rfl)) (Yu (Ya hs1 (fun (Z1 : Value) => (fun (Z2 : True) => (Ya (congrArg int hw) (nx Z1))))))) (Ya (dwordG hle (HH 12 7).P (toldG_post rfl)) (Yu (Ya hs1 (fun (Z3 : Value) => (fun (Z4 : True) => (Ya (congrArg int hw) (nx Z3))))))))))) (fun Z5 => (show Q (T.tup []) [(b, Ob.cells (repU r D G hf E he)), (0, Ob.room 34 70 (List.length (List.map (fun x => T.agg (frC x)) G)) hf), (0, Ob.room 5 73 (List.length (List.map (fun x => T.agg (evC x)) E)) he)] gl by exfalso; have := of_decide_eq_false Z5; omega)))
theorem tlk7 (Γ : Ctx) (b : Nat) (r : RS) (D : Dr) (F : List Fm) (hf : Value) (E : List Ev) (he : Value) (k : Nat) (hk : k < 6) (g m : Nat) (d : Drv) (gl : Glb) (hle : Lies gl g m d) (hF : F.length + (Rep.oth r).length + 1 ≤ 1000000) (Q : T → Obs → Glb → Prop)
    (hQ0 : ¬ ((r.P k).c.w.s = d.w.s ∧ d.cov = false) → Q (.tup []) (obsU b r D F hf E he) gl)
    (hQ1 : (r.P k).c.w.s = d.w.s ∧ d.cov = false → ∀ hf', Q (.tup []) (obsU b (setC r k (Rep.val (r.P k).c d.w.s).1) D (F ++ val3 r k d.w.s (Rep.oth r)) hf' E he) gl) :
    wRpU1 Γ Q [kRpU0 [1,1,1,1,1,1]] ⟨frame 104 [(0, .ptr 0 b 0), (1, u8 k), (4, .gp g 0), (5, .sl 1 (X5.u8s (Rep.oth r))), (7, bool d.cov)], obsU b r D F hf E he, gl⟩ := by
  by_cases hc : (r.P k).c.w.s = d.w.s ∧ d.cov = false
  · have q1 := hQ1 hc
    clear hQ0 hQ1
    obtain ⟨hs, hcv⟩ := hc
    obtain ⟨r1, hr1⟩ : ∃ r1, r1 = setC r k (Rep.val (r.P k).c d.w.s).1 := ⟨_, rfl⟩
    rw [← hr1] at q1
    have e1 : Rep.oth r1 = Rep.oth r := by rw [hr1]; rfl
    have e3 : ∀ s l, val3 r k s l = val3 r1 k s l := fun s l => by rw [hr1]; rfl
    rw [e3] at q1
    have lp := tlk_loop Γ b r1 D E he k g m d gl hle (Rep.oth r) Q F hF q1 (Rep.oth r) [] 0 hf rfl rfl
    rw [show ∀ s, F ++ val3 r1 k s [] = F from fun s => by simp [val3]] at lp
    have hval := val_any (r.P k).c d.w.s
    clear q1
    let HH : Nat → Nat → Hint := fun | 7, 7 => .res (.agg (stC (r.P k).c.w.s)) | 7, 9 => wordG d gl | 8, 7 => .res (.agg (clC (r.P k).c)) | 8, 9 => wordG d gl | 8, 11 => told (vlT (Rep.val (r.P k).c d.w.s)) [] [] | 8, 18 => .obj (repU r1 D F hf E he) | _, _ => .no
    let z0 := [(b, Ob.cells (repU r D F hf E he)), (0, Ob.room 34 70 (List.length (List.map (fun x => T.agg (frC x)) F)) hf), (0, Ob.room 5 73 (List.length (List.map (fun x => T.agg (evC x)) E)) he)]
    exact run_sound ⟨HH, [((2, 10), ([0,1,4,5,8], 3))], fun | 7 => some ⟨[0], [], .take true [0,1,2,3,4,5,6,7,8] (.one 9 (.take true [10,11,12,13,14,15] .done))⟩ | 8 => some ⟨[0], [11,18], .take false [0,1,2,3,4,5,6,8,15,16] (.take true [7] (.one 9 (.take true [10] (.one 11 (.take false [12,13,14,17] (.one 18 .done))))))⟩ | n => plRpU0 n⟩ 400 (by kernel_rfl) (Yi (↑k : Int) 6 (by omega) (Yb b (Ya (show (if List.length (List.drop (12 + Int.toNat (↑k : Int) * nat_lit 7 + nat_lit 0 + nat_lit 0) (repU r D F hf E he)) < (fun x => x.size) Try.prog.types[51] then none else some (T.agg (List.take (nat_lit 3) (List.drop (12 + Int.toNat (↑k : Int) * nat_lit 7 + nat_lit 0 + nat_lit 0) (repU r D F hf E he))))) = some (T.agg (stC (r.P k).c.w.s)) by clear lp hval; rcases six hk with rfl | rfl | rfl | rfl | rfl | rfl <;> rfl) (Ya (dwordG hle (HH 7 9).P (toldG_post rfl)) (Yu (Ys ((↑(r.P k).c.w.s.n : Int) == (↑d.w.s.n : Int) && ((↑(r.P k).c.w.s.b : Int) == (↑d.w.s.b : Int) && true) && ((↑(r.P k).c.w.s.l : Int) == (↑d.w.s.l : Int) && true)) (fun Z0 => (Ys (!d.cov) (fun Z1 => (Yi (↑k : Int) 6 (by omega) (Yb b (Ya (show (if List.length (List.drop (12 + Int.toNat (↑k : Int) * nat_lit 7) (repU r D F hf E he)) < (fun x => x.size) Try.prog.types[57] then none else some (T.agg (List.take (nat_lit 7) (List.drop (12 + Int.toNat (↑k : Int) * nat_lit 7) (repU r D F hf E he))))) = some (T.agg (clC (r.P k).c)) by clear lp hval; rcases six hk with rfl | rfl | rfl | rfl | rfl | rfl <;> rfl) (Ya (dwordG hle (HH 7 9).P (toldG_post rfl)) (Yu (Ya (hval (HH 8 11).P fun _ h => told_post h) (Yu (Yi (↑k : Int) 6 (by omega) (Yl 7 (Yb b (Ya (show 12 + Int.toNat (↑k : Int) * nat_lit 7 + nat_lit 7 ≤ 69 by clear lp hval; rcases six hk with rfl | rfl | rfl | rfl | rfl | rfl <;> exact Nat.le_of_ble_eq_true rfl) (Ya (show setCells (repU r D F hf E he) (12 + Int.toNat (↑k : Int) * nat_lit 7) (clC (Rep.val (r.P k).c d.w.s).fst) = repU r1 D F hf E he by rw [hr1]; clear lp hval; rcases six hk with rfl | rfl | rfl | rfl | rfl | rfl <;> rfl) lp))))))))))))) (fun Z2 => (show Q (T.tup []) z0 gl by exfalso; rw [hcv] at Z2; simp at Z2; done)))) (fun Z3 => (show Q (T.tup []) z0 gl by exfalso; rw [hs, st_eq2] at Z3; simp at Z3; done))))))))
  · have q0 := hQ0 hc
    clear hQ0 hQ1
    let HH : Nat → Nat → Hint := fun | 7, 7 => .res (.agg (stC (r.P k).c.w.s)) | 7, 9 => wordG d gl | 8, 7 => .res .und | _, _ => .no
    exact run_sound ⟨HH, [((0, 8), ([0,1,4,5], 3))], fun | 7 => some ⟨[0], [], .take true [0,1,2,3,4,5,6,7,8] (.one 9 (.take true [10,11,12,13,14,15] .done))⟩ | 8 => some ⟨[0], [11,18], .take false [0,1,2,3,4,5,6,8,15,16] (.take true [7] (.one 9 (.take true [10] (.one 11 (.take false [12,13,14,17] (.one 18 .done))))))⟩ | n => plRpU0 n⟩ 400 (by kernel_rfl) (Yi (↑k : Int) 6 (by omega) (Yb b (Ya (show (if List.length (List.drop (12 + Int.toNat (↑k : Int) * nat_lit 7 + nat_lit 0 + nat_lit 0) (repU r D F hf E he)) < (fun x => x.size) Try.prog.types[51] then none else some (T.agg (List.take (nat_lit 3) (List.drop (12 + Int.toNat (↑k : Int) * nat_lit 7 + nat_lit 0 + nat_lit 0) (repU r D F hf E he))))) = some (T.agg (stC (r.P k).c.w.s)) by rcases six hk with rfl | rfl | rfl | rfl | rfl | rfl <;> rfl) (Ya (dwordG hle (HH 7 9).P (toldG_post rfl)) (Yu (Ys ((↑(r.P k).c.w.s.n : Int) == (↑d.w.s.n : Int) && ((↑(r.P k).c.w.s.b : Int) == (↑d.w.s.b : Int) && true) && ((↑(r.P k).c.w.s.l : Int) == (↑d.w.s.l : Int) && true)) (fun Z0 => (Ys (!d.cov) (fun Z1 => (show wRpU1 Γ Q [kRpU0 [1,1,1,1,1,1,1,0]] (S.mk (frame 104 [(0, T.ptr 0 b 0), (1, u8 k), (4, T.gp g 0), (5, T.sl 1 (X5.u8s (Rep.oth r)))]) [(b, Ob.cells (repU r D F hf E he)), (0, Ob.room 34 70 (List.length (List.map (fun x => T.agg (frC x)) F)) hf), (0, Ob.room 5 73 (List.length (List.map (fun x => T.agg (evC x)) E)) he)] gl) by exfalso; rw [st_eq2] at Z0; simp at Z0 Z1; exact hc ⟨Z0, Z1⟩)) (fun Z2 => q0))) (fun Z3 => q0)))))))
theorem tlook_any (b : Nat) (r : RS) (D : Dr) (F : List Fm) (hf : Value) (E : List Ev) (he : Value) (k : Nat) (hk : k < 6) (d : Drv) (hd : (r.P k).dr = some d) (gl : Glb) (ho : Own D r gl) (hl : lim r.v.ms) (hF : F.length + (Rep.oth r).length + 1 ≤ 1000000) (hE : E.length + 1 ≤ 1000000) (Q : T → Obs → Glb → Prop) (hQ : ∀ hf' he', Q (.tup []) (obsU b (Rep.look r k).1 D (F ++ (Rep.look r k).2.1) hf' (E ++ (Rep.look r k).2.2) he') gl) :
    TCalls Try.prog 66 [.ptr 0 b 0, u8 k] (obsU b r D F hf E he) gl Q := by
  have hle := ho.dr k hk d hd
  have hdT : dT (r.P k).dr (D.g k) = .gp (D.g k) 0 := dT_some hd _
  have hlen : (Rep.oth r).length ≤ 1000000 := Nat.le_trans (X5.othV_len _ _) hl
  have hot := others_any r.v r.self hl
  cases hdn : Rep.doneD d (Rep.oth r) with
  | false =>
    have hQ := hQ hf he
    rw [show Rep.look r k = (r, [], []) by unfold Rep.look; rw [hd]; simp [hdn]] at hQ
    simp only [List.append_nil] at hQ
    refine TCalls.of Try.func66 rfl (CanCall.of Try.func66 rfl (by decide)) [0,1,2] fun Γ => ?_
    let HH : Nat → Nat → Hint := fun | 0, 5 => .res (.gp (D.g k) 0) | 1, 8 => told (.sl 1 (X5.u8s (Rep.oth r))) [] [] | 2, 2 => toldG (.tup [bool false, bool d.cov]) [] [] gl | _, _ => .no
    exact run_sound ⟨HH, [], fun | 1 => some ⟨[0], [8], .take true [0,1,2,3,4,5,6,7] (.one 8 (.take false [9] .done))⟩ | n => plRpU0 n⟩ 400 (by kernel_rfl) (Yi (↑k : Int) 6 (by omega) (Yb b (Ya (show (List.drop (54 + Int.toNat (↑k : Int) * nat_lit 1) (repU r D F hf E he))[0]? = some (T.gp (D.g k) 0) by rcases six hk with rfl | rfl | rfl | rfl | rfl | rfl <;> (rw [← hdT]; rfl)) (Yb b (Yb b (Ya (hot (HH 1 8).P fun _ h => told_post h) (Yu (Ya (ddoneG hle (Rep.oth r) hlen (HH 2 2).P (toldG_post (by rw [hdn]))) (Yu hQ)))))))))
  | true =>
    obtain ⟨r1, hr1⟩ : ∃ r1, r1 = setP r k { r.P k with dr := none } := ⟨_, rfl⟩
    have hlk : Rep.look r k = if (r1.P k).c.w.s = d.w.s ∧ d.cov = false then (setC r1 k (Rep.val (r1.P k).c d.w.s).1, val3 r1 k d.w.s (Rep.oth r1), if d.own then [⟨k, 1, d.w.s⟩] else []) else (r1, [], if d.own then [⟨k, 1, d.w.s⟩] else []) := by
      unfold Rep.look
      rw [hd]
      simp only [hdn, if_true]
      have h1 : r1.P k = { r.P k with dr := none } := by rw [hr1, P_at]
      have h2 : ∀ c, setC r1 k c = setP r k { r.P k with dr := none, c := c } := fun c => by
        unfold setC
        rw [h1, hr1]
        unfold setP
        simp only [Rep.put_put]
      rw [h2, h1, ← hr1]
      rw [show val3 r1 k d.w.s (Rep.oth r1) = (Rep.oth r).map fun n => Rep.frW r 3 n k (Rep.zS d.w.s) false 0 by rw [hr1]; rfl]
    have eo : Rep.oth r1 = Rep.oth r := by rw [hr1]; rfl
    have lp := fun Γ E he hq0 hq1 => tlk7 Γ b r1 D F hf E he k hk (D.g k) (D.m k) d gl hle (by rw [eo]; exact hF) Q hq0 hq1
    rw [eo] at lp
    cases hown : d.own with
    | false =>
      have lp := fun Γ => lp Γ E he (fun hn => by have := hQ hf he; rw [hlk, if_neg hn, hown] at this; simpa using this) (fun hy hf' => by have := hQ hf' he; rw [hlk, if_pos hy, hown, eo] at this; simpa using this)
      clear hQ
      refine TCalls.of Try.func66 rfl (CanCall.of Try.func66 rfl (by decide)) [0,1,2] fun Γ => ?_
      let HH : Nat → Nat → Hint := fun | 0, 5 => .res (.gp (D.g k) 0) | 1, 8 => told (.sl 1 (X5.u8s (Rep.oth r))) [] [] | 2, 2 => toldG (.tup [bool true, bool d.cov]) [] [] gl | 4, 5 => .obj (repU r1 D F hf E he) | 5, 1 => toldG (bool false) [] [] gl | _, _ => .no
      exact run_sound ⟨HH, [((0, 7), ([0,1,4,5,7], 3))], fun | 1 => some ⟨[0], [8], .take true [0,1,2,3,4,5,6,7] (.one 8 (.take false [9] .done))⟩ | n => plRpU0 n⟩ 400 (by kernel_rfl) (Yi (↑k : Int) 6 (by omega) (Yb b (Ya (show (List.drop (54 + Int.toNat (↑k : Int) * nat_lit 1) (repU r D F hf E he))[0]? = some (T.gp (D.g k) 0) by rcases six hk with rfl | rfl | rfl | rfl | rfl | rfl <;> (rw [← hdT]; rfl)) (Yb b (Yb b (Ya (hot (HH 1 8).P fun _ h => told_post h) (Yu (Ya (ddoneG hle (Rep.oth r) hlen (HH 2 2).P (toldG_post (by rw [hdn]))) (Yu (Yi (↑k : Int) 6 (by omega) (Yl 1 (Yb b (Ya (show 54 + Int.toNat (↑k : Int) * nat_lit 1 + nat_lit 1 ≤ 69 by rcases six hk with rfl | rfl | rfl | rfl | rfl | rfl <;> exact Nat.le_of_ble_eq_true rfl) (Ya (show setCells (repU r D F hf E he) (54 + Int.toNat (↑k : Int) * nat_lit 1) [T.v (Value.pointer none)] = repU r1 D F hf E he by rw [hr1]; rcases six hk with rfl | rfl | rfl | rfl | rfl | rfl <;> rfl) (Ya (downG hle (HH 5 1).P (toldG_post (by rw [hown]))) (Yu (lp Γ)))))))))))))))))
    | true =>
      have lp := fun Γ he' => lp Γ (E ++ [⟨k, 1, d.w.s⟩]) he' (fun hn => by have := hQ hf he'; rw [hlk, if_neg hn, hown] at this; simpa using this) (fun hy hf' => by have := hQ hf' he'; rw [hlk, if_pos hy, hown, eo] at this; simpa using this)
      simp only [obsU, repU, Row.aggs, List.map_append, List.map_cons, List.map_nil] at lp
      clear hQ
      refine TCalls.of Try.func66 rfl (CanCall.of Try.func66 rfl (by decide)) [0,1,2] fun Γ => ?_
      let HH : Nat → Nat → Hint := fun | 0, 5 => .res (.gp (D.g k) 0) | 1, 8 => told (.sl 1 (X5.u8s (Rep.oth r))) [] [] | 2, 2 => toldG (.tup [bool true, bool d.cov]) [] [] gl | 4, 5 => .obj (repU r1 D F hf E he) | 5, 1 => toldG (bool true) [] [] gl | 6, 7 => wordG d gl | _, _ => .no
      exact run_sound ⟨HH, [((0, 7), ([0,1,4,5,7], 3))], fun | 1 => some ⟨[0], [8], .take true [0,1,2,3,4,5,6,7] (.one 8 (.take false [9] .done))⟩ | 6 => some ⟨[0], [11,14], .take false [0,1,2,3,5,6] (.take true [4] (.one 7 (.take true [8,9] (.one 10 (.one 11 (.take false [12,13] (.one 14 .done)))))))⟩ | n => plRpU0 n⟩ 400 (by kernel_rfl) (Yi (↑k : Int) 6 (by omega) (Yb b (Ya (show (List.drop (54 + Int.toNat (↑k : Int) * nat_lit 1) (repU r D F hf E he))[0]? = some (T.gp (D.g k) 0) by rcases six hk with rfl | rfl | rfl | rfl | rfl | rfl <;> (rw [← hdT]; rfl)) (Yb b (Yb b (Ya (hot (HH 1 8).P fun _ h => told_post h) (Yu (Ya (ddoneG hle (Rep.oth r) hlen (HH 2 2).P (toldG_post (by rw [hdn]))) (Yu (Yi (↑k : Int) 6 (by omega) (Yl 1 (Yb b (Ya (show 54 + Int.toNat (↑k : Int) * nat_lit 1 + nat_lit 1 ≤ 69 by simp only [List.length_map, maxLen]; omega) (Ya (show setCells (repU r D F hf E he) (54 + Int.toNat (↑k : Int) * nat_lit 1) [T.v (Value.pointer none)] = repU r1 D F hf E he by rw [hr1]; rcases six hk with rfl | rfl | rfl | rfl | rfl | rfl <;> rfl) (Ya (downG hle (HH 5 1).P (toldG_post (by rw [hown]))) (Yu (Yb b (Ya (dwordG hle (HH 6 7).P (toldG_post rfl)) (Yu (Ya (Yb he (Ye (List.length (List.map (fun x => T.agg (evC x)) E)))) (Ya (Ya (show (List.length (List.map (fun x => T.agg (evC x)) E) + 1) * nat_lit 32 ≤ 140737488355328 by simp only [List.length_map, maxLen]; omega) (show List.length (List.map (fun x => T.agg (evC x)) E) + 1 ≤ maxLen by simp only [List.length_map, maxLen]; omega)) (fun (Z0 : Value) => (Yl 1 (Yb b (Ya (Yn (69) (69) rfl) (lp Γ Z0))))))))))))))))))))))))))
end X20
end Go.Proofs.Ytafcbipmmjegcaa.Vm
