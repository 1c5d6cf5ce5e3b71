/- Texts of this claim: AcA, AcB. -/
import Derived.Test.YtpjkdcbogjigeaaGreatMg15
import Derived.Test.YtpjkdcbogjigeaaGreatMg17
import Derived.Test.YtpjkdcbogjigeaaGreatMg19
namespace Go.Proofs.YtpjkdcbogjigeaaGreat.Vm
open Go Go.RowKit
set_option maxRecDepth 100000
noncomputable abbrev kAcA0 (l : List Nat) : It := .code (sub (bd Tryz.f38) l)
noncomputable abbrev wAcA1 (Γ : Ctx) (Q : T → Obs → Glb → Prop) : List It → S → Prop := TWk Tryz.prog Γ (fin Tryz.prog Tryz.f38 [] Q)
def plAcA0 : Nat → Option RPlan := fun | 1 => some ⟨[], [9, 10], .take true [0,2,3,5,6,7,8] (.one 1 (.one 4 (.one 9 (.one 10 (.take false [11] .done)))))⟩ | 8 => some ⟨[], [6, 8, 9, 10], .take false [0,1,4,7] (.take true [2,5] (.one 3 (.one 6 (.one 8 (.one 9 (.one 10 (.take false [11] .done)))))))⟩ | _ => none
namespace X11
open Acp (En AS Rc num raw memP vP enP livesB VOk)
open Oct (Part joinRes room)
open View (VS Mem)
open X5 (viewC mems memC)
theorem oraw_any (x : List UInt8) (Q : T → Obs → Glb → Prop) (hQ : Q (.agg (X1.partC (raw x))) [] none_) : TCalls Tryz.prog 94 [str x] [] none_ Q := by
  refine TCalls.of Tryz.func94 rfl (CanCall.of Tryz.func94 rfl (by decide)) [] fun Γ => ?_
  let HH : Nat → Nat → Hint := fun _ _ => .no
  exact run_sound ⟨HH, [], fun _ => none⟩ 400 (by kernel_rfl) (fun (Z0 : Nat) => (Yk 4 Z0 (Yb Z0 hQ)))
theorem wide_any (n : Nat) (hn : n < 4294967296) (Q : T → Obs → Glb → Prop) (hQ : Q (.agg (X1.partC (num 4 n))) [] none_) : TCalls Tryz.prog 93 [u32 n] [] none_ Q := by
  have hw : T.v (.int .u64 (IntKind.wrap .u64 (n : Int))) = u64 n := congrArg u64 (IntWalk.u64_in _ (by omega))
  refine TCalls.of Tryz.func93 rfl (CanCall.of Tryz.func93 rfl (by decide)) [] fun Γ => ?_
  let HH : Nat → Nat → Hint := fun | 1, 1 => .res (u64 n) | 1, 2 => told (.agg (X1.partC (num 4 n))) [] [] | _, _ => .no
  exact run_sound ⟨HH, [], fun  | _ => none⟩ 400 (by kernel_rfl) (fun (Z0 : Nat) => (Ya hw (Ya (X2.onum_any n 4 (HH 1 2).P (fun x hx => told_post hx)) (Yu (Yk 4 Z0 (Yb Z0 hQ))))))
theorem small_any (n : Nat) (hn : n < 256) (Q : T → Obs → Glb → Prop) (hQ : Q (.agg (X1.partC (num 1 n))) [] none_) : TCalls Tryz.prog 37 [u8 n] [] none_ Q := by
  have hw : T.v (.int .u64 (IntKind.wrap .u64 (n : Int))) = u64 n := congrArg u64 (IntWalk.u64_in _ (by omega))
  refine TCalls.of Tryz.func37 rfl (CanCall.of Tryz.func37 rfl (by decide)) [] fun Γ => ?_
  let HH : Nat → Nat → Hint := fun | 1, 1 => .res (u64 n) | 1, 2 => told (.agg (X1.partC (num 1 n))) [] [] | _, _ => .no
  exact run_sound ⟨HH, [], fun  | _ => none⟩ 400 (by kernel_rfl) (fun (Z0 : Nat) => (Ya hw (Ya (X2.onum_any n 1 (HH 1 2).P (fun x hx => told_post hx)) (Yu (Yk 4 Z0 (Yb Z0 hQ))))))
theorem record_any (k : Nat) (ps : List Part) (hroom : room (num 1 k :: ps) ≤ 140737488355328) (hn : ∀ p ∈ num 1 k :: ps, p.n < 18446744073709551616) (hl : ps.length ≤ 1000000) (Q : T → Obs → Glb → Prop)
    (hQ : Q (str (joinRes (num 1 k :: ps) []).1) [] none_) : TCalls Tryz.prog 36 [u64 k, .sl 4 (X1.parts ps)] [] none_ Q := by
  have hj := X1.join_any (num 1 k :: ps) hroom hn (by rw [List.length_cons]; omega) _ (fun x hx => told_post (sel := []) (ob := []) hx)
  have hj2 := TCalls.pre hj (Imp.slotR (ts := [_]) (j := 0) (t := .slx 4 0 (X1.parts (num 1 k :: ps)) nilS) (t' := .sl 4 (X1.parts (num 1 k :: ps))) rfl fun _ _ h => weak_rel h)
  have hpl := X1.parts_len ps
  have c1 : (1 + (X1.parts ps).length) * 40 ≤ 140737488355328 := by omega
  have c2 : 1 + (X1.parts ps).length ≤ 9223372036854775807 := by omega
  refine TCalls.of Tryz.func36 rfl (CanCall.of Tryz.func36 rfl (by decide)) [] fun Γ => ?_
  let HH : Nat → Nat → Hint := fun | 1, 1 => told (.agg (X1.partC (num 1 k))) [] [] | 1, 2 => .plain .no | 1, 5 => .call true Unit (fun _ => True) [] false (fun _ => .tup [str (joinRes (num 1 k :: ps) []).1, int (joinRes (num 1 k :: ps) []).2]) (fun _ => []) (fun _ => none_) | _, _ => .no
  exact run_sound ⟨HH, [], fun  | _ => none⟩ 400 (by kernel_rfl) (Ya (X2.onum_any k 1 (HH 1 1).P (fun x hx => told_post hx)) (Yu (fun (Z0 : Value) => (Ya (Yb Z0 (Ye (1))) (Ya (Ya (show (1 + List.length (X1.parts ps)) * nat_lit 40 ≤ 140737488355328 by omega) c2) (fun (Z1 : Value) => (Ya hj (Yu hQ))))))))
theorem holds_any (v : VS) (hl : v.ms.length ≤ 1000000) (Q : T → Obs → Glb → Prop) (hQ : Q (bool (decide (v.ms.length ≤ 8))) [] none_) : TCalls Tryz.prog 32 [.agg (viewC v)] [] none_ Q := by
  have e1 : T.v (.bool (decide (((mems v.ms).length : Int) ≤ 8))) = bool (decide (v.ms.length ≤ 8)) := congrArg bool (by rw [X5.mems_len, Bool.eq_iff_iff]; simp only [decide_eq_true_eq]; omega)
  refine TCalls.of Tryz.func32 rfl (CanCall.of Tryz.func32 rfl (by decide)) [] fun Γ => ?_
  let HH : Nat → Nat → Hint := fun | 1, 3 => .res (bool (decide (v.ms.length ≤ 8))) | _, _ => .no
  exact run_sound ⟨HH, [], fun  | _ => none⟩ 400 (by kernel_rfl) (fun (Z0 : Nat) => (Yb Z0 (Ya e1 hQ)))
theorem good_any (n : Nat) (Q : T → Obs → Glb → Prop) (hQ : Q (bool (decide (1 ≤ n ∧ n ≤ 5))) [] none_) : TCalls Tryz.prog 31 [u8 n] [] none_ Q := by
  by_cases h : 1 ≤ n ∧ n ≤ 5
  · rw [decide_eq_true h] at hQ
    have e1 : T.v (.bool (decide ((n : Int) ≥ 1))) = bool true := congrArg bool (decide_eq_true (by omega))
    have e2 : T.v (.bool (decide ((n : Int) ≤ 5))) = bool true := congrArg bool (decide_eq_true (by omega))
    refine TCalls.of Tryz.func31 rfl (CanCall.of Tryz.func31 rfl (by decide)) [] fun Γ => ?_
    let HH : Nat → Nat → Hint := fun | 1, 1 => .res (bool true) | 1, 4 => .res (bool true) | _, _ => .no
    exact run_sound ⟨HH, [], fun  | _ => none⟩ 400 (by kernel_rfl) (Ya e1 (Ya e2 hQ))
  · rw [decide_eq_false h] at hQ
    by_cases h1 : 1 ≤ n
    · have e1 : T.v (.bool (decide ((n : Int) ≥ 1))) = bool true := congrArg bool (decide_eq_true (by omega))
      have e2 : T.v (.bool (decide ((n : Int) ≤ 5))) = bool false := congrArg bool (decide_eq_false (by omega))
      refine TCalls.of Tryz.func31 rfl (CanCall.of Tryz.func31 rfl (by decide)) [] fun Γ => ?_
      let HH : Nat → Nat → Hint := fun | 1, 1 => .res (bool true) | 1, 4 => .res (bool false) | _, _ => .no
      exact run_sound ⟨HH, [], fun  | _ => none⟩ 400 (by kernel_rfl) (Ya e1 (Ya e2 hQ))
    · have e1 : T.v (.bool (decide ((n : Int) ≥ 1))) = bool false := congrArg bool (decide_eq_false (by omega))
      refine TCalls.of Tryz.func31 rfl (CanCall.of Tryz.func31 rfl (by decide)) [] fun Γ => ?_
      let HH : Nat → Nat → Hint := fun | 1, 1 => .res (bool false) | _, _ => .no
      exact run_sound ⟨HH, [], fun  | _ => none⟩ 400 (by kernel_rfl) (Ya e1 hQ)
theorem promised_any (n b : Nat) (hn : n < 4294967296) (hb : b < 256) (Q : T → Obs → Glb → Prop) (hQ : Q (str (Rc.prom n b).b) [] none_) : TCalls Tryz.prog 123 [.agg [u32 n, u8 b]] [] none_ Q := by
  have hj := Rc.join (r := .prom n b) ⟨hn, hb⟩
  have hr := fun Q' hq => record_any 2 [num 4 n, num 1 b] (by simp [room, num]; decide) (by simp [num]; omega) (Nat.le_of_ble_eq_true rfl) Q' hq
  rw [show joinRes (num 1 2 :: [num 4 n, num 1 b]) [] = _ from hj] at hr
  have hr2 := fun Q' (hq : Q' (str (Rc.prom n b).b) [] none_) => hr Q' hq
  clear hr hj
  refine TCalls.of Tryz.func123 rfl (CanCall.of Tryz.func123 rfl (by decide)) [] fun Γ => ?_
  let HH : Nat → Nat → Hint := fun | 1, 3 => told (.agg (X1.partC (num 4 n))) [] [] | 1, 7 => told (.agg (X1.partC (num 1 b))) [] [] | 1, 9 => told (str (Rc.prom n b).b) [] [] | _, _ => .no
  exact run_sound ⟨HH, [], fun | 1 => some ⟨[0], [7,8,9], .take true [0,1,2,4,5,6] (.one 3 (.one 7 (.one 8 (.one 9 (.take false [10] .done)))))⟩ | _ => none⟩ 400 (by kernel_rfl) (fun (Z0 : Nat) => (Yb Z0 (Yb Z0 (Ya (wide_any n hn (HH 1 3).P (told_post rfl)) (Yu (Ya (small_any b hb (HH 1 7).P (told_post rfl)) (Yu (Ya (hr2 (HH 1 9).P (told_post rfl)) (Yu hQ)))))))))
def enC (y : En) : List T := [u32 y.slot, u32 y.n, u8 y.b, u8 y.kind, u8 y.node, u8 y.life, u32 y.ep, u32 y.rq]
theorem accepted_any (y : En) (hy : y.Ok) (Q : T → Obs → Glb → Prop) (hQ : Q (str (Rc.acc y).b) [] none_) : TCalls Tryz.prog 128 [.agg (enC y)] [] none_ Q := by
  have hj := Rc.join (r := .acc y) hy
  obtain ⟨a1, a2, a3, a4, a5, a6, a7, a8⟩ := hy
  have hr := fun Q' hq => record_any 3 (enP y) (by simp [room, num, enP]; decide) (by simp [num, enP]; omega) (Nat.le_of_ble_eq_true rfl) Q' hq
  rw [show joinRes (num 1 3 :: enP y) [] = _ from hj] at hr
  have hr2 := fun Q' (hq : Q' (str (Rc.acc y).b) [] none_) => hr Q' hq
  have w4 := fun n hn (Q' : T → Obs → Glb → Prop) hq => wide_any n hn Q' hq
  have w1 := fun n hn (Q' : T → Obs → Glb → Prop) hq => small_any n hn Q' hq
  clear hr hj
  refine TCalls.of Tryz.func128 rfl (CanCall.of Tryz.func128 rfl (by decide)) [] fun Γ => ?_
  let HH : Nat → Nat → Hint := fun | 2, 2 => told (.agg (X1.partC (num 4 y.slot))) [] [] | 2, 7 => told (.agg (X1.partC (num 4 y.n))) [] [] | 2, 12 => told (.agg (X1.partC (num 1 y.b))) [] [] | 2, 15 => told (.agg (X1.partC (num 1 y.kind))) [] [] | 2, 18 => told (.agg (X1.partC (num 1 y.node))) [] [] | 2, 21 => told (.agg (X1.partC (num 1 y.life))) [] [] | 2, 24 => told (.agg (X1.partC (num 4 y.ep))) [] [] | 2, 27 => told (.agg (X1.partC (num 4 y.rq))) [] [] | 2, 29 => told (str (Rc.acc y).b) [] [] | _, _ => .no
  exact run_sound ⟨HH, [], fun | 2 => some ⟨[0,1], [27,28,29], .take true [0,1,3,4,5,6,8,9,10,11,13,14,16,17,19,20,22,23,25,26] (.one 2 (.one 7 (.one 12 (.one 15 (.one 18 (.one 21 (.one 24 (.one 27 (.one 28 (.one 29 (.take false [30] .done)))))))))))⟩ | _ => none⟩ 400 (by kernel_rfl) (fun (Z0 : Nat) => (Yb Z0 (fun (Z1 : Nat) => (Yk 5 Z1 (Yb Z0 (Yb Z0 (Yb Z0 (Yb Z1 (Yb Z1 (Yb Z1 (Yb Z1 (Yb Z1 (Ya (w4 y.slot a1 (HH 2 2).P (told_post rfl)) (Yu (Ya (w4 y.n a2 (HH 2 7).P (told_post rfl)) (Yu (Ya (w1 y.b a3 (HH 2 12).P (told_post rfl)) (Yu (Ya (w1 y.kind a4 (HH 2 15).P (told_post rfl)) (Yu (Ya (w1 y.node a5 (HH 2 18).P (told_post rfl)) (Yu (Ya (w1 y.life a6 (HH 2 21).P (told_post rfl)) (Yu (Ya (w4 y.ep a7 (HH 2 24).P (told_post rfl)) (Yu (Ya (w4 y.rq a8 (HH 2 27).P (told_post rfl)) (Yu (Ya (hr2 (HH 2 29).P (told_post rfl)) (Yu hQ))))))))))))))))))))))))))))))
theorem vB_room (low : Nat) (v : VS) (hv : VOk v) : room (vP low v) ≤ 1000 ∧ (vP low v).length ≤ 28 ∧ ∀ p ∈ vP low v, low < 4294967296 → p.n < 4294967296 := by
  have hm : ∀ l : List Mem, room (l.flatMap memP) = 27 * l.length ∧ (l.flatMap memP).length = 3 * l.length := fun l => by
    induction l with
    | nil => exact ⟨rfl, rfl⟩
    | cons m l ih =>
      obtain ⟨i1, i2⟩ := ih
      refine ⟨?_, ?_⟩
      · rw [List.flatMap_cons]
        show room (num 1 m.node :: num 1 m.life :: num 1 (Acp.one m.ready) :: l.flatMap memP) = _
        have : room (num 1 m.node :: num 1 m.life :: num 1 (Acp.one m.ready) :: l.flatMap memP) = 9 + (9 + (9 + room (l.flatMap memP))) := rfl
        rw [this, i1, List.length_cons]; omega
      · rw [List.flatMap_cons, List.length_append, i2, List.length_cons]
        show 3 + _ = _; omega
  have hl := hv.len
  refine ⟨?_, ?_, fun p hp hlow => ?_⟩
  · have : room (vP low v) = 9 + (9 + (9 + room (v.ms.flatMap memP ++ [raw (livesB v.L)]))) := rfl
    rw [this]
    have h2 : ∀ a b : List Part, room (a ++ b) = room a + room b := fun a b => by simp [room, List.map_append, List.sum_append]
    rw [h2, (hm v.ms).1]
    have : room [raw (livesB v.L)] = 17 := by
      show (⟨(livesB v.L).toArray⟩ : ByteArray).size + 9 + 0 = 17
      show (livesB v.L).toArray.size + 9 + 0 = 17
      simp [livesB]
    omega
  · simp only [vP, List.length_cons, List.length_append, (hm v.ms).2, List.length_nil]; omega
  · have he := hv.e1
    unfold vP at hp
    rcases List.mem_cons.1 hp with rfl | hp
    · exact hlow
    rcases List.mem_cons.1 hp with rfl | hp
    · show v.e.toNat < _; omega
    rcases List.mem_cons.1 hp with rfl | hp
    · show v.ms.length < _; omega
    rcases List.mem_append.1 hp with hp | hp
    · obtain ⟨m, hm1, hm2⟩ := List.mem_flatMap.1 hp
      obtain ⟨b1, b2⟩ := hv.ms m hm1
      have b3 := Acp.one_lt m.ready
      simp only [memP, List.mem_cons, List.not_mem_nil, or_false] at hm2
      rcases hm2 with rfl | rfl | rfl
      · show m.node < _; omega
      · show m.life < _; omega
      · show Acp.one m.ready < _; omega
    · simp only [List.mem_singleton] at hp
      subst hp
      exact Nat.zero_lt_succ _
def vP0 (low : Nat) (v : VS) : List Part := [num 4 low, num 4 v.e.toNat, num 1 v.ms.length]
theorem parts_app (a b : List Part) : X1.parts a ++ X1.parts b = X1.parts (a ++ b) := (List.map_append ..).symm
def obsP (qv : Nat) (v : VS) (es : List T) (hd : Value) : Obs := [(qv, .cells (viewC v)), (0, .room 4 109 es.length hd)]
theorem parts_loop (Γ : Ctx) (qv low : Nat) (v : VS) (hv : VOk v) (Q : T → Obs → Glb → Prop) (hQ : Q (.sl 4 (X1.parts (vP low v))) [] none_) : ∀ (r d : List Mem) (k : Nat) (hd : Value), v.ms = d ++ r → k = d.length →
    wAcA1 Γ Q [kAcA0 [1,1,0,1,0], .blk 0, kAcA0 [1,1,1]] ⟨frame 49 [(3, .ptr 0 qv 0), (5, .slx 4 1 (X1.parts (vP0 low v ++ d.flatMap memP)) hd), (21, .sl 3 (mems v.ms)), (22, int (mems v.ms).length), (23, int k)], obsP qv v (X1.parts (vP0 low v ++ d.flatMap memP)) hd, none_⟩ := by
  have w1 := fun n hn (Q' : T → Obs → Glb → Prop) hq => small_any n hn Q' hq
  have hml : ∀ l : List Mem, (l.flatMap memP).length = 3 * l.length := fun l => by
    induction l with
    | nil => rfl
    | cons m l ih => rw [List.flatMap_cons, List.length_append, ih, List.length_cons]; show 3 + _ = _; omega
  have hlen := hv.len
  have hml2 := X5.mems_len v.ms
  intro r
  induction r with
  | nil =>
    intro d k hd h1 hk
    have hd0 : d = v.ms := by rw [h1, List.append_nil]
    have hk : k = v.ms.length := by rw [hk, hd0]
    subst hk
    have hL := hv.L
    have hes : some (T.v (.string ⟨(livesB v.L).toArray⟩)) = some (str (livesB v.L)) := rfl
    have hby : [u8 (v.L 0), u8 (v.L 1), u8 (v.L 2), u8 (v.L 3), u8 (v.L 4), u8 (v.L 5), u8 (v.L 6), u8 (v.L 7)] = bytesL ⟨(livesB v.L).toArray⟩ := by
      have h8 : ∀ i, ((UInt8.ofNat (v.L i)).toNat : Int) = v.L i := fun i => by rw [UInt8.toNat_ofNat']; have := hL i; omega
      show _ = ((livesB v.L).toArray.toList).map _
      simp only [livesB, List.range, List.range.loop, List.map_cons, List.map_nil, h8]
      rfl
    have hfin : X1.parts (vP0 low v ++ d.flatMap memP) ++ [.agg (X1.partC (raw (livesB v.L)))] = X1.parts (vP low v) := by
      rw [show [T.agg (X1.partC (raw (livesB v.L)))] = X1.parts [raw (livesB v.L)] from rfl, parts_app, hd0]
      show X1.parts (_ ++ _) = X1.parts (vP low v)
      congr 1
    have hll : (X1.parts (vP0 low v ++ d.flatMap memP)).length ≤ 100 := by rw [X1.parts_len, List.length_append, hml, hd0]; simp only [vP0, List.length_cons, List.length_nil]; omega
    rw [← hfin] at hQ
    clear hfin hL
    generalize X1.parts (vP0 low v ++ d.flatMap memP) = E at *
    let HH : Nat → Nat → Hint := fun | 10, 3 => .res (str (livesB v.L)) | 10, 4 => told (.agg (X1.partC (raw (livesB v.L)))) [] [] | _, _ => .no
    exact run_sound ⟨HH, [((0, 4), ([3,5,21,22,23], 2))], plAcA0⟩ 400 (by kernel_rfl) (Ys (decide ((↑(List.length v.ms) : Int) < (↑(List.length (mems v.ms)) : Int))) (fun Z0 => (show wAcA1 Γ Q [kAcA0 [1,1,0,1,0,0,1,1,0,0], It.blk 1, kAcA0 [1,1,0,1,0,0,1,1,1], kAcA0 [1,1,0,1,0], It.blk 0, kAcA0 [1,1,1]] (S.mk (frame 49 [(3, T.ptr 0 qv 0), (5, T.slx 4 1 E hd), (21, T.sl 3 (mems v.ms)), (22, int (List.length (mems v.ms))), (23, int (List.length v.ms))]) [(qv, Ob.cells (viewC v)), (0, Ob.room 4 109 (List.length E) hd)] fun x => none) by exfalso; have := of_decide_eq_true Z0; omega)) (fun Z1 => (Yb qv (Ya (Yn (10) (10) rfl) (Ya hby (Ya (oraw_any (livesB v.L) (HH 10 4).P (told_post rfl)) (Yu (Ya (Yb hd (Ye (List.length E))) (Ya (Ya (show (List.length E + 1) * nat_lit 40 ≤ 140737488355328 by simp only [maxLen]; omega) (show List.length E + 1 ≤ maxLen by simp only [maxLen]; omega)) (fun (Z2 : Value) => hQ))))))))))
  | cons m r ih =>
    intro d k hd h1 hk
    have hkl : k < v.ms.length := by rw [h1, hk]; simp
    have hat : v.ms[k]? = some m := by rw [h1, hk]; simp
    have e1 : (mems v.ms)[((k : Nat) : Int).toNat]? = some (.agg (memC m)) := by rw [Int.toNat_natCast, mems, List.getElem?_map, hat]; rfl
    obtain ⟨b1, b2⟩ := hv.ms m (List.mem_of_getElem? hat)
    have hwk : T.v (.int .i64 (IntKind.wrap .i64 ((k : Int) + 1))) = int (k + 1 : Nat) := congrArg int (by rw [wrap_i64 (by omega) (by omega)]; omega)
    have nx := fun hd' => ih (d ++ [m]) (k + 1) hd' (by rw [h1]; simp) (by rw [hk]; simp)
    have hap : X1.parts (vP0 low v ++ (d ++ [m]).flatMap memP) = X1.parts (vP0 low v ++ d.flatMap memP) ++ [.agg (X1.partC (num 1 m.node)), .agg (X1.partC (num 1 m.life)), .agg (X1.partC (num 1 (Acp.one m.ready)))] := by
      rw [show [T.agg (X1.partC (num 1 m.node)), .agg (X1.partC (num 1 m.life)), .agg (X1.partC (num 1 (Acp.one m.ready)))] = X1.parts (memP m) from rfl, parts_app]
      simp
    rw [hap] at nx
    have hdl : d.length ≤ 8 := by rw [h1, List.length_append] at hlen; omega
    have hll : (X1.parts (vP0 low v ++ d.flatMap memP)).length ≤ 100 := by rw [X1.parts_len, List.length_append, hml]; simp only [vP0, List.length_cons, List.length_nil]; omega
    clear ih hQ hap
    generalize X1.parts (vP0 low v ++ d.flatMap memP) = E at *
    obtain ⟨mn, ml, mr⟩ := m
    cases mr with
    | true =>
      have hone : Acp.one true = 1 := rfl
      let HH : Nat → Nat → Hint := fun | 4, 0 => .res (.agg (memC ⟨mn, ml, true⟩)) | 8, 3 => told (.agg (X1.partC (num 1 mn))) [] [] | 8, 6 => told (.agg (X1.partC (num 1 ml))) [] [] | 8, 8 => told (.agg (X1.partC (num 1 1))) [] [] | 9, 0 => .res (int (k + 1 : Nat)) | _, _ => .no
      exact run_sound ⟨HH, [((2, 3), ([3,5,21,22,23], 2)), ((0, 10), ([3,5], 2))], fun | 8 => some ⟨[2], [6,8,9,10], .take false [0,1,4,7] (.take true [2,5] (.one 3 (.one 6 (.one 8 (.one 9 (.one 10 (.take false [11] .done)))))))⟩ | n => plAcA0 n⟩ 400 (by kernel_rfl) (Ys (decide ((↑k : Int) < (↑(List.length (mems v.ms)) : Int))) (fun Z0 => (Ya (show (0 : Int) ≤ (↑k : Int) by omega) (Ya e1 (fun (Z1 : Nat) => (Yk 3 Z1 (Yb Z1 (Yb Z1 (Yb Z1 (Ya (w1 mn b1 (HH 8 3).P (told_post rfl)) (Yu (Ya (w1 ml b2 (HH 8 6).P (told_post rfl)) (Yu (Ya (show TCalls Tryz.prog 37 [u8 (1 : Int)] [] none_ (callPost (told (T.agg (X1.partC (num (1 : Int) 1))) [] [])) from w1 1 (by decide) _ (told_post rfl)) (Yu (Ya (Yb hd (Ye (List.length E))) (Ya (Ya (show (List.length E + 3) * nat_lit 40 ≤ 140737488355328 by simp only [maxLen]; omega) (show List.length E + 3 ≤ maxLen by simp only [maxLen]; omega)) (fun (Z2 : Value) => (Ya hwk (nx Z2))))))))))))))))))) (fun Z3 => (show wAcA1 Γ Q [kAcA0 [1,1,1]] (S.mk (frame 49 [(3, T.ptr 0 qv 0), (5, T.slx 4 1 E hd)]) [(qv, Ob.cells (viewC v)), (0, Ob.room 4 109 (List.length E) hd)] fun x => none) by exfalso; have := of_decide_eq_false Z3; omega)))
    | false =>
      let HH : Nat → Nat → Hint := fun | 4, 0 => .res (.agg (memC ⟨mn, ml, false⟩)) | 8, 3 => told (.agg (X1.partC (num 1 mn))) [] [] | 8, 6 => told (.agg (X1.partC (num 1 ml))) [] [] | 8, 8 => told (.agg (X1.partC (num 1 0))) [] [] | 9, 0 => .res (int (k + 1 : Nat)) | _, _ => .no
      exact run_sound ⟨HH, [((2, 3), ([3,5,21,22,23], 2)), ((0, 10), ([3,5], 2))], fun | 8 => some ⟨[2], [6,8,9,10], .take false [0,1,4,7] (.take true [2,5] (.one 3 (.one 6 (.one 8 (.one 9 (.one 10 (.take false [11] .done)))))))⟩ | n => plAcA0 n⟩ 400 (by kernel_rfl) (Ys (decide ((↑k : Int) < (↑(List.length (mems v.ms)) : Int))) (fun Z0 => (Ya (show (0 : Int) ≤ (↑k : Int) by omega) (Ya e1 (fun (Z1 : Nat) => (Yk 3 Z1 (Yb Z1 (Yb Z1 (Yb Z1 (Ya (w1 mn b1 (HH 8 3).P (told_post rfl)) (Yu (Ya (w1 ml b2 (HH 8 6).P (told_post rfl)) (Yu (Ya (show TCalls Tryz.prog 37 [u8 (0 : Int)] [] none_ (callPost (told (T.agg (X1.partC (num (1 : Int) 0))) [] [])) from w1 0 (by decide) _ (told_post rfl)) (Yu (Ya (Yb hd (Ye (List.length E))) (Ya (Ya (show (List.length E + 3) * nat_lit 40 ≤ 140737488355328 by simp only [maxLen]; omega) (show List.length E + 3 ≤ maxLen by simp only [maxLen]; omega)) (fun (Z2 : Value) => (Ya hwk (nx Z2))))))))))))))))))) (fun Z3 => (show wAcA1 Γ Q [kAcA0 [1,1,1]] (S.mk (frame 49 [(3, T.ptr 0 qv 0), (5, T.slx 4 1 E hd)]) [(qv, Ob.cells (viewC v)), (0, Ob.room 4 109 (List.length E) hd)] fun x => none) by exfalso; have := of_decide_eq_false Z3; omega)))
theorem parts_any (low : Nat) (hlow : low < 4294967296) (v : VS) (hv : VOk v) (Q : T → Obs → Glb → Prop) (hQ : Q (.sl 4 (X1.parts (vP low v))) [] none_) : TCalls Tryz.prog 38 [u32 low, .agg (viewC v)] [] none_ Q := by
  have he : v.e = ((v.e.toNat : Nat) : Int) := by have := hv.e0; omega
  have he1 := hv.e1
  have hlen := hv.len
  have lp := fun Γ qv hd => parts_loop Γ qv low v hv Q hQ v.ms [] 0 hd rfl rfl
  have w1 := fun (Q' : T → Obs → Glb → Prop) hq => small_any v.ms.length (by omega) Q' hq
  have w4 := fun (Q' : T → Obs → Glb → Prop) hq => wide_any low hlow Q' hq
  have we : ∀ Q' : T → Obs → Glb → Prop, Q' (.agg (X1.partC (num 4 v.e.toNat))) [] none_ → TCalls Tryz.prog 93 [u32 v.e] [] none_ Q' := fun Q' hq => by rw [he]; exact wide_any v.e.toNat (by omega) Q' hq
  have hml := X5.mems_len v.ms
  have hc : T.v (.int .u8 (IntKind.wrap .u8 ((mems v.ms).length : Int))) = u8 (v.ms.length : Nat) := congrArg u8 (by rw [hml, IntWalk.u8_in _ (by omega)])
  clear hQ hml
  refine TCalls.of Tryz.func38 rfl (CanCall.of Tryz.func38 rfl (by decide)) [] fun Γ => ?_
  let HH : Nat → Nat → Hint := fun | 1, 1 => told (.agg (X1.partC (num 4 low))) [] [] | 1, 4 => told (.agg (X1.partC (num 4 v.e.toNat))) [] [] | 1, 8 => .res (u8 (v.ms.length : Nat)) | 1, 9 => told (.agg (X1.partC (num 1 v.ms.length))) [] [] | 1, 10 => .plain .no | _, _ => .no
  exact run_sound ⟨HH, [((2, 3), ([3,5,21,22,23], 2))], fun | 1 => some ⟨[0], [9,10], .take true [0,2,3,5,6,7,8] (.one 1 (.one 4 (.one 9 (.one 10 (.take false [11] .done)))))⟩ | n => plAcA0 n⟩ 400 (by kernel_rfl) (fun (Z0 : Nat) => (Yb Z0 (Yb Z0 (Ya hc (Ya (w4 (HH 1 1).P (told_post rfl)) (Yu (Ya (we (HH 1 4).P (told_post rfl)) (Yu (Ya (w1 (HH 1 9).P (told_post rfl)) (Yu (fun (Z1 : Value) => (Yb Z0 (lp Γ Z0 Z1)))))))))))))
end X11
end Go.Proofs.YtpjkdcbogjigeaaGreat.Vm
namespace Go.Proofs.YtpjkdcbogjigeaaGreat.Vm
open Go Go.RowKit
set_option maxRecDepth 100000
noncomputable abbrev kAcB0 (l : List Nat) : It := .code (sub (bd Tryz.f142) l)
noncomputable abbrev wAcB1 (Γ : Ctx) (Q : T → Obs → Glb → Prop) : List It → S → Prop := TWk Tryz.prog Γ (fin Tryz.prog Tryz.f142 [0] Q)
def plAcB0 : Nat → Option RPlan := fun | 4 => some ⟨[], [13, 15], .take true [0,1,2,5,8] (.one 3 (.take true [4] (.one 6 (.take true [7] (.one 9 (.take true [10,11] (.one 12 (.one 13 (.take false [14] (.one 15 .done))))))))))⟩ | 6 => some ⟨[], [3, 4], .take false [0,1,2] (.one 3 (.one 4 .done))⟩ | _ => none
namespace X11
open Acp (En AS Rc num raw memP vP enP livesB VOk vB memB enB)
open Oct (Part joinRes room be)
open View (VS Mem)
open X5 (viewC mems memC)
open X1 (obsD rdC rdH)
theorem kdef {p : Prop} (h : p) : p := h
theorem rn (b k n : Nat) (R : List UInt8) (hk : 1 ≤ k ∧ k ≤ 8) (hn : n < 256 ^ k) (hl : R.length ≤ 100000000) : TCalls Tryz.prog 132 [.ptr 0 b 0, int k] (obsD b (be k n ++ R) 0) none_ (callPost (told (u64 n) [0] (obsD b R 0))) := by
  refine X1.rdnum_any b (be k n ++ R) (by rw [List.length_append, Oct.length_be]; omega) 0 k hk _ fun x hx => ?_
  rw [Acp.take_num] at hx ⊢
  rw [Oct.getN_be k n hn] at hx
  exact ⟨(), trivial, hx, rfl, Nat.le_of_ble_eq_true rfl, fun h => by cases h⟩
theorem rraw (b : Nat) (x R : List UInt8) (hl : x.length + R.length ≤ 100000000) : TCalls Tryz.prog 134 [.ptr 0 b 0, int x.length] (obsD b (x ++ R) 0) none_ (callPost (told (str x) [0] (obsD b R 0))) := by
  refine X1.raw_any b (x ++ R) (by rw [List.length_append]; omega) 0 x.length (by omega) _ fun y hy => ?_
  rw [Acp.take_raw] at hy ⊢
  exact ⟨(), trivial, hy, rfl, Nat.le_of_ble_eq_true rfl, fun h => by cases h⟩
theorem r1 (b n : Nat) (R : List UInt8) (hn : n < 256) (hl : R.length ≤ 100000000) : TCalls Tryz.prog 132 [.ptr 0 b 0, int 1] (obsD b (be 1 n ++ R) 0) none_ (callPost (told (u64 n) [0] (obsD b R 0))) := rn b 1 n R (by decide) (by omega) hl
theorem r4 (b n : Nat) (R : List UInt8) (hn : n < 4294967296) (hl : R.length ≤ 100000000) : TCalls Tryz.prog 132 [.ptr 0 b 0, int 4] (obsD b (be 4 n ++ R) 0) none_ (callPost (told (u64 n) [0] (obsD b R 0))) := rn b 4 n R (by decide) (by omega) hl
theorem c8 {n : Nat} (h : n < 256) : T.v (.int .u8 (IntKind.wrap .u8 (n : Int))) = u8 n := congrArg u8 (IntWalk.u8_in _ (by omega))
theorem c32 {n : Nat} (h : n < 4294967296) : T.v (.int .u32 (IntKind.wrap .u32 (n : Int))) = u32 n := congrArg u32 (IntWalk.u32_in _ (by omega))
theorem ballot_any (b n y : Nat) (R : List UInt8) (hn : n < 4294967296) (hy : y < 256) (hl : R.length ≤ 10000000) (Q : T → Obs → Glb → Prop) (hQ : Q (.agg [u32 n, u8 y]) (obsD b R 0) none_) : TCalls Tryz.prog 138 [.ptr 0 b 0] (obsD b (be 4 n ++ (be 1 y ++ R)) 0) none_ Q := by
  have l1 : (be 1 y ++ R).length ≤ 100000000 := by rw [List.length_append, Oct.length_be]; omega
  have a1 := r4 b n (be 1 y ++ R) hn l1
  have a2 := r1 b y R hy (by omega)
  generalize be 1 y ++ R = R1 at *
  generalize be 4 n ++ R1 = R2 at *
  refine TCalls.of Tryz.func138 rfl (CanCall.of Tryz.func138 rfl (by decide)) [0] fun Γ => ?_
  let HH : Nat → Nat → Hint := fun | 1, 1 => told (u64 n) [0] (obsD b R1 0) | 1, 2 => .res (u32 n) | 1, 4 => told (u64 y) [0] (obsD b R 0) | 1, 5 => .res (u8 y) | _, _ => .no
  exact run_sound ⟨HH, [], fun  | _ => none⟩ 400 (by kernel_rfl) (fun (Z0 : Nat) => (Ya a1 (Yu (Ya (c32 hn) (Ya a2 (Yu (Ya (c8 hy) (Yk 2 Z0 (Yb Z0 hQ)))))))))
theorem command_any (b : Nat) (y : En) (hy : y.Ok) (R : List UInt8) (hl : R.length ≤ 10000000) (Q : T → Obs → Glb → Prop) (hQ : Q (.agg [u8 y.kind, u8 y.node, u8 y.life, u32 y.ep, u32 y.rq]) (obsD b R 0) none_) :
    TCalls Tryz.prog 140 [.ptr 0 b 0] (obsD b (be 1 y.kind ++ (be 1 y.node ++ (be 1 y.life ++ (be 4 y.ep ++ (be 4 y.rq ++ R))))) 0) none_ Q := by
  obtain ⟨-, -, -, h1, h2, h3, h4, h5⟩ := hy
  have a5 := r4 b y.rq R h5 (by omega)
  have a4 := r4 b y.ep (be 4 y.rq ++ R) h4 (by simp only [List.length_append, Oct.length_be]; omega)
  have a3 := r1 b y.life (be 4 y.ep ++ (be 4 y.rq ++ R)) h3 (by simp only [List.length_append, Oct.length_be]; omega)
  have a2 := r1 b y.node (be 1 y.life ++ (be 4 y.ep ++ (be 4 y.rq ++ R))) h2 (by simp only [List.length_append, Oct.length_be]; omega)
  have a1 := r1 b y.kind (be 1 y.node ++ (be 1 y.life ++ (be 4 y.ep ++ (be 4 y.rq ++ R)))) h1 (by simp only [List.length_append, Oct.length_be]; omega)
  generalize be 4 y.rq ++ R = R1 at *
  generalize be 4 y.ep ++ R1 = R2 at *
  generalize be 1 y.life ++ R2 = R3 at *
  generalize be 1 y.node ++ R3 = R4 at *
  generalize be 1 y.kind ++ R4 = R5 at *
  refine TCalls.of Tryz.func140 rfl (CanCall.of Tryz.func140 rfl (by decide)) [0] fun Γ => ?_
  let HH : Nat → Nat → Hint := fun | 1, 1 => told (u64 y.kind) [0] (obsD b R4 0) | 1, 2 => .res (u8 y.kind) | 1, 4 => told (u64 y.node) [0] (obsD b R3 0) | 1, 5 => .res (u8 y.node) | 1, 7 => told (u64 y.life) [0] (obsD b R2 0) | 1, 8 => .res (u8 y.life) | 1, 10 => told (u64 y.ep) [0] (obsD b R1 0) | 1, 11 => .res (u32 y.ep) | 1, 13 => told (u64 y.rq) [0] (obsD b R 0) | 1, 14 => .res (u32 y.rq) | _, _ => .no
  exact run_sound ⟨HH, [], fun  | _ => none⟩ 400 (by kernel_rfl) (fun (Z0 : Nat) => (Ya a1 (Yu (Ya (c8 h1) (Ya a2 (Yu (Ya (c8 h2) (Ya a3 (Yu (Ya (c8 h3) (Ya a4 (Yu (Ya (c32 h4) (Ya a5 (Yu (Ya (c32 h5) (Yk 5 Z0 (Yb Z0 hQ))))))))))))))))))
theorem owner_any (self low : Nat) (v : VS) (hs : self < 256) (hv : VOk v) (Q : T → Obs → Glb → Prop) (hQ : Q (u8 self) [] none_) : TCalls Tryz.prog 95 [str (Rc.birth self low v).b] [] none_ Q := by
  have hlen : (be 4 low ++ vB v).length ≤ 1000 := by have := hv.len; rw [List.length_append, Oct.length_be, Acp.vB_len]; omega
  have a1 := fun b => r1 b 1 (be 1 self ++ (be 4 low ++ vB v)) (by decide) (by rw [List.length_append, Oct.length_be]; omega)
  have a2 := fun b => r1 b self (be 4 low ++ vB v) hs (by omega)
  have rd := fun (Q' : T → Obs → Glb → Prop) hq => X1.read_any (be 1 1 ++ (be 1 self ++ (be 4 low ++ vB v))) Q' hq
  show TCalls Tryz.prog 95 [str (be 1 1 ++ (be 1 self ++ (be 4 low ++ vB v)))] [] none_ Q
  generalize be 4 low ++ vB v = R at *
  generalize be 1 self ++ R = R1 at *
  generalize be 1 1 ++ R1 = R2 at *
  refine TCalls.of Tryz.func95 rfl (CanCall.of Tryz.func95 rfl (by decide)) [] fun Γ => ?_
  let HH : Nat → Nat → Hint := fun | 1, 1 => .call false Nat (fun _ => True) [] false (fun b => .ptr 0 b 0) (fun b => obsD b R2 0) (fun _ => none_) | 2, 1 => rdH 0 R1 0 (u64 1) | 4, 1 => rdH 0 R 0 (u64 self) | 4, 2 => .res (u8 self) | _, _ => .no
  exact run_sound ⟨HH, [], fun  | _ => none⟩ 400 (by kernel_rfl) (Ya (rd (HH 1 1).P fun b => ⟨b, trivial, rfl, rfl, Nat.zero_le _, fun h => by cases h⟩) (fun (Z0 : Nat) => (fun (Z1 : True) => (Ya (a1 Z0) (Yu (Ya (a2 Z0) (Yu (Ya (c8 hs) hQ))))))))
def zvC : List T := [u32 0, .v nilS, u8 0, u8 0, u8 0, u8 0, u8 0, u8 0, u8 0, u8 0]
def obsV (b b2 bv : Nat) (s : List UInt8) (e : Int) (d : List T) (hd : Value) : Obs :=
  [(b, .cells (rdC s 0)), (b2, .cells zvC), (bv, .cells [u32 e, .slx 3 3 d hd, u8 0, u8 0, u8 0, u8 0, u8 0, u8 0, u8 0, u8 0]), (0, .room 3 145 d.length hd)]
theorem viewed_loop (Γ : Ctx) (b b2 bv : Nat) (v : VS) (hv : VOk v) (R : List UInt8) (hR : R.length ≤ 10000000) (Q : T → Obs → Glb → Prop) (hQ : Q (.agg (viewC v)) (obsD b R 0) none_) : ∀ (r d : List Mem) (k : Nat) (hd : Value), v.ms = d ++ r → k = d.length →
    wAcB1 Γ Q [kAcB0 [1,1,0,1,0], .blk 0, kAcB0 [1,1,1]] ⟨frame 34 [(0, .ptr 0 b 0), (2, .ptr 1 b2 0), (3, .ptr 2 bv 0), (9, u64 v.ms.length), (10, u64 k)], obsV b b2 bv (r.flatMap memB ++ (livesB v.L ++ R)) v.e (mems d) hd, none_⟩ := by
  have hlen := hv.len
  have hlv : (livesB v.L).length = 8 := by simp [livesB]
  intro r
  induction r with
  | nil =>
    intro d k hd h1 hk
    have hd0 : d = v.ms := by rw [h1, List.append_nil]
    have hk : k = v.ms.length := by rw [hk, hd0]
    subst hk
    have hL := hv.L
    have hby : bytesL ⟨(livesB v.L).toArray⟩ = [u8 (v.L 0), u8 (v.L 1), u8 (v.L 2), u8 (v.L 3), u8 (v.L 4), u8 (v.L 5), u8 (v.L 6), u8 (v.L 7)] := by
      have h8 : ∀ i, ((UInt8.ofNat (v.L i)).toNat : Int) = v.L i := fun i => by rw [UInt8.toNat_ofNat']; have := hL i; omega
      show ((livesB v.L).toArray.toList).map _ = _
      simp only [livesB, List.range, List.range.loop, List.map_cons, List.map_nil, h8]
      rfl
    have rw8 : TCalls Tryz.prog 134 [.ptr 0 b 0, int 8] (obsD b (livesB v.L ++ R) 0) none_ (callPost (told (str (livesB v.L)) [0] (obsD b R 0))) := by
      have := rraw b (livesB v.L) R (by omega)
      rw [hlv] at this
      exact this
    rw [hd0] at *
    have hz : (⟨(livesB v.L).toArray⟩ : ByteArray).size = 8 := by show (livesB v.L).toArray.size = 8; simp [livesB]
    show wAcB1 Γ Q [kAcB0 [1,1,0,1,0], .blk 0, kAcB0 [1,1,1]] ⟨_, obsV b b2 bv (livesB v.L ++ R) v.e (mems v.ms) hd, none_⟩
    have hQ : Q (.agg [u32 v.e, .sl 3 (mems v.ms), u8 (v.L 0), u8 (v.L 1), u8 (v.L 2), u8 (v.L 3), u8 (v.L 4), u8 (v.L 5), u8 (v.L 6), u8 (v.L 7)]) (obsD b R 0) none_ := hQ
    have hcc : setCells [u32 v.e, .slx 3 3 (mems v.ms) hd, u8 0, u8 0, u8 0, u8 0, u8 0, u8 0, u8 0, u8 0] 2 (bytesL ⟨(livesB v.L).toArray⟩) = [u32 v.e, .slx 3 3 (mems v.ms) hd, u8 (v.L 0), u8 (v.L 1), u8 (v.L 2), u8 (v.L 3), u8 (v.L 4), u8 (v.L 5), u8 (v.L 6), u8 (v.L 7)] := by rw [hby]; rfl
    clear hL h1 hd0 hby
    generalize mems v.ms = E at *
    generalize livesB v.L = B at *
    generalize B ++ R = S at *
    let HH : Nat → Nat → Hint := fun | 6, 3 => told (str B) [0] (obsD b R 0) | 6, 4 => .obj [u32 v.e, .slx 3 3 E hd, u8 (v.L 0), u8 (v.L 1), u8 (v.L 2), u8 (v.L 3), u8 (v.L 4), u8 (v.L 5), u8 (v.L 6), u8 (v.L 7)] | _, _ => .no
    exact run_sound ⟨HH, [((0, 4), ([0,2,3,9,10], 4))], plAcB0⟩ 400 (by kernel_rfl) (Ys (decide ((↑(List.length v.ms) : Int) < (↑(List.length v.ms) : Int))) (fun Z0 => (show wAcB1 Γ Q [kAcB0 [1,1,0,1,0,0,1,1,0,0], It.blk 1, kAcB0 [1,1,0,1,0,0,1,1,1], kAcB0 [1,1,0,1,0], It.blk 0, kAcB0 [1,1,1]] (Vm.S.mk (frame 34 [(0, T.ptr 0 b 0), (2, T.ptr 1 b2 0), (3, T.ptr 2 bv 0), (9, u64 (List.length v.ms)), (10, u64 (List.length v.ms))]) [(b, Ob.cells [T.v (Value.string (ByteArray.mk (List.toArray S))), int (0 : Int)]), (b2, Ob.cells [u32 (0 : Int), T.v (Value.slice none 0 0), u8 (0 : Int), u8 (0 : Int), u8 (0 : Int), u8 (0 : Int), u8 (0 : Int), u8 (0 : Int), u8 (0 : Int), u8 (0 : Int)]), (bv, Ob.cells [u32 v.e, T.slx 3 3 E hd, u8 (0 : Int), u8 (0 : Int), u8 (0 : Int), u8 (0 : Int), u8 (0 : Int), u8 (0 : Int), u8 (0 : Int), u8 (0 : Int)]), (0, Ob.room 3 145 (List.length E) hd)] fun x => none) by exfalso; have := of_decide_eq_true Z0; omega)) (fun Z1 => (Ya rw8 (Yu (Yb bv (Ya (Ya (show ByteArray.size (ByteArray.mk (List.toArray B)) ≤ 8 by omega) (show 2 + ByteArray.size (ByteArray.mk (List.toArray B)) ≤ 10 by omega)) (Ya ((kdef hcc)) (Yb bv (Yk 10 b2 (Yb b2 hQ))))))))))
  | cons m r ih =>
    intro d k hd h1 hk
    have hkl : k < v.ms.length := by rw [h1, hk]; simp
    have hat : m ∈ v.ms := by rw [h1]; simp
    obtain ⟨b1, b2'⟩ := hv.ms m hat
    have b3 := Acp.one_lt m.ready
    have hdl : d.length ≤ 8 := by rw [h1, List.length_append] at hlen; omega
    have hrl : r.length ≤ 8 := by rw [h1, List.length_append, List.length_cons] at hlen; omega
    have hml : (r.flatMap memB ++ (livesB v.L ++ R)).length ≤ 10001000 := by simp only [List.length_append, Acp.mems_len, hlv]; omega
    have hwk : T.v (.int .u64 (IntKind.wrap .u64 ((k : Int) + 1))) = u64 (k + 1 : Nat) := congrArg u64 (by rw [IntWalk.u64_in _ (by omega)]; omega)
    have nx := fun hd' => ih (d ++ [m]) (k + 1) hd' (by rw [h1]; simp) (by rw [hk]; simp)
    rw [show mems (d ++ [m]) = mems d ++ [.agg (memC m)] from List.map_append ..] at nx
    have e0 : (m :: r).flatMap memB ++ (livesB v.L ++ R) = be 1 m.node ++ (be 1 m.life ++ (be 1 (Acp.one m.ready) ++ (r.flatMap memB ++ (livesB v.L ++ R)))) := by simp [memB]
    rw [e0]
    have hll : (mems d).length ≤ 8 := by rw [X5.mems_len]; exact hdl
    clear ih hQ e0
    generalize r.flatMap memB ++ (livesB v.L ++ R) = S0 at *
    have a3 := r1 b (Acp.one m.ready) S0 (by omega) (by omega)
    have a2 := r1 b m.life (be 1 (Acp.one m.ready) ++ S0) b2' (by rw [List.length_append, Oct.length_be]; omega)
    have a1 := r1 b m.node (be 1 m.life ++ (be 1 (Acp.one m.ready) ++ S0)) b1 (by simp only [List.length_append, Oct.length_be]; omega)
    have hrd : T.v (.bool (((Acp.one m.ready : Nat) : Int) == 1)) = bool m.ready := by cases m.ready <;> rfl
    obtain ⟨mn, ml, mr⟩ := m
    dsimp only at *
    generalize Acp.one mr = o1 at *
    generalize be 1 o1 ++ S0 = S1 at *
    generalize be 1 ml ++ S1 = S2 at *
    generalize be 1 mn ++ S2 = S3 at *
    generalize mems d = E at *
    let HH : Nat → Nat → Hint := fun | 4, 3 => told (u64 mn) [0] (obsD b S2 0) | 4, 4 => .res (u8 mn) | 4, 6 => told (u64 ml) [0] (obsD b S1 0) | 4, 7 => .res (u8 ml) | 4, 9 => told (u64 o1) [0] (obsD b S0 0) | 4, 10 => .res (bool mr) | 5, 0 => .res (u64 (k + 1 : Nat)) | _, _ => .no
    exact run_sound ⟨HH, [((2, 3), ([0,2,3,9,10], 4)), ((0, 6), ([0,2,3], 4))], fun | 4 => some ⟨[2], [13,15], .take true [0,1,2,5,8] (.one 3 (.take true [4] (.one 6 (.take true [7] (.one 9 (.take true [10,11] (.one 12 (.one 13 (.take false [14] (.one 15 .done))))))))))⟩ | n => plAcB0 n⟩ 400 (by kernel_rfl) (Ys (decide ((↑k : Int) < (↑(List.length v.ms) : Int))) (fun Z0 => (Yb bv (Ya a1 (Yu (Ya (c8 b1) (Ya a2 (Yu (Ya (c8 b2') (Ya a3 (Yu (Ya hrd (Ya (Yb hd (Ye (List.length E))) (Ya (Ya (show (List.length E + 1) * nat_lit 3 ≤ 140737488355328 by simp only [maxLen]; omega) (show List.length E + 1 ≤ maxLen by simp only [maxLen]; omega)) (fun (Z1 : Value) => (Yl 1 (Yb bv (Ya (Yn (2) (10) rfl) (Ya hwk (nx Z1))))))))))))))))))) (fun Z2 => (show wAcB1 Γ Q [kAcB0 [1,1,1]] (S.mk (frame 34 [(0, T.ptr 0 b 0), (2, T.ptr 1 b2 0), (3, T.ptr 2 bv 0)]) [(b, Ob.cells [T.v (Value.string (ByteArray.mk (List.toArray S3))), int (0 : Int)]), (b2, Ob.cells [u32 (0 : Int), T.v (Value.slice none 0 0), u8 (0 : Int), u8 (0 : Int), u8 (0 : Int), u8 (0 : Int), u8 (0 : Int), u8 (0 : Int), u8 (0 : Int), u8 (0 : Int)]), (bv, Ob.cells [u32 v.e, T.slx 3 3 E hd, u8 (0 : Int), u8 (0 : Int), u8 (0 : Int), u8 (0 : Int), u8 (0 : Int), u8 (0 : Int), u8 (0 : Int), u8 (0 : Int)]), (0, Ob.room 3 145 (List.length E) hd)] fun x => none) by exfalso; have := of_decide_eq_false Z2; omega)))
theorem viewed_any (b : Nat) (v : VS) (hv : VOk v) (R : List UInt8) (hR : R.length ≤ 10000000) (Q : T → Obs → Glb → Prop) (hQ : Q (.agg (viewC v)) (obsD b R 0) none_) : TCalls Tryz.prog 142 [.ptr 0 b 0] (obsD b (vB v ++ R) 0) none_ Q := by
  have he : v.e = ((v.e.toNat : Nat) : Int) := by have := hv.e0; omega
  have he1 := hv.e1
  have hlen := hv.len
  have hlv : (livesB v.L).length = 8 := by simp [livesB]
  have lp := fun Γ b2 bv => TWk.imp (s := ⟨frame 34 [(0, .ptr 0 b 0), (2, .ptr 1 b2 0), (3, .ptr 2 bv 0), (9, u64 v.ms.length), (10, u64 (0 : Nat))], [(b, .cells (rdC (v.ms.flatMap memB ++ (livesB v.L ++ R)) 0)), (b2, .cells zvC), (bv, .cells [u32 v.e, .v nilS, u8 0, u8 0, u8 0, u8 0, u8 0, u8 0, u8 0, u8 0])], none_⟩)
    (viewed_loop Γ b b2 bv v hv R hR Q hQ v.ms [] 0 nilS rfl rfl) ((Imp.room 3 145).trans (Imp.cell (i := 2) (j := 1) (b := bv) (cs := [u32 v.e, .v nilS, u8 0, u8 0, u8 0, u8 0, u8 0, u8 0, u8 0, u8 0]) 3 3 rfl rfl))
  have e0 : vB v ++ R = be 4 v.e.toNat ++ (be 1 v.ms.length ++ (v.ms.flatMap memB ++ (livesB v.L ++ R))) := by simp [vB]
  rw [e0]
  have a2 := r1 b v.ms.length (v.ms.flatMap memB ++ (livesB v.L ++ R)) (by omega) (by simp only [List.length_append, Acp.mems_len, hlv]; omega)
  have a1 := r4 b v.e.toNat (be 1 v.ms.length ++ (v.ms.flatMap memB ++ (livesB v.L ++ R))) (by omega) (by simp only [List.length_append, Acp.mems_len, hlv, Oct.length_be]; omega)
  have hce : T.v (.int .u32 (IntKind.wrap .u32 ((v.e.toNat : Nat) : Int))) = u32 v.e := by rw [c32 (by omega)]; exact congrArg u32 he.symm
  clear hQ e0
  generalize v.ms.flatMap memB ++ (livesB v.L ++ R) = S0 at *
  generalize be 1 v.ms.length ++ S0 = S1 at *
  generalize be 4 v.e.toNat ++ S1 = S2 at *
  refine TCalls.of Tryz.func142 rfl (CanCall.of Tryz.func142 rfl (by decide)) [0] fun Γ => ?_
  let HH : Nat → Nat → Hint := fun | 1, 1 => told (u64 v.e.toNat) [0] (obsD b S1 0) | 1, 2 => .res (u32 v.e) | 2, 1 => told (u64 v.ms.length) [0] (obsD b S0 0) | _, _ => .no
  exact run_sound ⟨HH, [((2, 3), ([0,2,3,9,10], 3))], plAcB0⟩ 400 (by kernel_rfl) (fun (Z0 : Nat) => (Ya a1 (Yu (Ya hce (fun (Z1 : Nat) => (Yk 10 Z1 (Ya a2 (Yu (lp Γ Z0 Z1)))))))))
end X11
end Go.Proofs.YtpjkdcbogjigeaaGreat.Vm
