/- Texts of this claim: RpN, RpP. -/
import Derived.Test.YtafcbipmmjegcaaMg15
import Derived.Test.YtafcbipmmjegcaaMg28
namespace Go.Proofs.Ytafcbipmmjegcaa.Vm
open Go Go.RowKit
set_option maxRecDepth 100000
noncomputable abbrev kRpN0 (l : List Nat) : It := .code (sub (bd Try.f14) l)
noncomputable abbrev wRpN1 (Γ : Ctx) (Q : T → Obs → Glb → Prop) : List It → S → Prop := TWk Try.prog Γ (fin Try.prog Try.f14 [0] Q)
def plRpN0 : Nat → Option RPlan := fun | 8 => some ⟨[0], [15, 20], .take true [0,1,2,3,4,5,6,7,8,9,10,11,12,13,14] (.two 15 19 (.take false [16,17,18] (.one 19 (.one 20 (.take false [21] .done)))) (.one 15 (.take false [16,17,18] (.one 20 (.take false [21] .done)))))⟩ | 12 => some ⟨[], [6, 12], .take false [0,1,2,3] (.take true [4,5] (.one 6 (.take false [7,8,9,10,11] (.one 12 .done))))⟩ | 16 => some ⟨[], [3], .take true [0,1] (.one 2 (.one 3 (.take false [4] .done)))⟩ | _ => none
namespace X20
open Rep (Stp Wrd Cel Drv Plc RS Fm Ev setP setC)
open View (Mem VS)
open X5 (viewC lim mems othV hasV aheadV behindV)
theorem begun_own (t self life : Nat) (w : Bool) (gl : Glb) : Own ⟨t, fun _ => 0, fun _ => 0⟩ (Rep.begun self life w) (setO gl t (.cells (trC (fun _ => w) 0))) where
  tr := setO_at _ _ _
  dr := fun _ _ _ h => by cases h
  tg := fun _ _ h => by cases h
  gg := fun _ _ _ _ h => by cases h
  mm := fun _ _ _ _ h => by cases h
def Dt (t : Nat) : Dr := ⟨t, fun _ => 0, fun _ => 0⟩
def repN (r : RS) (D : Dr) : List T := (repC r D).set 3 (.v nilS)
theorem new_ob (self life : Nat) (w : Bool) (gl : Glb) (Q : T → Obs → Glb → Prop) (hQ : ∀ b t, gl t = none → Q (.ptr 0 b 0) [(b, .cells (repN (Rep.begun self life w) (Dt t)))] (setO gl t (.cells (trC (fun _ => w) 0)))) : TCalls Try.prog 9 [u8 self, u8 life, bool w] [] gl Q := by
  cases w with
  | false =>
    refine TCalls.of Try.func9 rfl (CanCall.of Try.func9 rfl (by decide)) [0] fun Γ => ?_
    let HH : Nat → Nat → Hint := fun | 1, 3 => .call false Nat (fun t => gl t = none) [] true (fun t => .gp t 0) (fun _ => []) (fun t => setO gl t (.cells (trC (fun _ => false) 0))) | _, _ => .no
    exact run_sound ⟨HH, [], fun  | _ => none⟩ 400 (by kernel_rfl) (Ya (tnewG false gl (HH 1 3).P fun t h => ⟨t, h, rfl, rfl, Nat.zero_le _, fun _ => rfl⟩) (fun (Z0 : Nat) => (fun (Z1 : gl Z0 = none) => (fun (Z2 : Nat) => (hQ Z2 Z0 Z1)))))
  | true =>
    refine TCalls.of Try.func9 rfl (CanCall.of Try.func9 rfl (by decide)) [0] fun Γ => ?_
    let HH : Nat → Nat → Hint := fun | 1, 3 => .call false Nat (fun t => gl t = none) [] true (fun t => .gp t 0) (fun _ => []) (fun t => setO gl t (.cells (trC (fun _ => true) 0))) | _, _ => .no
    exact run_sound ⟨HH, [], fun  | _ => none⟩ 400 (by kernel_rfl) (Ya (tnewG true gl (HH 1 3).P fun t h => ⟨t, h, rfl, rfl, Nat.zero_le _, fun _ => rfl⟩) (fun (Z0 : Nat) => (fun (Z1 : gl Z0 = none) => (fun (Z2 : Nat) => (Ya (Ya (show (0 : Int) ≤ (0 : Int) by omega) (show (0 : Int) < (↑(6 : Nat) : Int) by omega)) (Yl 1 (Yb Z2 (Ya (Yn (19) (67) rfl) (Ya (Ya (show (0 : Int) ≤ IntKind.wrap IntKind.i64 ((0 : Int) + (1 : Int)) by decide) (show IntKind.wrap IntKind.i64 ((0 : Int) + (1 : Int)) < (↑(6 : Nat) : Int) by decide)) (Yl 1 (Yb Z2 (Ya (Yn (28) (67) rfl) (Ya (Ya (show (0 : Int) ≤ IntKind.wrap IntKind.i64 (IntKind.wrap IntKind.i64 ((0 : Int) + (1 : Int)) + (1 : Int)) by decide) (show IntKind.wrap IntKind.i64 (IntKind.wrap IntKind.i64 ((0 : Int) + (1 : Int)) + (1 : Int)) < (↑(6 : Nat) : Int) by decide)) (Yl 1 (Yb Z2 (Ya (Yn (37) (67) rfl) (Ya (Ya (show (0 : Int) ≤ IntKind.wrap IntKind.i64 (IntKind.wrap IntKind.i64 (IntKind.wrap IntKind.i64 ((0 : Int) + (1 : Int)) + (1 : Int)) + (1 : Int)) by decide) (show IntKind.wrap IntKind.i64 (IntKind.wrap IntKind.i64 (IntKind.wrap IntKind.i64 ((0 : Int) + (1 : Int)) + (1 : Int)) + (1 : Int)) < (↑(6 : Nat) : Int) by decide)) (Yl 1 (Yb Z2 (Ya (Yn (46) (67) rfl) (Ya (Ya (show (0 : Int) ≤ IntKind.wrap IntKind.i64 (IntKind.wrap IntKind.i64 (IntKind.wrap IntKind.i64 (IntKind.wrap IntKind.i64 ((0 : Int) + (1 : Int)) + (1 : Int)) + (1 : Int)) + (1 : Int)) by decide) (show IntKind.wrap IntKind.i64 (IntKind.wrap IntKind.i64 (IntKind.wrap IntKind.i64 (IntKind.wrap IntKind.i64 ((0 : Int) + (1 : Int)) + (1 : Int)) + (1 : Int)) + (1 : Int)) < (↑(6 : Nat) : Int) by decide)) (Yl 1 (Yb Z2 (Ya (Yn (55) (67) rfl) (Ya (Ya (show (0 : Int) ≤ IntKind.wrap IntKind.i64 (IntKind.wrap IntKind.i64 (IntKind.wrap IntKind.i64 (IntKind.wrap IntKind.i64 (IntKind.wrap IntKind.i64 ((0 : Int) + (1 : Int)) + (1 : Int)) + (1 : Int)) + (1 : Int)) + (1 : Int)) by decide) (show IntKind.wrap IntKind.i64 (IntKind.wrap IntKind.i64 (IntKind.wrap IntKind.i64 (IntKind.wrap IntKind.i64 (IntKind.wrap IntKind.i64 ((0 : Int) + (1 : Int)) + (1 : Int)) + (1 : Int)) + (1 : Int)) + (1 : Int)) < (↑(6 : Nat) : Int) by decide)) (Yl 1 (Yb Z2 (Ya (Yn (64) (67) rfl) (hQ Z2 Z0 Z1)))))))))))))))))))))))))))))
theorem new_any (self life : Nat) (w : Bool) (gl : Glb) (Q : T → Obs → Glb → Prop) (hQ : ∀ b t, gl t = none → Q (.ptr 0 b 0) (obsR b (Rep.begun self life w) (Dt t)) (setO gl t (.cells (trC (fun _ => w) 0)))) : TCalls Try.prog 9 [u8 self, u8 life, bool w] [] gl Q := by
  refine TCalls.post (new_ob self life w gl (fun r ob gl' => ∃ b t, gl t = none ∧ r = .ptr 0 b 0 ∧ ob = [(b, .cells (repN (Rep.begun self life w) (Dt t)))] ∧ gl' = setO gl t (.cells (trC (fun _ => w) 0))) fun b t h => ⟨b, t, h, rfl, rfl, rfl⟩) ?_
  rintro r ob gl' ⟨b, t, h, rfl, rfl, rfl⟩
  refine ⟨.ptr 0 b 0, obsR b (Rep.begun self life w) (Dt t), _, ?_, hQ b t h⟩
  exact Imp.cellR (i := 0) (b := b) (j := 3) (cs := repN (Rep.begun self life w) (Dt t)) (t' := .sl 3 []) rfl rfl (fun _ _ h => rel_nil_sl h)
theorem set_dr2 (r : RS) (D : Dr) (k : Nat) (hk : k < 6) (d : Drv) (g m : Nat) : setCells (setCells (repC r D) (12 + (k : Int).toNat * 9 + 7) [.gp g 0]) (12 + (k : Int).toNat * 9 + 8) [int 0] = repC (setP r k { r.P k with dr := some d, age := 0 }) (Dn D k g m) := by
  rcases six hk with rfl | rfl | rfl | rfl | rfl | rfl <;> rfl
def obsW (b bx br bs bo : Nat) (r : RS) (D : Dr) (h : Bool) (t : ByteArray) (F : List Fm) (hf : Value) (E : List Ev) (he : Value) : Obs := [(b, .cells (repC r D)), (bx, .cells [bool h, txt t]), (br, .cells [.v nilS, .v nilS]), (bs, .cells [u32 0, u8 0, u8 0]),
  (bo, .cells [.slx 34 5 (Row.aggs frC F) hf, .slx 5 6 (Row.aggs evC E) he]), (0, .room 34 70 (Row.aggs frC F).length hf), (0, .room 5 73 (Row.aggs evC E).length he)]
def wrT (o : Rep.Out) (s : Option Stp) : T := match s with
  | some s => .tup [outT o.2.1 o.2.2, .agg (stC s), bool true]
  | none => .tup [outT o.2.1 o.2.2, .agg [u32 0, u8 0, u8 0], bool false]
theorem wr14 (Γ : Ctx) (b bx br bs bo bt bw : Nat) (r : RS) (D : Dr) (h : Bool) (t : ByteArray) (k : Nat) (hk : k < 6) (s : Stp) (d : Drv) (hd : (r.P k).dr = some d) (gl : Glb) (ho : Own D r gl) (hl : lim r.v.ms) (ho5 : (Rep.oth r).length ≤ 1000) (Q : T → Obs → Glb → Prop)
    (hQ : Q (wrT ((Rep.look r k).1, Rep.sent r k d.w ++ (Rep.look r k).2.1, (Rep.look r k).2.2) (some s)) (obsR b (Rep.look r k).1 D) gl) :
    wRpN1 Γ Q [kRpN0 [1,1,1,1,1,1,1,1,1,1,1]] ⟨frame 84 [(0, .ptr 0 b 0), (1, u8 k), (8, .ptr 2 br 0), (9, .ptr 3 bs 0), (11, .ptr 4 bo 0), (14, .ptr 7 bt 0)], obsW b bx br bs bo r D h t [] nilS [] nilS ++ [(bt, .cells (stC s)), (bw, .cells (wdC d.w))], gl⟩ := by
  have hs := sendout_any b bo r D [] nilS [] nilS k hk d hd gl ho hl (by decide)
  have hlk := fun hf => look_any b bo r D (Rep.sent r k d.w) hf [] nilS k hk d hd gl ho hl (by have := sent_len r k d.w; omega) (by decide)
  simp only [List.nil_append] at hs hlk
  generalize Rep.sent r k d.w = G at *
  generalize Rep.look r k = lk at *
  let HH : Nat → Nat → Hint := fun | 14, 2 => .plainAt [0] (.call false Value (fun _ => True) [0,4,5,6] true (fun _ => .tup []) (fun hf => obsR b r D ++ obsO 1 bo G hf [] nilS) (fun _ => gl)) | 15, 2 => .plainAt [0] (.call false (Value × Value) (fun _ => True) [0,4,5,6] true (fun _ => .tup []) (fun a => obsR b lk.1 D ++ obsO 1 bo (G ++ lk.2.1) a.1 lk.2.2 a.2) (fun _ => gl)) | _, _ => .no
  exact run_sound ⟨HH, [], fun | 8 => some ⟨[], [15,20], .take true [0,1,2,3,4,5,6,7,8,9,10,11,12,13,14] (.two 15 19 (.take false [16,17,18] (.one 19 (.one 20 (.take false [21] .done)))) (.one 15 (.take false [16,17,18] (.one 20 (.take false [21] .done)))))⟩ | 16 => some ⟨[4,7], [3], .take true [0,1] (.one 2 (.one 3 (.take false [4] .done)))⟩ | n => plRpN0 n⟩ 400 (by kernel_rfl) (Ya (Ya (repC_plain r D) Yt) (Ya (hs (HH 14 2).P fun v => ⟨v, trivial, rfl, rfl, Nat.le_of_ble_eq_true rfl, fun _ => rfl⟩) (fun (Z0 : Value) => (fun (Z1 : True) => (Ya (Ya (repC_plain r D) Yt) (Ya (Ya (repC_plain r D) Yt) (Ya (hlk Z0 (HH 15 2).P fun v w => ⟨(v, w), trivial, rfl, rfl, Nat.le_of_ble_eq_true rfl, fun _ => rfl⟩) (fun (Z2 : Value × Value) => (fun (Z3 : True) => (Ya (Ya (repC_plain lk.fst D) Yt) (Yb bo (Yb bt (Yk 2 br (Yk 3 bs (Yb br (Yb bs hQ))))))))))))))))
theorem imp_outW {ts : List T} {gl : Glb} (x y z u : Nat × Ob) (bo : Nat) : Imp ts [x, y, z, u, (bo, .cells [.v nilS, .v nilS])] gl ts [x, y, z, u, (bo, .cells [.slx 34 5 [] nilS, .slx 5 6 [] nilS]), (0, .room 34 70 0 nilS), (0, .room 5 73 0 nilS)] gl := by
  refine (Imp.room 34 70).trans ?_
  refine (Imp.room 5 73).trans ?_
  refine (Imp.cell (i := 4) (b := bo) (j := 0) 34 5 rfl rfl).trans ?_
  exact Imp.cell (i := 4) (b := bo) (j := 1) (cs := [.slx 34 5 [] nilS, .v nilS]) 5 6 rfl rfl
theorem less_next {s : Stp} {d n l : Nat} {s' : Stp} (hd : 1 ≤ d) (h : Rep.nextS s d n l = some s') : Rep.less s s' = true := by
  unfold Rep.nextS at h
  split at h
  · injection h with h
    subst h
    rw [less_iff]
    left
    show s.n < s.n + d
    omega
  · cases h
theorem wr2 (Γ : Ctx) (b bx br bs bo : Nat) (r : RS) (D : Dr) (k : Nat) (h : Bool) (t : ByteArray) (rmw : Bool) (gl : Glb) (ho : Own D r gl) (hl : lim r.v.ms) (ho5 : (Rep.oth r).length ≤ 1000) (hn : k < 6 → (r.P k).c.w.s.n ≤ 4294967295) (Q : T → Obs → Glb → Prop)
    (hQ : ∀ D' gl', Own D' (Rep.write r k h t rmw).1.1 gl' → Step gl D r gl' D' (Rep.write r k h t rmw).1.1 → Q (wrT (Rep.write r k h t rmw).1 (Rep.write r k h t rmw).2) (obsR b (Rep.write r k h t rmw).1.1 D') gl') :
    wRpN1 Γ Q [kRpN0 [1,1]] ⟨frame 84 [(0, .ptr 0 b 0), (1, u8 k), (3, bool rmw), (6, .ptr 1 bx 0), (8, .ptr 2 br 0), (9, .ptr 3 bs 0), (11, .ptr 4 bo 0)], obsW b bx br bs bo r D h t [] nilS [] nilS, gl⟩ := by
  have hfr := free_any b r D k gl ho hl
  cases hf : Rep.free r k with
  | false =>
    rw [hf] at hfr
    have e : Rep.write r k h t rmw = ((r, [], []), none) := by unfold Rep.write; rw [hf]; rfl
    rw [e] at hQ
    have hQ := hQ D gl ho (Step.refl _ _ _)
    let HH : Nat → Nat → Hint := fun | 2, 2 => .plainAt [0] (toldG (bool false) [0] (obsR b r D) gl) | _, _ => .no
    exact run_sound ⟨HH, [], fun | 8 => some ⟨[], [15,20], .take true [0,1,2,3,4,5,6,7,8,9,10,11,12,13,14] (.two 15 19 (.take false [16,17,18] (.one 19 (.one 20 (.take false [21] .done)))) (.one 15 (.take false [16,17,18] (.one 20 (.take false [21] .done)))))⟩ | n => plRpN0 n⟩ 400 (by kernel_rfl) (Ya (Ya (repC_plain r D) Yt) (Ya (hfr (HH 2 2).P (toldG_post rfl)) (Yu (Ya (Ya (repC_plain r D) Yt) (Yb bo (Yk 2 br (Yk 3 bs (Yb br (Yb bs hQ)))))))))
  | true =>
    rw [hf] at hfr
    have hk : k < 6 := by
      unfold Rep.free at hf
      simp only [Bool.and_eq_true, decide_eq_true_eq] at hf
      exact hf.2.1
    have hn := hn hk
    cases hns : Rep.nextS (r.P k).c.w.s (if rmw then 1 else 2) r.self r.life with
    | none =>
      have e : Rep.write r k h t rmw = ((r, [], []), none) := by unfold Rep.write; rw [hf, hns]; rfl
      rw [e] at hQ
      have hQ := hQ D gl ho (Step.refl _ _ _)
      cases rmw with
      | false =>
        have hnx := next_any (r.P k).c.w.s 2 r.self r.life hn (by decide) (by decide)
        simp only [Bool.false_eq_true, if_false] at hns
        rw [hns] at hnx
        let HH : Nat → Nat → Hint := fun | 2, 2 => .plainAt [0] (toldG (bool true) [0] (obsR b r D) gl) | 8, 5 => .res (.agg (stC (r.P k).c.w.s)) | 8, 15 => told (.tup [.agg [u32 0, u8 0, u8 0], bool false]) [] [] | _, _ => .no
        exact run_sound ⟨HH, [], plRpN0⟩ 400 (by kernel_rfl) (Ya (Ya (repC_plain r D) Yt) (Ya (hfr (HH 2 2).P (toldG_post rfl)) (Yu (Ya (Ya (repC_plain r D) Yt) (Yi (↑k : Int) 6 (by omega) (Yb b (Ya (show (if List.length (List.drop (12 + Int.toNat (↑k : Int) * nat_lit 9 + nat_lit 0 + nat_lit 0 + nat_lit 0) (repC r D)) < (fun x => x.size) Try.prog.types[51] then none else some (T.agg (List.take (nat_lit 3) (List.drop (12 + Int.toNat (↑k : Int) * nat_lit 9 + nat_lit 0 + nat_lit 0 + nat_lit 0) (repC r D))))) = some (T.agg (stC (r.P k).c.w.s)) by clear hfr hQ hnx hns hf; rcases six hk with rfl | rfl | rfl | rfl | rfl | rfl <;> rfl) (Yb b (Yb b (Ya (Ya (hnx (HH 8 15).P fun _ h => told_post (by rw [h]; rfl)) (Yu (fun (Z0 : Nat) => (Yk 3 Z0 (Yb bo (Yk 2 br (Yk 3 bs (Yb br (Yb bs hQ))))))))) (fun (Z1 : Nat) => (Ya (hnx (HH 8 15).P fun _ h => told_post (by rw [h]; rfl)) (Yu (Yk 3 Z1 (Yb bo (Yk 2 br (Yk 3 bs (Yb br (Yb bs hQ)))))))))))))))))))
      | true =>
        have hnx := next_any (r.P k).c.w.s 1 r.self r.life hn (by decide) (by decide)
        simp only [if_true] at hns
        rw [hns] at hnx
        let HH : Nat → Nat → Hint := fun | 2, 2 => .plainAt [0] (toldG (bool true) [0] (obsR b r D) gl) | 8, 5 => .res (.agg (stC (r.P k).c.w.s)) | 8, 15 => told (.tup [.agg [u32 0, u8 0, u8 0], bool false]) [] [] | _, _ => .no
        exact run_sound ⟨HH, [], plRpN0⟩ 400 (by kernel_rfl) (Ya (Ya (repC_plain r D) Yt) (Ya (hfr (HH 2 2).P (toldG_post rfl)) (Yu (Ya (Ya (repC_plain r D) Yt) (Yi (↑k : Int) 6 (by omega) (Yb b (Ya (show (if List.length (List.drop (12 + Int.toNat (↑k : Int) * nat_lit 9 + nat_lit 0 + nat_lit 0 + nat_lit 0) (repC r D)) < (fun x => x.size) Try.prog.types[51] then none else some (T.agg (List.take (nat_lit 3) (List.drop (12 + Int.toNat (↑k : Int) * nat_lit 9 + nat_lit 0 + nat_lit 0 + nat_lit 0) (repC r D))))) = some (T.agg (stC (r.P k).c.w.s)) by clear hfr hQ hnx hns hf; rcases six hk with rfl | rfl | rfl | rfl | rfl | rfl <;> rfl) (Yb b (Yb b (Ya (Ya (hnx (HH 8 15).P fun _ h => told_post (by rw [h]; rfl)) (Yu (fun (Z0 : Nat) => (Yk 3 Z0 (Yb bo (Yk 2 br (Yk 3 bs (Yb br (Yb bs hQ))))))))) (fun (Z1 : Nat) => (Ya (hnx (HH 8 15).P fun _ h => told_post (by rw [h]; rfl)) (Yu (Yk 3 Z1 (Yb bo (Yk 2 br (Yk 3 bs (Yb br (Yb bs hQ)))))))))))))))))))
    | some s =>
      obtain ⟨w, hw⟩ : ∃ w : Wrd, w = ⟨s, h, t, rmw⟩ := ⟨_, rfl⟩
      obtain ⟨r1, hr1⟩ : ∃ r1, r1 = setC r k ⟨w, 2⟩ := ⟨_, rfl⟩
      obtain ⟨r2, hr2⟩ : ∃ r2, r2 = setP r k ⟨⟨w, 2⟩, some (Rep.newD w true), 0⟩ := ⟨_, rfl⟩
      have e : Rep.write r k h t rmw = (((Rep.look r2 k).1, Rep.sent r k w ++ (Rep.look r2 k).2.1, (Rep.look r2 k).2.2), some s) := by
        unfold Rep.write; rw [hf, hns, hr2, hw]; rfl
      rw [e] at hQ
      have hlt : Rep.less (r.P k).c.w.s w.s = true := by rw [hw]; exact less_next (by split <;> decide) hns
      have hiv := inv_any (r.P k).c w
      rw [show Rep.inv (r.P k).c w = (⟨w, 2⟩, 1) by unfold Rep.inv; rw [if_pos hlt]] at hiv
      have er : setP r1 k { r1.P k with dr := some (Rep.newD w true), age := 0 } = r2 := by
        rw [hr1, hr2]; unfold setC; rw [P_at]; unfold setP; simp only [Rep.put_put]
      have lp : ∀ Γ bt bw g m es ck, gl g = none → gl m = none → g ≠ m → wRpN1 Γ Q [kRpN0 [1,1,1,1,1,1,1,1,1,1,1]] ⟨frame 84 [(0, .ptr 0 b 0), (1, u8 k), (8, .ptr 2 br 0), (9, .ptr 3 bs 0), (11, .ptr 4 bo 0), (14, .ptr 7 bt 0)], [(b, .cells (setCells (setCells (repC r1 D) (12 + (k : Int).toNat * 9 + 7) [.gp g 0]) (12 + (k : Int).toNat * 9 + 8) [int 0])), (bx, .cells [bool h, txt t]), (br, .cells [.v nilS, .v nilS]), (bs, .cells [u32 0, u8 0, u8 0]), (bo, .cells [.slx 34 5 [] nilS, .slx 5 6 [] nilS]), (0, .room 34 70 0 nilS), (0, .room 5 73 0 nilS)] ++ [(bt, .cells (stC s)), (bw, .cells (wdC w))], setDr gl g m (Rep.newD w true) es ck⟩ := fun Γ bt bw g m es ck h1 h2 h3 => by
        have hnw := ho.new hk ⟨⟨w, 2⟩, some (Rep.newD w true), 0⟩ (Rep.newD w true) rfl g m es ck h1 h2 h3
        rw [← hr2] at hnw
        rw [set_dr2 r1 D k hk (Rep.newD w true) g m, er]
        refine wr14 Γ b bx br bs bo bt bw r2 (Dn D k g m) h t k hk s (Rep.newD w true) (by rw [hr2, P_at]) _ hnw.1 (by rw [hr2]; exact hl) (by rw [hr2]; exact ho5) Q ?_
        rw [show Rep.sent r2 k (Rep.newD w true).w = Rep.sent r k w by rw [hr2]; rfl]
        exact hQ (Dn D k g m) _ (own_look hnw.1 k).1 (Step.trans hnw.2 (own_look hnw.1 k).2)
      clear hQ
      cases rmw with
      | false =>
        have hnx := next_any (r.P k).c.w.s 2 r.self r.life hn (by decide) (by decide)
        simp only [Bool.false_eq_true, if_false] at hns
        rw [hns] at hnx
        let HH : Nat → Nat → Hint := fun | 2, 2 => .plainAt [0] (toldG (bool true) [0] (obsR b r D) gl) | 8, 5 => .res (.agg (stC (r.P k).c.w.s)) | 8, 15 => told (.tup [.agg (stC s), bool true]) [] [] | 12, 4 => .res (.agg (clC (r.P k).c)) | 12, 6 => told (ivT (⟨w, 2⟩, 1)) [] [] | 12, 12 => .obj (repC r1 D) | 13, 3 => .call false (Nat × Nat × Array MapEntry × Nat) (fun a => gl a.1 = none ∧ gl a.2.1 = none ∧ a.1 ≠ a.2.1) [] true (fun a => .gp a.1 0) (fun _ => []) (fun a => setDr gl a.1 a.2.1 (Rep.newD w true) a.2.2.1 a.2.2.2) | _, _ => .no
        exact run_sound ⟨HH, [((0, 14), ([0,1,8,9,11,14], 9))], fun | 12 => some ⟨[0,8], [6,12], .take false [0,1,2,3] (.take true [4,5] (.one 6 (.take false [7,8,9,10,11] (.one 12 .done))))⟩ | n => plRpN0 n⟩ 400 (by kernel_rfl) (Ya (Ya (repC_plain r D) Yt) (Ya (hfr (HH 2 2).P (toldG_post rfl)) (Yu (Ya (Ya (repC_plain r D) Yt) (Yi (↑k : Int) 6 (by omega) (Yb b (Ya (show (if List.length (List.drop (12 + Int.toNat (↑k : Int) * nat_lit 9 + nat_lit 0 + nat_lit 0 + nat_lit 0) (repC r D)) < (fun x => x.size) Try.prog.types[51] then none else some (T.agg (List.take (nat_lit 3) (List.drop (12 + Int.toNat (↑k : Int) * nat_lit 9 + nat_lit 0 + nat_lit 0 + nat_lit 0) (repC r D))))) = some (T.agg (stC (r.P k).c.w.s)) by clear hfr hnx hns hf lp hiv er hr2 hlt hw hr1 e; rcases six hk with rfl | rfl | rfl | rfl | rfl | rfl <;> rfl) (Yb b (Yb b (Ya (Ya (hnx (HH 8 15).P fun _ h => told_post (by rw [h]; rfl)) (Yu (fun (Z0 : Nat) => (Yk 3 Z0 (Yb Z0 (Yb bx (fun (Z1 : Nat) => (Yk 6 Z1 (Yb b (Ya (show (if List.length (List.drop (12 + Int.toNat (↑k : Int) * nat_lit 9 + nat_lit 0) (repC r D)) < (fun x => x.size) Try.prog.types[57] then none else some (T.agg (List.take (nat_lit 7) (List.drop (12 + Int.toNat (↑k : Int) * nat_lit 9 + nat_lit 0) (repC r D))))) = some (T.agg (clC (r.P k).c)) by clear hfr hnx hns hf lp hiv er hr2 hlt hw hr1 e; rcases six hk with rfl | rfl | rfl | rfl | rfl | rfl <;> rfl) (Yb Z1 (Ya (show TCalls Try.prog 45 [T.agg (clC (r.P k).c), T.agg [u32 s.n, u8 s.b, u8 s.l, bool h, T.v (Value.string t), bool false]] [] none_ (callPost (told (ivT (Cel.mk w 2, 1)) [] [])) by subst hw; exact hiv _ fun _ h => told_post (by rw [h])) (Yu (Yl 7 (Yb b (Ya (show 12 + Int.toNat (↑k : Int) * nat_lit 9 + nat_lit 0 + nat_lit 7 ≤ 67 by clear hfr hnx hns hf lp hiv er hr2 hlt hw hr1 e; rcases six hk with rfl | rfl | rfl | rfl | rfl | rfl <;> decide) (Ya (show setCells (repC r D) (12 + Int.toNat (↑k : Int) * nat_lit 9 + nat_lit 0) (clC (Cel.mk w 2, 1).fst) = repC r1 D by rw [hr1]; clear hfr hnx hns hf lp hiv er hr2 hlt hw hr1 e; rcases six hk with rfl | rfl | rfl | rfl | rfl | rfl <;> rfl) (Yb Z1 (Ya (show TCalls Try.prog 46 [T.agg [u32 s.n, u8 s.b, u8 s.l, bool h, T.v (Value.string t), bool false], bool true] [] gl (callPost (Hint.call false (Nat × Nat × Array MapEntry × Nat) (fun a => gl a.fst = none ∧ gl a.snd.fst = none ∧ a.fst ≠ a.snd.fst) [] true (fun a => T.gp a.fst 0) (fun x => []) fun a => setDr gl a.fst a.snd.fst (Rep.newD w true) a.snd.snd.fst a.snd.snd.snd)) by subst hw; exact dnewG ⟨s, h, t, false⟩ true gl _ fun g m es ck h1 h2 h3 => ⟨(g, m, es, ck), ⟨h1, h2, h3⟩, rfl, rfl, Nat.zero_le _, fun _ => rfl⟩) (fun (Z2 : Nat × Nat × Array MapEntry × Nat) => (fun (Z3 : gl Z2.fst = none ∧ gl Z2.snd.fst = none ∧ Z2.fst ≠ Z2.snd.fst) => (Yl 1 (Yb b (Ya (show 12 + Int.toNat (↑k : Int) * nat_lit 9 + nat_lit 7 + nat_lit 1 ≤ 67 by clear hfr hnx hns hf lp hiv er hr2 hlt hw hr1 e; rcases six hk with rfl | rfl | rfl | rfl | rfl | rfl <;> decide) (Yl 1 (Yb b (Ya (show 12 + Int.toNat (↑k : Int) * nat_lit 9 + nat_lit 8 + nat_lit 1 ≤ List.length (List.take (12 + Int.toNat (↑k : Int) * nat_lit 9 + nat_lit 7) (repC r1 D) ++ [T.gp Z2.fst 0] ++ List.drop (12 + Int.toNat (↑k : Int) * nat_lit 9 + nat_lit 7 + 1) (repC r1 D)) by clear hfr hnx hns hf lp hiv er hr2 hlt hw hr1 e; rcases six hk with rfl | rfl | rfl | rfl | rfl | rfl <;> exact Nat.le_of_ble_eq_true rfl) (show wRpN1 Γ Q [kRpN0 [1,1,1,1,1,1,1,1,1,1,1]] (S.mk (frame 84 [(0, T.ptr 0 b 0), (1, u8 k), (8, T.ptr 2 br 0), (9, T.ptr 3 bs 0), (11, T.ptr 4 bo 0), (14, T.ptr 7 Z0 0)]) [(b, Ob.cells (setCells (setCells (repC r1 D) (12 + Int.toNat (↑k : Int) * nat_lit 9 + nat_lit 7) [T.gp Z2.fst 0]) (12 + Int.toNat (↑k : Int) * nat_lit 9 + nat_lit 8) [int (0 : Int)])), (bx, Ob.cells [bool h, T.v (Value.string t)]), (br, Ob.cells [T.v (Value.slice none 0 0), T.v (Value.slice none 0 0)]), (bs, Ob.cells [u32 (0 : Int), u8 (0 : Int), u8 (0 : Int)]), (bo, Ob.cells [T.slx 34 5 [] (Value.slice none 0 0), T.slx 5 6 [] (Value.slice none 0 0)]), (0, Ob.room 34 70 0 (Value.slice none 0 0)), (0, Ob.room 5 73 0 (Value.slice none 0 0)), (Z0, Ob.cells (stC s)), (Z1, Ob.cells [u32 s.n, u8 s.b, u8 s.l, bool h, T.v (Value.string t), bool false])] fun j => if j = Z2.fst then some (gD Z2.snd.fst (Rep.newD w true)) else setO gl Z2.snd.fst (Ob.map IntKind.u8 (ackF (Rep.newD w true).acks) Z2.snd.snd.fst Z2.snd.snd.snd) j) by subst hw; exact lp _ _ _ _ _ _ _ Z3.1 Z3.2.1 Z3.2.2)))))))))))))))))))))))))))) (fun (Z4 : Nat) => (Ya (hnx (HH 8 15).P fun _ h => told_post (by rw [h]; rfl)) (Yu (Yk 3 Z4 (Yb Z4 (Yb bx (fun (Z5 : Nat) => (Yk 6 Z5 (Yb b (Ya (show (if List.length (List.drop (12 + Int.toNat (↑k : Int) * nat_lit 9 + nat_lit 0) (repC r D)) < (fun x => x.size) Try.prog.types[57] then none else some (T.agg (List.take (nat_lit 7) (List.drop (12 + Int.toNat (↑k : Int) * nat_lit 9 + nat_lit 0) (repC r D))))) = some (T.agg (clC (r.P k).c)) by clear hfr hnx hns hf lp hiv er hr2 hlt hw hr1 e; rcases six hk with rfl | rfl | rfl | rfl | rfl | rfl <;> rfl) (Yb Z5 (Ya (show TCalls Try.prog 45 [T.agg (clC (r.P k).c), T.agg [u32 s.n, u8 s.b, u8 s.l, bool h, T.v (Value.string t), bool false]] [] none_ (callPost (told (ivT (Cel.mk w 2, 1)) [] [])) by subst hw; exact hiv _ fun _ h => told_post (by rw [h])) (Yu (Yl 7 (Yb b (Ya (show 12 + Int.toNat (↑k : Int) * nat_lit 9 + nat_lit 0 + nat_lit 7 ≤ 67 by clear hfr hnx hns hf lp hiv er hr2 hlt hw hr1 e; rcases six hk with rfl | rfl | rfl | rfl | rfl | rfl <;> decide) (Ya (show setCells (repC r D) (12 + Int.toNat (↑k : Int) * nat_lit 9 + nat_lit 0) (clC (Cel.mk w 2, 1).fst) = repC r1 D by rw [hr1]; clear hfr hnx hns hf lp hiv er hr2 hlt hw hr1 e; rcases six hk with rfl | rfl | rfl | rfl | rfl | rfl <;> rfl) (Yb Z5 (Ya (show TCalls Try.prog 46 [T.agg [u32 s.n, u8 s.b, u8 s.l, bool h, T.v (Value.string t), bool false], bool true] [] gl (callPost (Hint.call false (Nat × Nat × Array MapEntry × Nat) (fun a => gl a.fst = none ∧ gl a.snd.fst = none ∧ a.fst ≠ a.snd.fst) [] true (fun a => T.gp a.fst 0) (fun x => []) fun a => setDr gl a.fst a.snd.fst (Rep.newD w true) a.snd.snd.fst a.snd.snd.snd)) by subst hw; exact dnewG ⟨s, h, t, false⟩ true gl _ fun g m es ck h1 h2 h3 => ⟨(g, m, es, ck), ⟨h1, h2, h3⟩, rfl, rfl, Nat.zero_le _, fun _ => rfl⟩) (fun (Z6 : Nat × Nat × Array MapEntry × Nat) => (fun (Z7 : gl Z6.fst = none ∧ gl Z6.snd.fst = none ∧ Z6.fst ≠ Z6.snd.fst) => (Yl 1 (Yb b (Ya (show 12 + Int.toNat (↑k : Int) * nat_lit 9 + nat_lit 7 + nat_lit 1 ≤ 67 by clear hfr hnx hns hf lp hiv er hr2 hlt hw hr1 e; rcases six hk with rfl | rfl | rfl | rfl | rfl | rfl <;> decide) (Yl 1 (Yb b (Ya (show 12 + Int.toNat (↑k : Int) * nat_lit 9 + nat_lit 8 + nat_lit 1 ≤ List.length (List.take (12 + Int.toNat (↑k : Int) * nat_lit 9 + nat_lit 7) (repC r1 D) ++ [T.gp Z6.fst 0] ++ List.drop (12 + Int.toNat (↑k : Int) * nat_lit 9 + nat_lit 7 + 1) (repC r1 D)) by clear hfr hnx hns hf lp hiv er hr2 hlt hw hr1 e; rcases six hk with rfl | rfl | rfl | rfl | rfl | rfl <;> exact Nat.le_of_ble_eq_true rfl) (show wRpN1 Γ Q [kRpN0 [1,1,1,1,1,1,1,1,1,1,1]] (S.mk (frame 84 [(0, T.ptr 0 b 0), (1, u8 k), (8, T.ptr 2 br 0), (9, T.ptr 3 bs 0), (11, T.ptr 4 bo 0), (14, T.ptr 7 Z4 0)]) [(b, Ob.cells (setCells (setCells (repC r1 D) (12 + Int.toNat (↑k : Int) * nat_lit 9 + nat_lit 7) [T.gp Z6.fst 0]) (12 + Int.toNat (↑k : Int) * nat_lit 9 + nat_lit 8) [int (0 : Int)])), (bx, Ob.cells [bool h, T.v (Value.string t)]), (br, Ob.cells [T.v (Value.slice none 0 0), T.v (Value.slice none 0 0)]), (bs, Ob.cells [u32 (0 : Int), u8 (0 : Int), u8 (0 : Int)]), (bo, Ob.cells [T.slx 34 5 [] (Value.slice none 0 0), T.slx 5 6 [] (Value.slice none 0 0)]), (0, Ob.room 34 70 0 (Value.slice none 0 0)), (0, Ob.room 5 73 0 (Value.slice none 0 0)), (Z4, Ob.cells (stC s)), (Z5, Ob.cells [u32 s.n, u8 s.b, u8 s.l, bool h, T.v (Value.string t), bool false])] fun j => if j = Z6.fst then some (gD Z6.snd.fst (Rep.newD w true)) else setO gl Z6.snd.fst (Ob.map IntKind.u8 (ackF (Rep.newD w true).acks) Z6.snd.snd.fst Z6.snd.snd.snd) j) by subst hw; exact lp _ _ _ _ _ _ _ Z7.1 Z7.2.1 Z7.2.2))))))))))))))))))))))))))))))))))))))
      | true =>
        have hnx := next_any (r.P k).c.w.s 1 r.self r.life hn (by decide) (by decide)
        simp only [if_true] at hns
        rw [hns] at hnx
        let HH : Nat → Nat → Hint := fun | 2, 2 => .plainAt [0] (toldG (bool true) [0] (obsR b r D) gl) | 8, 5 => .res (.agg (stC (r.P k).c.w.s)) | 8, 15 => told (.tup [.agg (stC s), bool true]) [] [] | 12, 4 => .res (.agg (clC (r.P k).c)) | 12, 6 => told (ivT (⟨w, 2⟩, 1)) [] [] | 12, 12 => .obj (repC r1 D) | 13, 3 => .call false (Nat × Nat × Array MapEntry × Nat) (fun a => gl a.1 = none ∧ gl a.2.1 = none ∧ a.1 ≠ a.2.1) [] true (fun a => .gp a.1 0) (fun _ => []) (fun a => setDr gl a.1 a.2.1 (Rep.newD w true) a.2.2.1 a.2.2.2) | _, _ => .no
        exact run_sound ⟨HH, [((0, 14), ([0,1,8,9,11,14], 9))], fun | 12 => some ⟨[0,8], [6,12], .take false [0,1,2,3] (.take true [4,5] (.one 6 (.take false [7,8,9,10,11] (.one 12 .done))))⟩ | n => plRpN0 n⟩ 400 (by kernel_rfl) (Ya (Ya (repC_plain r D) Yt) (Ya (hfr (HH 2 2).P (toldG_post rfl)) (Yu (Ya (Ya (repC_plain r D) Yt) (Yi (↑k : Int) 6 (by omega) (Yb b (Ya (show (if List.length (List.drop (12 + Int.toNat (↑k : Int) * nat_lit 9 + nat_lit 0 + nat_lit 0 + nat_lit 0) (repC r D)) < (fun x => x.size) Try.prog.types[51] then none else some (T.agg (List.take (nat_lit 3) (List.drop (12 + Int.toNat (↑k : Int) * nat_lit 9 + nat_lit 0 + nat_lit 0 + nat_lit 0) (repC r D))))) = some (T.agg (stC (r.P k).c.w.s)) by clear hfr hnx hns hf lp hiv er hr2 hlt hw hr1 e; rcases six hk with rfl | rfl | rfl | rfl | rfl | rfl <;> rfl) (Yb b (Yb b (Ya (Ya (hnx (HH 8 15).P fun _ h => told_post (by rw [h]; rfl)) (Yu (fun (Z0 : Nat) => (Yk 3 Z0 (Yb Z0 (Yb bx (fun (Z1 : Nat) => (Yk 6 Z1 (Yb b (Ya (show (if List.length (List.drop (12 + Int.toNat (↑k : Int) * nat_lit 9 + nat_lit 0) (repC r D)) < (fun x => x.size) Try.prog.types[57] then none else some (T.agg (List.take (nat_lit 7) (List.drop (12 + Int.toNat (↑k : Int) * nat_lit 9 + nat_lit 0) (repC r D))))) = some (T.agg (clC (r.P k).c)) by clear hfr hnx hns hf lp hiv er hr2 hlt hw hr1 e; rcases six hk with rfl | rfl | rfl | rfl | rfl | rfl <;> rfl) (Yb Z1 (Ya (show TCalls Try.prog 45 [T.agg (clC (r.P k).c), T.agg [u32 s.n, u8 s.b, u8 s.l, bool h, T.v (Value.string t), bool true]] [] none_ (callPost (told (ivT (Cel.mk w 2, 1)) [] [])) by subst hw; exact hiv _ fun _ h => told_post (by rw [h])) (Yu (Yl 7 (Yb b (Ya (show 12 + Int.toNat (↑k : Int) * nat_lit 9 + nat_lit 0 + nat_lit 7 ≤ 67 by clear hfr hnx hns hf lp hiv er hr2 hlt hw hr1 e; rcases six hk with rfl | rfl | rfl | rfl | rfl | rfl <;> decide) (Ya (show setCells (repC r D) (12 + Int.toNat (↑k : Int) * nat_lit 9 + nat_lit 0) (clC (Cel.mk w 2, 1).fst) = repC r1 D by rw [hr1]; clear hfr hnx hns hf lp hiv er hr2 hlt hw hr1 e; rcases six hk with rfl | rfl | rfl | rfl | rfl | rfl <;> rfl) (Yb Z1 (Ya (show TCalls Try.prog 46 [T.agg [u32 s.n, u8 s.b, u8 s.l, bool h, T.v (Value.string t), bool true], bool true] [] gl (callPost (Hint.call false (Nat × Nat × Array MapEntry × Nat) (fun a => gl a.fst = none ∧ gl a.snd.fst = none ∧ a.fst ≠ a.snd.fst) [] true (fun a => T.gp a.fst 0) (fun x => []) fun a => setDr gl a.fst a.snd.fst (Rep.newD w true) a.snd.snd.fst a.snd.snd.snd)) by subst hw; exact dnewG ⟨s, h, t, true⟩ true gl _ fun g m es ck h1 h2 h3 => ⟨(g, m, es, ck), ⟨h1, h2, h3⟩, rfl, rfl, Nat.zero_le _, fun _ => rfl⟩) (fun (Z2 : Nat × Nat × Array MapEntry × Nat) => (fun (Z3 : gl Z2.fst = none ∧ gl Z2.snd.fst = none ∧ Z2.fst ≠ Z2.snd.fst) => (Yl 1 (Yb b (Ya (show 12 + Int.toNat (↑k : Int) * nat_lit 9 + nat_lit 7 + nat_lit 1 ≤ 67 by clear hfr hnx hns hf lp hiv er hr2 hlt hw hr1 e; rcases six hk with rfl | rfl | rfl | rfl | rfl | rfl <;> decide) (Yl 1 (Yb b (Ya (show 12 + Int.toNat (↑k : Int) * nat_lit 9 + nat_lit 8 + nat_lit 1 ≤ List.length (List.take (12 + Int.toNat (↑k : Int) * nat_lit 9 + nat_lit 7) (repC r1 D) ++ [T.gp Z2.fst 0] ++ List.drop (12 + Int.toNat (↑k : Int) * nat_lit 9 + nat_lit 7 + 1) (repC r1 D)) by clear hfr hnx hns hf lp hiv er hr2 hlt hw hr1 e; rcases six hk with rfl | rfl | rfl | rfl | rfl | rfl <;> exact Nat.le_of_ble_eq_true rfl) (show wRpN1 Γ Q [kRpN0 [1,1,1,1,1,1,1,1,1,1,1]] (S.mk (frame 84 [(0, T.ptr 0 b 0), (1, u8 k), (8, T.ptr 2 br 0), (9, T.ptr 3 bs 0), (11, T.ptr 4 bo 0), (14, T.ptr 7 Z0 0)]) [(b, Ob.cells (setCells (setCells (repC r1 D) (12 + Int.toNat (↑k : Int) * nat_lit 9 + nat_lit 7) [T.gp Z2.fst 0]) (12 + Int.toNat (↑k : Int) * nat_lit 9 + nat_lit 8) [int (0 : Int)])), (bx, Ob.cells [bool h, T.v (Value.string t)]), (br, Ob.cells [T.v (Value.slice none 0 0), T.v (Value.slice none 0 0)]), (bs, Ob.cells [u32 (0 : Int), u8 (0 : Int), u8 (0 : Int)]), (bo, Ob.cells [T.slx 34 5 [] (Value.slice none 0 0), T.slx 5 6 [] (Value.slice none 0 0)]), (0, Ob.room 34 70 0 (Value.slice none 0 0)), (0, Ob.room 5 73 0 (Value.slice none 0 0)), (Z0, Ob.cells (stC s)), (Z1, Ob.cells [u32 s.n, u8 s.b, u8 s.l, bool h, T.v (Value.string t), bool true])] fun j => if j = Z2.fst then some (gD Z2.snd.fst (Rep.newD w true)) else setO gl Z2.snd.fst (Ob.map IntKind.u8 (ackF (Rep.newD w true).acks) Z2.snd.snd.fst Z2.snd.snd.snd) j) by subst hw; exact lp _ _ _ _ _ _ _ Z3.1 Z3.2.1 Z3.2.2)))))))))))))))))))))))))))) (fun (Z4 : Nat) => (Ya (hnx (HH 8 15).P fun _ h => told_post (by rw [h]; rfl)) (Yu (Yk 3 Z4 (Yb Z4 (Yb bx (fun (Z5 : Nat) => (Yk 6 Z5 (Yb b (Ya (show (if List.length (List.drop (12 + Int.toNat (↑k : Int) * nat_lit 9 + nat_lit 0) (repC r D)) < (fun x => x.size) Try.prog.types[57] then none else some (T.agg (List.take (nat_lit 7) (List.drop (12 + Int.toNat (↑k : Int) * nat_lit 9 + nat_lit 0) (repC r D))))) = some (T.agg (clC (r.P k).c)) by clear hfr hnx hns hf lp hiv er hr2 hlt hw hr1 e; rcases six hk with rfl | rfl | rfl | rfl | rfl | rfl <;> rfl) (Yb Z5 (Ya (show TCalls Try.prog 45 [T.agg (clC (r.P k).c), T.agg [u32 s.n, u8 s.b, u8 s.l, bool h, T.v (Value.string t), bool true]] [] none_ (callPost (told (ivT (Cel.mk w 2, 1)) [] [])) by subst hw; exact hiv _ fun _ h => told_post (by rw [h])) (Yu (Yl 7 (Yb b (Ya (show 12 + Int.toNat (↑k : Int) * nat_lit 9 + nat_lit 0 + nat_lit 7 ≤ 67 by clear hfr hnx hns hf lp hiv er hr2 hlt hw hr1 e; rcases six hk with rfl | rfl | rfl | rfl | rfl | rfl <;> decide) (Ya (show setCells (repC r D) (12 + Int.toNat (↑k : Int) * nat_lit 9 + nat_lit 0) (clC (Cel.mk w 2, 1).fst) = repC r1 D by rw [hr1]; clear hfr hnx hns hf lp hiv er hr2 hlt hw hr1 e; rcases six hk with rfl | rfl | rfl | rfl | rfl | rfl <;> rfl) (Yb Z5 (Ya (show TCalls Try.prog 46 [T.agg [u32 s.n, u8 s.b, u8 s.l, bool h, T.v (Value.string t), bool true], bool true] [] gl (callPost (Hint.call false (Nat × Nat × Array MapEntry × Nat) (fun a => gl a.fst = none ∧ gl a.snd.fst = none ∧ a.fst ≠ a.snd.fst) [] true (fun a => T.gp a.fst 0) (fun x => []) fun a => setDr gl a.fst a.snd.fst (Rep.newD w true) a.snd.snd.fst a.snd.snd.snd)) by subst hw; exact dnewG ⟨s, h, t, true⟩ true gl _ fun g m es ck h1 h2 h3 => ⟨(g, m, es, ck), ⟨h1, h2, h3⟩, rfl, rfl, Nat.zero_le _, fun _ => rfl⟩) (fun (Z6 : Nat × Nat × Array MapEntry × Nat) => (fun (Z7 : gl Z6.fst = none ∧ gl Z6.snd.fst = none ∧ Z6.fst ≠ Z6.snd.fst) => (Yl 1 (Yb b (Ya (show 12 + Int.toNat (↑k : Int) * nat_lit 9 + nat_lit 7 + nat_lit 1 ≤ 67 by clear hfr hnx hns hf lp hiv er hr2 hlt hw hr1 e; rcases six hk with rfl | rfl | rfl | rfl | rfl | rfl <;> decide) (Yl 1 (Yb b (Ya (show 12 + Int.toNat (↑k : Int) * nat_lit 9 + nat_lit 8 + nat_lit 1 ≤ List.length (List.take (12 + Int.toNat (↑k : Int) * nat_lit 9 + nat_lit 7) (repC r1 D) ++ [T.gp Z6.fst 0] ++ List.drop (12 + Int.toNat (↑k : Int) * nat_lit 9 + nat_lit 7 + 1) (repC r1 D)) by clear hfr hnx hns hf lp hiv er hr2 hlt hw hr1 e; rcases six hk with rfl | rfl | rfl | rfl | rfl | rfl <;> exact Nat.le_of_ble_eq_true rfl) (show wRpN1 Γ Q [kRpN0 [1,1,1,1,1,1,1,1,1,1,1]] (S.mk (frame 84 [(0, T.ptr 0 b 0), (1, u8 k), (8, T.ptr 2 br 0), (9, T.ptr 3 bs 0), (11, T.ptr 4 bo 0), (14, T.ptr 7 Z4 0)]) [(b, Ob.cells (setCells (setCells (repC r1 D) (12 + Int.toNat (↑k : Int) * nat_lit 9 + nat_lit 7) [T.gp Z6.fst 0]) (12 + Int.toNat (↑k : Int) * nat_lit 9 + nat_lit 8) [int (0 : Int)])), (bx, Ob.cells [bool h, T.v (Value.string t)]), (br, Ob.cells [T.v (Value.slice none 0 0), T.v (Value.slice none 0 0)]), (bs, Ob.cells [u32 (0 : Int), u8 (0 : Int), u8 (0 : Int)]), (bo, Ob.cells [T.slx 34 5 [] (Value.slice none 0 0), T.slx 5 6 [] (Value.slice none 0 0)]), (0, Ob.room 34 70 0 (Value.slice none 0 0)), (0, Ob.room 5 73 0 (Value.slice none 0 0)), (Z4, Ob.cells (stC s)), (Z5, Ob.cells [u32 s.n, u8 s.b, u8 s.l, bool h, T.v (Value.string t), bool true])] fun j => if j = Z6.fst then some (gD Z6.snd.fst (Rep.newD w true)) else setO gl Z6.snd.fst (Ob.map IntKind.u8 (ackF (Rep.newD w true).acks) Z6.snd.snd.fst Z6.snd.snd.snd) j) by subst hw; exact lp _ _ _ _ _ _ _ Z7.1 Z7.2.1 Z7.2.2))))))))))))))))))))))))))))))))))))))
theorem write_any (b : Nat) (r : RS) (D : Dr) (k : Nat) (h : Bool) (t : ByteArray) (rmw : Bool) (gl : Glb) (ho : Own D r gl) (hl : lim r.v.ms) (ho5 : (Rep.oth r).length ≤ 1000) (hn : k < 6 → (r.P k).c.w.s.n ≤ 4294967295) (Q : T → Obs → Glb → Prop)
    (hQ : ∀ D' gl', Own D' (Rep.write r k h t rmw).1.1 gl' → Step gl D r gl' D' (Rep.write r k h t rmw).1.1 → Q (wrT (Rep.write r k h t rmw).1 (Rep.write r k h t rmw).2) (obsR b (Rep.write r k h t rmw).1.1 D') gl') :
    TCalls Try.prog 14 [.ptr 0 b 0, u8 k, .agg [bool h, txt t], bool rmw] (obsR b r D) gl Q := by
  have lp : ∀ Γ bx br bs bo, wRpN1 Γ Q [kRpN0 [1,1]] ⟨frame 84 [(0, .ptr 0 b 0), (1, u8 k), (3, bool rmw), (6, .ptr 1 bx 0), (8, .ptr 2 br 0), (9, .ptr 3 bs 0), (11, .ptr 4 bo 0)], [(b, .cells (repC r D)), (bx, .cells [bool h, txt t]), (br, .cells [.v nilS, .v nilS]), (bs, .cells [u32 0, u8 0, u8 0]), (bo, .cells [.v nilS, .v nilS])], gl⟩ := fun Γ bx br bs bo =>
    TWk.imp (s' := ⟨_, obsW b bx br bs bo r D h t [] nilS [] nilS, gl⟩) (wr2 Γ b bx br bs bo r D k h t rmw gl ho hl ho5 hn Q hQ) (imp_outW (b, .cells (repC r D)) (bx, .cells [bool h, txt t]) (br, .cells [.v nilS, .v nilS]) (bs, .cells [u32 0, u8 0, u8 0]) bo)
  clear hQ
  refine TCalls.of Try.func14 rfl (CanCall.of Try.func14 rfl (by decide)) [0] fun Γ => ?_
  let HH : Nat → Nat → Hint := fun  | _, _ => .no
  exact run_sound ⟨HH, [((0, 2), ([0,1,3,6,8,9,11], 5))], fun | 8 => some ⟨[], [15,20], .take true [0,1,2,3,4,5,6,7,8,9,10,11,12,13,14] (.two 15 19 (.take false [16,17,18] (.one 19 (.one 20 (.take false [21] .done)))) (.one 15 (.take false [16,17,18] (.one 20 (.take false [21] .done)))))⟩ | n => plRpN0 n⟩ 400 (by kernel_rfl) (fun (Z0 : Nat) => (fun (Z1 : Nat) => (fun (Z2 : Nat) => (fun (Z3 : Nat) => (lp Γ Z0 Z1 Z2 Z3)))))
end X20
end Go.Proofs.Ytafcbipmmjegcaa.Vm
namespace Go.Proofs.Ytafcbipmmjegcaa.Vm
open Go Go.RowKit
set_option maxRecDepth 100000
def plRpP0 : Nat → Option RPlan := fun | 8 => some ⟨[], [15, 20], .take true [0,1,2,3,4,5,6,7,8,9,10,11,12,13,14] (.two 15 19 (.take false [16,17,18] (.one 19 (.one 20 (.take false [21] .done)))) (.one 15 (.take false [16,17,18] (.one 20 (.take false [21] .done)))))⟩ | 12 => some ⟨[], [6, 12], .take false [0,1,2,3] (.take true [4,5] (.one 6 (.take false [7,8,9,10,11] (.one 12 .done))))⟩ | 16 => some ⟨[], [3], .take true [0,1] (.one 2 (.one 3 (.take false [4] .done)))⟩ | _ => none
def plRpP1 : Nat → Option RPlan := fun | 5 => some ⟨[], [6], .take true [0,1,2,3,4] (.take false [8] (.one 5 (.one 6 (.take false [7] .done))))⟩ | _ => none
namespace X20
open Rep (Stp Wrd Cel Drv Plc RS Fm Ev setP setC)
open View (Mem VS)
open X5 (viewC lim mems othV hasV firstM firstL first_any)
def nilP : T := .v (.pointer none)
def nilO : T := .agg [.v nilS, .v nilS]
theorem in_nil (Q : T → Obs → Glb → Prop) (hQ : Q (bool false) [] none_) : TCalls Try.prog 33 [nilP] [] none_ Q := by
  refine TCalls.of Try.func33 rfl (CanCall.of Try.func33 rfl (by decide)) [] fun Γ => ?_
  let HH : Nat → Nat → Hint := fun  | _, _ => .no
  exact run_sound ⟨HH, [], fun | 1 => some ⟨[], [15], .take true [0,1,2,3,4,5,6,7,8,9,10,11,12,13,14] (.one 15 (.take false [16,17] .done))⟩ | _ => none⟩ 400 (by kernel_rfl) hQ
theorem free_nil (k : Nat) (Q : T → Obs → Glb → Prop) (hQ : Q (bool false) [] none_) : TCalls Try.prog 43 [nilP, u8 k] [] none_ Q := by
  refine TCalls.of Try.func43 rfl (CanCall.of Try.func43 rfl (by decide)) [] fun Γ => ?_
  let HH : Nat → Nat → Hint := fun | 1, 1 => told (bool false) [] [] | _, _ => .no
  exact run_sound ⟨HH, [], fun  | _ => none⟩ 400 (by kernel_rfl) (Ya (in_nil (HH 1 1).P (told_post rfl)) (Yu hQ))
theorem tick_nil (a c : Int) (l : Bool) (Q : T → Obs → Glb → Prop) (hQ : Q nilO [] none_) : TCalls Try.prog 12 [nilP, int a, int c, bool l] [] none_ Q := by
  refine TCalls.of Try.func12 rfl (CanCall.of Try.func12 rfl (by decide)) [] fun Γ => ?_
  let HH : Nat → Nat → Hint := fun | 2, 1 => told (bool false) [] [] | _, _ => .no
  exact run_sound ⟨HH, [], plRpP1⟩ 400 (by kernel_rfl) (fun (Z0 : Nat) => (fun (Z1 : Nat) => (Ya (in_nil (HH 2 1).P (told_post rfl)) (Yu (Yb Z1 (Yk 2 Z0 (Yb Z0 hQ)))))))
def vf (n : Nat) : VS := ⟨1, firstM n, firstL n⟩
theorem lfirst_any (n : Nat) (h1 : 1 ≤ n) (h2 : n ≤ 8) (Q : T → Obs → Glb → Prop) (hQ : Q (.agg (viewC (vf n))) [] none_) : TCalls Try.prog 11 [int n] [] none_ Q := by
  refine TCalls.of Try.func11 rfl (CanCall.of Try.func11 rfl (by decide)) [] fun Γ => ?_
  let HH : Nat → Nat → Hint := fun | 1, 1 => told (.tup [.agg (viewC (vf n)), int 0]) [] [] | _, _ => .no
  exact run_sound ⟨HH, [], fun  | _ => none⟩ 400 (by kernel_rfl) (fun (Z0 : Nat) => (Ya (first_any n (HH 1 1).P (fun h => by omega) fun k hk _ _ => told_post (by rw [show k = n by omega]; rfl)) (Yu (fun (Z1 : Nat) => (Yk 10 Z1 (Yb Z1 (Yk 10 Z0 (Yb Z0 hQ))))))))
structure Act where
  what : Nat
  kind : Nat
  frm : Nat
  key : Nat
  n : Nat
  b : Nat
  l : Nat
  dir : Nat
  t : ByteArray
  rmw : Bool
  flag : Bool
  lease : Bool
  other : Bool
def acC (x : Act) : List T := [u8 x.what, u8 x.kind, u8 x.frm, u8 x.key, u32 x.n, u8 x.b, u8 x.l, u8 x.dir, txt x.t, bool x.rmw, bool x.flag, bool x.lease, bool x.other]
def frameOf (x : Act) (to : Nat) (epoch : Nat) : Fm := ⟨1 + x.kind % 5, Rep.ad x.frm, Rep.ad to, ((if x.other then (epoch + 1) % 4294967296 else epoch : Nat) : Int), x.key, ⟨⟨x.n, x.b, x.l⟩, true, x.t, x.rmw⟩, x.flag, x.dir⟩
theorem frameOf_any (x : Act) (to epoch : Nat) (he : epoch ≤ 4294967295) (Q : T → Obs → Glb → Prop) (hQ : Q (.agg (frC (frameOf x to epoch))) [] none_) : TCalls Try.prog 21 [.agg (acC x), u8 to, u32 epoch] [] none_ Q := by
  have e1 : IntKind.wrap .u8 (1 + Int.tmod (x.kind : Int) 5) = ((1 + x.kind % 5 : Nat) : Int) := by
    rw [show Int.tmod (x.kind : Int) 5 = ((x.kind % 5 : Nat) : Int) from IntWalk.up_tmod rfl rfl, IntWalk.u8_in _ (by omega)]; omega
  have e2 : IntKind.wrap .u32 ((epoch : Int) + 1) = (((epoch + 1) % 4294967296 : Nat) : Int) := by rw [IntKind.wrap_u32]; omega
  have e3 := ad_w x.frm
  have e4 := ad_w to
  cases ho : x.other with
  | false =>
    unfold frameOf at hQ
    rw [ho] at hQ
    refine TCalls.of Try.func21 rfl (CanCall.of Try.func21 rfl (by decide)) [] fun Γ => ?_
    let HH : Nat → Nat → Hint := fun | 2, 1 => .res (bool false) | _, _ => .no
    exact run_sound ⟨HH, [], fun  | _ => none⟩ 400 (by kernel_rfl) (fun (Z0 : Nat) => (fun (Z1 : Nat) => (Yb Z0 (Yb Z0 (Yb Z0 (Yb Z0 (Yb Z0 (Yb Z0 (Yb Z0 (Yb Z0 (Yb Z0 (Yb Z0 (fun (Z2 : Nat) => (Yk 34 Z2 (Yb Z0 (Ya (congrArg (fun b => some (bool b)) ho) (Yb Z2 (Yk 34 Z1 (Yb Z1 (show Q (T.agg [u8 (IntKind.wrap IntKind.u8 ((1 : Int) + Int.tmod (↑x.kind : Int) (5 : Int))), u8 (IntKind.wrap IntKind.u8 ((16 : Int) + (↑x.frm : Int))), u8 (IntKind.wrap IntKind.u8 ((16 : Int) + (↑to : Int))), u32 epoch, u8 x.key, u32 x.n, u8 x.b, u8 x.l, bool true, T.v (Value.string x.t), bool x.rmw, bool x.flag, u8 x.dir, u8 (0 : Int), u32 (0 : Int), u32 (0 : Int), u8 (0 : Int), u32 (0 : Int), u8 (0 : Int), u8 (0 : Int), u8 (0 : Int), u32 (0 : Int), u32 (0 : Int), u32 (0 : Int), T.v (Value.slice none 0 0), u8 (0 : Int), u8 (0 : Int), u8 (0 : Int), u8 (0 : Int), u8 (0 : Int), u8 (0 : Int), u8 (0 : Int), u8 (0 : Int), T.v (Value.slice none 0 0)]) [] fun x => none by simp only [e1, e3, e4] at *; exact hQ))))))))))))))))))))
  | true =>
    unfold frameOf at hQ
    rw [ho] at hQ
    refine TCalls.of Try.func21 rfl (CanCall.of Try.func21 rfl (by decide)) [] fun Γ => ?_
    let HH : Nat → Nat → Hint := fun | 2, 1 => .res (bool true) | _, _ => .no
    exact run_sound ⟨HH, [], fun  | _ => none⟩ 400 (by kernel_rfl) (fun (Z0 : Nat) => (fun (Z1 : Nat) => (Yb Z0 (Yb Z0 (Yb Z0 (Yb Z0 (Yb Z0 (Yb Z0 (Yb Z0 (Yb Z0 (Yb Z0 (Yb Z0 (fun (Z2 : Nat) => (Yk 34 Z2 (Yb Z0 (Ya (congrArg (fun b => some (bool b)) ho) (Yb Z2 (Yl 1 (Yb Z2 (Ya (Yn (4) (34) rfl) (Yb Z2 (Yk 34 Z1 (Yb Z1 (show Q (T.agg [u8 (IntKind.wrap IntKind.u8 ((1 : Int) + Int.tmod (↑x.kind : Int) (5 : Int))), u8 (IntKind.wrap IntKind.u8 ((16 : Int) + (↑x.frm : Int))), u8 (IntKind.wrap IntKind.u8 ((16 : Int) + (↑to : Int))), u32 (IntKind.wrap IntKind.u32 ((↑epoch : Int) + (1 : Int))), u8 x.key, u32 x.n, u8 x.b, u8 x.l, bool true, T.v (Value.string x.t), bool x.rmw, bool x.flag, u8 x.dir, u8 (0 : Int), u32 (0 : Int), u32 (0 : Int), u8 (0 : Int), u32 (0 : Int), u8 (0 : Int), u8 (0 : Int), u8 (0 : Int), u32 (0 : Int), u32 (0 : Int), u32 (0 : Int), T.v (Value.slice none 0 0), u8 (0 : Int), u8 (0 : Int), u8 (0 : Int), u8 (0 : Int), u8 (0 : Int), u8 (0 : Int), u8 (0 : Int), u8 (0 : Int), T.v (Value.slice none 0 0)]) [] fun x => none by simp only [e1, e2, e3, e4] at *; exact hQ))))))))))))))))))))))))
end X20
end Go.Proofs.Ytafcbipmmjegcaa.Vm
