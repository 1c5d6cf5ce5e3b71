/- Replicas by the engine: the law speaks; there is no replica. -/
import Derived.Test.YtafcbipmmjegcaaRpP
namespace Go.Proofs.Ytafcbipmmjegcaa.Vm
open Go Go.RowKit
set_option maxRecDepth 100000
namespace X20
open Rep (Stp Wrd Cel Drv Plc RS Fm Ev setP setC)
open View (Mem VS)
open X5 (viewC lim mems othV hasV firstM firstL first_any)
def txa : ByteArray := ⟨#[97]⟩
def s0 : RS := Rep.begun 1 1 true
def s1 : RS := (Rep.enter s0 (vf 1)).1
theorem s1_lim : lim s1.v.ms := by show s1.v.ms.length ≤ 1000000; decide
theorem s1_write : (Rep.write s1 3 true txa false).2 = some ⟨2, 1, 1⟩ ∧ (Rep.write s1 3 true txa false).1.2.2 = [⟨3, 1, ⟨2, 1, 1⟩⟩] ∧ cellOf (Rep.write s1 3 true txa false).1.1 3 = ⟨⟨⟨2, 1, 1⟩, true, txa, false⟩, 1⟩ ∧ (Rep.write s1 3 true txa false).1.1.has 3 = true := ⟨by rfl, by rfl, by rfl, by rfl⟩
theorem sp4 (Γ : Ctx) (b b2 b3 : Nat) (r : RS) (D : Dr) (F : List Fm) (gl : Glb) (ho : Own D r gl) (hc : cellOf r 3 = ⟨⟨⟨2, 1, 1⟩, true, txa, false⟩, 1⟩) (hh : r.has 3 = true) (Q : T → Obs → Glb → Prop) (hQ : Q (bool true) [] gl) :
    TWk Try.prog Γ (fin Try.prog Try.f8 [] Q) [.code (sub (bd Try.f8) [1, 1, 1, 1])] ⟨frame 68 [(1, .ptr 0 b 0), (2, .ptr 1 b2 0), (3, .ptr 2 b3 0), (4, bool true)], [(b, .cells (repC r D)), (b2, .cells [.sl 34 (Row.aggs frC F), .sl 5 [.agg (evC ⟨3, 1, ⟨2, 1, 1⟩⟩)]]), (b3, .cells [u32 2, u8 1, u8 1])], gl⟩ := by
  have hce := cell_any b r D 3 gl ho
  rw [hc, hh] at hce
  refine run_sound (⟨fun | 4, 1 => .plainAt [0] (toldG (.tup [.agg (clC ⟨⟨⟨2, 1, 1⟩, true, txa, false⟩, 1⟩), bool true]) [0] (obsR b r D) gl) | _, _ => .no, [], fun | 5 => some ⟨[1, 2, 3], [], .take true [0,1,2,3,4,5,6,7,8,9,10,11,12,13,14,15,16,17,18,19,20,21,22,23,24,25,26,27,28,29,30,31,32,33,34,35,36,37,38,39,40,41,42,43,44,45] .done⟩ | _ => none⟩) 400 (B := (List.all (repC r D) noIx = true ∧ True) ∧ TCalls Try.prog 13 [T.ptr 0 b 0, u8 (3 : Int)] [(b, Ob.cells (repC r D))] gl (callPost (Hint.call false Unit (fun x => True) [0] true (fun x => T.tup [T.agg (clC { w := { s := { n := 2, b := 1, l := 1 }, h := true, t := txa, r := false }, st := 1 }), bool true]) (fun x => obsR b r D) fun x => gl)) ∧ ∀ (a : Unit), True → (List.all (repC r D) noIx = true ∧ True) ∧ ∀ (b : Nat), (7 = nat_lit 7 ∧ List.all [u32 (Stp.n (Wrd.s (Cel.w { w := { s := { n := 2, b := 1, l := 1 }, h := true, t := txa, r := false }, st := 1 }))), u8 (Stp.b (Wrd.s (Cel.w { w := { s := { n := 2, b := 1, l := 1 }, h := true, t := txa, r := false }, st := 1 }))), u8 (Stp.l (Wrd.s (Cel.w { w := { s := { n := 2, b := 1, l := 1 }, h := true, t := txa, r := false }, st := 1 }))), bool true, T.v (Value.string (Wrd.t (Cel.w { w := { s := { n := 2, b := 1, l := 1 }, h := true, t := txa, r := false }, st := 1 }))), bool false, int (Cel.st { w := { s := { n := 2, b := 1, l := 1 }, h := true, t := txa, r := false }, st := 1 })] T.one = true) ∧ b = b ∧ 0 + nat_lit 7 ≤ 7 ∧ b2 = b2 ∧ b2 = b2 ∧ (0 : Int) ≤ (0 : Int) ∧ b2 = b2 ∧ (0 : Int) ≤ (0 : Int) ∧ b3 = b3 ∧ b3 = b3 ∧ b = b ∧ b = b ∧ Q (bool true) [] gl) (by kernel_rfl) ?_
  repeat' (first | exact rfl | exact Nat.le_of_ble_eq_true rfl | refine And.intro ?_ ?_ | intro _ | refine bsplit_mk (fun _ => ?_) (fun _ => ?_))
  all_goals first
    | exact repC_plain _ _
    | exact True.intro
    | exact hce _ (toldG_post rfl)
    | exact hQ
    | decide
    | trace_state
theorem s1_oth : (Rep.oth s1).length ≤ 1000 := by decide
theorem sp3 (Γ : Ctx) (b : Nat) (D : Dr) (gl : Glb) (ho : Own D s1 gl) (Q : T → Obs → Glb → Prop) (hQ : ∀ gl', Q (bool true) [] gl') :
    TWk Try.prog Γ (fin Try.prog Try.f8 [] Q) [.code (sub (bd Try.f8) [1, 1, 1])] ⟨frame 68 [(1, .ptr 0 b 0)], [(b, .cells (repC s1 D))], gl⟩ := by
  have hw := write_any b s1 D 3 true txa false gl ho s1_lim s1_oth (fun _ => by decide)
  obtain ⟨g1, g2, g3, g4⟩ := s1_write
  generalize Rep.write s1 3 true txa false = o at *
  obtain ⟨⟨r, F, E⟩, s⟩ := o
  simp only at g1 g2 g3 g4 hw
  subst g1 g2
  have nx := fun Γ b2 b3 D' gl' h => sp4 Γ b b2 b3 r D' F gl' h g3 g4 Q (hQ gl')
  clear hQ
  refine run_sound (⟨fun | 3, 2 => .plainAt [0] (.call false (Dr × Glb) (fun a => Own a.1 r a.2) [0] true (fun _ => .tup [outT F [⟨3, 1, ⟨2, 1, 1⟩⟩], .agg (stC ⟨2, 1, 1⟩), bool true]) (fun a => obsR b r a.1) (fun a => a.2)) | _, _ => .no, [((0, 4), ([1, 2, 3, 4], 3))], fun  | _ => none⟩) 400 (B := (List.all (repC s1 D) noIx = true ∧ True) ∧ TCalls Try.prog 14 [T.ptr 0 b 0, u8 (3 : Int), T.agg [bool true, T.v (Value.string (ByteArray.mk (#[(97 : UInt8)])))], bool false] [(b, Ob.cells (repC s1 D))] gl (callPost (Hint.call false (Dr × Glb) (fun a => Own (Prod.fst a) r (Prod.snd a)) [0] true (fun x => T.tup [outT F [{ key := 3, kind := 1, s := { n := 2, b := 1, l := 1 } }], T.agg (stC { n := 2, b := 1, l := 1 }), bool true]) (fun a => obsR b r (Prod.fst a)) fun a => Prod.snd a)) ∧ ∀ (a : Dr × Glb), Own (Prod.fst a) r (Prod.snd a) → (List.all (repC r (Prod.fst a)) noIx = true ∧ True) ∧ ∀ (b_1 b_2 : Nat), (2 = nat_lit 2 ∧ List.all [T.sl 34 (List.map (fun x => T.agg (frC x)) F), T.sl 5 [T.agg [u8 (Ev.key { key := 3, kind := 1, s := { n := 2, b := 1, l := 1 } }), int (Ev.kind { key := 3, kind := 1, s := { n := 2, b := 1, l := 1 } }), u32 (Stp.n (Ev.s { key := 3, kind := 1, s := { n := 2, b := 1, l := 1 } })), u8 (Stp.b (Ev.s { key := 3, kind := 1, s := { n := 2, b := 1, l := 1 } })), u8 (Stp.l (Ev.s { key := 3, kind := 1, s := { n := 2, b := 1, l := 1 } }))]]] T.one = true) ∧ b_1 = b_1 ∧ 0 + nat_lit 2 ≤ 2 ∧ (3 = nat_lit 3 ∧ List.all [u32 (Stp.n { n := 2, b := 1, l := 1 }), u8 (Stp.b { n := 2, b := 1, l := 1 }), u8 (Stp.l { n := 2, b := 1, l := 1 })] T.one = true) ∧ b_2 = b_2 ∧ 0 + nat_lit 3 ≤ 3 ∧ TWk Try.prog Γ (fin Try.prog Try.f8 [] Q) [It.code (sub (bd Try.f8) [1, 1, 1, 1])] { fr := frame 68 [(1, T.ptr 0 b 0), (2, T.ptr 1 b_1 0), (3, T.ptr 2 b_2 0), (4, bool true)], ob := [(b, Ob.cells (repC r (Prod.fst a))), (b_1, Ob.cells [T.sl 34 (List.map (fun x => T.agg (frC x)) F), T.sl 5 [T.agg [u8 (Ev.key { key := 3, kind := 1, s := { n := 2, b := 1, l := 1 } }), int (Ev.kind { key := 3, kind := 1, s := { n := 2, b := 1, l := 1 } }), u32 (Stp.n (Ev.s { key := 3, kind := 1, s := { n := 2, b := 1, l := 1 } })), u8 (Stp.b (Ev.s { key := 3, kind := 1, s := { n := 2, b := 1, l := 1 } })), u8 (Stp.l (Ev.s { key := 3, kind := 1, s := { n := 2, b := 1, l := 1 } }))]]]), (b_2, Ob.cells [u32 (Stp.n { n := 2, b := 1, l := 1 }), u8 (Stp.b { n := 2, b := 1, l := 1 }), u8 (Stp.l { n := 2, b := 1, l := 1 })])], gl := Prod.snd a }) (by kernel_rfl) ?_
  repeat' (first | exact rfl | exact Nat.le_of_ble_eq_true rfl | refine And.intro ?_ ?_ | intro _ | refine bsplit_mk (fun _ => ?_) (fun _ => ?_))
  all_goals first
    | exact repC_plain _ _
    | exact True.intro
    | exact hw _ fun D' gl' h1 _ => ⟨(D', gl'), h1, rfl, rfl, Nat.le_of_ble_eq_true rfl, fun _ => rfl⟩
    | (rename_i h _ _; exact nx _ _ _ _ _ h)
    | trace_state
theorem sp2 (Γ : Ctx) (b t : Nat) (gl : Glb) (ho : Own (Dt t) s0 gl) (Q : T → Obs → Glb → Prop) (hQ : ∀ gl', Q (bool true) [] gl') :
    TWk Try.prog Γ (fin Try.prog Try.f8 [] Q) [.code (sub (bd Try.f8) [1, 1])] ⟨frame 68 [(1, .ptr 0 b 0)], [(b, .cells (repC s0 (Dt t)))], gl⟩ := by
  have he := enter_any b s0 (Dt t) (vf 1) gl ho s1_lim
  rw [show (Rep.enter s0 (vf 1)).2 = [] by rfl, show (Rep.enter s0 (vf 1)).1 = s1 by rfl] at he
  refine run_sound (⟨fun | 2, 1 => told (.agg (viewC (vf 1))) [] [] | 2, 2 => .plainAt [0] (.call false (Dr × Glb) (fun a => Own a.1 s1 a.2) [0] true (fun _ => outT [] []) (fun a => obsR b s1 a.1) (fun a => a.2)) | _, _ => .no, [((0, 3), ([1], 1))], fun  | _ => none⟩) 400 (B := TCalls Try.prog 11 [int (1 : Int)] [] (fun x => none) (callPost (Hint.call false Unit (fun x => True) [] false (fun x => T.agg (viewC (vf 1))) (fun x => []) fun x => none_)) ∧ ∀ (a : Unit), True → (List.all (repC s0 (Dt t)) noIx = true ∧ True) ∧ TCalls Try.prog 10 [T.ptr 0 b 0, T.agg [u32 (VS.e (vf 1)), T.sl 3 [T.agg [u8 (Mem.node { node := nat_lit 0 + 1, life := 1, ready := true }), u8 (Mem.life { node := nat_lit 0 + 1, life := 1, ready := true }), bool true]], u8 (VS.L (vf 1) 0), u8 (VS.L (vf 1) 1), u8 (VS.L (vf 1) 2), u8 (VS.L (vf 1) 3), u8 (VS.L (vf 1) 4), u8 (VS.L (vf 1) 5), u8 (VS.L (vf 1) 6), u8 (VS.L (vf 1) 7)]] [(b, Ob.cells (repC s0 (Dt t)))] gl (callPost (Hint.call false (Dr × Glb) (fun a => Own (Prod.fst a) s1 (Prod.snd a)) [0] true (fun x => outT [] []) (fun a => obsR b s1 (Prod.fst a)) fun a => Prod.snd a)) ∧ ∀ (a : Dr × Glb), Own (Prod.fst a) s1 (Prod.snd a) → (List.all (repC s1 (Prod.fst a)) noIx = true ∧ True) ∧ TWk Try.prog Γ (fin Try.prog Try.f8 [] Q) [It.code (sub (bd Try.f8) [1, 1, 1])] { fr := frame 68 [(1, T.ptr 0 b 0)], ob := [(b, Ob.cells (repC s1 (Prod.fst a)))], gl := Prod.snd a }) (by kernel_rfl) ?_
  repeat' (first | exact rfl | exact Nat.le_of_ble_eq_true rfl | refine And.intro ?_ ?_ | intro _ | refine bsplit_mk (fun _ => ?_) (fun _ => ?_))
  all_goals first
    | exact repC_plain _ _
    | exact True.intro
    | exact lfirst_any 1 (by decide) (by decide) _ (told_post rfl)
    | exact he _ fun D' gl' h1 _ => ⟨(D', gl'), h1, rfl, rfl, Nat.le_of_ble_eq_true rfl, fun _ => rfl⟩
    | (rename_i h; exact sp3 Γ b _ _ h Q hQ)
    | trace_state
theorem speaks_any (gl : Glb) (Q : T → Obs → Glb → Prop) (hQ : ∀ gl', Q (bool true) [] gl') : TCalls Try.prog 8 [] [] gl Q := by
  have sp := fun Γ b t => sp2 Γ b t (setO gl t (.cells (trC (fun _ => true) 0))) (begun_own t 1 1 true gl) Q hQ
  clear hQ
  refine TCalls.of Try.func8 rfl (CanCall.of Try.func8 rfl (by decide)) [] fun Γ => ?_
  refine run_sound (⟨fun | 1, 0 => .call false (Nat × Nat) (fun _ => True) [] true (fun a => .ptr 0 a.1 0) (fun a => obsR a.1 s0 (Dt a.2)) (fun a => setO gl a.2 (.cells (trC (fun _ => true) 0))) | _, _ => .no, [((0, 2), ([1], 1))], fun  | _ => none⟩) 400 (B := TCalls Try.prog 9 [u8 (1 : Int), u8 (1 : Int), bool true] [] gl (callPost (Hint.call false (Nat × Nat) (fun x => True) [] true (fun a => T.ptr 0 (Prod.fst a) 0) (fun a => obsR (Prod.fst a) s0 (Dt (Prod.snd a))) fun a => setO gl (Prod.snd a) (Ob.cells (trC (fun x => true) 0)))) ∧ ∀ (a : Nat × Nat), True → TWk Try.prog Γ (fin Try.prog Try.f8 [] Q) [It.code (sub (bd Try.f8) [1, 1])] { fr := frame 68 [(1, T.ptr 0 (Prod.fst a) 0)], ob := [(Prod.fst a, Ob.cells (repC s0 (Dt (Prod.snd a))))], gl := fun j => if j = Prod.snd a then some (Ob.cells (trC (fun x => true) 0)) else gl j }) (by kernel_rfl) ?_
  repeat' (first | exact rfl | exact Nat.le_of_ble_eq_true rfl | refine And.intro ?_ ?_ | intro _ | refine bsplit_mk (fun _ => ?_) (fun _ => ?_))
  all_goals first
    | exact new_any 1 1 true gl _ fun b t _ => ⟨(b, t), trivial, rfl, rfl, Nat.zero_le _, fun _ => rfl⟩
    | exact sp _ _ _
    | trace_state
/-! no replica -/
def n0 : RS := Rep.begun 9 1 true
def n1 : RS := (Rep.enter n0 (vf 3)).1
theorem n1_lim : lim n1.v.ms := by show n1.v.ms.length ≤ 1000000; decide
theorem n1_in : Rep.inR n1 = false := by decide
theorem n1_cell (k : Nat) : cellOf n1 k = ⟨Rep.z0, if k < 6 then 1 else 0⟩ := by
  unfold cellOf
  split
  · rename_i h; rcases six h with rfl | rfl | rfl | rfl | rfl | rfl <;> rfl
  · rfl
theorem n1_has (k : Nat) : n1.has k = true := rfl
end X20
end Go.Proofs.Ytafcbipmmjegcaa.Vm
