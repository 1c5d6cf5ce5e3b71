/- Replicas by the engine: whom to ask for keys. -/
import Derived.Test.YtafcbipmmjegcaaRpC
namespace Go.Proofs.Ytafcbipmmjegcaa.Vm
open Go Go.RowKit
set_option maxRecDepth 100000
namespace X20
open Rep (Stp Wrd Cel Drv Plc RS Fm Ev)
def neC (x : Nat × Nat) : List T := [u8 x.1, u8 x.2]
def nlF (h : Nat → Bool) (c : Nat) (L : List Nat) (k : Nat) : List (Nat × Nat) := if h k then [] else [(k, L.getD ((c + k) % L.length) 0)]
def nl (h : Nat → Bool) (c : Nat) (L : List Nat) (i n : Nat) : List (Nat × Nat) := (List.range' i n).flatMap (nlF h c L)
theorem nl_succ (h : Nat → Bool) (c : Nat) (L : List Nat) (i n : Nat) : nl h c L i (n + 1) = nlF h c L i ++ nl h c L (i + 1) n := by
  unfold nl; rw [List.range'_succ, List.flatMap_cons]
theorem nl_needs (r : RS) (hr : Rep.oth r ≠ []) : Rep.needs r = nl r.has r.calls (Rep.oth r) 0 6 := by
  unfold Rep.needs
  rw [if_neg hr]
  have key : ∀ l : List Nat, ((l.filter fun k => !r.has k).map fun k => (k, (Rep.oth r).getD ((r.calls + k) % (Rep.oth r).length) 0)) = l.flatMap (nlF r.has r.calls (Rep.oth r)) := fun l => by
    induction l with
    | nil => rfl
    | cons k l ih =>
      rw [List.flatMap_cons, ← ih]
      cases hk : r.has k <;> simp [nlF, hk]
  exact key _
theorem rel_nil_sl {M : Pm} {k : Nat} {v : Value} (h : Rel M (.v nilS) v) : Rel M (.sl k []) v := by
  simp only [Rel] at h ⊢
  exact ⟨none, 0, h, ⟨Nat.le_refl _, by omega, fun _ => ⟨rfl, rfl⟩, fun a h => by cases h⟩, by simp [El], fun _ _ h => by cases h⟩
def obsTn (b : Nat) (h : Nat → Bool) (c : Nat) (N : List (Nat × Nat)) (hd : Value) : Obs := [(b, .cells (trC h c)), (0, .room 2 125 (Row.aggs neC N).length hd)]
theorem tneeds_loop (Γ : Ctx) (b : Nat) (h : Nat → Bool) (c c' : Nat) (L : List Nat) (hL0 : L ≠ []) (hL : L.length ≤ 1000000) (hc : c ≤ 1000000) (gl : Glb) (Q : T → Obs → Glb → Prop) : ∀ (n i : Nat) (N : List (Nat × Nat)) (hd : Value), i + n = 6 → N.length ≤ i →
    (∀ r, r = .sl 2 (Row.aggs neC (N ++ nl h c L i n)) → Q r (obsT b h c') gl) →
    TWk Try.prog Γ (fin Try.prog Try.f37 [0] Q) [.code (sub (bd Try.f37) [1, 1, 1, 1, 1, 1, 0, 1, 0]), .blk 0, .code (sub (bd Try.f37) [1, 1, 1, 1, 1, 1, 1])] ⟨frame 52 [(1, .sl 1 (X5.u8s L)), (5, int c), (6, .slx 2 1 (Row.aggs neC N) hd), (28, .agg [bool (h 0), bool (h 1), bool (h 2), bool (h 3), bool (h 4), bool (h 5)]), (29, int i)], obsTn b h c' N hd, gl⟩ := by
  intro n
  induction n with
  | zero =>
    intro i N hd hi hN hQ
    have hi : i = 6 := by omega
    subst hi
    have hQ := hQ _ rfl
    rw [show nl h c L 6 0 = [] from rfl, List.append_nil] at hQ
    refine run_sound (⟨fun _ _ => .no, [], fun _ => none⟩) 400 (B := Q (T.sl (2 : Nat) (List.map (fun x => T.agg (neC x)) N)) [(b, Ob.cells [T.v (Value.bool (h (0 : Nat))), T.v (Value.bool (h (1 : Nat))), T.v (Value.bool (h (2 : Nat))), T.v (Value.bool (h (3 : Nat))), T.v (Value.bool (h (4 : Nat))), T.v (Value.bool (h (5 : Nat))), T.v (Value.int IntKind.i64 (↑c' : Int))])] gl) (by kernel_rfl) ?_
    repeat' (first | exact rfl | exact Nat.le_of_ble_eq_true rfl | refine And.intro ?_ ?_ | intro _ | refine bsplit_mk (fun _ => ?_) (fun _ => ?_))
    exact hQ
  | succ n ih =>
    intro i N hd hi hN hQ
    have hw : IntKind.wrap .i64 ((i : Int) + 1) = ((i + 1 : Nat) : Int) := by rw [wrap_i64 (by omega) (by omega)]; omega
    have hw2 : IntKind.wrap .i64 ((c : Int) + (i : Int)) = ((c + i : Nat) : Int) := by rw [wrap_i64 (by omega) (by omega)]; omega
    have hw3 : IntKind.wrap .u8 (i : Int) = (i : Int) := IntWalk.u8_in _ (by omega)
    have hlp : 0 < L.length := List.length_pos_iff.2 hL0
    have l1 : (X5.u8s L).length = L.length := X5.u8s_len L
    have hti : Int.tmod ((c + i : Nat) : Int) (L.length : Int) = (((c + i) % L.length : Nat) : Int) := IntWalk.up_tmod rfl rfl
    rw [nl_succ] at hQ
    cases hh : h i with
    | true =>
      have nx := ih (i + 1) N hd (by omega) (by omega) (fun r hr => hQ r (by rw [hr, nlF, if_pos hh, List.nil_append]))
      clear ih hQ
      generalize X5.u8s L = U at *
      refine run_sound (⟨fun | 10, 1 => .res (bool true) | 13, 0 => .res (int (i + 1 : Nat)) | _, _ => .no, [((2, 9), ([1, 5, 6, 28, 29], 2))], fun  | _ => none⟩) 400 (B := bsplit (decide ((↑i : Int) < (6 : Int))) (((0 : Int) ≤ (↑i : Int) ∧ (↑i : Int) < (↑(6 : Nat) : Int)) ∧ [bool (h 0), bool (h 1), bool (h 2), bool (h 3), bool (h 4), bool (h 5)][Int.toNat (↑i : Int) * nat_lit 1]? = some (bool true) ∧ int (IntKind.wrap IntKind.i64 ((↑i : Int) + (1 : Int))) = int (i + 1) ∧ TWk Try.prog Γ (fin Try.prog Try.f37 [0] Q) [It.code (sub (bd Try.f37) [1, 1, 1, 1, 1, 1, 0, 1, 0]), It.blk 0, It.code (sub (bd Try.f37) [1, 1, 1, 1, 1, 1, 1])] { fr := frame 52 [(1, T.sl 1 U), (5, int c), (6, T.slx 2 1 (List.map (fun x => T.agg (neC x)) N) hd), (28, T.agg [bool (h 0), bool (h 1), bool (h 2), bool (h 3), bool (h 4), bool (h 5)]), (29, int (i + 1))], ob := [(b, Ob.cells [bool (h 0), bool (h 1), bool (h 2), bool (h 3), bool (h 4), bool (h 5), int c']), (0, Ob.room 2 125 (List.length (List.map (fun x => T.agg (neC x)) N)) hd)], gl := gl }) (Q (T.sl 2 (List.map (fun x => T.agg (neC x)) N)) [(b, Ob.cells [bool (h 0), bool (h 1), bool (h 2), bool (h 3), bool (h 4), bool (h 5), int c'])] gl)) (by kernel_rfl) ?_
      repeat' (first | exact rfl | exact Nat.le_of_ble_eq_true rfl | refine And.intro ?_ ?_ | intro _ | refine bsplit_mk (fun _ => ?_) (fun _ => ?_))
      all_goals first
        | omega
        | exact congrArg int hw
        | exact nx
        | (rcases six (show i < 6 by omega) with rfl | rfl | rfl | rfl | rfl | rfl <;> exact congrArg (fun x => some (bool x)) hh)
        | (exfalso; rename_i g; have := of_decide_eq_false g; omega)
        | trace_state
    | false =>
      have nx := fun hd => ih (i + 1) (N ++ [(i, L.getD ((c + i) % L.length) 0)]) hd (by omega) (by simp; omega) (fun r hr => hQ r (by rw [hr, nlF, if_neg (by simp [hh]), ← List.append_assoc]))
      clear ih hQ
      have hat : (X5.u8s L)[((((c + i) % L.length : Nat) : Int)).toNat]? = some (u8 (L.getD ((c + i) % L.length) 0 : Nat)) := u8s_at (by
        have : (c + i) % L.length < L.length := Nat.mod_lt _ hlp
        rw [Int.toNat_natCast, List.getD_eq_getElem?_getD, List.getElem?_eq_getElem this]; rfl)
      generalize X5.u8s L = U at *
      generalize L.getD ((c + i) % L.length) 0 = y at *
      refine run_sound (⟨fun | 10, 1 => .res (bool false) | 12, 2 => .res (u8 i) | 12, 9 => .no | 12, 10 => .res (u8 y) | 13, 0 => .res (int (i + 1 : Nat)) | _, _ => .no, [((2, 9), ([1, 5, 6, 28, 29], 2))], fun  | _ => none⟩) 400 (B := bsplit (decide ((↑i : Int) < (6 : Int))) (((0 : Int) ≤ (↑i : Int) ∧ (↑i : Int) < (↑(6 : Nat) : Int)) ∧ [bool (h 0), bool (h 1), bool (h 2), bool (h 3), bool (h 4), bool (h 5)][Int.toNat (↑i : Int) * nat_lit 1]? = some (bool false) ∧ u8 (IntKind.wrap IntKind.u8 (↑i : Int)) = u8 i ∧ ¬(↑(List.length U) : Int) = (0 : Int) ∧ (0 : Int) ≤ Int.tmod (IntKind.wrap IntKind.i64 ((↑c : Int) + (↑i : Int))) (↑(List.length U) : Int) ∧ U[Int.toNat (Int.tmod (IntKind.wrap IntKind.i64 ((↑c : Int) + (↑i : Int))) (↑(List.length U) : Int))]? = some (u8 y) ∧ (hd = hd ∧ List.length (List.map (fun x => T.agg (neC x)) N) = List.length (List.map (fun x => T.agg (neC x)) N)) ∧ Fits (List.length (List.map (fun x => T.agg (neC x)) N) + 1) (nat_lit 2) ∧ ∀ (x : Value), int (IntKind.wrap IntKind.i64 ((↑i : Int) + (1 : Int))) = int (i + 1) ∧ TWk Try.prog Γ (fin Try.prog Try.f37 [0] Q) [It.code (sub (bd Try.f37) [1, 1, 1, 1, 1, 1, 0, 1, 0]), It.blk 0, It.code (sub (bd Try.f37) [1, 1, 1, 1, 1, 1, 1])] { fr := frame 52 [(1, T.sl 1 U), (5, int c), (6, T.slx 2 1 (List.map (fun x => T.agg (neC x)) N ++ [T.agg [u8 i, u8 y]]) x), (28, T.agg [bool (h 0), bool (h 1), bool (h 2), bool (h 3), bool (h 4), bool (h 5)]), (29, int (i + 1))], ob := [(b, Ob.cells [bool (h 0), bool (h 1), bool (h 2), bool (h 3), bool (h 4), bool (h 5), int c']), (0, Ob.room 2 125 (List.length (List.map (fun x => T.agg (neC x)) N ++ [T.agg [u8 i, u8 y]])) x)], gl := gl }) (Q (T.sl 2 (List.map (fun x => T.agg (neC x)) N)) [(b, Ob.cells [bool (h 0), bool (h 1), bool (h 2), bool (h 3), bool (h 4), bool (h 5), int c'])] gl)) (by kernel_rfl) ?_
      repeat' (first | exact rfl | exact Nat.le_of_ble_eq_true rfl | refine And.intro ?_ ?_ | intro _ | refine bsplit_mk (fun _ => ?_) (fun _ => ?_))
      all_goals first
        | omega
        | exact congrArg int hw
        | exact congrArg u8 hw3
        | (rcases six (show i < 6 by omega) with rfl | rfl | rfl | rfl | rfl | rfl <;> exact congrArg (fun x => some (bool x)) hh)
        | (exfalso; rename_i g; have := of_decide_eq_false g; omega)
        | (rw [hw2, l1, hti]; exact hat)
        | (rw [hw2, l1, hti]; have := Nat.mod_lt (c + i) hlp; omega)
        | (rw [l1]; omega)
        | (simp only [List.length_map, maxLen]; omega)
        | (rename_i v; have h2 := nx v; simp only [obsTn, Row.aggs, List.map_append, List.map_cons, List.map_nil] at h2; exact h2)
        | trace_state
theorem tneeds_nil (b : Nat) (h : Nat → Bool) (c : Nat) (hc : c ≤ 1000000) (gl : Glb) (Q : T → Obs → Glb → Prop) (hQ : Q (.v nilS) (obsT b h (c + 1)) gl) : TCalls Try.prog 37 [.ptr 0 b 0, .sl 1 (X5.u8s [])] (obsT b h c) gl Q := by
  have hw : IntKind.wrap .i64 ((c : Int) + 1) = ((c + 1 : Nat) : Int) := by rw [wrap_i64 (by omega) (by omega)]; omega
  refine TCalls.of Try.func37 rfl (CanCall.of Try.func37 rfl (by decide)) [0] fun Γ => ?_
  refine run_sound (⟨fun _ _ => .no, [], fun _ => none⟩) 400 (B := b = b ∧ b = b ∧ (1 = nat_lit 1 ∧ List.all (List.map T.v (Array.toList #[Value.int IntKind.i64 (IntKind.wrap IntKind.i64 ((↑c : Int) + (1 : Int)))])) T.one = true) ∧ b = b ∧ 6 + nat_lit 1 ≤ 7 ∧ Q (T.v (Value.slice none 0 0)) [(b, Ob.cells [bool (h 0), bool (h 1), bool (h 2), bool (h 3), bool (h 4), bool (h 5), int (IntKind.wrap IntKind.i64 ((↑c : Int) + (1 : Int)))])] gl) (by kernel_rfl) ?_
  rw [hw]
  repeat' (first | exact rfl | exact Nat.le_of_ble_eq_true rfl | refine And.intro ?_ ?_ | intro _ | refine bsplit_mk (fun _ => ?_) (fun _ => ?_))
  exact hQ
theorem tneeds_cons (b : Nat) (h : Nat → Bool) (c : Nat) (L : List Nat) (hL0 : L ≠ []) (hL : L.length ≤ 1000000) (hc : c ≤ 1000000) (gl : Glb) (Q : T → Obs → Glb → Prop) (hQ : Q (.sl 2 (Row.aggs neC (nl h c L 0 6))) (obsT b h (c + 1)) gl) : TCalls Try.prog 37 [.ptr 0 b 0, .sl 1 (X5.u8s L)] (obsT b h c) gl Q := by
  have hw : IntKind.wrap .i64 ((c : Int) + 1) = ((c + 1 : Nat) : Int) := by rw [wrap_i64 (by omega) (by omega)]; omega
  have lp := fun Γ => tneeds_loop Γ b h c (c + 1) L hL0 hL hc gl Q 6 0 [] nilS rfl (Nat.le_refl _) (fun r hr => by rw [hr, List.nil_append]; exact hQ)
  have hlp : 0 < L.length := List.length_pos_iff.2 hL0
  have l1 : (X5.u8s L).length = L.length := X5.u8s_len L
  clear hQ
  generalize X5.u8s L = U at *
  have lp2 : ∀ Γ, TWk Try.prog Γ (fin Try.prog Try.f37 [0] Q) [.code (sub (bd Try.f37) [1, 1, 1, 1, 1, 1, 0, 1, 0]), .blk 0, .code (sub (bd Try.f37) [1, 1, 1, 1, 1, 1, 1])] ⟨frame 52 [(1, .sl 1 U), (5, int c), (6, .v nilS), (28, .agg [bool (h 0), bool (h 1), bool (h 2), bool (h 3), bool (h 4), bool (h 5)]), (29, int 0)], obsT b h (c + 1), gl⟩ := fun Γ =>
    TWk.imp (lp Γ) ((Imp.room 2 125).trans (Imp.slot 2 1 6 rfl))
  clear lp
  refine TCalls.of Try.func37 rfl (CanCall.of Try.func37 rfl (by decide)) [0] fun Γ => ?_
  refine run_sound (⟨fun _ _ => .no, [((2, 9), ([1, 5, 6, 28, 29], 1))], fun _ => none⟩) 400 (B := b = b ∧ b = b ∧ (1 = nat_lit 1 ∧ List.all (List.map T.v (Array.toList #[Value.int IntKind.i64 (IntKind.wrap IntKind.i64 ((↑c : Int) + (1 : Int)))])) T.one = true) ∧ b = b ∧ 6 + nat_lit 1 ≤ 7 ∧ bsplit ((↑(List.length U) : Int) == (0 : Int)) (Q (T.v (Value.slice none 0 0)) [(b, Ob.cells [bool (h 0), bool (h 1), bool (h 2), bool (h 3), bool (h 4), bool (h 5), int (IntKind.wrap IntKind.i64 ((↑c : Int) + (1 : Int)))])] gl) (b = b ∧ TWk Try.prog Γ (fin Try.prog Try.f37 [0] Q) [It.code (sub (bd Try.f37) [1, 1, 1, 1, 1, 1, 0, 1, 0]), It.blk 0, It.code (sub (bd Try.f37) [1, 1, 1, 1, 1, 1, 1])] { fr := frame 52 [(1, T.sl 1 U), (5, int c), (6, T.v (Value.slice none 0 0)), (28, T.agg [bool (h 0), bool (h 1), bool (h 2), bool (h 3), bool (h 4), bool (h 5)]), (29, int (0 : Int))], ob := [(b, Ob.cells [bool (h 0), bool (h 1), bool (h 2), bool (h 3), bool (h 4), bool (h 5), int (IntKind.wrap IntKind.i64 ((↑c : Int) + (1 : Int)))])], gl := gl })) (by kernel_rfl) ?_
  rw [hw]
  repeat' (first | exact rfl | exact Nat.le_of_ble_eq_true rfl | refine And.intro ?_ ?_ | intro _ | refine bsplit_mk (fun _ => ?_) (fun _ => ?_))
  all_goals first
    | exact lp2 _
    | (exfalso; rename_i g; rw [beq_iff_eq] at g; omega)
    | trace_state
theorem tneedsG {b : Nat} {h : Nat → Bool} {c : Nat} {gl : Glb} (hg : gl b = some (.cells (trC h c))) (L : List Nat) (hL : L.length ≤ 1000000) (hc : c ≤ 1000000) (Q : T → Obs → Glb → Prop) (hQ : Q (.sl 2 (Row.aggs neC (if L = [] then [] else nl h c L 0 6))) [] (setO gl b (.cells (trC h (c + 1))))) : TCalls Try.prog 37 [.gp b 0, .sl 1 (X5.u8s L)] [] gl Q := by
  by_cases h0 : L = []
  · subst h0
    rw [if_pos rfl] at hQ
    refine TCalls.post (famT (Q := fun r ob gl' => r = .v nilS ∧ ob = [] ∧ gl' = setO gl b (.cells (trC h (c + 1)))) hg (tneeds_nil b h c hc _ (fun r ob' gl' => r = .v nilS ∧ ob' = obsT b h (c + 1) ∧ gl' = dropO gl b) ⟨rfl, rfl, rfl⟩) fun r ob' gl' ⟨h1, h2, h3⟩ => ⟨h, c + 1, h2, h3, h1, rfl, rfl⟩) ?_
    rintro r ob' gl' ⟨rfl, rfl, rfl⟩
    exact ⟨.sl 2 [], [], _, Imp.slotR (j := 0) rfl (fun _ _ h => rel_nil_sl h), hQ⟩
  · rw [if_neg h0] at hQ
    exact famT hg (tneeds_cons b h c L h0 hL hc _ (fun r ob' gl' => r = .sl 2 (Row.aggs neC (nl h c L 0 6)) ∧ ob' = obsT b h (c + 1) ∧ gl' = dropO gl b) ⟨rfl, rfl, rfl⟩) fun r ob' gl' ⟨h1, h2, h3⟩ => ⟨h, c + 1, h2, h3, by rw [h1]; exact hQ⟩
end X20
end Go.Proofs.Ytafcbipmmjegcaa.Vm
