/- Replicas by the engine: a key gives way, settles; a word is sent on. -/
import Derived.Test.YtafcbipmmjegcaaRpE
namespace Go.Proofs.Ytafcbipmmjegcaa.Vm
open Go Go.RowKit
set_option maxRecDepth 100000
namespace X20
open Rep (Stp Wrd Cel Drv Plc RS Fm Ev setP)
open X5 (viewC lim othV hasV aheadV behindV ends_any)
theorem way_any (b bo : Nat) (r : RS) (D : Dr) (F : List Fm) (hf : Value) (E : List Ev) (he : Value) (k : Nat) (hk : k < 6) (gl : Glb) (ho : Own D r gl) (hE : E.length + 1 ≤ 1000000) (Q : T → Obs → Glb → Prop) (hQ : ∀ he', Q (.tup []) (obsR b (Rep.way r k).1 D ++ obsO 1 bo F hf (E ++ (Rep.way r k).2) he') gl) :
    TCalls Try.prog 87 [.ptr 0 b 0, .ptr 1 bo 0, u8 k] (obsR b r D ++ obsO 1 bo F hf E he) gl Q := by
  obtain ⟨r0, hr0⟩ : ∃ r0, r0 = setP r k { r.P k with age := 0 } := ⟨_, rfl⟩
  obtain ⟨r1, hr1⟩ : ∃ r1, r1 = setP r k { r.P k with age := 0, dr := none } := ⟨_, rfl⟩
  cases hd : (r.P k).dr with
  | none =>
    have hdT := dT_none hd (D.g k)
    have hQ := hQ he
    rw [show Rep.way r k = (r0, []) by unfold Rep.way; rw [hd, hr0], List.append_nil] at hQ
    refine TCalls.of Try.func87 rfl (CanCall.of Try.func87 rfl (by decide)) [0, 1, 2, 3] fun Γ => ?_
    refine run_sound (⟨fun | 1, 3 => .obj (repC r0 D) | 2, 3 => .res (.v (.pointer none)) | _, _ => .no, [], fun  | _ => none⟩) 400 (B := ((0 : Int) ≤ (↑k : Int) ∧ (↑k : Int) < (↑(6 : Nat) : Int)) ∧ (1 = nat_lit 1 ∧ List.all (List.map T.v (Array.toList #[Value.int IntKind.i64 (0 : Int)])) T.one = true) ∧ b = b ∧ 12 + Int.toNat (↑k : Int) * nat_lit 9 + nat_lit 8 + nat_lit 1 ≤ 67 ∧ setCells (repC r D) (12 + Int.toNat (↑k : Int) * nat_lit 9 + nat_lit 8) [int (0 : Int)] = repC r0 D ∧ b = b ∧ (List.drop (12 + Int.toNat (↑k : Int) * nat_lit 9 + nat_lit 7) (repC r0 D))[0]? = some (T.v (Value.pointer none)) ∧ Q (T.tup []) [(b, Ob.cells (repC r0 D)), (bo, Ob.cells [T.slx 34 2 (List.map (fun x => T.agg (frC x)) F) hf, T.slx 5 3 (List.map (fun x => T.agg (evC x)) E) he]), (0, Ob.room 34 70 (List.length (List.map (fun x => T.agg (frC x)) F)) hf), (0, Ob.room 5 73 (List.length (List.map (fun x => T.agg (evC x)) E)) he)] gl) (by kernel_rfl) ?_
    repeat' (first | exact rfl | exact Nat.le_of_ble_eq_true rfl | refine And.intro ?_ ?_ | intro _ | refine bsplit_mk (fun _ => ?_) (fun _ => ?_))
    all_goals first
      | omega
      | exact hQ
      | (rw [hr0]; rcases six hk with rfl | rfl | rfl | rfl | rfl | rfl <;> rfl)
      | (rw [hr0, ← hdT]; rcases six hk with rfl | rfl | rfl | rfl | rfl | rfl <;> rfl)
      | (rcases six hk with rfl | rfl | rfl | rfl | rfl | rfl <;> decide)
      | trace_state
  | some d =>
    have hle := ho.dr k hk d hd
    have hdT : dT (r.P k).dr (D.g k) = .gp (D.g k) 0 := dT_some hd _
    cases hown : d.own with
    | false =>
      have hQ := hQ he
      rw [show Rep.way r k = (r1, []) by unfold Rep.way; rw [hd, hr1]; simp [hown], List.append_nil] at hQ
      refine TCalls.of Try.func87 rfl (CanCall.of Try.func87 rfl (by decide)) [0, 1, 2, 3] fun Γ => ?_
      refine run_sound (⟨fun | 1, 3 => .obj (repC r0 D) | 2, 3 => .res (.gp (D.g k) 0) | 4, 1 => toldG (bool false) [] [] gl | 5, 3 => .obj (repC r1 D) | _, _ => .no, [], fun  | _ => none⟩) 400 (B := ((0 : Int) ≤ (↑k : Int) ∧ (↑k : Int) < (↑(6 : Nat) : Int)) ∧ (1 = nat_lit 1 ∧ List.all (List.map T.v (Array.toList #[Value.int IntKind.i64 (0 : Int)])) T.one = true) ∧ b = b ∧ 12 + Int.toNat (↑k : Int) * nat_lit 9 + nat_lit 8 + nat_lit 1 ≤ 67 ∧ setCells (repC r D) (12 + Int.toNat (↑k : Int) * nat_lit 9 + nat_lit 8) [int (0 : Int)] = repC r0 D ∧ b = b ∧ (List.drop (12 + Int.toNat (↑k : Int) * nat_lit 9 + nat_lit 7) (repC r0 D))[0]? = some (T.gp (Dr.g D k) 0) ∧ TCalls Try.prog 56 [T.gp (Dr.g D k) 0] [] gl (callPost (Hint.call false Unit (fun x => True) [] true (fun x => bool false) (fun x => []) fun x => gl)) ∧ ∀ (a : Unit), True → (1 = nat_lit 1 ∧ List.all (List.map T.v (Array.toList #[Value.pointer none])) T.one = true) ∧ b = b ∧ 12 + Int.toNat (↑k : Int) * nat_lit 9 + nat_lit 7 + nat_lit 1 ≤ 67 ∧ setCells (repC r0 D) (12 + Int.toNat (↑k : Int) * nat_lit 9 + nat_lit 7) [T.v (Value.pointer none)] = repC r1 D ∧ Q (T.tup []) [(b, Ob.cells (repC r1 D)), (bo, Ob.cells [T.slx 34 2 (List.map (fun x => T.agg (frC x)) F) hf, T.slx 5 3 (List.map (fun x => T.agg (evC x)) E) he]), (0, Ob.room 34 70 (List.length (List.map (fun x => T.agg (frC x)) F)) hf), (0, Ob.room 5 73 (List.length (List.map (fun x => T.agg (evC x)) E)) he)] gl) (by kernel_rfl) ?_
      repeat' (first | exact rfl | exact Nat.le_of_ble_eq_true rfl | refine And.intro ?_ ?_ | intro _ | refine bsplit_mk (fun _ => ?_) (fun _ => ?_))
      all_goals first
        | omega
        | exact hQ
        | (refine downG hle _ (toldG_post ?_); rw [hown])
        | (rw [hr0]; rcases six hk with rfl | rfl | rfl | rfl | rfl | rfl <;> rfl)
        | (rw [hr0, ← hdT]; rcases six hk with rfl | rfl | rfl | rfl | rfl | rfl <;> rfl)
        | (rw [hr0, hr1]; rcases six hk with rfl | rfl | rfl | rfl | rfl | rfl <;> rfl)
        | (rcases six hk with rfl | rfl | rfl | rfl | rfl | rfl <;> decide)
        | trace_state
    | true =>
      cases hrm : d.w.r with
      | false =>
        have hQ := hQ he
        rw [show Rep.way r k = (r0, []) by unfold Rep.way; rw [hd, hr0]; simp [hown, hrm], List.append_nil] at hQ
        refine TCalls.of Try.func87 rfl (CanCall.of Try.func87 rfl (by decide)) [0, 1, 2, 3] fun Γ => ?_
        refine run_sound (⟨fun | 1, 3 => .obj (repC r0 D) | 2, 3 => .res (.gp (D.g k) 0) | 4, 1 => toldG (bool true) [] [] gl | 6, 1 => wordG d gl | 6, 2 => .res (bool false) | _, _ => .no, [], fun  | _ => none⟩) 400 (B := ((0 : Int) ≤ (↑k : Int) ∧ (↑k : Int) < (↑(6 : Nat) : Int)) ∧ (1 = nat_lit 1 ∧ List.all (List.map T.v (Array.toList #[Value.int IntKind.i64 (0 : Int)])) T.one = true) ∧ b = b ∧ 12 + Int.toNat (↑k : Int) * nat_lit 9 + nat_lit 8 + nat_lit 1 ≤ 67 ∧ setCells (repC r D) (12 + Int.toNat (↑k : Int) * nat_lit 9 + nat_lit 8) [int (0 : Int)] = repC r0 D ∧ b = b ∧ (List.drop (12 + Int.toNat (↑k : Int) * nat_lit 9 + nat_lit 7) (repC r0 D))[0]? = some (T.gp (Dr.g D k) 0) ∧ TCalls Try.prog 56 [T.gp (Dr.g D k) 0] [] gl (callPost (Hint.call false Unit (fun x => True) [] true (fun x => bool true) (fun x => []) fun x => gl)) ∧ ∀ (a : Unit), True → TCalls Try.prog 55 [T.gp (Dr.g D k) 0] [] gl (callPost (Hint.call false Unit (fun x => True) [] true (fun x => T.agg (wdC (Drv.w d))) (fun x => []) fun x => gl)) ∧ ∀ (a : Unit), True → some (bool (Wrd.r (Drv.w d))) = some (bool false) ∧ Q (T.tup []) [(b, Ob.cells (repC r0 D)), (bo, Ob.cells [T.slx 34 2 (List.map (fun x => T.agg (frC x)) F) hf, T.slx 5 3 (List.map (fun x => T.agg (evC x)) E) he]), (0, Ob.room 34 70 (List.length (List.map (fun x => T.agg (frC x)) F)) hf), (0, Ob.room 5 73 (List.length (List.map (fun x => T.agg (evC x)) E)) he)] gl) (by kernel_rfl) ?_
        repeat' (first | exact rfl | exact Nat.le_of_ble_eq_true rfl | refine And.intro ?_ ?_ | intro _ | refine bsplit_mk (fun _ => ?_) (fun _ => ?_))
        all_goals first
          | omega
          | exact hQ
          | (refine downG hle _ (toldG_post ?_); rw [hown])
          | exact dwordG hle _ (toldG_post rfl)
          | (rw [hr0]; rcases six hk with rfl | rfl | rfl | rfl | rfl | rfl <;> rfl)
          | (rw [hr0, ← hdT]; rcases six hk with rfl | rfl | rfl | rfl | rfl | rfl <;> rfl)
          | (rcases six hk with rfl | rfl | rfl | rfl | rfl | rfl <;> decide)
          | exact congrArg (fun x => some (bool x)) hrm
          | trace_state
      | true =>
        rw [show Rep.way r k = (r1, [⟨k, 2, d.w.s⟩]) by unfold Rep.way; rw [hd, hr1]; simp [hown, hrm]] at hQ
        refine TCalls.of Try.func87 rfl (CanCall.of Try.func87 rfl (by decide)) [0, 1, 2, 3] fun Γ => ?_
        refine run_sound (⟨fun | 1, 3 => .obj (repC r0 D) | 2, 3 => .res (.gp (D.g k) 0) | 4, 1 => toldG (bool true) [] [] gl | 6, 1 => wordG d gl | 6, 2 => .res (bool true) | 7, 3 => .obj (repC r1 D) | 8, 3 => wordG d gl | 8, 5 => happH 1 bo F hf E ⟨k, 2, d.w.s⟩ | _, _ => .no, [], fun  | _ => none⟩) 400 (B := ((0 : Int) ≤ (↑k : Int) ∧ (↑k : Int) < (↑(6 : Nat) : Int)) ∧ (1 = nat_lit 1 ∧ List.all (List.map T.v (Array.toList #[Value.int IntKind.i64 (0 : Int)])) T.one = true) ∧ b = b ∧ 12 + Int.toNat (↑k : Int) * nat_lit 9 + nat_lit 8 + nat_lit 1 ≤ 67 ∧ setCells (repC r D) (12 + Int.toNat (↑k : Int) * nat_lit 9 + nat_lit 8) [int (0 : Int)] = repC r0 D ∧ b = b ∧ (List.drop (12 + Int.toNat (↑k : Int) * nat_lit 9 + nat_lit 7) (repC r0 D))[0]? = some (T.gp (Dr.g D k) 0) ∧ TCalls Try.prog 56 [T.gp (Dr.g D k) 0] [] gl (callPost (Hint.call false Unit (fun x => True) [] true (fun x => bool true) (fun x => []) fun x => gl)) ∧ ∀ (a : Unit), True → TCalls Try.prog 55 [T.gp (Dr.g D k) 0] [] gl (callPost (Hint.call false Unit (fun x => True) [] true (fun x => T.agg (wdC (Drv.w d))) (fun x => []) fun x => gl)) ∧ ∀ (a : Unit), True → some (bool (Wrd.r (Drv.w d))) = some (bool true) ∧ (1 = nat_lit 1 ∧ List.all (List.map T.v (Array.toList #[Value.pointer none])) T.one = true) ∧ b = b ∧ 12 + Int.toNat (↑k : Int) * nat_lit 9 + nat_lit 7 + nat_lit 1 ≤ 67 ∧ setCells (repC r0 D) (12 + Int.toNat (↑k : Int) * nat_lit 9 + nat_lit 7) [T.v (Value.pointer none)] = repC r1 D ∧ TCalls Try.prog 55 [T.gp (Dr.g D k) 0] [] gl (callPost (Hint.call false Unit (fun x => True) [] true (fun x => T.agg (wdC (Drv.w d))) (fun x => []) fun x => gl)) ∧ ∀ (a : Unit), True → TCalls Try.prog 83 [T.ptr 0 bo 0, u8 k, int (2 : Int), T.agg [u32 (Stp.n (Wrd.s (Drv.w d))), u8 (Stp.b (Wrd.s (Drv.w d))), u8 (Stp.l (Wrd.s (Drv.w d)))]] [(bo, Ob.cells [T.slx 34 1 (List.map (fun x => T.agg (frC x)) F) hf, T.slx 5 2 (List.map (fun x => T.agg (evC x)) E) he]), (0, Ob.room 34 70 (List.length (List.map (fun x => T.agg (frC x)) F)) hf), (0, Ob.room 5 73 (List.length (List.map (fun x => T.agg (evC x)) E)) he)] (fun x => none) (callPost (Hint.call false Value (fun x => True) [1, 1 + 1, 1 + 2] false (fun x => T.tup []) (fun he => obsO 0 bo F hf (E ++ [{ key := k, kind := 2, s := Wrd.s (Drv.w d) }]) he) fun x => none_)) ∧ ∀ (a : Value), True → Q (T.tup []) [(b, Ob.cells (repC r1 D)), (bo, Ob.cells [T.slx 34 2 (List.map (fun x => T.agg (frC x)) F) hf, T.slx 5 3 (List.map (fun x => T.agg (evC x)) (E ++ [{ key := k, kind := 2, s := Wrd.s (Drv.w d) }])) a]), (0, Ob.room 34 70 (List.length (List.map (fun x => T.agg (frC x)) F)) hf), (0, Ob.room 5 73 (List.length (List.map (fun x => T.agg (evC x)) (E ++ [{ key := k, kind := 2, s := Wrd.s (Drv.w d) }]))) a)] gl) (by kernel_rfl) ?_
        repeat' (first | exact rfl | exact Nat.le_of_ble_eq_true rfl | refine And.intro ?_ ?_ | intro _ | refine bsplit_mk (fun _ => ?_) (fun _ => ?_))
        all_goals first
          | omega
          | exact hQ _
          | (refine downG hle _ (toldG_post ?_); rw [hown])
          | exact dwordG hle _ (toldG_post rfl)
          | exact happen_any bo F hf E he k 2 d.w.s hE _ fun v => ⟨v, trivial, rfl, rfl, Nat.le_of_ble_eq_true rfl, fun h => by cases h⟩
          | (rw [hr0]; rcases six hk with rfl | rfl | rfl | rfl | rfl | rfl <;> rfl)
          | (rw [hr0, ← hdT]; rcases six hk with rfl | rfl | rfl | rfl | rfl | rfl <;> rfl)
          | (rw [hr0, hr1]; rcases six hk with rfl | rfl | rfl | rfl | rfl | rfl <;> rfl)
          | (rcases six hk with rfl | rfl | rfl | rfl | rfl | rfl <;> decide)
          | exact congrArg (fun x => some (bool x)) hrm
          | trace_state
theorem settle_any (b : Nat) (r : RS) (D : Dr) (k : Nat) (hk : k < 6) (gl : Glb) (ho : Own D r gl) (Q : T → Obs → Glb → Prop) (hQ : Q (.tup []) (obsR b (Rep.rest r k) D) gl) :
    TCalls Try.prog 88 [.ptr 0 b (12 + (k : Int).toNat * 9)] (obsR b r D) gl Q := by
  obtain ⟨r0, hr0⟩ : ∃ r0, r0 = setP r k { r.P k with age := 0 } := ⟨_, rfl⟩
  obtain ⟨r1, hr1⟩ : ∃ r1, r1 = setP r k { r.P k with age := 0, dr := none } := ⟨_, rfl⟩
  cases hd : (r.P k).dr with
  | none =>
    have hdT := dT_none hd (D.g k)
    rw [show Rep.rest r k = r0 by unfold Rep.rest; rw [hd, hr0]] at hQ
    refine TCalls.of Try.func88 rfl (CanCall.of Try.func88 rfl (by decide)) [0] fun Γ => ?_
    refine run_sound (⟨fun | 0, 3 => .obj (repC r0 D) | 1, 3 => .res (.v (.pointer none)) | _, _ => .no, [], fun  | _ => none⟩) 400 (B := (1 = nat_lit 1 ∧ List.all (List.map T.v (Array.toList #[Value.int IntKind.i64 (0 : Int)])) T.one = true) ∧ b = b ∧ 12 + Int.toNat (↑k : Int) * 9 + nat_lit 8 + nat_lit 1 ≤ 67 ∧ setCells (repC r D) (12 + Int.toNat (↑k : Int) * 9 + nat_lit 8) [int (0 : Int)] = repC r0 D ∧ b = b ∧ (List.drop (12 + Int.toNat (↑k : Int) * 9 + nat_lit 7) (repC r0 D))[0]? = some (T.v (Value.pointer none)) ∧ Q (T.tup []) [(b, Ob.cells (repC r0 D))] gl) (by kernel_rfl) ?_
    repeat' (first | exact rfl | exact Nat.le_of_ble_eq_true rfl | refine And.intro ?_ ?_ | intro _ | refine bsplit_mk (fun _ => ?_) (fun _ => ?_))
    all_goals first
      | omega
      | exact hQ
      | (rw [hr0]; rcases six hk with rfl | rfl | rfl | rfl | rfl | rfl <;> rfl)
      | (rw [hr0, ← hdT]; rcases six hk with rfl | rfl | rfl | rfl | rfl | rfl <;> rfl)
      | (rcases six hk with rfl | rfl | rfl | rfl | rfl | rfl <;> decide)
      | trace_state
  | some d =>
    have hle := ho.dr k hk d hd
    have hdT : dT (r.P k).dr (D.g k) = .gp (D.g k) 0 := dT_some hd _
    cases hown : d.own with
    | false =>
      rw [show Rep.rest r k = r1 by unfold Rep.rest; rw [hd, hr1]; simp [hown]] at hQ
      refine TCalls.of Try.func88 rfl (CanCall.of Try.func88 rfl (by decide)) [0] fun Γ => ?_
      refine run_sound (⟨fun | 0, 3 => .obj (repC r0 D) | 1, 3 => .res (.gp (D.g k) 0) | 1, 9 => .res (.gp (D.g k) 0) | 1, 10 => toldG (bool false) [] [] gl | 2, 3 => .obj (repC r1 D) | _, _ => .no, [], fun  | _ => none⟩) 400 (B := (1 = nat_lit 1 ∧ List.all (List.map T.v (Array.toList #[Value.int IntKind.i64 (0 : Int)])) T.one = true) ∧ b = b ∧ 12 + Int.toNat (↑k : Int) * 9 + nat_lit 8 + nat_lit 1 ≤ 67 ∧ setCells (repC r D) (12 + Int.toNat (↑k : Int) * 9 + nat_lit 8) [int (0 : Int)] = repC r0 D ∧ b = b ∧ (List.drop (12 + Int.toNat (↑k : Int) * 9 + nat_lit 7) (repC r0 D))[0]? = some (T.gp (Dr.g D k) 0) ∧ b = b ∧ (List.drop (12 + Int.toNat (↑k : Int) * 9 + nat_lit 7) (repC r0 D))[0]? = some (T.gp (Dr.g D k) 0) ∧ TCalls Try.prog 56 [T.gp (Dr.g D k) 0] [] gl (callPost (Hint.call false Unit (fun x => True) [] true (fun x => bool false) (fun x => []) fun x => gl)) ∧ ∀ (a : Unit), True → (1 = nat_lit 1 ∧ List.all (List.map T.v (Array.toList #[Value.pointer none])) T.one = true) ∧ b = b ∧ 12 + Int.toNat (↑k : Int) * 9 + nat_lit 7 + nat_lit 1 ≤ 67 ∧ setCells (repC r0 D) (12 + Int.toNat (↑k : Int) * 9 + nat_lit 7) [T.v (Value.pointer none)] = repC r1 D ∧ Q (T.tup []) [(b, Ob.cells (repC r1 D))] gl) (by kernel_rfl) ?_
      repeat' (first | exact rfl | exact Nat.le_of_ble_eq_true rfl | refine And.intro ?_ ?_ | intro _ | refine bsplit_mk (fun _ => ?_) (fun _ => ?_))
      all_goals first
        | omega
        | exact hQ
        | (refine downG hle _ (toldG_post ?_); rw [hown])
        | (rw [hr0]; rcases six hk with rfl | rfl | rfl | rfl | rfl | rfl <;> rfl)
        | (rw [hr0, ← hdT]; rcases six hk with rfl | rfl | rfl | rfl | rfl | rfl <;> rfl)
        | (rw [hr0, hr1]; rcases six hk with rfl | rfl | rfl | rfl | rfl | rfl <;> rfl)
        | (rcases six hk with rfl | rfl | rfl | rfl | rfl | rfl <;> decide)
        | trace_state
    | true =>
      rw [show Rep.rest r k = r0 by unfold Rep.rest; rw [hd, hr0]; simp [hown]] at hQ
      refine TCalls.of Try.func88 rfl (CanCall.of Try.func88 rfl (by decide)) [0] fun Γ => ?_
      refine run_sound (⟨fun | 0, 3 => .obj (repC r0 D) | 1, 3 => .res (.gp (D.g k) 0) | 1, 9 => .res (.gp (D.g k) 0) | 1, 10 => toldG (bool true) [] [] gl | _, _ => .no, [], fun  | _ => none⟩) 400 (B := (1 = nat_lit 1 ∧ List.all (List.map T.v (Array.toList #[Value.int IntKind.i64 (0 : Int)])) T.one = true) ∧ b = b ∧ 12 + Int.toNat (↑k : Int) * 9 + nat_lit 8 + nat_lit 1 ≤ 67 ∧ setCells (repC r D) (12 + Int.toNat (↑k : Int) * 9 + nat_lit 8) [int (0 : Int)] = repC r0 D ∧ b = b ∧ (List.drop (12 + Int.toNat (↑k : Int) * 9 + nat_lit 7) (repC r0 D))[0]? = some (T.gp (Dr.g D k) 0) ∧ b = b ∧ (List.drop (12 + Int.toNat (↑k : Int) * 9 + nat_lit 7) (repC r0 D))[0]? = some (T.gp (Dr.g D k) 0) ∧ TCalls Try.prog 56 [T.gp (Dr.g D k) 0] [] gl (callPost (Hint.call false Unit (fun x => True) [] true (fun x => bool true) (fun x => []) fun x => gl)) ∧ ∀ (a : Unit), True → Q (T.tup []) [(b, Ob.cells (repC r0 D))] gl) (by kernel_rfl) ?_
      repeat' (first | exact rfl | exact Nat.le_of_ble_eq_true rfl | refine And.intro ?_ ?_ | intro _ | refine bsplit_mk (fun _ => ?_) (fun _ => ?_))
      all_goals first
        | omega
        | exact hQ
        | (refine downG hle _ (toldG_post ?_); rw [hown])
        | (rw [hr0]; rcases six hk with rfl | rfl | rfl | rfl | rfl | rfl <;> rfl)
        | (rw [hr0, ← hdT]; rcases six hk with rfl | rfl | rfl | rfl | rfl | rfl <;> rfl)
        | (rcases six hk with rfl | rfl | rfl | rfl | rfl | rfl <;> decide)
        | trace_state
end X20
end Go.Proofs.Ytafcbipmmjegcaa.Vm
