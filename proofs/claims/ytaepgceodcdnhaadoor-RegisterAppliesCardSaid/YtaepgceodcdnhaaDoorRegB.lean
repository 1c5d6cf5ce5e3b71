/- Registers by the engine: the document's digits and numbers. -/
import Derived.Test.YtaepgceodcdnhaaDoorRegA
namespace Go.Proofs.YtaepgceodcdnhaaDoor.Vm
open Go Go.RowKit
set_option maxRecDepth 100000
namespace X4
open Go.Lib (itoa decDigits)
open Reg (In64 num? Val Res goodV good numV zeroV stay over sumV addR applyR refStep refAcc refNum refMag)
theorem catS (a b : List UInt8) : T.v (.string (⟨a.toArray⟩ ++ ⟨b.toArray⟩)) = str (a ++ b) := congrArg T.v (str_cat a b)
theorem dec_big {u : Nat} (h : ¬ u < 10) : decDigits u = decDigits (u / 10) ++ [UInt8.ofNat (48 + u % 10)] := by rw [decDigits, dif_neg h]
theorem dec_one {u : Nat} (h : u < 10) : decDigits u = [UInt8.ofNat (48 + u % 10)] := by rw [Go.Lib.decDigits_one h, Nat.mod_eq_of_lt h]
theorem dig_loop (Γ : Ctx) (sg : List UInt8) (hsg : sg.length ≤ 1) (Q : T → Obs → Glb → Prop) : ∀ (u : Nat) (n : Int) (out : List UInt8), n.natAbs = u → In64 n → out.length ≤ 1000 → (decDigits u).length + out.length ≤ 1000 → (∀ x, x = str (sg ++ (decDigits u ++ out)) → Q x [] none_) →
    TWk Tryd.prog Γ (fin Tryd.prog Tryd.f55 [] Q) [.code (sub (bd Tryd.f55) [1, 1, 1, 1, 0]), .blk 0] ⟨frame 28 [(0, int n), (3, str sg), (4, str out)], [], none_⟩ := by
  intro u
  induction u using Nat.strongRecOn with
  | _ u ih =>
    intro n out hu hn ho hl hQ
    have h1 := hn.1
    have h2 := hn.2
    obtain ⟨D, hD, hD1, hD2⟩ : ∃ D : Int, n.tmod 10 = D ∧ (D < 0 → -D = (u % 10 : Nat)) ∧ (¬ D < 0 → D = (u % 10 : Nat)) := by
      refine ⟨n.tmod 10, rfl, ?_, ?_⟩
      all_goals
        intro hd
        rcases Int.natAbs_eq n with e | e
        · rw [e, Int.tmod_eq_emod_of_nonneg (by omega)] at hd ⊢; omega
        · rw [e, Int.neg_tmod, Int.tmod_eq_emod_of_nonneg (by omega)] at hd ⊢; omega
    have hdv : (n.tdiv 10).natAbs = u / 10 ∧ -922337203685477581 ≤ n.tdiv 10 ∧ n.tdiv 10 ≤ 922337203685477581 := by
      rcases Int.natAbs_eq n with e | e
      · rw [e, Int.tdiv_eq_ediv_of_nonneg (by omega)]; omega
      · rw [e, Int.neg_tdiv, Int.tdiv_eq_ediv_of_nonneg (by omega)]; omega
    have hDr : -10 < D ∧ D < 10 := by omega
    have hq : T.v (.int .i64 (IntKind.wrap .i64 (n.tdiv 10))) = int (n.tdiv 10) := congrArg int (wrap_i64 (by omega) (by omega))
    have hng : T.v (.int .i64 (IntKind.wrap .i64 (0 - D))) = int (-D) := congrArg int (by rw [wrap_i64 (by omega) (by omega)]; omega)
    have ha1 : ¬ D < 0 → T.v (.int .i64 (IntKind.wrap .i64 (48 + D))) = int (48 + u % 10 : Nat) := fun h => congrArg int (by rw [wrap_i64 (by omega) (by omega), hD2 h]; omega)
    have ha2 : D < 0 → T.v (.int .i64 (IntKind.wrap .i64 (48 + (-D)))) = int (48 + u % 10 : Nat) := fun h => congrArg int (by rw [wrap_i64 (by omega) (by omega), hD1 h]; omega)
    have hcv : T.v (.int .u8 (IntKind.wrap .u8 ((48 + u % 10 : Nat) : Int))) = u8 (UInt8.ofNat (48 + u % 10)).toNat := by rw [IntKind.wrap_u8, UInt8.toNat_ofNat']; exact congrArg u8 (by omega)
    have hDt : T.v (.int .i64 (n.tmod 10)) = int D := congrArg int hD
    have nx : n.tdiv 10 ≠ 0 → TWk Tryd.prog Γ (fin Tryd.prog Tryd.f55 [] Q) [.code (sub (bd Tryd.f55) [1, 1, 1, 1, 0]), .blk 0] ⟨frame 28 [(0, int (n.tdiv 10)), (3, str sg), (4, str (UInt8.ofNat (48 + u % 10) :: out))], [], none_⟩ := fun h => by
      have hu10 : ¬ u < 10 := by omega
      have e := dec_big hu10
      refine ih (u / 10) (by omega) (n.tdiv 10) _ hdv.1 ⟨by omega, by omega⟩ (by rw [e, List.length_append] at hl; simp at hl ⊢; omega) (by rw [e, List.length_append] at hl; simp at hl ⊢; omega) (fun x hx => hQ x (by rw [hx, e]; simp))
    have fin : n.tdiv 10 = 0 → ∀ x, x = str (sg ++ (UInt8.ofNat (48 + u % 10) :: out)) → Q x [] none_ := fun h x hx => hQ x (by rw [hx, dec_one (by omega)]; rfl)
    clear ih hQ
    generalize UInt8.ofNat (48 + u % 10) = c at *
    generalize hm : 48 + u % 10 = m at *
    generalize hn2 : n.tdiv 10 = n2 at *
    refine run_sound (⟨fun | 5, 1 => .res (int D) | 7, 1 => .res (int (-D)) | 8, 1 => .res (int (m : Nat)) | 8, 2 => .res (u8 c.toNat) | 8, 4 => .res (str [c]) | 8, 6 => .res (str (c :: out)) | 9, 1 => .res (int n2) | 11, 2 => .res (str (sg ++ (c :: out))) | _, _ => .no, [((2, 1), ([0, 3, 4], 0))], fun  | _ => none⟩) 400 (B := T.v (Value.int IntKind.i64 (Int.tmod n (10 : Int))) = T.v (Value.int IntKind.i64 D) ∧ bsplit (decide (D < (0 : Int))) (T.v (Value.int IntKind.i64 (IntKind.wrap IntKind.i64 ((0 : Int) - D))) = T.v (Value.int IntKind.i64 (-D)) ∧ T.v (Value.int IntKind.i64 (IntKind.wrap IntKind.i64 ((48 : Int) + -D))) = T.v (Value.int IntKind.i64 (↑m : Int)) ∧ T.v (Value.int IntKind.u8 (IntKind.wrap IntKind.u8 (↑m : Int))) = T.v (Value.int IntKind.u8 (↑(UInt8.toNat c) : Int)) ∧ [T.v (Value.int IntKind.u8 (↑(UInt8.toNat c) : Int))] = [T.v (Value.int IntKind.u8 (↑(UInt8.toNat c) : Int))] ∧ ByteArray.size (ByteArray.mk (#[c])) + ByteArray.size (ByteArray.mk (List.toArray out)) ≤ (9223372036854775807 : Nat) ∧ some (T.v (Value.string ((ByteArray.mk (#[c])) ++ (ByteArray.mk (List.toArray out))))) = some (T.v (Value.string (ByteArray.mk (List.toArray (c :: out))))) ∧ T.v (Value.int IntKind.i64 (IntKind.wrap IntKind.i64 (Int.tdiv n (10 : Int)))) = T.v (Value.int IntKind.i64 n2) ∧ bsplit (n2 == (0 : Int)) (ByteArray.size (ByteArray.mk (List.toArray sg)) + ByteArray.size (ByteArray.mk (List.toArray (c :: out))) ≤ (9223372036854775807 : Nat) ∧ some (T.v (Value.string ((ByteArray.mk (List.toArray sg)) ++ (ByteArray.mk (List.toArray (c :: out)))))) = some (T.v (Value.string (ByteArray.mk (List.toArray (sg ++ c :: out))))) ∧ Q (T.v (Value.string (ByteArray.mk (List.toArray (sg ++ c :: out))))) [] fun x => none) (TWk Tryd.prog Γ (Vm.fin Tryd.prog Tryd.f55 [] Q) [It.code (sub (bd Tryd.f55) [(1 : Nat), (1 : Nat), (1 : Nat), (1 : Nat), (0 : Nat)]), It.blk (0 : Nat)] { fr := [T.v (Value.int IntKind.i64 n2), T.und, T.und, T.v (Value.string (ByteArray.mk (List.toArray sg))), T.v (Value.string (ByteArray.mk (List.toArray (c :: out)))), T.und, T.und, T.und, T.und, T.und, T.und, T.und, T.und, T.und, T.und, T.und, T.und, T.und, T.und, T.und, T.und, T.und, T.und, T.und, T.und, T.und, T.und, T.und], ob := [], gl := fun x => none })) (T.v (Value.int IntKind.i64 (IntKind.wrap IntKind.i64 ((48 : Int) + D))) = T.v (Value.int IntKind.i64 (↑m : Int)) ∧ T.v (Value.int IntKind.u8 (IntKind.wrap IntKind.u8 (↑m : Int))) = T.v (Value.int IntKind.u8 (↑(UInt8.toNat c) : Int)) ∧ [T.v (Value.int IntKind.u8 (↑(UInt8.toNat c) : Int))] = [T.v (Value.int IntKind.u8 (↑(UInt8.toNat c) : Int))] ∧ ByteArray.size (ByteArray.mk (#[c])) + ByteArray.size (ByteArray.mk (List.toArray out)) ≤ (9223372036854775807 : Nat) ∧ some (T.v (Value.string ((ByteArray.mk (#[c])) ++ (ByteArray.mk (List.toArray out))))) = some (T.v (Value.string (ByteArray.mk (List.toArray (c :: out))))) ∧ T.v (Value.int IntKind.i64 (IntKind.wrap IntKind.i64 (Int.tdiv n (10 : Int)))) = T.v (Value.int IntKind.i64 n2) ∧ bsplit (n2 == (0 : Int)) (ByteArray.size (ByteArray.mk (List.toArray sg)) + ByteArray.size (ByteArray.mk (List.toArray (c :: out))) ≤ (9223372036854775807 : Nat) ∧ some (T.v (Value.string ((ByteArray.mk (List.toArray sg)) ++ (ByteArray.mk (List.toArray (c :: out)))))) = some (T.v (Value.string (ByteArray.mk (List.toArray (sg ++ c :: out))))) ∧ Q (T.v (Value.string (ByteArray.mk (List.toArray (sg ++ c :: out))))) [] fun x => none) (TWk Tryd.prog Γ (Vm.fin Tryd.prog Tryd.f55 [] Q) [It.code (sub (bd Tryd.f55) [(1 : Nat), (1 : Nat), (1 : Nat), (1 : Nat), (0 : Nat)]), It.blk (0 : Nat)] { fr := [T.v (Value.int IntKind.i64 n2), T.und, T.und, T.v (Value.string (ByteArray.mk (List.toArray sg))), T.v (Value.string (ByteArray.mk (List.toArray (c :: out)))), T.und, T.und, T.und, T.und, T.und, T.und, T.und, T.und, T.und, T.und, T.und, T.und, T.und, T.und, T.und, T.und, T.und, T.und, T.und, T.und, T.und, T.und, T.und], ob := [], gl := fun x => none }))) (by kernel_rfl) ?_
    repeat' (first | exact rfl | exact Nat.le_of_ble_eq_true rfl | refine And.intro ?_ ?_ | intro _ | refine bsplit_mk (fun _ => ?_) (fun _ => ?_))
    all_goals first
      | exact hDt
      | exact hng
      | (rw [hn2]; exact hq)
      | exact hcv
      | exact ha1 (of_decide_eq_false ‹decide (D < 0) = false›)
      | exact ha2 (of_decide_eq_true ‹decide (D < 0) = true›)
      | exact catS [c] out
      | exact catS sg (c :: out)
      | exact cat_ok _ _ (by simp; omega)
      | exact fin (by simpa using ‹(n2 == 0) = true›) _ rfl
      | exact nx (by simpa using ‹(n2 == 0) = false›)
      | (clear nx fin; trace_state)
theorem digits_post (n : Int) (hn : In64 n) : TCalls Tryd.prog 55 [int n] [] none_ (callPost (told (str (itoa n)) [] [])) := by
  have hQ : ∀ x, x = str (itoa n) → callPost (told (str (itoa n)) [] []) x [] none_ := fun x h => told_post h
  generalize callPost (told (str (itoa n)) [] []) = Q at *
  have hil := Reg.itoa_len hn
  unfold Go.Lib.itoa at hQ hil
  by_cases h0 : n < 0
  · rw [if_pos h0] at hQ hil
    have lp := fun Γ => dig_loop Γ [45] (by decide) Q n.natAbs n [] rfl hn (by decide) (by rw [List.length_cons] at hil; simp; omega) (fun x h => hQ x (by rw [h]; simp))
    refine TCalls.of Tryd.func55 rfl (CanCall.of Tryd.func55 rfl (by decide)) [] fun Γ => ?_
    refine run_sound (⟨fun _ _ => .no, [((2, 1), ([0, 3, 4], 0))], fun _ => none⟩) 400 (B := bsplit (decide (n < (0 : Int))) (TWk Tryd.prog Γ (fin Tryd.prog Tryd.f55 [] Q) [It.code (sub (bd Tryd.f55) [(1 : Nat), (1 : Nat), (1 : Nat), (1 : Nat), (0 : Nat)]), It.blk (0 : Nat)] { fr := [T.v (Value.int IntKind.i64 n), T.und, T.und, T.v (Value.string (ByteArray.mk (#[(45 : UInt8)]))), T.v (Value.string (ByteArray.mk (#[]))), T.und, T.und, T.und, T.und, T.und, T.und, T.und, T.und, T.und, T.und, T.und, T.und, T.und, T.und, T.und, T.und, T.und, T.und, T.und, T.und, T.und, T.und, T.und], ob := [], gl := fun x => none }) (TWk Tryd.prog Γ (fin Tryd.prog Tryd.f55 [] Q) [It.code (sub (bd Tryd.f55) [(1 : Nat), (1 : Nat), (1 : Nat), (1 : Nat), (0 : Nat)]), It.blk (0 : Nat)] { fr := [T.v (Value.int IntKind.i64 n), T.und, T.und, T.v (Value.string (ByteArray.mk (#[]))), T.v (Value.string (ByteArray.mk (#[]))), T.und, T.und, T.und, T.und, T.und, T.und, T.und, T.und, T.und, T.und, T.und, T.und, T.und, T.und, T.und, T.und, T.und, T.und, T.und, T.und, T.und, T.und, T.und], ob := [], gl := fun x => none })) (by kernel_rfl) ?_
    repeat' (first | exact rfl | exact Nat.le_of_ble_eq_true rfl | refine And.intro ?_ ?_ | intro _ | refine bsplit_mk (fun _ => ?_) (fun _ => ?_))
    all_goals first
      | exact lp Γ
      | (exfalso; have := of_decide_eq_false ‹decide (n < 0) = false›; omega)
      | trace_state
  · rw [if_neg h0] at hQ hil
    have e : n.toNat = n.natAbs := by omega
    rw [e] at hQ hil
    have lp := fun Γ => dig_loop Γ [] (by decide) Q n.natAbs n [] rfl hn (by decide) (by simp; omega) (fun x h => hQ x (by rw [h]; simp))
    refine TCalls.of Tryd.func55 rfl (CanCall.of Tryd.func55 rfl (by decide)) [] fun Γ => ?_
    refine run_sound (⟨fun _ _ => .no, [((2, 1), ([0, 3, 4], 0))], fun _ => none⟩) 400 (B := bsplit (decide (n < (0 : Int))) (TWk Tryd.prog Γ (fin Tryd.prog Tryd.f55 [] Q) [It.code (sub (bd Tryd.f55) [(1 : Nat), (1 : Nat), (1 : Nat), (1 : Nat), (0 : Nat)]), It.blk (0 : Nat)] { fr := [T.v (Value.int IntKind.i64 n), T.und, T.und, T.v (Value.string (ByteArray.mk (#[(45 : UInt8)]))), T.v (Value.string (ByteArray.mk (#[]))), T.und, T.und, T.und, T.und, T.und, T.und, T.und, T.und, T.und, T.und, T.und, T.und, T.und, T.und, T.und, T.und, T.und, T.und, T.und, T.und, T.und, T.und, T.und], ob := [], gl := fun x => none }) (TWk Tryd.prog Γ (fin Tryd.prog Tryd.f55 [] Q) [It.code (sub (bd Tryd.f55) [(1 : Nat), (1 : Nat), (1 : Nat), (1 : Nat), (0 : Nat)]), It.blk (0 : Nat)] { fr := [T.v (Value.int IntKind.i64 n), T.und, T.und, T.v (Value.string (ByteArray.mk (#[]))), T.v (Value.string (ByteArray.mk (#[]))), T.und, T.und, T.und, T.und, T.und, T.und, T.und, T.und, T.und, T.und, T.und, T.und, T.und, T.und, T.und, T.und, T.und, T.und, T.und, T.und, T.und, T.und, T.und], ob := [], gl := fun x => none })) (by kernel_rfl) ?_
    repeat' (first | exact rfl | exact Nat.le_of_ble_eq_true rfl | refine And.intro ?_ ?_ | intro _ | refine bsplit_mk (fun _ => ?_) (fun _ => ?_))
    all_goals first
      | exact lp Γ
      | (exfalso; have := of_decide_eq_true ‹decide (n < 0) = true›; omega)
      | trace_state
def refR (v : Val) : Int × Bool := if v.h = false then (0, true) else match refNum v.t with
  | none => (0, false)
  | some n => (n, decide (itoa n = v.t))
theorem refR_num (v : Val) : numV v = if (refR v).2 = true then some (refR v).1 else none := by
  unfold Reg.numV refR
  cases hh : v.h with
  | false => simp
  | true =>
    simp only [if_true, Bool.true_eq_false, if_false]
    rw [← Reg.refNum?_eq]
    unfold Reg.refNum?
    cases refNum v.t with
    | none => simp
    | some n => simp
theorem refR_in {v : Val} (h : (refR v).2 = true) : In64 (refR v).1 := by
  have e := refR_num v
  rw [if_pos h] at e
  exact Reg.numV_in e
section
variable (Γ : Ctx) (b0 : Nat) (l : List UInt8) (Q : T → Obs → Glb → Prop)
theorem rn_end (hl : l.length ≤ 1000) (n : Int) (hn : In64 n) (hQ : ∀ y, y = .tup [int n, bool (decide (itoa n = l))] → Q y [] none_) :
    TWk Tryd.prog Γ (fin Tryd.prog Tryd.f54 [] Q) [.code (sub (bd Tryd.f54) [1, 1, 1, 1, 1, 1, 1, 1])] ⟨frame 79 [(1, .ptr 0 b0 0), (6, int n)], [(b0, .cells [bool true, str l])], none_⟩ := by
  have c1 := digits_post n hn
  have hs : decide ((⟨(itoa n).toArray⟩ : ByteArray) = ⟨l.toArray⟩) = decide (itoa n = l) := by rw [Bool.eq_iff_iff, decide_eq_true_eq, decide_eq_true_eq]; exact strI
  rw [← hs] at hQ
  clear hs
  generalize itoa n = S at *
  refine run_sound (⟨fun | 22, 2 => told (str S) [] [] | _, _ => .no, [], fun | 22 => some ⟨[0], [], .take true [0,1,3,4] (.one 2 (.take true [5,6,7] .done))⟩ | _ => none⟩) 400 (B := b0 = b0 ∧ TCalls Tryd.prog (55 : Nat) [T.v (Value.int IntKind.i64 n)] [] (fun x => none) (callPost (Hint.call false Unit (fun x => True) [] false (fun x => str S) (fun x => []) fun x => none_)) ∧ ∀ (a : Unit), True → Q (T.tup [T.v (Value.int IntKind.i64 n), T.v (Value.bool (decide ((ByteArray.mk (List.toArray S)) = (ByteArray.mk (List.toArray l)))))]) [] fun x => none) (by kernel_rfl) ?_
  repeat' (first | exact rfl | exact Nat.le_of_ble_eq_true rfl | refine And.intro ?_ ?_ | intro _ | refine bsplit_mk (fun _ => ?_) (fun _ => ?_))
  all_goals first
    | exact c1
    | exact hQ _ rfl
    | trace_state
theorem rn_sign (hl : l.length ≤ 1000) (below : Bool) (n : Int) (hn : -9223372036854775808 ≤ n ∧ n ≤ 0) (h0 : below = false → n = -9223372036854775808 → Q (.tup [int 0, bool false]) [] none_)
    (h1 : below = false → n ≠ -9223372036854775808 → ∀ y, y = .tup [int (-n), bool (decide (itoa (-n) = l))] → Q y [] none_) (h2 : below = true → ∀ y, y = .tup [int n, bool (decide (itoa n = l))] → Q y [] none_) :
    TWk Tryd.prog Γ (fin Tryd.prog Tryd.f54 [] Q) [.code (sub (bd Tryd.f54) [1, 1, 1, 1, 1, 1, 1])] ⟨frame 79 [(1, .ptr 0 b0 0), (5, bool below), (6, int n)], [(b0, .cells [bool true, str l])], none_⟩ := by
  cases below with
  | true =>
    have en := rn_end Γ b0 l Q hl n ⟨by omega, by omega⟩ (h2 rfl)
    clear h0 h1 h2
    refine run_sound (⟨fun  | _, _ => .no, [((0, 22), ([1, 6], 1))], fun | 22 => some ⟨[], [], .take true [0,1,3,4] (.one 2 (.take true [5,6,7] .done))⟩ | _ => none⟩) 400 (B := TWk Tryd.prog Γ (fin Tryd.prog Tryd.f54 [] Q) [It.code (sub (bd Tryd.f54) [(1 : Nat), (1 : Nat), (1 : Nat), (1 : Nat), (1 : Nat), (1 : Nat), (1 : Nat), (1 : Nat)])] { fr := [T.und, T.ptr (0 : Nat) b0 (0 : Nat), T.und, T.und, T.und, T.und, T.v (Value.int IntKind.i64 n), T.und, T.und, T.und, T.und, T.und, T.und, T.und, T.und, T.und, T.und, T.und, T.und, T.und, T.und, T.und, T.und, T.und, T.und, T.und, T.und, T.und, T.und, T.und, T.und, T.und, T.und, T.und, T.und, T.und, T.und, T.und, T.und, T.und, T.und, T.und, T.und, T.und, T.und, T.und, T.und, T.und, T.und, T.und, T.und, T.und, T.und, T.und, T.und, T.und, T.und, T.und, T.und, T.und, T.und, T.und, T.und, T.und, T.und, T.und, T.und, T.und, T.und, T.und, T.und, T.und, T.und, T.und, T.und, T.und, T.und, T.und, T.und], ob := [(b0, Ob.cells [T.v (Value.bool true), T.v (Value.string (ByteArray.mk (List.toArray l)))])], gl := fun x => none }) (by kernel_rfl) ?_
    repeat' (first | exact rfl | exact Nat.le_of_ble_eq_true rfl | refine And.intro ?_ ?_ | intro _ | refine bsplit_mk (fun _ => ?_) (fun _ => ?_))
    all_goals first
      | exact en
      | trace_state
  | false =>
    by_cases g : n = -9223372036854775808
    · have q := h0 rfl g
      clear h0 h1 h2
      subst g
      refine run_sound (⟨fun  | _, _ => .no, [((0, 22), ([1, 6], 1)), ((0, 21), ([1, 6], 1))], fun | 22 => some ⟨[], [], .take true [0,1,3,4] (.one 2 (.take true [5,6,7] .done))⟩ | _ => none⟩) 400 (B := Q (T.tup [T.v (Value.int IntKind.i64 (0 : Int)), T.v (Value.bool false)]) [] fun x => none) (by kernel_rfl) ?_
      repeat' (first | exact rfl | exact Nat.le_of_ble_eq_true rfl | refine And.intro ?_ ?_ | intro _ | refine bsplit_mk (fun _ => ?_) (fun _ => ?_))
      all_goals first
        | exact q
        | trace_state
    · have en := rn_end Γ b0 l Q hl (-n) ⟨by omega, by omega⟩ (h1 rfl g)
      have hng : T.v (.int .i64 (IntKind.wrap .i64 (0 - n))) = int (-n) := congrArg int (by rw [wrap_i64 (by omega) (by omega)]; omega)
      have hne : (n == -9223372036854775808) = false := by simpa using g
      clear h0 h1 h2
      refine run_sound (⟨fun | 21, 1 => .res (int (-n)) | _, _ => .no, [((0, 22), ([1, 6], 1)), ((0, 20), ([], 1))], fun | 22 => some ⟨[], [], .take true [0,1,3,4] (.one 2 (.take true [5,6,7] .done))⟩ | _ => none⟩) 400 (B := bsplit (n == (-9223372036854775808 : Int)) (TWk Tryd.prog Γ (fin Tryd.prog Tryd.f54 [] Q) [It.code (sub (bd Tryd.f54) [(1 : Nat), (1 : Nat), (1 : Nat), (1 : Nat), (1 : Nat), (1 : Nat), (1 : Nat), (0 : Nat), (1 : Nat), (0 : Nat), (0 : Nat), (1 : Nat), (0 : Nat)]), It.code (sub (bd Tryd.f54) [(1 : Nat), (1 : Nat), (1 : Nat), (1 : Nat), (1 : Nat), (1 : Nat), (1 : Nat), (0 : Nat), (1 : Nat), (0 : Nat), (1 : Nat)]), It.code (sub (bd Tryd.f54) [(1 : Nat), (1 : Nat), (1 : Nat), (1 : Nat), (1 : Nat), (1 : Nat), (1 : Nat), (1 : Nat)])] { fr := [T.und, T.und, T.und, T.und, T.und, T.und, T.und, T.und, T.und, T.und, T.und, T.und, T.und, T.und, T.und, T.und, T.und, T.und, T.und, T.und, T.und, T.und, T.und, T.und, T.und, T.und, T.und, T.und, T.und, T.und, T.und, T.und, T.und, T.und, T.und, T.und, T.und, T.und, T.und, T.und, T.und, T.und, T.und, T.und, T.und, T.und, T.und, T.und, T.und, T.und, T.und, T.und, T.und, T.und, T.und, T.und, T.und, T.und, T.und, T.und, T.und, T.und, T.und, T.und, T.und, T.und, T.und, T.und, T.und, T.und, T.und, T.und, T.und, T.und, T.und, T.und, T.und, T.und, T.und], ob := [(b0, Ob.cells [T.v (Value.bool true), T.v (Value.string (ByteArray.mk (List.toArray l)))])], gl := fun x => none }) (T.v (Value.int IntKind.i64 (IntKind.wrap IntKind.i64 ((0 : Int) - n))) = T.v (Value.int IntKind.i64 (-n)) ∧ TWk Tryd.prog Γ (fin Tryd.prog Tryd.f54 [] Q) [It.code (sub (bd Tryd.f54) [(1 : Nat), (1 : Nat), (1 : Nat), (1 : Nat), (1 : Nat), (1 : Nat), (1 : Nat), (1 : Nat)])] { fr := [T.und, T.ptr (0 : Nat) b0 (0 : Nat), T.und, T.und, T.und, T.und, T.v (Value.int IntKind.i64 (-n)), T.und, T.und, T.und, T.und, T.und, T.und, T.und, T.und, T.und, T.und, T.und, T.und, T.und, T.und, T.und, T.und, T.und, T.und, T.und, T.und, T.und, T.und, T.und, T.und, T.und, T.und, T.und, T.und, T.und, T.und, T.und, T.und, T.und, T.und, T.und, T.und, T.und, T.und, T.und, T.und, T.und, T.und, T.und, T.und, T.und, T.und, T.und, T.und, T.und, T.und, T.und, T.und, T.und, T.und, T.und, T.und, T.und, T.und, T.und, T.und, T.und, T.und, T.und, T.und, T.und, T.und, T.und, T.und, T.und, T.und, T.und, T.und], ob := [(b0, Ob.cells [T.v (Value.bool true), T.v (Value.string (ByteArray.mk (List.toArray l)))])], gl := fun x => none })) (by kernel_rfl) ?_
      repeat' (first | exact rfl | exact Nat.le_of_ble_eq_true rfl | refine And.intro ?_ ?_ | intro _ | refine bsplit_mk (fun _ => ?_) (fun _ => ?_))
      all_goals first
        | exact en
        | exact hng
        | (exfalso; rename_i h; rw [hne] at h; cases h; done)
        | trace_state
theorem rn_loop (hl : l.length ≤ 1000) (s : List UInt8) (hs : s.length ≤ 19) (below : Bool) (hN : refAcc 0 s = none → Q (.tup [int 0, bool false]) [] none_)
    (hS : ∀ n, refAcc 0 s = some n → TWk Tryd.prog Γ (fin Tryd.prog Tryd.f54 [] Q) [.code (sub (bd Tryd.f54) [1, 1, 1, 1, 1, 1, 1])] ⟨frame 79 [(1, .ptr 0 b0 0), (5, bool below), (6, int n)], [(b0, .cells [bool true, str l])], none_⟩) : ∀ (f i : Nat) (n : Int), i + f = s.length → (-9223372036854775808 ≤ n ∧ n ≤ 0) → refAcc 0 s = refAcc n (s.drop i) →
    TWk Tryd.prog Γ (fin Tryd.prog Tryd.f54 [] Q) [.code (sub (bd Tryd.f54) [1, 1, 1, 1, 1, 1, 0, 1, 0]), .blk 0, .code (sub (bd Tryd.f54) [1, 1, 1, 1, 1, 1, 1])] ⟨frame 79 [(1, .ptr 0 b0 0), (4, str s), (5, bool below), (6, int n), (7, int (i : Nat))], [(b0, .cells [bool true, str l])], none_⟩ := by
  have hsz := sizeL s
  intro f
  induction f with
  | zero =>
    intro i n hi hn he
    have hd : s.drop i = [] := List.drop_eq_nil_of_le (by omega)
    rw [hd] at he
    have en := hS n he
    clear hN hS
    refine run_sound (⟨fun | 12, 2 => .no | _, _ => .no, [((0, 18), ([1, 5, 6], 1)), ((0, 12), ([1, 4, 5, 6, 7], 1)), ((2, 10), ([1, 4, 5, 6, 7], 1))], fun | 22 => some ⟨[], [], .take true [0,1,3,4] (.one 2 (.take true [5,6,7] .done))⟩ | _ => none⟩) 400 (B := bsplit (decide ((↑i : Int) < (↑(ByteArray.size (ByteArray.mk (List.toArray s))) : Int))) (TWk Tryd.prog Γ (fin Tryd.prog Tryd.f54 [] Q) [It.code (sub (bd Tryd.f54) [(1 : Nat), (1 : Nat), (1 : Nat), (1 : Nat), (1 : Nat), (1 : Nat), (0 : Nat), (1 : Nat), (0 : Nat), (0 : Nat), (1 : Nat), (0 : Nat), (0 : Nat)]), It.blk (1 : Nat), It.code (sub (bd Tryd.f54) [(1 : Nat), (1 : Nat), (1 : Nat), (1 : Nat), (1 : Nat), (1 : Nat), (0 : Nat), (1 : Nat), (0 : Nat), (0 : Nat), (1 : Nat), (1 : Nat)]), It.code (sub (bd Tryd.f54) [(1 : Nat), (1 : Nat), (1 : Nat), (1 : Nat), (1 : Nat), (1 : Nat), (0 : Nat), (1 : Nat), (0 : Nat)]), It.blk (0 : Nat), It.code (sub (bd Tryd.f54) [(1 : Nat), (1 : Nat), (1 : Nat), (1 : Nat), (1 : Nat), (1 : Nat), (1 : Nat)])] { fr := [T.und, T.ptr (0 : Nat) b0 (0 : Nat), T.und, T.und, T.v (Value.string (ByteArray.mk (List.toArray s))), T.v (Value.bool below), T.v (Value.int IntKind.i64 n), T.v (Value.int IntKind.i64 (↑i : Int)), T.und, T.und, T.und, T.und, T.und, T.und, T.und, T.und, T.und, T.und, T.und, T.und, T.und, T.und, T.und, T.und, T.und, T.und, T.und, T.und, T.und, T.und, T.und, T.und, T.und, T.und, T.und, T.und, T.und, T.und, T.und, T.und, T.und, T.und, T.und, T.und, T.und, T.und, T.und, T.und, T.und, T.und, T.und, T.und, T.und, T.und, T.und, T.und, T.und, T.und, T.und, T.und, T.und, T.und, T.und, T.und, T.und, T.und, T.und, T.und, T.und, T.und, T.und, T.und, T.und, T.und, T.und, T.und, T.und, T.und, T.und], ob := [(b0, Ob.cells [T.v (Value.bool true), T.v (Value.string (ByteArray.mk (List.toArray l)))])], gl := fun x => none }) (TWk Tryd.prog Γ (fin Tryd.prog Tryd.f54 [] Q) [It.code (sub (bd Tryd.f54) [(1 : Nat), (1 : Nat), (1 : Nat), (1 : Nat), (1 : Nat), (1 : Nat), (1 : Nat)])] { fr := [T.und, T.ptr (0 : Nat) b0 (0 : Nat), T.und, T.und, T.und, T.v (Value.bool below), T.v (Value.int IntKind.i64 n), T.und, T.und, T.und, T.und, T.und, T.und, T.und, T.und, T.und, T.und, T.und, T.und, T.und, T.und, T.und, T.und, T.und, T.und, T.und, T.und, T.und, T.und, T.und, T.und, T.und, T.und, T.und, T.und, T.und, T.und, T.und, T.und, T.und, T.und, T.und, T.und, T.und, T.und, T.und, T.und, T.und, T.und, T.und, T.und, T.und, T.und, T.und, T.und, T.und, T.und, T.und, T.und, T.und, T.und, T.und, T.und, T.und, T.und, T.und, T.und, T.und, T.und, T.und, T.und, T.und, T.und, T.und, T.und, T.und, T.und, T.und, T.und], ob := [(b0, Ob.cells [T.v (Value.bool true), T.v (Value.string (ByteArray.mk (List.toArray l)))])], gl := fun x => none })) (by kernel_rfl) ?_
    repeat' (first | exact rfl | exact Nat.le_of_ble_eq_true rfl | refine And.intro ?_ ?_ | intro _ | refine bsplit_mk (fun _ => ?_) (fun _ => ?_))
    all_goals first
      | exact en
      | (exfalso; simp only [decide_eq_true_eq, hsz] at *; omega)
      | trace_state
  | succ f ih =>
    intro i n hi hn he
    have hlt : i < s.length := by omega
    have hd : s.drop i = s[i] :: s.drop (i + 1) := List.drop_eq_getElem_cons hlt
    have hx := str_at s i hlt
    have he2 : refAcc n (s[i] :: s.drop (i + 1)) = (match refStep n s[i] with | none => none | some m => refAcc m (s.drop (i + 1))) := rfl
    rw [hd, he2] at he
    have hstep : refStep n s[i] = if (s[i]).toNat < 48 ∨ 57 < (s[i]).toNat then none else if n < -922337203685477580 ∨ (n = -922337203685477580 ∧ 8 < (s[i]).toNat - 48) then none else some (10 * n - ((s[i]).toNat - 48 : Nat)) := rfl
    have hc := (s[i]).toNat_lt
    have nx := fun m (hm : refStep n s[i] = some m) => ih (i + 1) m (by omega) (Reg.refStep_in hn hm) (by rw [he, hm])
    have no : refStep n s[i] = none → Q (.tup [int 0, bool false]) [] none_ := fun hm => hN (by rw [he, hm])
    clear ih hN hS he hd
    generalize hcc : (s[i]).toNat = c at *
    have hi1 : T.v (.int .i64 (IntKind.wrap .i64 ((i : Int) + 1))) = int (i + 1 : Nat) := congrArg int (by rw [wrap_i64 (by omega) (by omega)]; omega)
    have hcv : T.v (.int .i64 (IntKind.wrap .i64 (c : Int))) = int (c : Nat) := congrArg int (wrap_i64 (by omega) (by omega))
    have hsb : T.v (.int .i64 (IntKind.wrap .i64 ((c : Int) - 48))) = int ((c : Int) - 48) := congrArg int (wrap_i64 (by omega) (by omega))
    by_cases h1 : c < 48 ∨ 57 < c
    · have no := no (by rw [hstep, if_pos h1])
      clear nx
      refine run_sound (⟨fun | 12, 2 => .res (u8 c) | 12, 7 => .res (u8 c) | 14, 2 => .no | _, _ => .no, [((0, 14), ([1, 4, 5, 6, 7], 1)), ((0, 18), ([1, 5, 6], 1))], fun | 22 => some ⟨[], [], .take true [0,1,3,4] (.one 2 (.take true [5,6,7] .done))⟩ | _ => none⟩) 400 (B := bsplit (decide ((↑i : Int) < (↑(ByteArray.size (ByteArray.mk (List.toArray s))) : Int))) ((0 : Int) ≤ (↑i : Int) ∧ Option.map (fun c => T.v (Value.int IntKind.u8 (↑(UInt8.toNat c) : Int))) (ByteArray.mk (List.toArray s))[Int.toNat (↑i : Int)]? = some (T.v (Value.int IntKind.u8 (↑c : Int))) ∧ bsplit (decide ((↑c : Int) < (48 : Int))) (Q (T.tup [T.v (Value.int IntKind.i64 (0 : Int)), T.v (Value.bool false)]) [] fun x => none) ((0 : Int) ≤ (↑i : Int) ∧ Option.map (fun c => T.v (Value.int IntKind.u8 (↑(UInt8.toNat c) : Int))) (ByteArray.mk (List.toArray s))[Int.toNat (↑i : Int)]? = some (T.v (Value.int IntKind.u8 (↑c : Int))) ∧ bsplit (decide ((↑c : Int) > (57 : Int))) (Q (T.tup [T.v (Value.int IntKind.i64 (0 : Int)), T.v (Value.bool false)]) [] fun x => none) (TWk Tryd.prog Γ (fin Tryd.prog Tryd.f54 [] Q) [It.code (sub (bd Tryd.f54) [(1 : Nat), (1 : Nat), (1 : Nat), (1 : Nat), (1 : Nat), (1 : Nat), (0 : Nat), (1 : Nat), (0 : Nat), (0 : Nat), (1 : Nat), (0 : Nat), (0 : Nat), (1 : Nat)]), It.blk (1 : Nat), It.code (sub (bd Tryd.f54) [(1 : Nat), (1 : Nat), (1 : Nat), (1 : Nat), (1 : Nat), (1 : Nat), (0 : Nat), (1 : Nat), (0 : Nat), (0 : Nat), (1 : Nat), (1 : Nat)]), It.code (sub (bd Tryd.f54) [(1 : Nat), (1 : Nat), (1 : Nat), (1 : Nat), (1 : Nat), (1 : Nat), (0 : Nat), (1 : Nat), (0 : Nat)]), It.blk (0 : Nat), It.code (sub (bd Tryd.f54) [(1 : Nat), (1 : Nat), (1 : Nat), (1 : Nat), (1 : Nat), (1 : Nat), (1 : Nat)])] { fr := [T.und, T.ptr (0 : Nat) b0 (0 : Nat), T.und, T.und, T.v (Value.string (ByteArray.mk (List.toArray s))), T.v (Value.bool below), T.v (Value.int IntKind.i64 n), T.v (Value.int IntKind.i64 (↑i : Int)), T.und, T.und, T.und, T.und, T.und, T.und, T.und, T.und, T.und, T.und, T.und, T.und, T.und, T.und, T.und, T.und, T.und, T.und, T.und, T.und, T.und, T.und, T.und, T.und, T.und, T.und, T.und, T.und, T.und, T.und, T.und, T.und, T.und, T.und, T.und, T.und, T.und, T.und, T.und, T.und, T.und, T.und, T.und, T.und, T.und, T.und, T.und, T.und, T.und, T.und, T.und, T.und, T.und, T.und, T.und, T.und, T.und, T.und, T.und, T.und, T.und, T.und, T.und, T.und, T.und, T.und, T.und, T.und, T.und, T.und, T.und], ob := [(b0, Ob.cells [T.v (Value.bool true), T.v (Value.string (ByteArray.mk (List.toArray l)))])], gl := fun x => none }))) (TWk Tryd.prog Γ (fin Tryd.prog Tryd.f54 [] Q) [It.code (sub (bd Tryd.f54) [(1 : Nat), (1 : Nat), (1 : Nat), (1 : Nat), (1 : Nat), (1 : Nat), (1 : Nat)])] { fr := [T.und, T.ptr (0 : Nat) b0 (0 : Nat), T.und, T.und, T.und, T.v (Value.bool below), T.v (Value.int IntKind.i64 n), T.und, T.und, T.und, T.und, T.und, T.und, T.und, T.und, T.und, T.und, T.und, T.und, T.und, T.und, T.und, T.und, T.und, T.und, T.und, T.und, T.und, T.und, T.und, T.und, T.und, T.und, T.und, T.und, T.und, T.und, T.und, T.und, T.und, T.und, T.und, T.und, T.und, T.und, T.und, T.und, T.und, T.und, T.und, T.und, T.und, T.und, T.und, T.und, T.und, T.und, T.und, T.und, T.und, T.und, T.und, T.und, T.und, T.und, T.und, T.und, T.und, T.und, T.und, T.und, T.und, T.und, T.und, T.und, T.und, T.und, T.und, T.und], ob := [(b0, Ob.cells [T.v (Value.bool true), T.v (Value.string (ByteArray.mk (List.toArray l)))])], gl := fun x => none })) (by kernel_rfl) ?_
      repeat' (first | exact rfl | exact Nat.le_of_ble_eq_true rfl | refine And.intro ?_ ?_ | intro _ | refine bsplit_mk (fun _ => ?_) (fun _ => ?_))
      all_goals first
        | exact hx
        | exact no
        | exact Int.natCast_nonneg _
        | (exfalso; simp only [decide_eq_true_eq, decide_eq_false_iff_not, hsz] at *; omega)
        | trace_state
    · rw [if_neg h1] at hstep
      by_cases h2 : n < -922337203685477580 ∨ (n = -922337203685477580 ∧ 8 < c - 48)
      · have no := no (by rw [hstep, if_pos h2])
        clear nx
        refine run_sound (⟨fun | 12, 2 => .res (u8 c) | 12, 7 => .res (u8 c) | 14, 2 => .res (u8 c) | 14, 3 => .res (int (c : Nat)) | 14, 4 => .res (int ((c : Int) - 48)) | _, _ => .no, [((0, 13), ([], 1)), ((0, 17), ([1, 4, 5, 6, 7, 8], 1)), ((0, 18), ([1, 5, 6], 1))], fun | 22 => some ⟨[], [], .take true [0,1,3,4] (.one 2 (.take true [5,6,7] .done))⟩ | _ => none⟩) 400 (B := bsplit (decide ((↑i : Int) < (↑(ByteArray.size (ByteArray.mk (List.toArray s))) : Int))) ((0 : Int) ≤ (↑i : Int) ∧ Option.map (fun c => T.v (Value.int IntKind.u8 (↑(UInt8.toNat c) : Int))) (ByteArray.mk (List.toArray s))[Int.toNat (↑i : Int)]? = some (T.v (Value.int IntKind.u8 (↑c : Int))) ∧ bsplit (decide ((↑c : Int) < (48 : Int))) (TWk Tryd.prog Γ (fin Tryd.prog Tryd.f54 [] Q) [It.code (sub (bd Tryd.f54) [(1 : Nat), (1 : Nat), (1 : Nat), (1 : Nat), (1 : Nat), (1 : Nat), (0 : Nat), (1 : Nat), (0 : Nat), (0 : Nat), (1 : Nat), (0 : Nat), (0 : Nat), (0 : Nat), (1 : Nat), (0 : Nat)]), It.code (sub (bd Tryd.f54) [(1 : Nat), (1 : Nat), (1 : Nat), (1 : Nat), (1 : Nat), (1 : Nat), (0 : Nat), (1 : Nat), (0 : Nat), (0 : Nat), (1 : Nat), (0 : Nat), (0 : Nat), (1 : Nat)]), It.blk (1 : Nat), It.code (sub (bd Tryd.f54) [(1 : Nat), (1 : Nat), (1 : Nat), (1 : Nat), (1 : Nat), (1 : Nat), (0 : Nat), (1 : Nat), (0 : Nat), (0 : Nat), (1 : Nat), (1 : Nat)]), It.code (sub (bd Tryd.f54) [(1 : Nat), (1 : Nat), (1 : Nat), (1 : Nat), (1 : Nat), (1 : Nat), (0 : Nat), (1 : Nat), (0 : Nat)]), It.blk (0 : Nat), It.code (sub (bd Tryd.f54) [(1 : Nat), (1 : Nat), (1 : Nat), (1 : Nat), (1 : Nat), (1 : Nat), (1 : Nat)])] { fr := [T.und, T.und, T.und, T.und, T.und, T.und, T.und, T.und, T.und, T.und, T.und, T.und, T.und, T.und, T.und, T.und, T.und, T.und, T.und, T.und, T.und, T.und, T.und, T.und, T.und, T.und, T.und, T.und, T.und, T.und, T.und, T.und, T.und, T.und, T.und, T.und, T.und, T.und, T.und, T.und, T.und, T.und, T.und, T.und, T.und, T.und, T.und, T.und, T.und, T.und, T.und, T.und, T.und, T.und, T.und, T.und, T.und, T.und, T.und, T.und, T.und, T.und, T.und, T.und, T.und, T.und, T.und, T.und, T.und, T.und, T.und, T.und, T.und, T.und, T.und, T.und, T.und, T.und, T.und], ob := [(b0, Ob.cells [T.v (Value.bool true), T.v (Value.string (ByteArray.mk (List.toArray l)))])], gl := fun x => none }) ((0 : Int) ≤ (↑i : Int) ∧ Option.map (fun c => T.v (Value.int IntKind.u8 (↑(UInt8.toNat c) : Int))) (ByteArray.mk (List.toArray s))[Int.toNat (↑i : Int)]? = some (T.v (Value.int IntKind.u8 (↑c : Int))) ∧ bsplit (decide ((↑c : Int) > (57 : Int))) (TWk Tryd.prog Γ (fin Tryd.prog Tryd.f54 [] Q) [It.code (sub (bd Tryd.f54) [(1 : Nat), (1 : Nat), (1 : Nat), (1 : Nat), (1 : Nat), (1 : Nat), (0 : Nat), (1 : Nat), (0 : Nat), (0 : Nat), (1 : Nat), (0 : Nat), (0 : Nat), (0 : Nat), (1 : Nat), (0 : Nat)]), It.code (sub (bd Tryd.f54) [(1 : Nat), (1 : Nat), (1 : Nat), (1 : Nat), (1 : Nat), (1 : Nat), (0 : Nat), (1 : Nat), (0 : Nat), (0 : Nat), (1 : Nat), (0 : Nat), (0 : Nat), (1 : Nat)]), It.blk (1 : Nat), It.code (sub (bd Tryd.f54) [(1 : Nat), (1 : Nat), (1 : Nat), (1 : Nat), (1 : Nat), (1 : Nat), (0 : Nat), (1 : Nat), (0 : Nat), (0 : Nat), (1 : Nat), (1 : Nat)]), It.code (sub (bd Tryd.f54) [(1 : Nat), (1 : Nat), (1 : Nat), (1 : Nat), (1 : Nat), (1 : Nat), (0 : Nat), (1 : Nat), (0 : Nat)]), It.blk (0 : Nat), It.code (sub (bd Tryd.f54) [(1 : Nat), (1 : Nat), (1 : Nat), (1 : Nat), (1 : Nat), (1 : Nat), (1 : Nat)])] { fr := [T.und, T.und, T.und, T.und, T.und, T.und, T.und, T.und, T.und, T.und, T.und, T.und, T.und, T.und, T.und, T.und, T.und, T.und, T.und, T.und, T.und, T.und, T.und, T.und, T.und, T.und, T.und, T.und, T.und, T.und, T.und, T.und, T.und, T.und, T.und, T.und, T.und, T.und, T.und, T.und, T.und, T.und, T.und, T.und, T.und, T.und, T.und, T.und, T.und, T.und, T.und, T.und, T.und, T.und, T.und, T.und, T.und, T.und, T.und, T.und, T.und, T.und, T.und, T.und, T.und, T.und, T.und, T.und, T.und, T.und, T.und, T.und, T.und, T.und, T.und, T.und, T.und, T.und, T.und], ob := [(b0, Ob.cells [T.v (Value.bool true), T.v (Value.string (ByteArray.mk (List.toArray l)))])], gl := fun x => none }) ((0 : Int) ≤ (↑i : Int) ∧ Option.map (fun c => T.v (Value.int IntKind.u8 (↑(UInt8.toNat c) : Int))) (ByteArray.mk (List.toArray s))[Int.toNat (↑i : Int)]? = some (T.v (Value.int IntKind.u8 (↑c : Int))) ∧ T.v (Value.int IntKind.i64 (IntKind.wrap IntKind.i64 (↑c : Int))) = T.v (Value.int IntKind.i64 (↑c : Int)) ∧ T.v (Value.int IntKind.i64 (IntKind.wrap IntKind.i64 ((↑c : Int) - (48 : Int)))) = T.v (Value.int IntKind.i64 ((↑c : Int) - (48 : Int))) ∧ bsplit (decide (n < (-922337203685477580 : Int))) (Q (T.tup [T.v (Value.int IntKind.i64 (0 : Int)), T.v (Value.bool false)]) [] fun x => none) (bsplit (n == (-922337203685477580 : Int)) (bsplit (decide ((↑c : Int) - (48 : Int) > (8 : Int))) (Q (T.tup [T.v (Value.int IntKind.i64 (0 : Int)), T.v (Value.bool false)]) [] fun x => none) (TWk Tryd.prog Γ (fin Tryd.prog Tryd.f54 [] Q) [It.code (sub (bd Tryd.f54) [(1 : Nat), (1 : Nat), (1 : Nat), (1 : Nat), (1 : Nat), (1 : Nat), (0 : Nat), (1 : Nat), (0 : Nat), (0 : Nat), (1 : Nat), (0 : Nat), (0 : Nat), (1 : Nat), (1 : Nat), (1 : Nat)]), It.blk (1 : Nat), It.code (sub (bd Tryd.f54) [(1 : Nat), (1 : Nat), (1 : Nat), (1 : Nat), (1 : Nat), (1 : Nat), (0 : Nat), (1 : Nat), (0 : Nat), (0 : Nat), (1 : Nat), (1 : Nat)]), It.code (sub (bd Tryd.f54) [(1 : Nat), (1 : Nat), (1 : Nat), (1 : Nat), (1 : Nat), (1 : Nat), (0 : Nat), (1 : Nat), (0 : Nat)]), It.blk (0 : Nat), It.code (sub (bd Tryd.f54) [(1 : Nat), (1 : Nat), (1 : Nat), (1 : Nat), (1 : Nat), (1 : Nat), (1 : Nat)])] { fr := [T.und, T.ptr (0 : Nat) b0 (0 : Nat), T.und, T.und, T.v (Value.string (ByteArray.mk (List.toArray s))), T.v (Value.bool below), T.v (Value.int IntKind.i64 n), T.v (Value.int IntKind.i64 (↑i : Int)), T.v (Value.int IntKind.i64 ((↑c : Int) - (48 : Int))), T.und, T.und, T.und, T.und, T.und, T.und, T.und, T.und, T.und, T.und, T.und, T.und, T.und, T.und, T.und, T.und, T.und, T.und, T.und, T.und, T.und, T.und, T.und, T.und, T.und, T.und, T.und, T.und, T.und, T.und, T.und, T.und, T.und, T.und, T.und, T.und, T.und, T.und, T.und, T.und, T.und, T.und, T.und, T.und, T.und, T.und, T.und, T.und, T.und, T.und, T.und, T.und, T.und, T.und, T.und, T.und, T.und, T.und, T.und, T.und, T.und, T.und, T.und, T.und, T.und, T.und, T.und, T.und, T.und, T.und], ob := [(b0, Ob.cells [T.v (Value.bool true), T.v (Value.string (ByteArray.mk (List.toArray l)))])], gl := fun x => none })) (TWk Tryd.prog Γ (fin Tryd.prog Tryd.f54 [] Q) [It.code (sub (bd Tryd.f54) [(1 : Nat), (1 : Nat), (1 : Nat), (1 : Nat), (1 : Nat), (1 : Nat), (0 : Nat), (1 : Nat), (0 : Nat), (0 : Nat), (1 : Nat), (0 : Nat), (0 : Nat), (1 : Nat), (1 : Nat), (1 : Nat)]), It.blk (1 : Nat), It.code (sub (bd Tryd.f54) [(1 : Nat), (1 : Nat), (1 : Nat), (1 : Nat), (1 : Nat), (1 : Nat), (0 : Nat), (1 : Nat), (0 : Nat), (0 : Nat), (1 : Nat), (1 : Nat)]), It.code (sub (bd Tryd.f54) [(1 : Nat), (1 : Nat), (1 : Nat), (1 : Nat), (1 : Nat), (1 : Nat), (0 : Nat), (1 : Nat), (0 : Nat)]), It.blk (0 : Nat), It.code (sub (bd Tryd.f54) [(1 : Nat), (1 : Nat), (1 : Nat), (1 : Nat), (1 : Nat), (1 : Nat), (1 : Nat)])] { fr := [T.und, T.ptr (0 : Nat) b0 (0 : Nat), T.und, T.und, T.v (Value.string (ByteArray.mk (List.toArray s))), T.v (Value.bool below), T.v (Value.int IntKind.i64 n), T.v (Value.int IntKind.i64 (↑i : Int)), T.v (Value.int IntKind.i64 ((↑c : Int) - (48 : Int))), T.und, T.und, T.und, T.und, T.und, T.und, T.und, T.und, T.und, T.und, T.und, T.und, T.und, T.und, T.und, T.und, T.und, T.und, T.und, T.und, T.und, T.und, T.und, T.und, T.und, T.und, T.und, T.und, T.und, T.und, T.und, T.und, T.und, T.und, T.und, T.und, T.und, T.und, T.und, T.und, T.und, T.und, T.und, T.und, T.und, T.und, T.und, T.und, T.und, T.und, T.und, T.und, T.und, T.und, T.und, T.und, T.und, T.und, T.und, T.und, T.und, T.und, T.und, T.und, T.und, T.und, T.und, T.und, T.und, T.und], ob := [(b0, Ob.cells [T.v (Value.bool true), T.v (Value.string (ByteArray.mk (List.toArray l)))])], gl := fun x => none }))))) (TWk Tryd.prog Γ (fin Tryd.prog Tryd.f54 [] Q) [It.code (sub (bd Tryd.f54) [(1 : Nat), (1 : Nat), (1 : Nat), (1 : Nat), (1 : Nat), (1 : Nat), (1 : Nat)])] { fr := [T.und, T.ptr (0 : Nat) b0 (0 : Nat), T.und, T.und, T.und, T.v (Value.bool below), T.v (Value.int IntKind.i64 n), T.und, T.und, T.und, T.und, T.und, T.und, T.und, T.und, T.und, T.und, T.und, T.und, T.und, T.und, T.und, T.und, T.und, T.und, T.und, T.und, T.und, T.und, T.und, T.und, T.und, T.und, T.und, T.und, T.und, T.und, T.und, T.und, T.und, T.und, T.und, T.und, T.und, T.und, T.und, T.und, T.und, T.und, T.und, T.und, T.und, T.und, T.und, T.und, T.und, T.und, T.und, T.und, T.und, T.und, T.und, T.und, T.und, T.und, T.und, T.und, T.und, T.und, T.und, T.und, T.und, T.und, T.und, T.und, T.und, T.und, T.und, T.und], ob := [(b0, Ob.cells [T.v (Value.bool true), T.v (Value.string (ByteArray.mk (List.toArray l)))])], gl := fun x => none })) (by kernel_rfl) ?_
        repeat' (first | exact rfl | exact Nat.le_of_ble_eq_true rfl | refine And.intro ?_ ?_ | intro _ | refine bsplit_mk (fun _ => ?_) (fun _ => ?_))
        all_goals first
          | exact hx
          | exact hcv
          | exact hsb
          | exact no
          | exact Int.natCast_nonneg _
          | (exfalso; simp only [decide_eq_true_eq, decide_eq_false_iff_not, hsz, beq_iff_eq, beq_eq_false_iff_ne] at *; omega)
          | trace_state
      · have nx := nx (10 * n - (c - 48 : Nat)) (by rw [hstep, if_neg h2])
        have hmu : T.v (.int .i64 (IntKind.wrap .i64 (10 * n))) = int (10 * n) := congrArg int (wrap_i64 (by omega) (by omega))
        have hsu : T.v (.int .i64 (IntKind.wrap .i64 (10 * n - ((c : Int) - 48)))) = int (10 * n - (c - 48 : Nat)) := congrArg int (by rw [wrap_i64 (by omega) (by omega)]; omega)
        clear no hstep
        generalize (10 * n - (c - 48 : Nat) : Int) = m at *
        refine run_sound (⟨fun | 12, 2 => .res (u8 c) | 12, 7 => .res (u8 c) | 14, 2 => .res (u8 c) | 14, 3 => .res (int (c : Nat)) | 14, 4 => .res (int ((c : Int) - 48)) | 17, 1 => .res (int (10 * n)) | 17, 3 => .res (int m) | 11, 1 => .res (int (i + 1 : Nat)) | _, _ => .no, [((2, 10), ([1, 4, 5, 6, 7], 1)), ((0, 13), ([], 1)), ((0, 16), ([], 1)), ((0, 18), ([1, 5, 6], 1))], fun | 22 => some ⟨[], [], .take true [0,1,3,4] (.one 2 (.take true [5,6,7] .done))⟩ | _ => none⟩) 400 (B := bsplit (decide ((↑i : Int) < (↑(ByteArray.size (ByteArray.mk (List.toArray s))) : Int))) ((0 : Int) ≤ (↑i : Int) ∧ Option.map (fun c => T.v (Value.int IntKind.u8 (↑(UInt8.toNat c) : Int))) (ByteArray.mk (List.toArray s))[Int.toNat (↑i : Int)]? = some (T.v (Value.int IntKind.u8 (↑c : Int))) ∧ bsplit (decide ((↑c : Int) < (48 : Int))) (TWk Tryd.prog Γ (fin Tryd.prog Tryd.f54 [] Q) [It.code (sub (bd Tryd.f54) [(1 : Nat), (1 : Nat), (1 : Nat), (1 : Nat), (1 : Nat), (1 : Nat), (0 : Nat), (1 : Nat), (0 : Nat), (0 : Nat), (1 : Nat), (0 : Nat), (0 : Nat), (0 : Nat), (1 : Nat), (0 : Nat)]), It.code (sub (bd Tryd.f54) [(1 : Nat), (1 : Nat), (1 : Nat), (1 : Nat), (1 : Nat), (1 : Nat), (0 : Nat), (1 : Nat), (0 : Nat), (0 : Nat), (1 : Nat), (0 : Nat), (0 : Nat), (1 : Nat)]), It.blk (1 : Nat), It.code (sub (bd Tryd.f54) [(1 : Nat), (1 : Nat), (1 : Nat), (1 : Nat), (1 : Nat), (1 : Nat), (0 : Nat), (1 : Nat), (0 : Nat), (0 : Nat), (1 : Nat), (1 : Nat)]), It.code (sub (bd Tryd.f54) [(1 : Nat), (1 : Nat), (1 : Nat), (1 : Nat), (1 : Nat), (1 : Nat), (0 : Nat), (1 : Nat), (0 : Nat)]), It.blk (0 : Nat), It.code (sub (bd Tryd.f54) [(1 : Nat), (1 : Nat), (1 : Nat), (1 : Nat), (1 : Nat), (1 : Nat), (1 : Nat)])] { fr := [T.und, T.und, T.und, T.und, T.und, T.und, T.und, T.und, T.und, T.und, T.und, T.und, T.und, T.und, T.und, T.und, T.und, T.und, T.und, T.und, T.und, T.und, T.und, T.und, T.und, T.und, T.und, T.und, T.und, T.und, T.und, T.und, T.und, T.und, T.und, T.und, T.und, T.und, T.und, T.und, T.und, T.und, T.und, T.und, T.und, T.und, T.und, T.und, T.und, T.und, T.und, T.und, T.und, T.und, T.und, T.und, T.und, T.und, T.und, T.und, T.und, T.und, T.und, T.und, T.und, T.und, T.und, T.und, T.und, T.und, T.und, T.und, T.und, T.und, T.und, T.und, T.und, T.und, T.und], ob := [(b0, Ob.cells [T.v (Value.bool true), T.v (Value.string (ByteArray.mk (List.toArray l)))])], gl := fun x => none }) ((0 : Int) ≤ (↑i : Int) ∧ Option.map (fun c => T.v (Value.int IntKind.u8 (↑(UInt8.toNat c) : Int))) (ByteArray.mk (List.toArray s))[Int.toNat (↑i : Int)]? = some (T.v (Value.int IntKind.u8 (↑c : Int))) ∧ bsplit (decide ((↑c : Int) > (57 : Int))) (TWk Tryd.prog Γ (fin Tryd.prog Tryd.f54 [] Q) [It.code (sub (bd Tryd.f54) [(1 : Nat), (1 : Nat), (1 : Nat), (1 : Nat), (1 : Nat), (1 : Nat), (0 : Nat), (1 : Nat), (0 : Nat), (0 : Nat), (1 : Nat), (0 : Nat), (0 : Nat), (0 : Nat), (1 : Nat), (0 : Nat)]), It.code (sub (bd Tryd.f54) [(1 : Nat), (1 : Nat), (1 : Nat), (1 : Nat), (1 : Nat), (1 : Nat), (0 : Nat), (1 : Nat), (0 : Nat), (0 : Nat), (1 : Nat), (0 : Nat), (0 : Nat), (1 : Nat)]), It.blk (1 : Nat), It.code (sub (bd Tryd.f54) [(1 : Nat), (1 : Nat), (1 : Nat), (1 : Nat), (1 : Nat), (1 : Nat), (0 : Nat), (1 : Nat), (0 : Nat), (0 : Nat), (1 : Nat), (1 : Nat)]), It.code (sub (bd Tryd.f54) [(1 : Nat), (1 : Nat), (1 : Nat), (1 : Nat), (1 : Nat), (1 : Nat), (0 : Nat), (1 : Nat), (0 : Nat)]), It.blk (0 : Nat), It.code (sub (bd Tryd.f54) [(1 : Nat), (1 : Nat), (1 : Nat), (1 : Nat), (1 : Nat), (1 : Nat), (1 : Nat)])] { fr := [T.und, T.und, T.und, T.und, T.und, T.und, T.und, T.und, T.und, T.und, T.und, T.und, T.und, T.und, T.und, T.und, T.und, T.und, T.und, T.und, T.und, T.und, T.und, T.und, T.und, T.und, T.und, T.und, T.und, T.und, T.und, T.und, T.und, T.und, T.und, T.und, T.und, T.und, T.und, T.und, T.und, T.und, T.und, T.und, T.und, T.und, T.und, T.und, T.und, T.und, T.und, T.und, T.und, T.und, T.und, T.und, T.und, T.und, T.und, T.und, T.und, T.und, T.und, T.und, T.und, T.und, T.und, T.und, T.und, T.und, T.und, T.und, T.und, T.und, T.und, T.und, T.und, T.und, T.und], ob := [(b0, Ob.cells [T.v (Value.bool true), T.v (Value.string (ByteArray.mk (List.toArray l)))])], gl := fun x => none }) ((0 : Int) ≤ (↑i : Int) ∧ Option.map (fun c => T.v (Value.int IntKind.u8 (↑(UInt8.toNat c) : Int))) (ByteArray.mk (List.toArray s))[Int.toNat (↑i : Int)]? = some (T.v (Value.int IntKind.u8 (↑c : Int))) ∧ T.v (Value.int IntKind.i64 (IntKind.wrap IntKind.i64 (↑c : Int))) = T.v (Value.int IntKind.i64 (↑c : Int)) ∧ T.v (Value.int IntKind.i64 (IntKind.wrap IntKind.i64 ((↑c : Int) - (48 : Int)))) = T.v (Value.int IntKind.i64 ((↑c : Int) - (48 : Int))) ∧ bsplit (decide (n < (-922337203685477580 : Int))) (TWk Tryd.prog Γ (fin Tryd.prog Tryd.f54 [] Q) [It.code (sub (bd Tryd.f54) [(1 : Nat), (1 : Nat), (1 : Nat), (1 : Nat), (1 : Nat), (1 : Nat), (0 : Nat), (1 : Nat), (0 : Nat), (0 : Nat), (1 : Nat), (0 : Nat), (0 : Nat), (1 : Nat), (1 : Nat), (0 : Nat), (1 : Nat), (0 : Nat)]), It.code (sub (bd Tryd.f54) [(1 : Nat), (1 : Nat), (1 : Nat), (1 : Nat), (1 : Nat), (1 : Nat), (0 : Nat), (1 : Nat), (0 : Nat), (0 : Nat), (1 : Nat), (0 : Nat), (0 : Nat), (1 : Nat), (1 : Nat), (1 : Nat)]), It.blk (1 : Nat), It.code (sub (bd Tryd.f54) [(1 : Nat), (1 : Nat), (1 : Nat), (1 : Nat), (1 : Nat), (1 : Nat), (0 : Nat), (1 : Nat), (0 : Nat), (0 : Nat), (1 : Nat), (1 : Nat)]), It.code (sub (bd Tryd.f54) [(1 : Nat), (1 : Nat), (1 : Nat), (1 : Nat), (1 : Nat), (1 : Nat), (0 : Nat), (1 : Nat), (0 : Nat)]), It.blk (0 : Nat), It.code (sub (bd Tryd.f54) [(1 : Nat), (1 : Nat), (1 : Nat), (1 : Nat), (1 : Nat), (1 : Nat), (1 : Nat)])] { fr := [T.und, T.und, T.und, T.und, T.und, T.und, T.und, T.und, T.und, T.und, T.und, T.und, T.und, T.und, T.und, T.und, T.und, T.und, T.und, T.und, T.und, T.und, T.und, T.und, T.und, T.und, T.und, T.und, T.und, T.und, T.und, T.und, T.und, T.und, T.und, T.und, T.und, T.und, T.und, T.und, T.und, T.und, T.und, T.und, T.und, T.und, T.und, T.und, T.und, T.und, T.und, T.und, T.und, T.und, T.und, T.und, T.und, T.und, T.und, T.und, T.und, T.und, T.und, T.und, T.und, T.und, T.und, T.und, T.und, T.und, T.und, T.und, T.und, T.und, T.und, T.und, T.und, T.und, T.und], ob := [(b0, Ob.cells [T.v (Value.bool true), T.v (Value.string (ByteArray.mk (List.toArray l)))])], gl := fun x => none }) (bsplit (n == (-922337203685477580 : Int)) (bsplit (decide ((↑c : Int) - (48 : Int) > (8 : Int))) (TWk Tryd.prog Γ (fin Tryd.prog Tryd.f54 [] Q) [It.code (sub (bd Tryd.f54) [(1 : Nat), (1 : Nat), (1 : Nat), (1 : Nat), (1 : Nat), (1 : Nat), (0 : Nat), (1 : Nat), (0 : Nat), (0 : Nat), (1 : Nat), (0 : Nat), (0 : Nat), (1 : Nat), (1 : Nat), (0 : Nat), (1 : Nat), (0 : Nat)]), It.code (sub (bd Tryd.f54) [(1 : Nat), (1 : Nat), (1 : Nat), (1 : Nat), (1 : Nat), (1 : Nat), (0 : Nat), (1 : Nat), (0 : Nat), (0 : Nat), (1 : Nat), (0 : Nat), (0 : Nat), (1 : Nat), (1 : Nat), (1 : Nat)]), It.blk (1 : Nat), It.code (sub (bd Tryd.f54) [(1 : Nat), (1 : Nat), (1 : Nat), (1 : Nat), (1 : Nat), (1 : Nat), (0 : Nat), (1 : Nat), (0 : Nat), (0 : Nat), (1 : Nat), (1 : Nat)]), It.code (sub (bd Tryd.f54) [(1 : Nat), (1 : Nat), (1 : Nat), (1 : Nat), (1 : Nat), (1 : Nat), (0 : Nat), (1 : Nat), (0 : Nat)]), It.blk (0 : Nat), It.code (sub (bd Tryd.f54) [(1 : Nat), (1 : Nat), (1 : Nat), (1 : Nat), (1 : Nat), (1 : Nat), (1 : Nat)])] { fr := [T.und, T.und, T.und, T.und, T.und, T.und, T.und, T.und, T.und, T.und, T.und, T.und, T.und, T.und, T.und, T.und, T.und, T.und, T.und, T.und, T.und, T.und, T.und, T.und, T.und, T.und, T.und, T.und, T.und, T.und, T.und, T.und, T.und, T.und, T.und, T.und, T.und, T.und, T.und, T.und, T.und, T.und, T.und, T.und, T.und, T.und, T.und, T.und, T.und, T.und, T.und, T.und, T.und, T.und, T.und, T.und, T.und, T.und, T.und, T.und, T.und, T.und, T.und, T.und, T.und, T.und, T.und, T.und, T.und, T.und, T.und, T.und, T.und, T.und, T.und, T.und, T.und, T.und, T.und], ob := [(b0, Ob.cells [T.v (Value.bool true), T.v (Value.string (ByteArray.mk (List.toArray l)))])], gl := fun x => none }) (T.v (Value.int IntKind.i64 (IntKind.wrap IntKind.i64 ((10 : Int) * n))) = T.v (Value.int IntKind.i64 ((10 : Int) * n)) ∧ T.v (Value.int IntKind.i64 (IntKind.wrap IntKind.i64 ((10 : Int) * n - ((↑c : Int) - (48 : Int))))) = T.v (Value.int IntKind.i64 m) ∧ T.v (Value.int IntKind.i64 (IntKind.wrap IntKind.i64 ((↑i : Int) + (1 : Int)))) = T.v (Value.int IntKind.i64 (↑(i + (1 : Nat)) : Int)) ∧ TWk Tryd.prog Γ (fin Tryd.prog Tryd.f54 [] Q) [It.code (sub (bd Tryd.f54) [(1 : Nat), (1 : Nat), (1 : Nat), (1 : Nat), (1 : Nat), (1 : Nat), (0 : Nat), (1 : Nat), (0 : Nat)]), It.blk (0 : Nat), It.code (sub (bd Tryd.f54) [(1 : Nat), (1 : Nat), (1 : Nat), (1 : Nat), (1 : Nat), (1 : Nat), (1 : Nat)])] { fr := [T.und, T.ptr (0 : Nat) b0 (0 : Nat), T.und, T.und, T.v (Value.string (ByteArray.mk (List.toArray s))), T.v (Value.bool below), T.v (Value.int IntKind.i64 m), T.v (Value.int IntKind.i64 (↑(i + (1 : Nat)) : Int)), T.und, T.und, T.und, T.und, T.und, T.und, T.und, T.und, T.und, T.und, T.und, T.und, T.und, T.und, T.und, T.und, T.und, T.und, T.und, T.und, T.und, T.und, T.und, T.und, T.und, T.und, T.und, T.und, T.und, T.und, T.und, T.und, T.und, T.und, T.und, T.und, T.und, T.und, T.und, T.und, T.und, T.und, T.und, T.und, T.und, T.und, T.und, T.und, T.und, T.und, T.und, T.und, T.und, T.und, T.und, T.und, T.und, T.und, T.und, T.und, T.und, T.und, T.und, T.und, T.und, T.und, T.und, T.und, T.und, T.und, T.und], ob := [(b0, Ob.cells [T.v (Value.bool true), T.v (Value.string (ByteArray.mk (List.toArray l)))])], gl := fun x => none })) (T.v (Value.int IntKind.i64 (IntKind.wrap IntKind.i64 ((10 : Int) * n))) = T.v (Value.int IntKind.i64 ((10 : Int) * n)) ∧ T.v (Value.int IntKind.i64 (IntKind.wrap IntKind.i64 ((10 : Int) * n - ((↑c : Int) - (48 : Int))))) = T.v (Value.int IntKind.i64 m) ∧ T.v (Value.int IntKind.i64 (IntKind.wrap IntKind.i64 ((↑i : Int) + (1 : Int)))) = T.v (Value.int IntKind.i64 (↑(i + (1 : Nat)) : Int)) ∧ TWk Tryd.prog Γ (fin Tryd.prog Tryd.f54 [] Q) [It.code (sub (bd Tryd.f54) [(1 : Nat), (1 : Nat), (1 : Nat), (1 : Nat), (1 : Nat), (1 : Nat), (0 : Nat), (1 : Nat), (0 : Nat)]), It.blk (0 : Nat), It.code (sub (bd Tryd.f54) [(1 : Nat), (1 : Nat), (1 : Nat), (1 : Nat), (1 : Nat), (1 : Nat), (1 : Nat)])] { fr := [T.und, T.ptr (0 : Nat) b0 (0 : Nat), T.und, T.und, T.v (Value.string (ByteArray.mk (List.toArray s))), T.v (Value.bool below), T.v (Value.int IntKind.i64 m), T.v (Value.int IntKind.i64 (↑(i + (1 : Nat)) : Int)), T.und, T.und, T.und, T.und, T.und, T.und, T.und, T.und, T.und, T.und, T.und, T.und, T.und, T.und, T.und, T.und, T.und, T.und, T.und, T.und, T.und, T.und, T.und, T.und, T.und, T.und, T.und, T.und, T.und, T.und, T.und, T.und, T.und, T.und, T.und, T.und, T.und, T.und, T.und, T.und, T.und, T.und, T.und, T.und, T.und, T.und, T.und, T.und, T.und, T.und, T.und, T.und, T.und, T.und, T.und, T.und, T.und, T.und, T.und, T.und, T.und, T.und, T.und, T.und, T.und, T.und, T.und, T.und, T.und, T.und, T.und], ob := [(b0, Ob.cells [T.v (Value.bool true), T.v (Value.string (ByteArray.mk (List.toArray l)))])], gl := fun x => none }))))) (TWk Tryd.prog Γ (fin Tryd.prog Tryd.f54 [] Q) [It.code (sub (bd Tryd.f54) [(1 : Nat), (1 : Nat), (1 : Nat), (1 : Nat), (1 : Nat), (1 : Nat), (1 : Nat)])] { fr := [T.und, T.ptr (0 : Nat) b0 (0 : Nat), T.und, T.und, T.und, T.v (Value.bool below), T.v (Value.int IntKind.i64 n), T.und, T.und, T.und, T.und, T.und, T.und, T.und, T.und, T.und, T.und, T.und, T.und, T.und, T.und, T.und, T.und, T.und, T.und, T.und, T.und, T.und, T.und, T.und, T.und, T.und, T.und, T.und, T.und, T.und, T.und, T.und, T.und, T.und, T.und, T.und, T.und, T.und, T.und, T.und, T.und, T.und, T.und, T.und, T.und, T.und, T.und, T.und, T.und, T.und, T.und, T.und, T.und, T.und, T.und, T.und, T.und, T.und, T.und, T.und, T.und, T.und, T.und, T.und, T.und, T.und, T.und, T.und, T.und, T.und, T.und, T.und, T.und], ob := [(b0, Ob.cells [T.v (Value.bool true), T.v (Value.string (ByteArray.mk (List.toArray l)))])], gl := fun x => none })) (by kernel_rfl) ?_
        repeat' (first | exact rfl | exact Nat.le_of_ble_eq_true rfl | refine And.intro ?_ ?_ | intro _ | refine bsplit_mk (fun _ => ?_) (fun _ => ?_))
        all_goals first
          | exact hx
          | exact hcv
          | exact hsb
          | exact hmu
          | exact hsu
          | exact hi1
          | exact nx
          | exact Int.natCast_nonneg _
          | (exfalso; simp only [decide_eq_true_eq, decide_eq_false_iff_not, hsz, beq_iff_eq, beq_eq_false_iff_ne] at *; omega)
          | (clear nx; trace_state)
end
theorem rnumber_post (v : Val) (hl : v.t.length ≤ 1000) : TCalls Tryd.prog 54 [.agg (vC v)] [] none_ (callPost (told (.tup [int (refR v).1, bool (refR v).2]) [] [])) := by
  have hQ : ∀ y, y = .tup [int (refR v).1, bool (refR v).2] → callPost (told (.tup [int (refR v).1, bool (refR v).2]) [] []) y [] none_ := fun y h => told_post h
  generalize callPost (told (.tup [int (refR v).1, bool (refR v).2]) [] []) = Q at *
  obtain ⟨h, l⟩ := v
  unfold refR at hQ
  simp only at hQ hl
  unfold vC
  simp only
  have hsz := sizeL l
  cases h with
  | false =>
    rw [if_pos rfl] at hQ
    have hQ := hQ _ rfl
    refine TCalls.of Tryd.func54 rfl (CanCall.of Tryd.func54 rfl (by decide)) [] fun Γ => ?_
    refine run_sound (⟨fun | 4, 5 => .no | _, _ => .no, [((0, 3), ([1], 1))], fun | 22 => some ⟨[], [], .take true [0,1,3,4] (.one 2 (.take true [5,6,7] .done))⟩ | _ => none⟩) 400 (B := ∀ (b : Nat), b = b ∧ Q (T.tup [T.v (Value.int IntKind.i64 (0 : Int)), T.v (Value.bool true)]) [] fun x => none) (by kernel_rfl) ?_
    repeat' (first | exact rfl | exact Nat.le_of_ble_eq_true rfl | refine And.intro ?_ ?_ | intro _ | refine bsplit_mk (fun _ => ?_) (fun _ => ?_))
    all_goals first
      | exact hQ
      | trace_state
  | true =>
    rw [if_neg (by decide)] at hQ
    cases l with
    | nil =>
      have hQ : Q (.tup [int 0, bool false]) [] none_ := hQ _ rfl
      refine TCalls.of Tryd.func54 rfl (CanCall.of Tryd.func54 rfl (by decide)) [] fun Γ => ?_
      refine run_sound (⟨fun | 4, 5 => .no | _, _ => .no, [((0, 5), ([1, 4], 1)), ((0, 8), ([1, 4, 5], 1))], fun | 22 => some ⟨[], [], .take true [0,1,3,4] (.one 2 (.take true [5,6,7] .done))⟩ | _ => none⟩) 400 (B := ∀ (b : Nat), b = b ∧ b = b ∧ Q (T.tup [T.v (Value.int IntKind.i64 (0 : Int)), T.v (Value.bool false)]) [] fun x => none) (by kernel_rfl) ?_
      repeat' (first | exact rfl | exact Nat.le_of_ble_eq_true rfl | refine And.intro ?_ ?_ | intro _ | refine bsplit_mk (fun _ => ?_) (fun _ => ?_))
      all_goals first
        | exact hQ
        | (exfalso; rename_i h; simp at h; done)
        | trace_state
    | cons c r =>
      have hx := str_at (c :: r) 0 (by simp)
      have hx : ((⟨(c :: r).toArray⟩ : ByteArray)[((0 : Nat) : Int).toNat]?).map (fun c : UInt8 => T.v (.int .u8 c.toNat)) = some (u8 c.toNat) := hx
      have hR : refNum (c :: r) = if c.toNat = 45 then refMag true r else refMag false (c :: r) := rfl
      -- what stands behind the sign
      have key : ∀ (below : Bool) (s : List UInt8), refNum (c :: r) = refMag below s → s.length ≤ 1000 → s ≠ [] → s.length ≤ 19 → ∀ (Γ : Ctx) (b0 : Nat), TWk Tryd.prog Γ (fin Tryd.prog Tryd.f54 [] Q) [.code (sub (bd Tryd.f54) [1, 1, 1, 1, 1, 1, 0, 1, 0]), .blk 0, .code (sub (bd Tryd.f54) [1, 1, 1, 1, 1, 1, 1])] ⟨frame 79 [(1, .ptr 0 b0 0), (4, str s), (5, bool below), (6, int 0), (7, int 0)], [(b0, .cells [bool true, str (c :: r)])], none_⟩ := fun below s he h1 h2 h3 Γ b0 => by
        have hM : refMag below s = (match refAcc 0 s with | none => none | some n => if below = true then some n else if n = -9223372036854775808 then none else some (-n)) := by
          unfold Reg.refMag
          rw [if_neg (by intro k; rcases k with k | k; exact h2 k; omega)]
          rfl
        rw [hM] at he
        refine rn_loop Γ b0 (c :: r) Q hl s h3 below (fun e => ?_) (fun n e => ?_) s.length 0 0 (by omega) (by omega) rfl
        · rw [e] at he
          rw [he] at hQ
          exact hQ _ rfl
        · rw [e] at he
          have hin := Reg.refAcc_in s (by omega) e
          refine rn_sign Γ b0 (c :: r) Q hl below n hin (fun a b => ?_) (fun a b y hy => ?_) (fun a y hy => ?_)
          · subst a; subst b
            rw [he] at hQ
            exact hQ _ rfl
          · subst a
            simp only [Bool.false_eq_true, if_false] at he
            rw [if_neg b] at he
            rw [he] at hQ
            exact hQ _ hy
          · subst a
            simp only [if_true] at he
            rw [he] at hQ
            exact hQ _ hy
      have bad : ∀ (below : Bool) (s : List UInt8), refNum (c :: r) = refMag below s → (s = [] ∨ 19 < s.length) → Q (.tup [int 0, bool false]) [] none_ := fun below s he h => by
        have hM : refMag below s = none := by unfold Reg.refMag; rw [if_pos h]
        rw [he, hM] at hQ
        exact hQ _ rfl
      clear hQ
      have six : ∀ (below : Bool) (s : List UInt8), refNum (c :: r) = refMag below s → s.length ≤ 1000 → ∀ (Γ : Ctx) (b0 : Nat), TWk Tryd.prog Γ (fin Tryd.prog Tryd.f54 [] Q) [.code (sub (bd Tryd.f54) [1, 1, 1, 1])] ⟨frame 79 [(1, .ptr 0 b0 0), (4, str s), (5, bool below)], [(b0, .cells [bool true, str (c :: r)])], none_⟩ := by
        intro below s he h1 Γ b0
        have hss := sizeL s
        by_cases hb : s = [] ∨ 19 < s.length
        · have bb := bad below s he hb
          have hb2 : s.length = 0 ∨ 19 < s.length := by
            rcases hb with k | k
            · left; rw [k]; rfl
            · exact .inr k
          clear key bad hb he
          refine run_sound (⟨fun  | _, _ => .no, [((0, 8), ([1, 4, 5], 1))], fun | 22 => some ⟨[], [], .take true [0,1,3,4] (.one 2 (.take true [5,6,7] .done))⟩ | _ => none⟩) 400 (B := bsplit ((↑(ByteArray.size (ByteArray.mk (List.toArray s))) : Int) == (0 : Int)) (Q (T.tup [T.v (Value.int IntKind.i64 (0 : Int)), T.v (Value.bool false)]) [] fun x => none) (bsplit (decide ((↑(ByteArray.size (ByteArray.mk (List.toArray s))) : Int) > (19 : Int))) (Q (T.tup [T.v (Value.int IntKind.i64 (0 : Int)), T.v (Value.bool false)]) [] fun x => none) (TWk Tryd.prog Γ (fin Tryd.prog Tryd.f54 [] Q) [It.code (sub (bd Tryd.f54) [(1 : Nat), (1 : Nat), (1 : Nat), (1 : Nat), (1 : Nat)])] { fr := [T.und, T.ptr (0 : Nat) b0 (0 : Nat), T.und, T.und, T.v (Value.string (ByteArray.mk (List.toArray s))), T.v (Value.bool below), T.und, T.und, T.und, T.und, T.und, T.und, T.und, T.und, T.und, T.und, T.und, T.und, T.und, T.und, T.und, T.und, T.und, T.und, T.und, T.und, T.und, T.und, T.und, T.und, T.und, T.und, T.und, T.und, T.und, T.und, T.und, T.und, T.und, T.und, T.und, T.und, T.und, T.und, T.und, T.und, T.und, T.und, T.und, T.und, T.und, T.und, T.und, T.und, T.und, T.und, T.und, T.und, T.und, T.und, T.und, T.und, T.und, T.und, T.und, T.und, T.und, T.und, T.und, T.und, T.und, T.und, T.und, T.und, T.und, T.und, T.und, T.und, T.und], ob := [(b0, Ob.cells [T.v (Value.bool true), T.v (Value.string (ByteArray.mk (List.toArray (c :: r))))])], gl := fun x => none }))) (by kernel_rfl) ?_
          repeat' (first | exact rfl | exact Nat.le_of_ble_eq_true rfl | refine And.intro ?_ ?_ | intro _ | refine bsplit_mk (fun _ => ?_) (fun _ => ?_))
          all_goals first
            | exact bb
            | (exfalso; simp only [decide_eq_true_eq, decide_eq_false_iff_not, hss, beq_iff_eq, beq_eq_false_iff_ne] at *; omega)
            | trace_state
        · have kb := key below s he h1 (fun k => hb (.inl k)) (by omega) Γ b0
          have hb2 : s.length ≠ 0 ∧ s.length ≤ 19 := ⟨fun k => hb (.inl (List.length_eq_zero_iff.1 k)), by omega⟩
          clear key bad hb he
          refine run_sound (⟨fun  | _, _ => .no, [((2, 10), ([1, 4, 5, 6, 7], 1)), ((0, 7), ([], 1))], fun | 22 => some ⟨[], [], .take true [0,1,3,4] (.one 2 (.take true [5,6,7] .done))⟩ | _ => none⟩) 400 (B := bsplit ((↑(ByteArray.size (ByteArray.mk (List.toArray s))) : Int) == (0 : Int)) (TWk Tryd.prog Γ (fin Tryd.prog Tryd.f54 [] Q) [It.code (sub (bd Tryd.f54) [(1 : Nat), (1 : Nat), (1 : Nat), (1 : Nat), (0 : Nat), (1 : Nat), (0 : Nat)]), It.code (sub (bd Tryd.f54) [(1 : Nat), (1 : Nat), (1 : Nat), (1 : Nat), (1 : Nat)])] { fr := [T.und, T.und, T.und, T.und, T.und, T.und, T.und, T.und, T.und, T.und, T.und, T.und, T.und, T.und, T.und, T.und, T.und, T.und, T.und, T.und, T.und, T.und, T.und, T.und, T.und, T.und, T.und, T.und, T.und, T.und, T.und, T.und, T.und, T.und, T.und, T.und, T.und, T.und, T.und, T.und, T.und, T.und, T.und, T.und, T.und, T.und, T.und, T.und, T.und, T.und, T.und, T.und, T.und, T.und, T.und, T.und, T.und, T.und, T.und, T.und, T.und, T.und, T.und, T.und, T.und, T.und, T.und, T.und, T.und, T.und, T.und, T.und, T.und, T.und, T.und, T.und, T.und, T.und, T.und], ob := [(b0, Ob.cells [T.v (Value.bool true), T.v (Value.string (ByteArray.mk (List.toArray (c :: r))))])], gl := fun x => none }) (bsplit (decide ((↑(ByteArray.size (ByteArray.mk (List.toArray s))) : Int) > (19 : Int))) (TWk Tryd.prog Γ (fin Tryd.prog Tryd.f54 [] Q) [It.code (sub (bd Tryd.f54) [(1 : Nat), (1 : Nat), (1 : Nat), (1 : Nat), (0 : Nat), (1 : Nat), (0 : Nat)]), It.code (sub (bd Tryd.f54) [(1 : Nat), (1 : Nat), (1 : Nat), (1 : Nat), (1 : Nat)])] { fr := [T.und, T.und, T.und, T.und, T.und, T.und, T.und, T.und, T.und, T.und, T.und, T.und, T.und, T.und, T.und, T.und, T.und, T.und, T.und, T.und, T.und, T.und, T.und, T.und, T.und, T.und, T.und, T.und, T.und, T.und, T.und, T.und, T.und, T.und, T.und, T.und, T.und, T.und, T.und, T.und, T.und, T.und, T.und, T.und, T.und, T.und, T.und, T.und, T.und, T.und, T.und, T.und, T.und, T.und, T.und, T.und, T.und, T.und, T.und, T.und, T.und, T.und, T.und, T.und, T.und, T.und, T.und, T.und, T.und, T.und, T.und, T.und, T.und, T.und, T.und, T.und, T.und, T.und, T.und], ob := [(b0, Ob.cells [T.v (Value.bool true), T.v (Value.string (ByteArray.mk (List.toArray (c :: r))))])], gl := fun x => none }) (TWk Tryd.prog Γ (fin Tryd.prog Tryd.f54 [] Q) [It.code (sub (bd Tryd.f54) [(1 : Nat), (1 : Nat), (1 : Nat), (1 : Nat), (1 : Nat), (1 : Nat), (0 : Nat), (1 : Nat), (0 : Nat)]), It.blk (0 : Nat), It.code (sub (bd Tryd.f54) [(1 : Nat), (1 : Nat), (1 : Nat), (1 : Nat), (1 : Nat), (1 : Nat), (1 : Nat)])] { fr := [T.und, T.ptr (0 : Nat) b0 (0 : Nat), T.und, T.und, T.v (Value.string (ByteArray.mk (List.toArray s))), T.v (Value.bool below), T.v (Value.int IntKind.i64 (0 : Int)), T.v (Value.int IntKind.i64 (0 : Int)), T.und, T.und, T.und, T.und, T.und, T.und, T.und, T.und, T.und, T.und, T.und, T.und, T.und, T.und, T.und, T.und, T.und, T.und, T.und, T.und, T.und, T.und, T.und, T.und, T.und, T.und, T.und, T.und, T.und, T.und, T.und, T.und, T.und, T.und, T.und, T.und, T.und, T.und, T.und, T.und, T.und, T.und, T.und, T.und, T.und, T.und, T.und, T.und, T.und, T.und, T.und, T.und, T.und, T.und, T.und, T.und, T.und, T.und, T.und, T.und, T.und, T.und, T.und, T.und, T.und, T.und, T.und, T.und, T.und, T.und, T.und], ob := [(b0, Ob.cells [T.v (Value.bool true), T.v (Value.string (ByteArray.mk (List.toArray (c :: r))))])], gl := fun x => none }))) (by kernel_rfl) ?_
          repeat' (first | exact rfl | exact Nat.le_of_ble_eq_true rfl | refine And.intro ?_ ?_ | intro _ | refine bsplit_mk (fun _ => ?_) (fun _ => ?_))
          all_goals first
            | exact kb
            | (exfalso; simp only [decide_eq_true_eq, decide_eq_false_iff_not, hss, beq_iff_eq, beq_eq_false_iff_ne] at *; omega)
            | trace_state
      clear key bad
      by_cases h45 : c.toNat = 45
      · have st := fun Γ b0 => six true r (by rw [hR, if_pos h45]) (by rw [List.length_cons] at hl; omega) Γ b0
        have hcut : T.v (.string ((⟨(c :: r).toArray⟩ : ByteArray).extract (((1 : Nat) : Int)).toNat ((((⟨(c :: r).toArray⟩ : ByteArray).size : Nat) : Int)).toNat)) = str r := by
          rw [bs_cut, hsz, Int.toNat_natCast, Int.toNat_natCast, List.take_of_length_le (Nat.le_refl _)]; rfl
        rw [← hcut] at st
        rw [h45] at hx
        have hpos : (0 : Int) < (((⟨(c :: r).toArray⟩ : ByteArray).size : Nat) : Int) := by rw [hsz, List.length_cons]; omega
        clear six hcut
        refine TCalls.of Tryd.func54 rfl (CanCall.of Tryd.func54 rfl (by decide)) [] fun Γ => ?_
        refine run_sound (⟨fun | 4, 5 => .res (u8 45) | _, _ => .no, [((0, 6), ([1, 4, 5], 1))], fun | 22 => some ⟨[], [], .take true [0,1,3,4] (.one 2 (.take true [5,6,7] .done))⟩ | _ => none⟩) 400 (B := ∀ (b : Nat), b = b ∧ b = b ∧ bsplit (decide ((↑(ByteArray.size (ByteArray.mk (List.toArray (c :: r)))) : Int) > (0 : Int))) ((0 : Int) ≤ (0 : Int) ∧ some (T.v (Value.int IntKind.u8 (↑(UInt8.toNat (ByteArray.mk (List.toArray (c :: r)))[Int.toNat (0 : Int)]) : Int))) = some (T.v (Value.int IntKind.u8 (45 : Int))) ∧ ((0 : Int) ≤ Prod.snd (IntKind.i64, (1 : Int)) ∧ Prod.snd (IntKind.i64, (1 : Int)) ≤ (↑(ByteArray.size (ByteArray.mk (List.toArray (c :: r)))) : Int) ∧ (↑(ByteArray.size (ByteArray.mk (List.toArray (c :: r)))) : Int) ≤ (↑(ByteArray.size (ByteArray.mk (List.toArray (c :: r)))) : Int)) ∧ TWk Tryd.prog Γ (fin Tryd.prog Tryd.f54 [] Q) [It.code (sub (bd Tryd.f54) [(1 : Nat), (1 : Nat), (1 : Nat), (1 : Nat)])] { fr := [T.und, T.ptr (0 : Nat) b (0 : Nat), T.und, T.und, T.v (Value.string (ByteArray.extract (ByteArray.mk (List.toArray (c :: r))) (Int.toNat (Prod.snd (IntKind.i64, (1 : Int)))) (Int.toNat (↑(ByteArray.size (ByteArray.mk (List.toArray (c :: r)))) : Int)))), T.v (Value.bool true), T.und, T.und, T.und, T.und, T.und, T.und, T.und, T.und, T.und, T.und, T.und, T.und, T.und, T.und, T.und, T.und, T.und, T.und, T.und, T.und, T.und, T.und, T.und, T.und, T.und, T.und, T.und, T.und, T.und, T.und, T.und, T.und, T.und, T.und, T.und, T.und, T.und, T.und, T.und, T.und, T.und, T.und, T.und, T.und, T.und, T.und, T.und, T.und, T.und, T.und, T.und, T.und, T.und, T.und, T.und, T.und, T.und, T.und, T.und, T.und, T.und, T.und, T.und, T.und, T.und, T.und, T.und, T.und, T.und, T.und, T.und, T.und, T.und], ob := [(b, Ob.cells [T.v (Value.bool true), T.v (Value.string (ByteArray.mk (List.toArray (c :: r))))])], gl := fun x => none }) (TWk Tryd.prog Γ (fin Tryd.prog Tryd.f54 [] Q) [It.code (sub (bd Tryd.f54) [(1 : Nat), (1 : Nat), (1 : Nat), (1 : Nat)])] { fr := [T.und, T.ptr (0 : Nat) b (0 : Nat), T.und, T.und, T.v (Value.string (ByteArray.mk (List.toArray (c :: r)))), T.v (Value.bool false), T.und, T.und, T.und, T.und, T.und, T.und, T.und, T.und, T.und, T.und, T.und, T.und, T.und, T.und, T.und, T.und, T.und, T.und, T.und, T.und, T.und, T.und, T.und, T.und, T.und, T.und, T.und, T.und, T.und, T.und, T.und, T.und, T.und, T.und, T.und, T.und, T.und, T.und, T.und, T.und, T.und, T.und, T.und, T.und, T.und, T.und, T.und, T.und, T.und, T.und, T.und, T.und, T.und, T.und, T.und, T.und, T.und, T.und, T.und, T.und, T.und, T.und, T.und, T.und, T.und, T.und, T.und, T.und, T.und, T.und, T.und, T.und, T.und], ob := [(b, Ob.cells [T.v (Value.bool true), T.v (Value.string (ByteArray.mk (List.toArray (c :: r))))])], gl := fun x => none })) (by kernel_rfl) ?_
        repeat' (first | exact rfl | exact Nat.le_of_ble_eq_true rfl | refine And.intro ?_ ?_ | intro _ | refine bsplit_mk (fun _ => ?_) (fun _ => ?_))
        all_goals first
          | exact hx
          | exact st Γ _
          | exact Int.le_refl _
          | (show (0 : Int) ≤ 1; decide)
          | (show (1 : Int) ≤ (((⟨(c :: r).toArray⟩ : ByteArray).size : Nat) : Int); omega)
          | (exfalso; simp only [decide_eq_true_eq, decide_eq_false_iff_not] at *; omega)
          | (clear st; trace_state)
      · have st := fun Γ b0 => six false (c :: r) (by rw [hR, if_neg h45]) hl Γ b0
        have hne : ((c.toNat : Int) == 45) = false := by simp; omega
        have hpos : (0 : Int) < (((⟨(c :: r).toArray⟩ : ByteArray).size : Nat) : Int) := by rw [hsz, List.length_cons]; omega
        clear six
        generalize c.toNat = k at *
        refine TCalls.of Tryd.func54 rfl (CanCall.of Tryd.func54 rfl (by decide)) [] fun Γ => ?_
        refine run_sound (⟨fun | 4, 5 => .res (u8 k) | _, _ => .no, [((0, 6), ([1, 4, 5], 1))], fun | 22 => some ⟨[], [], .take true [0,1,3,4] (.one 2 (.take true [5,6,7] .done))⟩ | _ => none⟩) 400 (B := ∀ (b : Nat), b = b ∧ b = b ∧ bsplit (decide ((↑(ByteArray.size (ByteArray.mk (List.toArray (c :: r)))) : Int) > (0 : Int))) ((0 : Int) ≤ (0 : Int) ∧ some (T.v (Value.int IntKind.u8 (↑(UInt8.toNat (ByteArray.mk (List.toArray (c :: r)))[Int.toNat (0 : Int)]) : Int))) = some (T.v (Value.int IntKind.u8 (↑k : Int))) ∧ bsplit ((↑k : Int) == (45 : Int)) (((0 : Int) ≤ Prod.snd (IntKind.i64, (1 : Int)) ∧ Prod.snd (IntKind.i64, (1 : Int)) ≤ (↑(ByteArray.size (ByteArray.mk (List.toArray (c :: r)))) : Int) ∧ (↑(ByteArray.size (ByteArray.mk (List.toArray (c :: r)))) : Int) ≤ (↑(ByteArray.size (ByteArray.mk (List.toArray (c :: r)))) : Int)) ∧ TWk Tryd.prog Γ (fin Tryd.prog Tryd.f54 [] Q) [It.code (sub (bd Tryd.f54) [(1 : Nat), (1 : Nat), (1 : Nat), (1 : Nat)])] { fr := [T.und, T.ptr (0 : Nat) b (0 : Nat), T.und, T.und, T.v (Value.string (ByteArray.extract (ByteArray.mk (List.toArray (c :: r))) (Int.toNat (Prod.snd (IntKind.i64, (1 : Int)))) (Int.toNat (↑(ByteArray.size (ByteArray.mk (List.toArray (c :: r)))) : Int)))), T.v (Value.bool true), T.und, T.und, T.und, T.und, T.und, T.und, T.und, T.und, T.und, T.und, T.und, T.und, T.und, T.und, T.und, T.und, T.und, T.und, T.und, T.und, T.und, T.und, T.und, T.und, T.und, T.und, T.und, T.und, T.und, T.und, T.und, T.und, T.und, T.und, T.und, T.und, T.und, T.und, T.und, T.und, T.und, T.und, T.und, T.und, T.und, T.und, T.und, T.und, T.und, T.und, T.und, T.und, T.und, T.und, T.und, T.und, T.und, T.und, T.und, T.und, T.und, T.und, T.und, T.und, T.und, T.und, T.und, T.und, T.und, T.und, T.und, T.und, T.und], ob := [(b, Ob.cells [T.v (Value.bool true), T.v (Value.string (ByteArray.mk (List.toArray (c :: r))))])], gl := fun x => none }) (TWk Tryd.prog Γ (fin Tryd.prog Tryd.f54 [] Q) [It.code (sub (bd Tryd.f54) [(1 : Nat), (1 : Nat), (1 : Nat), (1 : Nat)])] { fr := [T.und, T.ptr (0 : Nat) b (0 : Nat), T.und, T.und, T.v (Value.string (ByteArray.mk (List.toArray (c :: r)))), T.v (Value.bool false), T.und, T.und, T.und, T.und, T.und, T.und, T.und, T.und, T.und, T.und, T.und, T.und, T.und, T.und, T.und, T.und, T.und, T.und, T.und, T.und, T.und, T.und, T.und, T.und, T.und, T.und, T.und, T.und, T.und, T.und, T.und, T.und, T.und, T.und, T.und, T.und, T.und, T.und, T.und, T.und, T.und, T.und, T.und, T.und, T.und, T.und, T.und, T.und, T.und, T.und, T.und, T.und, T.und, T.und, T.und, T.und, T.und, T.und, T.und, T.und, T.und, T.und, T.und, T.und, T.und, T.und, T.und, T.und, T.und, T.und, T.und, T.und, T.und], ob := [(b, Ob.cells [T.v (Value.bool true), T.v (Value.string (ByteArray.mk (List.toArray (c :: r))))])], gl := fun x => none })) (TWk Tryd.prog Γ (fin Tryd.prog Tryd.f54 [] Q) [It.code (sub (bd Tryd.f54) [(1 : Nat), (1 : Nat), (1 : Nat), (1 : Nat)])] { fr := [T.und, T.ptr (0 : Nat) b (0 : Nat), T.und, T.und, T.v (Value.string (ByteArray.mk (List.toArray (c :: r)))), T.v (Value.bool false), T.und, T.und, T.und, T.und, T.und, T.und, T.und, T.und, T.und, T.und, T.und, T.und, T.und, T.und, T.und, T.und, T.und, T.und, T.und, T.und, T.und, T.und, T.und, T.und, T.und, T.und, T.und, T.und, T.und, T.und, T.und, T.und, T.und, T.und, T.und, T.und, T.und, T.und, T.und, T.und, T.und, T.und, T.und, T.und, T.und, T.und, T.und, T.und, T.und, T.und, T.und, T.und, T.und, T.und, T.und, T.und, T.und, T.und, T.und, T.und, T.und, T.und, T.und, T.und, T.und, T.und, T.und, T.und, T.und, T.und, T.und, T.und, T.und], ob := [(b, Ob.cells [T.v (Value.bool true), T.v (Value.string (ByteArray.mk (List.toArray (c :: r))))])], gl := fun x => none })) (by kernel_rfl) ?_
        repeat' (first | exact rfl | exact Nat.le_of_ble_eq_true rfl | refine And.intro ?_ ?_ | intro _ | refine bsplit_mk (fun _ => ?_) (fun _ => ?_))
        all_goals first
          | exact hx
          | exact st Γ _
          | exact Int.le_refl _
          | (exfalso; rename_i h; rw [hne] at h; cases h; done)
          | (exfalso; simp only [decide_eq_true_eq, decide_eq_false_iff_not] at *; omega)
          | (clear st; trace_state)
end X4
end Go.Proofs.YtaepgceodcdnhaaDoor.Vm
