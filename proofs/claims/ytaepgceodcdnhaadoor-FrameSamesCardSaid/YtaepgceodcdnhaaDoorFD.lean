/- Frames by the engine: of, may, Encode. -/
import Derived.Test.YtaepgceodcdnhaaDoorFC
import Derived.Test.YtaepgceodcdnhaaDoorFrm1
namespace Go.Proofs.YtaepgceodcdnhaaDoor.Vm
open Go Go.RowKit
set_option maxRecDepth 100000
namespace X6
open Frm (num text raw one Cmd Mem Ent Lvs Fm lets fields PB)
open Oct (Part joinRes)
open X1 (partC parts parts_len)
def letS (l : List Nat) : List UInt8 := l.map UInt8.ofNat
/-- the cells of the variable 'fields' -/
def fixF : List T := fields.map fun l => str (letS l)
def obsF : Obs := [(0, .fix fixF)]
theorem fixF_at (k : Nat) (h : k < 17) : (fixF.drop (0 + (k : Int).toNat * 1))[0]? = some (str (letS (lets k))) := by
  have : k = 0 ∨ k = 1 ∨ k = 2 ∨ k = 3 ∨ k = 4 ∨ k = 5 ∨ k = 6 ∨ k = 7 ∨ k = 8 ∨ k = 9 ∨ k = 10 ∨ k = 11 ∨ k = 12 ∨ k = 13 ∨ k = 14 ∨ k = 15 ∨ k = 16 := by omega
  rcases this with rfl | rfl | rfl | rfl | rfl | rfl | rfl | rfl | rfl | rfl | rfl | rfl | rfl | rfl | rfl | rfl | rfl <;> rfl
theorem of_yes (k : Nat) (h : 1 ≤ k ∧ k < 17) : TCalls Tryd.prog 27 [u8 k] obsF none_ (callPost (told (.tup [str (letS (lets k)), bool true]) [0] obsF)) := by
  have hQ : callPost (told (.tup [str (letS (lets k)), bool true]) [0] obsF) (.tup [str (letS (lets k)), bool true]) obsF none_ := told_post rfl
  generalize callPost (told (.tup [str (letS (lets k)), bool true]) [0] obsF) = Q at *
  have hf := fixF_at k h.2
  generalize letS (lets k) = z at *
  have hw : T.v (.int .i64 (IntKind.wrap .i64 (k : Int))) = int k := congrArg int (wrap_i64 (by omega) (by omega))
  unfold obsF at *
  generalize fixF = F at *
  refine TCalls.of Tryd.func27 rfl (CanCall.of Tryd.func27 rfl (by decide)) [0] fun Γ => ?_
  refine run_sound (⟨fun | 1, 4 => .res (int k) | 3, 2 => .res (str z) | _, _ => .no, [], fun  | _ => none⟩) 400 (B := bsplit (decide ((↑k : Int) < (1 : Int))) (Q (T.tup [T.v (Value.string (ByteArray.mk (#[]))), T.v (Value.bool false)]) [((0 : Nat), Ob.fix F)] fun x => none) (T.v (Value.int IntKind.i64 (IntKind.wrap IntKind.i64 (↑k : Int))) = T.v (Value.int IntKind.i64 (↑k : Int)) ∧ bsplit (decide ((↑k : Int) ≥ (17 : Int))) (Q (T.tup [T.v (Value.string (ByteArray.mk (#[]))), T.v (Value.bool false)]) [((0 : Nat), Ob.fix F)] fun x => none) (((0 : Int) ≤ (↑k : Int) ∧ (↑k : Int) < (↑(17 : Nat) : Int)) ∧ (List.drop ((0 : Nat) + Int.toNat (↑k : Int) * nat_lit 1) F)[(0 : Nat)]? = some (T.v (Value.string (ByteArray.mk (List.toArray z)))) ∧ Q (T.tup [T.v (Value.string (ByteArray.mk (List.toArray z))), T.v (Value.bool true)]) [((0 : Nat), Ob.fix F)] fun x => none))) (by kernel_rfl) ?_
  repeat' (first | exact rfl | exact Nat.le_of_ble_eq_true rfl | refine And.intro ?_ ?_ | intro _ | refine bsplit_mk (fun _ => ?_) (fun _ => ?_))
  all_goals first
    | exact hw
    | exact hf
    | exact hQ
    | exact Int.natCast_nonneg _
    | (exfalso; simp only [decide_eq_true_eq, decide_eq_false_iff_not] at *; omega)
    | (simp only [decide_eq_true_eq, decide_eq_false_iff_not] at *; omega)
    | trace_state
theorem of_no (k : Nat) (hk : k < 256) (h : ¬ (1 ≤ k ∧ k < 17)) : TCalls Tryd.prog 27 [u8 k] obsF none_ (callPost (told (.tup [str [], bool false]) [0] obsF)) := by
  have hQ : callPost (told (.tup [str [], bool false]) [0] obsF) (.tup [str [], bool false]) obsF none_ := told_post rfl
  generalize callPost (told (.tup [str [], bool false]) [0] obsF) = Q at *
  have hw : T.v (.int .i64 (IntKind.wrap .i64 (k : Int))) = int k := congrArg int (wrap_i64 (by omega) (by omega))
  unfold obsF at *
  generalize fixF = F at *
  refine TCalls.of Tryd.func27 rfl (CanCall.of Tryd.func27 rfl (by decide)) [0] fun Γ => ?_
  refine run_sound (⟨fun | 1, 4 => .res (int k) | 3, 2 => .res (str []) | _, _ => .no, [((0, 3), ([0], 1))], fun  | _ => none⟩) 400 (B := bsplit (decide ((↑k : Int) < (1 : Int))) (Q (T.tup [T.v (Value.string (ByteArray.mk (#[]))), T.v (Value.bool false)]) [((0 : Nat), Ob.fix F)] fun x => none) (T.v (Value.int IntKind.i64 (IntKind.wrap IntKind.i64 (↑k : Int))) = T.v (Value.int IntKind.i64 (↑k : Int)) ∧ bsplit (decide ((↑k : Int) ≥ (17 : Int))) (Q (T.tup [T.v (Value.string (ByteArray.mk (#[]))), T.v (Value.bool false)]) [((0 : Nat), Ob.fix F)] fun x => none) (TWk Tryd.prog Γ (fin Tryd.prog Tryd.f27 [(0 : Nat)] Q) [It.code (sub (bd Tryd.f27) [(1 : Nat), (1 : Nat)])] { fr := [T.v (Value.int IntKind.u8 (↑k : Int)), T.und, T.und, T.und, T.und, T.und, T.und, T.und, T.und, T.und, T.und, T.und, T.und, T.und], ob := [((0 : Nat), Ob.fix F)], gl := fun x => none }))) (by kernel_rfl) ?_
  repeat' (first | exact rfl | exact Nat.le_of_ble_eq_true rfl | refine And.intro ?_ ?_ | intro _ | refine bsplit_mk (fun _ => ?_) (fun _ => ?_))
  all_goals first
    | exact hw
    | exact hQ
    | (exfalso; simp only [decide_eq_true_eq, decide_eq_false_iff_not] at *; omega)
    | trace_state
theorem value_post (h : Bool) (x : List UInt8) : TCalls Tryd.prog 57 [.agg [bool h, str x]] [] none_ (callPost (told (bool (Frm.valOk h x)) [] [])) := by
  have hQ : ∀ y, y = bool (Frm.valOk h x) → callPost (told (bool (Frm.valOk h x)) [] []) y [] none_ := fun y hy => told_post hy
  generalize callPost (told (bool (Frm.valOk h x)) [] []) = Q at *
  have hs : (⟨x.toArray⟩ : ByteArray).size = x.length := by show x.toArray.size = _; simp
  have he : decide ((⟨x.toArray⟩ : ByteArray) = ByteArray.mk #[]) = decide (x = []) := by
    rw [Bool.eq_iff_iff, decide_eq_true_eq, decide_eq_true_eq]
    constructor
    · intro e; injection e with e; simpa using e
    · rintro rfl; rfl
  unfold Frm.valOk at hQ
  by_cases hl : x.length ≤ 32
  · rw [decide_eq_true hl] at hQ
    cases h with
    | true =>
      have hQ := hQ _ rfl
      refine TCalls.of Tryd.func57 rfl (CanCall.of Tryd.func57 rfl (by decide)) [] fun Γ => ?_
      refine run_sound (⟨fun _ _ => .no, [], fun _ => none⟩) 400 (B := ∀ (b : Nat), b = b ∧ bsplit (decide ((↑(ByteArray.size (ByteArray.mk (List.toArray x))) : Int) ≤ (32 : Int))) (b = b ∧ Q (T.v (Value.bool true)) [] fun x => none) (Q (T.v (Value.bool false)) [] fun x => none)) (by kernel_rfl) ?_
      repeat' (first | exact rfl | exact Nat.le_of_ble_eq_true rfl | refine And.intro ?_ ?_ | intro _ | refine bsplit_mk (fun _ => ?_) (fun _ => ?_))
      all_goals first
        | exact hQ
        | (exfalso; rename_i h; rw [hs] at h; simp only [decide_eq_false_iff_not] at h; omega)
        | trace_state
    | false =>
      have hQ := hQ _ rfl
      rw [← he] at hQ
      refine TCalls.of Tryd.func57 rfl (CanCall.of Tryd.func57 rfl (by decide)) [] fun Γ => ?_
      refine run_sound (⟨fun _ _ => .no, [], fun _ => none⟩) 400 (B := ∀ (b : Nat), b = b ∧ bsplit (decide ((↑(ByteArray.size (ByteArray.mk (List.toArray x))) : Int) ≤ (32 : Int))) (b = b ∧ b = b ∧ Q (T.v (Value.bool (decide ((ByteArray.mk (List.toArray x)) = (ByteArray.mk (#[])))))) [] fun x => none) (Q (T.v (Value.bool false)) [] fun x => none)) (by kernel_rfl) ?_
      repeat' (first | exact rfl | exact Nat.le_of_ble_eq_true rfl | refine And.intro ?_ ?_ | intro _ | refine bsplit_mk (fun _ => ?_) (fun _ => ?_))
      all_goals first
        | exact hQ
        | (exfalso; rename_i h; rw [hs] at h; simp only [decide_eq_false_iff_not] at h; omega)
        | trace_state
  · rw [decide_eq_false hl] at hQ
    have hQ := hQ _ rfl
    refine TCalls.of Tryd.func57 rfl (CanCall.of Tryd.func57 rfl (by decide)) [] fun Γ => ?_
    refine run_sound (⟨fun _ _ => .no, [], fun _ => none⟩) 400 (B := ∀ (b : Nat), b = b ∧ bsplit (decide ((↑(ByteArray.size (ByteArray.mk (List.toArray x))) : Int) ≤ (32 : Int))) (b = b ∧ bsplit h (Q (T.v (Value.bool true)) [] fun x => none) (b = b ∧ Q (T.v (Value.bool (decide ((ByteArray.mk (List.toArray x)) = (ByteArray.mk (#[])))))) [] fun x => none)) (Q (T.v (Value.bool false)) [] fun x => none)) (by kernel_rfl) ?_
    repeat' (first | exact rfl | exact Nat.le_of_ble_eq_true rfl | refine And.intro ?_ ?_ | intro _ | refine bsplit_mk (fun _ => ?_) (fun _ => ?_))
    all_goals first
      | exact hQ
      | (exfalso; have g := of_decide_eq_true ‹decide ((((⟨x.toArray⟩ : ByteArray).size : Nat) : Int) ≤ 32) = true›; rw [hs] at g; omega)
      | trace_state
theorem may_k (f : Fm) : TCalls Tryd.prog 29 [.agg (frC f), .v (.int .i32 107)] [] none_ (callPost (told (bool (f.may 107)) [] [])) := by
  have hQ : ∀ y, y = bool (f.may 107) → callPost (told (bool (f.may 107)) [] []) y [] none_ := fun y hy => told_post hy
  generalize callPost (told (bool (f.may 107)) [] []) = Q at *
  refine TCalls.of Tryd.func29 rfl (CanCall.of Tryd.func29 rfl (by decide)) [] fun Γ => ?_
  refine run_sound (⟨fun _ _ => .no, [], fun _ => none⟩) 400 (B := ∀ (b : Nat), b = b ∧ Q (T.v (Value.bool (decide ((↑(Fm.key f) : Int) < (6 : Int))))) [] fun x => none) (by kernel_rfl) ?_
  repeat' (first | exact rfl | exact Nat.le_of_ble_eq_true rfl | refine And.intro ?_ ?_ | intro _ | refine bsplit_mk (fun _ => ?_) (fun _ => ?_))
  all_goals first
    | exact hQ _ (congrArg bool (by show decide ((f.key : Int) < 6) = decide (f.key < 6); rw [Bool.eq_iff_iff, decide_eq_true_eq, decide_eq_true_eq]; omega))
    | trace_state
theorem may_v (f : Fm) : TCalls Tryd.prog 29 [.agg (frC f), .v (.int .i32 118)] [] none_ (callPost (told (bool (f.may 118)) [] [])) := by
  have hQ : ∀ y, y = bool (f.may 118) → callPost (told (bool (f.may 118)) [] []) y [] none_ := fun y hy => told_post hy
  generalize callPost (told (bool (f.may 118)) [] []) = Q at *
  have hv := value_post f.has f.x
  refine TCalls.of Tryd.func29 rfl (CanCall.of Tryd.func29 rfl (by decide)) [] fun Γ => ?_
  refine run_sound (⟨fun | 5, 2 => told (bool (Frm.valOk f.has f.x)) [] [] | _, _ => .no, [], fun  | _ => none⟩) 400 (B := ∀ (b : Nat), b = b ∧ TCalls Tryd.prog (57 : Nat) [T.agg [T.v (Value.bool (Fm.has f)), T.v (Value.string (ByteArray.mk (List.toArray (Fm.x f))))]] [] (fun x => none) (callPost (Hint.call false Unit (fun x => True) [] false (fun x => bool (Frm.valOk (Fm.has f) (Fm.x f))) (fun x => []) fun x => none_)) ∧ ∀ (a : Unit), True → Q (T.v (Value.bool (Frm.valOk (Fm.has f) (Fm.x f)))) [] fun x => none) (by kernel_rfl) ?_
  repeat' (first | exact rfl | exact Nat.le_of_ble_eq_true rfl | refine And.intro ?_ ?_ | intro _ | refine bsplit_mk (fun _ => ?_) (fun _ => ?_))
  all_goals first
    | exact hv
    | exact hQ _ rfl
    | trace_state
theorem may_w (f : Fm) : TCalls Tryd.prog 29 [.agg (frC f), .v (.int .i32 119)] [] none_ (callPost (told (bool (f.may 119)) [] [])) := by
  have hQ : ∀ y, y = bool (f.may 119) → callPost (told (bool (f.may 119)) [] []) y [] none_ := fun y hy => told_post hy
  generalize callPost (told (bool (f.may 119)) [] []) = Q at *
  have hal : (Row.aggs memC f.ms).length = f.ms.length := Row.aggs_len f.ms
  refine TCalls.of Tryd.func29 rfl (CanCall.of Tryd.func29 rfl (by decide)) [] fun Γ => ?_
  refine run_sound (⟨fun _ _ => .no, [], fun _ => none⟩) 400 (B := ∀ (b : Nat), b = b ∧ Q (T.v (Value.bool (decide ((↑(List.length (List.map (fun x => T.agg (memC x)) (Fm.ms f))) : Int) ≤ (8 : Int))))) [] fun x => none) (by kernel_rfl) ?_
  repeat' (first | exact rfl | exact Nat.le_of_ble_eq_true rfl | refine And.intro ?_ ?_ | intro _ | refine bsplit_mk (fun _ => ?_) (fun _ => ?_))
  all_goals first
    | exact hQ _ (congrArg bool (by show decide (((Row.aggs memC f.ms).length : Int) ≤ 8) = decide (f.ms.length ≤ 8); rw [hal, Bool.eq_iff_iff, decide_eq_true_eq, decide_eq_true_eq]; omega))
    | trace_state
theorem may_t (f : Fm) : TCalls Tryd.prog 29 [.agg (frC f), .v (.int .i32 116)] [] none_ (callPost (told (bool (f.may 116)) [] [])) := by
  have hQ : ∀ y, y = bool (f.may 116) → callPost (told (bool (f.may 116)) [] []) y [] none_ := fun y hy => told_post hy
  generalize callPost (told (bool (f.may 116)) [] []) = Q at *
  have hal : (Row.aggs entC f.es).length = f.es.length := Row.aggs_len f.es
  refine TCalls.of Tryd.func29 rfl (CanCall.of Tryd.func29 rfl (by decide)) [] fun Γ => ?_
  refine run_sound (⟨fun _ _ => .no, [], fun _ => none⟩) 400 (B := ∀ (b : Nat), b = b ∧ Q (T.v (Value.bool (decide ((↑(List.length (List.map (fun x => T.agg (entC x)) (Fm.es f))) : Int) ≤ (16 : Int))))) [] fun x => none) (by kernel_rfl) ?_
  repeat' (first | exact rfl | exact Nat.le_of_ble_eq_true rfl | refine And.intro ?_ ?_ | intro _ | refine bsplit_mk (fun _ => ?_) (fun _ => ?_))
  all_goals first
    | exact hQ _ (congrArg bool (by show decide (((Row.aggs entC f.es).length : Int) ≤ 16) = decide (f.es.length ≤ 16); rw [hal, Bool.eq_iff_iff, decide_eq_true_eq, decide_eq_true_eq]; omega))
    | trace_state
theorem nT {a b : Nat} (h : ((a : Int) == (b : Int)) = true) : a = b := by have := beq_iff_eq.1 h; omega
theorem nF {a b : Nat} (h : ((a : Int) == (b : Int)) = false) : ¬ a = b := by have := beq_eq_false_iff_ne.1 h; omega
theorem may_o (f : Fm) (c : Nat) (h1 : ¬ c = 107) (h2 : ¬ c = 118) (h3 : ¬ c = 119) (h4 : ¬ c = 116) : TCalls Tryd.prog 29 [.agg (frC f), .v (.int .i32 c)] [] none_ (callPost (told (bool (f.may c)) [] [])) := by
  have hQ : callPost (told (bool (f.may c)) [] []) (bool true) [] none_ := told_post (by unfold Frm.Fm.may; rw [if_neg h1, if_neg h2, if_neg h3, if_neg h4])
  generalize callPost (told (bool (f.may c)) [] []) = Q at *
  generalize frC f = F at *
  refine TCalls.of Tryd.func29 rfl (CanCall.of Tryd.func29 rfl (by decide)) [] fun Γ => ?_
  refine run_sound (⟨fun _ _ => .no, [((0, 3), ([2], 1)), ((0, 5), ([2], 1)), ((0, 7), ([2], 1)), ((0, 9), ([2], 1))], fun _ => none⟩) 400 (B := ∀ (b : Nat), bsplit ((↑c : Int) == (107 : Int)) (TWk Tryd.prog Γ (fin Tryd.prog Tryd.f29 [] Q) [It.code (sub (bd Tryd.f29) [(1 : Nat), (0 : Nat), (1 : Nat), (0 : Nat), (1 : Nat), (0 : Nat)]), It.blk (0 : Nat), It.code (sub (bd Tryd.f29) [(1 : Nat), (1 : Nat)])] { fr := [T.und, T.und, T.ptr (0 : Nat) b (0 : Nat), T.und, T.und, T.und, T.und, T.und, T.und, T.und, T.und, T.und, T.und, T.und, T.und, T.und, T.und, T.und, T.und, T.und, T.und, T.und, T.und, T.und, T.und, T.und, T.und, T.und, T.und], ob := [(b, Ob.cells F)], gl := fun x => none }) (bsplit ((↑c : Int) == (118 : Int)) (TWk Tryd.prog Γ (fin Tryd.prog Tryd.f29 [] Q) [It.code (sub (bd Tryd.f29) [(1 : Nat), (0 : Nat), (1 : Nat), (0 : Nat), (1 : Nat), (1 : Nat), (1 : Nat), (0 : Nat)]), It.blk (0 : Nat), It.code (sub (bd Tryd.f29) [(1 : Nat), (1 : Nat)])] { fr := [T.und, T.und, T.ptr (0 : Nat) b (0 : Nat), T.und, T.und, T.und, T.und, T.und, T.und, T.und, T.und, T.und, T.und, T.und, T.und, T.und, T.und, T.und, T.und, T.und, T.und, T.und, T.und, T.und, T.und, T.und, T.und, T.und, T.und], ob := [(b, Ob.cells F)], gl := fun x => none }) (bsplit ((↑c : Int) == (119 : Int)) (TWk Tryd.prog Γ (fin Tryd.prog Tryd.f29 [] Q) [It.code (sub (bd Tryd.f29) [(1 : Nat), (0 : Nat), (1 : Nat), (0 : Nat), (1 : Nat), (1 : Nat), (1 : Nat), (1 : Nat), (1 : Nat), (0 : Nat)]), It.blk (0 : Nat), It.code (sub (bd Tryd.f29) [(1 : Nat), (1 : Nat)])] { fr := [T.und, T.und, T.ptr (0 : Nat) b (0 : Nat), T.und, T.und, T.und, T.und, T.und, T.und, T.und, T.und, T.und, T.und, T.und, T.und, T.und, T.und, T.und, T.und, T.und, T.und, T.und, T.und, T.und, T.und, T.und, T.und, T.und, T.und], ob := [(b, Ob.cells F)], gl := fun x => none }) (bsplit ((↑c : Int) == (116 : Int)) (TWk Tryd.prog Γ (fin Tryd.prog Tryd.f29 [] Q) [It.code (sub (bd Tryd.f29) [(1 : Nat), (0 : Nat), (1 : Nat), (0 : Nat), (1 : Nat), (1 : Nat), (1 : Nat), (1 : Nat), (1 : Nat), (1 : Nat), (1 : Nat), (0 : Nat)]), It.blk (0 : Nat), It.code (sub (bd Tryd.f29) [(1 : Nat), (1 : Nat)])] { fr := [T.und, T.und, T.ptr (0 : Nat) b (0 : Nat), T.und, T.und, T.und, T.und, T.und, T.und, T.und, T.und, T.und, T.und, T.und, T.und, T.und, T.und, T.und, T.und, T.und, T.und, T.und, T.und, T.und, T.und, T.und, T.und, T.und, T.und], ob := [(b, Ob.cells F)], gl := fun x => none }) (Q (T.v (Value.bool true)) [] fun x => none))))) (by kernel_rfl) ?_
  repeat' (first | exact rfl | exact Nat.le_of_ble_eq_true rfl | refine And.intro ?_ ?_ | intro _ | refine bsplit_mk (fun _ => ?_) (fun _ => ?_))
  all_goals first
    | exact hQ
    | (exfalso; exact h1 (nT (b := 107) ‹_›))
    | (exfalso; exact h2 (nT (b := 118) ‹_›))
    | (exfalso; exact h3 (nT (b := 119) ‹_›))
    | (exfalso; exact h4 (nT (b := 116) ‹_›))
    | trace_state
theorem may_post (f : Fm) (c : Nat) : TCalls Tryd.prog 29 [.agg (frC f), .v (.int .i32 c)] [] none_ (callPost (told (bool (f.may c)) [] [])) := by
  by_cases h1 : c = 107
  · subst h1; exact may_k f
  by_cases h2 : c = 118
  · subst h2; exact may_v f
  by_cases h3 : c = 119
  · subst h3; exact may_w f
  by_cases h4 : c = 116
  · subst h4; exact may_t f
  exact may_o f c h1 h2 h3 h4
/-! Encode -/
theorem letS_len (l : List Nat) : (letS l).length = l.length := by simp [letS]
theorem let_lt {c : Nat} (h : Frm.isLet c = true) : c < 128 := by
  unfold Frm.isLet at h
  simp at h
  omega
theorem ascii_at (l d r : List Nat) (c : Nat) (hl : l = d ++ c :: r) (hc : c < 128) (x : Nat) : AsciiAt (⟨(letS l).toArray⟩ : ByteArray) d.length x ↔ x = c := by
  have hsz : (⟨(letS l).toArray⟩ : ByteArray).size = l.length := by show (letS l).toArray.size = _; simp [letS]
  have hlt : d.length < l.length := by rw [hl]; simp
  have hg : ((⟨(letS l).toArray⟩ : ByteArray).get! d.length).toNat = c := by
    show ((letS l).toArray[d.length]!).toNat = c
    have : (letS l).toArray[d.length]! = UInt8.ofNat c := by
      rw [getElem!_def]
      have : (letS l).toArray[d.length]? = some (UInt8.ofNat c) := by
        rw [List.getElem?_toArray, letS, List.getElem?_map, hl]; simp
      rw [this]
    rw [this, UInt8.toNat_ofNat']; omega
  unfold AsciiAt
  rw [hsz, hg]
  exact ⟨fun h => h.2.1.symm, fun h => ⟨hlt, h.symm, by omega⟩⟩
def encT (f : Fm) : T := .tup [str f.enc.1, int f.enc.2]
theorem enc_end (Γ : Ctx) (b0 c : Nat) (f : Fm) (hf : f.Ok) (hg : f.good = true) (hd : Value) (z : ByteArray) (pos : Nat) (Q : T → Obs → Glb → Prop) (hQ : ∀ x, x = encT f → Q x obsF none_) :
    TWk Tryd.prog Γ (fin Tryd.prog Tryd.f11 [0] Q) [.code (sub (bd Tryd.f11) [1, 1, 1, 1, 1])] ⟨frame 57 [(6, .slx 4 2 (parts (f.hps ++ (lets f.kind).flatMap f.ps)) hd)], [(0, .fix fixF), (b0, .cells (frC f)), (0, .room 4 109 (parts (f.hps ++ (lets f.kind).flatMap f.ps)).length hd), (c, .siter z pos)], none_⟩ := by
  have hall : ∀ c ∈ lets f.kind, f.may c = true := by
    unfold Frm.Fm.good at hg
    simp only [Bool.and_eq_true, List.all_eq_true] at hg
    exact hg.2
  have pb := hf.all_pb _ hall
  have hl6 := Frm.lets_len f.kind
  have hfl := Frm.flat_le (f := f.ps) (lets f.kind) (fun c _ => hf.ps_le c)
  have hle : (f.hps ++ (lets f.kind).flatMap f.ps).length ≤ 1000 := by
    rw [List.length_append]
    show 3 + _ ≤ _
    omega
  have hroom := Frm.room_le _ pb.s
  have hj := X1.join_any (f.hps ++ (lets f.kind).flatMap f.ps) (by omega) (fun p hp => by have := pb.n p hp; omega) (by omega) _ (fun x h => told_post (sel := []) (ob := []) (h.trans (by rw [pb.j [], List.nil_append])))
  have hbl : f.bytes.length ≤ 1000000000 := by
    have := Frm.bytes_len pb
    show (f.hb ++ (lets f.kind).flatMap f.fb).length ≤ _
    omega
  have hs := X2.seal_any f.bytes hbl _ (fun x h => told_post (sel := []) (ob := []) h)
  have he : encT f = .tup [str (Crc.sealL f.bytes), int 0] := by unfold encT Frm.Fm.enc; rw [if_pos hg]
  rw [he] at hQ
  have hj : TCalls Tryd.prog 31 [.sl 4 (parts (f.hps ++ (lets f.kind).flatMap f.ps))] [] none_ (callPost (told (.tup [str f.bytes, int 0]) [] [])) := hj
  unfold obsF at *
  generalize parts (f.hps ++ (lets f.kind).flatMap f.ps) = P at *
  generalize f.bytes = B at *
  generalize Crc.sealL B = SB at *
  generalize fixF = F at *
  generalize frC f = C at *
  refine run_sound (⟨fun | 11, 1 => .call true Unit (fun _ => True) [] false (fun _ => .tup [str B, int 0]) (fun _ => []) (fun _ => none_) | 14, 1 => told (str SB) [] [] | _, _ => .no, [], fun | 4 => some ⟨[], [11, 12], .take true [0,1,2,4,5,6,8,9,10] (.one 3 (.one 7 (.one 11 (.one 12 (.take false [13] .done)))))⟩ | _ => none⟩) 400 (B := TCalls Tryd.prog (31 : Nat) [T.sl (4 : Nat) P] [] (fun x => none) (callPost (Hint.call true Unit (fun x => True) [] false (fun x => T.tup [str B, int (0 : Int)]) (fun x => []) fun x => none_)) ∧ ∀ (a : Unit), True → TCalls Tryd.prog (17 : Nat) [T.v (Value.string (ByteArray.mk (List.toArray B)))] [] (fun x => none) (callPost (Hint.call false Unit (fun x => True) [] false (fun x => str SB) (fun x => []) fun x => none_)) ∧ ∀ (a : Unit), True → Q (T.tup [T.v (Value.string (ByteArray.mk (List.toArray SB))), T.v (Value.int IntKind.i64 (0 : Int))]) [((0 : Nat), Ob.fix F)] fun x => none) (by kernel_rfl) ?_
  repeat' (first | exact rfl | exact Nat.le_of_ble_eq_true rfl | refine And.intro ?_ ?_ | intro _ | refine bsplit_mk (fun _ => ?_) (fun _ => ?_))
  all_goals first
    | exact hj
    | exact hs
    | exact hQ _ rfl
    | trace_state
theorem bnF {b : Bool} (h : (!b) = false) : b = true := by cases b <;> simp_all
theorem bnT {b : Bool} (h : (!b) = true) : b = false := by cases b <;> simp_all
theorem flat_snoc (f : Fm) (d : List Nat) (c : Nat) : parts (f.hps ++ (d ++ [c]).flatMap f.ps) = parts (f.hps ++ d.flatMap f.ps) ++ parts (f.ps c) := by
  rw [List.flatMap_append, ← List.append_assoc, parts_app, List.flatMap_cons, List.flatMap_nil, List.append_nil]
theorem enc_bad {f : Fm} {c : Nat} (hc : c ∈ lets f.kind) (hm : f.may c = false) : f.enc = ([], 4) := by
  unfold Frm.Fm.enc Frm.Fm.good
  rw [if_neg]
  intro h
  simp only [Bool.and_eq_true, List.all_eq_true] at h
  rw [h.2 c hc] at hm
  cases hm
theorem enc_loop (Γ : Ctx) (b0 c : Nat) (f : Fm) (hf : f.Ok) (hk : 1 ≤ f.kind ∧ f.kind < 17) (Q : T → Obs → Glb → Prop) (hQ : ∀ x, x = encT f → Q x obsF none_) : ∀ (r d : List Nat) (hd : Value), lets f.kind = d ++ r → (∀ x ∈ d, f.may x = true) →
    TWk Tryd.prog Γ (fin Tryd.prog Tryd.f11 [0] Q) [.code (sub (bd Tryd.f11) [1, 1, 1, 1, 0, 1, 0]), .blk 0, .code (sub (bd Tryd.f11) [1, 1, 1, 1, 1])] ⟨frame 57 [(1, .ptr 1 b0 0), (6, .slx 4 2 (parts (f.hps ++ d.flatMap f.ps)) hd), (34, .ptr 3 c 0)], [(0, .fix fixF), (b0, .cells (frC f)), (0, .room 4 109 (parts (f.hps ++ d.flatMap f.ps)).length hd), (c, .siter ⟨(letS (lets f.kind)).toArray⟩ d.length)], none_⟩ := by
  intro r
  induction r with
  | nil =>
    intro d hd h1 h2
    have e : d = lets f.kind := by rw [h1]; simp
    subst e
    have hg : f.good = true := by
      unfold Frm.Fm.good Frm.hasKind
      rw [decide_eq_true hk, Bool.true_and, List.all_eq_true]
      exact h2
    have en := enc_end Γ b0 c f hf hg hd ⟨(letS (lets f.kind)).toArray⟩ (lets f.kind).length Q hQ
    have hsz : (⟨(letS (lets f.kind)).toArray⟩ : ByteArray).size = (lets f.kind).length := by show (letS (lets f.kind)).toArray.size = _; simp [letS]
    have hno : ¬ (lets f.kind).length < (⟨(letS (lets f.kind)).toArray⟩ : ByteArray).size := by omega
    clear hQ
    generalize (⟨(letS (lets f.kind)).toArray⟩ : ByteArray) = z at *
    generalize parts (f.hps ++ (lets f.kind).flatMap f.ps) = P at *
    generalize (lets f.kind).length = n at *
    generalize fixF = F at *
    refine run_sound (⟨fun | 8, 2 => told (bool true) [] [] | 10, 3 => told (.sl 4 []) [] [] | _, _ => .no, [((2, 6), ([1, 6, 34], 4)), ((0, 11), ([6], 4)), ((0, 7), ([1, 6, 34, 35], 4))], fun | 4 => some ⟨[], [11, 12], .take true [0,1,2,4,5,6,8,9,10] (.one 3 (.one 7 (.one 11 (.one 12 (.take false [13] .done)))))⟩ | _ => none⟩) 400 (B := c = c ∧ (n < ByteArray.size z → (∃ r, AsciiAt z n r) ∧ ∀ (r : Nat), AsciiAt z n r → TWk Tryd.prog Γ (fin Tryd.prog Tryd.f11 [(0 : Nat)] Q) [It.code (sub (bd Tryd.f11) [(1 : Nat), (1 : Nat), (1 : Nat), (1 : Nat), (0 : Nat), (1 : Nat), (0 : Nat), (0 : Nat), (1 : Nat), (1 : Nat), (0 : Nat)]), It.blk (1 : Nat), It.code (sub (bd Tryd.f11) [(1 : Nat), (1 : Nat), (1 : Nat), (1 : Nat), (0 : Nat), (1 : Nat), (0 : Nat)]), It.blk (0 : Nat), It.code (sub (bd Tryd.f11) [(1 : Nat), (1 : Nat), (1 : Nat), (1 : Nat), (1 : Nat)])] { fr := [T.und, T.ptr (1 : Nat) b0 (0 : Nat), T.und, T.und, T.und, T.und, T.slx (4 : Nat) (2 : Nat) P hd, T.und, T.und, T.und, T.und, T.und, T.und, T.und, T.und, T.und, T.und, T.und, T.und, T.und, T.und, T.und, T.und, T.und, T.und, T.und, T.und, T.und, T.und, T.und, T.und, T.und, T.und, T.und, T.ptr (3 : Nat) c (0 : Nat), T.tup [T.v (Value.bool true), T.v (Value.int IntKind.i64 (↑n : Int)), T.v (Value.int IntKind.i32 (↑r : Int))], T.und, T.und, T.und, T.und, T.und, T.und, T.und, T.und, T.und, T.und, T.und, T.und, T.und, T.und, T.und, T.und, T.und, T.und, T.und, T.und, T.und], ob := [((0 : Nat), Ob.fix F), (b0, Ob.cells [T.v (Value.int IntKind.u8 (↑(Fm.kind f) : Int)), T.v (Value.int IntKind.u8 (↑(Fm.frm f) : Int)), T.v (Value.int IntKind.u8 (↑(Fm.to f) : Int)), T.v (Value.int IntKind.u32 (↑(Fm.ep f) : Int)), T.v (Value.int IntKind.u8 (↑(Fm.key f) : Int)), T.v (Value.int IntKind.u32 (↑(Fm.sn f) : Int)), T.v (Value.int IntKind.u8 (↑(Fm.sb f) : Int)), T.v (Value.int IntKind.u8 (↑(Fm.sl f) : Int)), T.v (Value.bool (Fm.has f)), T.v (Value.string (ByteArray.mk (List.toArray (Fm.x f)))), T.v (Value.bool (Fm.rmw f)), T.v (Value.bool (Fm.flag f)), T.v (Value.int IntKind.u8 (↑(Fm.dir f) : Int)), T.v (Value.int IntKind.u8 (↑(Fm.life f) : Int)), T.v (Value.int IntKind.u32 (↑(Fm.req f) : Int)), T.v (Value.int IntKind.u32 (↑(Fm.bn f) : Int)), T.v (Value.int IntKind.u8 (↑(Fm.bb f) : Int)), T.v (Value.int IntKind.u32 (↑(Fm.slot f) : Int)), T.v (Value.int IntKind.u8 (↑(Cmd.k (Fm.c f)) : Int)), T.v (Value.int IntKind.u8 (↑(Cmd.n (Fm.c f)) : Int)), T.v (Value.int IntKind.u8 (↑(Cmd.l (Fm.c f)) : Int)), T.v (Value.int IntKind.u32 (↑(Cmd.e (Fm.c f)) : Int)), T.v (Value.int IntKind.u32 (↑(Cmd.q (Fm.c f)) : Int)), T.v (Value.int IntKind.u32 (↑(Fm.ve f) : Int)), T.sl (3 : Nat) (List.map (fun x => T.agg (memC x)) (Fm.ms f)), T.v (Value.int IntKind.u8 (↑(Lvs.l0 (Fm.lv f)) : Int)), T.v (Value.int IntKind.u8 (↑(Lvs.l1 (Fm.lv f)) : Int)), T.v (Value.int IntKind.u8 (↑(Lvs.l2 (Fm.lv f)) : Int)), T.v (Value.int IntKind.u8 (↑(Lvs.l3 (Fm.lv f)) : Int)), T.v (Value.int IntKind.u8 (↑(Lvs.l4 (Fm.lv f)) : Int)), T.v (Value.int IntKind.u8 (↑(Lvs.l5 (Fm.lv f)) : Int)), T.v (Value.int IntKind.u8 (↑(Lvs.l6 (Fm.lv f)) : Int)), T.v (Value.int IntKind.u8 (↑(Lvs.l7 (Fm.lv f)) : Int)), T.sl (8 : Nat) (List.map (fun x => T.agg (entC x)) (Fm.es f))]), ((0 : Nat), Ob.room (4 : Nat) (109 : Nat) (List.length P) hd), (c, Ob.siter z (n + (1 : Nat)))], gl := fun x => none }) ∧ (ByteArray.size z ≤ n → TWk Tryd.prog Γ (fin Tryd.prog Tryd.f11 [(0 : Nat)] Q) [It.code (sub (bd Tryd.f11) [(1 : Nat), (1 : Nat), (1 : Nat), (1 : Nat), (1 : Nat)])] { fr := [T.und, T.und, T.und, T.und, T.und, T.und, T.slx (4 : Nat) (2 : Nat) P hd, T.und, T.und, T.und, T.und, T.und, T.und, T.und, T.und, T.und, T.und, T.und, T.und, T.und, T.und, T.und, T.und, T.und, T.und, T.und, T.und, T.und, T.und, T.und, T.und, T.und, T.und, T.und, T.und, T.und, T.und, T.und, T.und, T.und, T.und, T.und, T.und, T.und, T.und, T.und, T.und, T.und, T.und, T.und, T.und, T.und, T.und, T.und, T.und, T.und, T.und], ob := [((0 : Nat), Ob.fix F), (b0, Ob.cells [T.v (Value.int IntKind.u8 (↑(Fm.kind f) : Int)), T.v (Value.int IntKind.u8 (↑(Fm.frm f) : Int)), T.v (Value.int IntKind.u8 (↑(Fm.to f) : Int)), T.v (Value.int IntKind.u32 (↑(Fm.ep f) : Int)), T.v (Value.int IntKind.u8 (↑(Fm.key f) : Int)), T.v (Value.int IntKind.u32 (↑(Fm.sn f) : Int)), T.v (Value.int IntKind.u8 (↑(Fm.sb f) : Int)), T.v (Value.int IntKind.u8 (↑(Fm.sl f) : Int)), T.v (Value.bool (Fm.has f)), T.v (Value.string (ByteArray.mk (List.toArray (Fm.x f)))), T.v (Value.bool (Fm.rmw f)), T.v (Value.bool (Fm.flag f)), T.v (Value.int IntKind.u8 (↑(Fm.dir f) : Int)), T.v (Value.int IntKind.u8 (↑(Fm.life f) : Int)), T.v (Value.int IntKind.u32 (↑(Fm.req f) : Int)), T.v (Value.int IntKind.u32 (↑(Fm.bn f) : Int)), T.v (Value.int IntKind.u8 (↑(Fm.bb f) : Int)), T.v (Value.int IntKind.u32 (↑(Fm.slot f) : Int)), T.v (Value.int IntKind.u8 (↑(Cmd.k (Fm.c f)) : Int)), T.v (Value.int IntKind.u8 (↑(Cmd.n (Fm.c f)) : Int)), T.v (Value.int IntKind.u8 (↑(Cmd.l (Fm.c f)) : Int)), T.v (Value.int IntKind.u32 (↑(Cmd.e (Fm.c f)) : Int)), T.v (Value.int IntKind.u32 (↑(Cmd.q (Fm.c f)) : Int)), T.v (Value.int IntKind.u32 (↑(Fm.ve f) : Int)), T.sl (3 : Nat) (List.map (fun x => T.agg (memC x)) (Fm.ms f)), T.v (Value.int IntKind.u8 (↑(Lvs.l0 (Fm.lv f)) : Int)), T.v (Value.int IntKind.u8 (↑(Lvs.l1 (Fm.lv f)) : Int)), T.v (Value.int IntKind.u8 (↑(Lvs.l2 (Fm.lv f)) : Int)), T.v (Value.int IntKind.u8 (↑(Lvs.l3 (Fm.lv f)) : Int)), T.v (Value.int IntKind.u8 (↑(Lvs.l4 (Fm.lv f)) : Int)), T.v (Value.int IntKind.u8 (↑(Lvs.l5 (Fm.lv f)) : Int)), T.v (Value.int IntKind.u8 (↑(Lvs.l6 (Fm.lv f)) : Int)), T.v (Value.int IntKind.u8 (↑(Lvs.l7 (Fm.lv f)) : Int)), T.sl (8 : Nat) (List.map (fun x => T.agg (entC x)) (Fm.es f))]), ((0 : Nat), Ob.room (4 : Nat) (109 : Nat) (List.length P) hd), (c, Ob.siter z n)], gl := fun x => none })) (by kernel_rfl) ?_
    repeat' (first | exact rfl | exact Nat.le_of_ble_eq_true rfl | refine And.intro ?_ ?_ | intro _ | refine bsplit_mk (fun _ => ?_) (fun _ => ?_))
    all_goals first
      | exact en
      | exact absurd ‹_› hno
      | trace_state
  | cons x r ih =>
    intro d hd h1 h2
    have hmem : x ∈ lets f.kind := by rw [h1]; simp
    have hil := Frm.lets_ok f.kind x hmem
    have hx := ascii_at (lets f.kind) d r x h1 (let_lt hil)
    have hsz : (⟨(letS (lets f.kind)).toArray⟩ : ByteArray).size = (lets f.kind).length := by show (letS (lets f.kind)).toArray.size = _; simp [letS]
    have hlt : d.length < (⟨(letS (lets f.kind)).toArray⟩ : ByteArray).size := by rw [hsz, h1]; simp
    have hmy := may_post f x
    have hpt := parts_post f hf x hil
    have hbad := fun h : f.may x = false => hQ (.tup [str [], int 4]) (by unfold encT; rw [enc_bad hmem h])
    have nx := fun (h : f.may x = true) hd => ih (d ++ [x]) hd (by rw [h1]; simp) (fun y hy => (List.mem_append.1 hy).elim (h2 y) (fun hy => by rw [List.mem_singleton.1 hy]; exact h))
    rw [flat_snoc, show (d ++ [x]).length = d.length + 1 from by simp] at nx
    have hl6 := Frm.lets_len f.kind
    have hdl : d.length ≤ 6 := by rw [h1] at hl6; simp at hl6; omega
    have hfl := Frm.flat_le (f := f.ps) d (fun c _ => hf.ps_le c)
    have hle : (parts (f.hps ++ d.flatMap f.ps)).length ≤ 1000 := by
      rw [parts_len, List.length_append]
      show 3 + _ ≤ _
      omega
    have hl2 : (parts (f.ps x)).length ≤ 145 := by rw [parts_len]; exact hf.ps_le x
    clear ih hQ
    generalize (⟨(letS (lets f.kind)).toArray⟩ : ByteArray) = z at *
    generalize parts (f.hps ++ d.flatMap f.ps) = P at *
    generalize parts (f.ps x) = PX at *
    generalize f.may x = m at *
    generalize d.length = n at *
    unfold obsF at *
    generalize fixF = F at *
    refine run_sound (⟨fun | 8, 2 => told (bool m) [] [] | 10, 3 => told (.sl 4 PX) [] [] | _, _ => .no, [((2, 6), ([1, 6, 34], 4)), ((0, 11), ([6], 4))], fun | 4 => some ⟨[], [11, 12], .take true [0,1,2,4,5,6,8,9,10] (.one 3 (.one 7 (.one 11 (.one 12 (.take false [13] .done)))))⟩ | _ => none⟩) 400 (B := c = c ∧ (n < ByteArray.size z → (∃ r, AsciiAt z n r) ∧ ∀ (r : Nat), AsciiAt z n r → b0 = b0 ∧ TCalls Tryd.prog (29 : Nat) [T.agg [T.v (Value.int IntKind.u8 (↑(Fm.kind f) : Int)), T.v (Value.int IntKind.u8 (↑(Fm.frm f) : Int)), T.v (Value.int IntKind.u8 (↑(Fm.to f) : Int)), T.v (Value.int IntKind.u32 (↑(Fm.ep f) : Int)), T.v (Value.int IntKind.u8 (↑(Fm.key f) : Int)), T.v (Value.int IntKind.u32 (↑(Fm.sn f) : Int)), T.v (Value.int IntKind.u8 (↑(Fm.sb f) : Int)), T.v (Value.int IntKind.u8 (↑(Fm.sl f) : Int)), T.v (Value.bool (Fm.has f)), T.v (Value.string (ByteArray.mk (List.toArray (Fm.x f)))), T.v (Value.bool (Fm.rmw f)), T.v (Value.bool (Fm.flag f)), T.v (Value.int IntKind.u8 (↑(Fm.dir f) : Int)), T.v (Value.int IntKind.u8 (↑(Fm.life f) : Int)), T.v (Value.int IntKind.u32 (↑(Fm.req f) : Int)), T.v (Value.int IntKind.u32 (↑(Fm.bn f) : Int)), T.v (Value.int IntKind.u8 (↑(Fm.bb f) : Int)), T.v (Value.int IntKind.u32 (↑(Fm.slot f) : Int)), T.v (Value.int IntKind.u8 (↑(Cmd.k (Fm.c f)) : Int)), T.v (Value.int IntKind.u8 (↑(Cmd.n (Fm.c f)) : Int)), T.v (Value.int IntKind.u8 (↑(Cmd.l (Fm.c f)) : Int)), T.v (Value.int IntKind.u32 (↑(Cmd.e (Fm.c f)) : Int)), T.v (Value.int IntKind.u32 (↑(Cmd.q (Fm.c f)) : Int)), T.v (Value.int IntKind.u32 (↑(Fm.ve f) : Int)), T.sl (3 : Nat) (List.map (fun x => T.agg (memC x)) (Fm.ms f)), T.v (Value.int IntKind.u8 (↑(Lvs.l0 (Fm.lv f)) : Int)), T.v (Value.int IntKind.u8 (↑(Lvs.l1 (Fm.lv f)) : Int)), T.v (Value.int IntKind.u8 (↑(Lvs.l2 (Fm.lv f)) : Int)), T.v (Value.int IntKind.u8 (↑(Lvs.l3 (Fm.lv f)) : Int)), T.v (Value.int IntKind.u8 (↑(Lvs.l4 (Fm.lv f)) : Int)), T.v (Value.int IntKind.u8 (↑(Lvs.l5 (Fm.lv f)) : Int)), T.v (Value.int IntKind.u8 (↑(Lvs.l6 (Fm.lv f)) : Int)), T.v (Value.int IntKind.u8 (↑(Lvs.l7 (Fm.lv f)) : Int)), T.sl (8 : Nat) (List.map (fun x => T.agg (entC x)) (Fm.es f))], T.v (Value.int IntKind.i32 (↑r : Int))] [] (fun x => none) (callPost (Hint.call false Unit (fun x => True) [] false (fun x => bool m) (fun x => []) fun x => none_)) ∧ ∀ (a : Unit), True → bsplit (!m) (Q (T.tup [T.v (Value.string (ByteArray.mk (#[]))), T.v (Value.int IntKind.i64 (4 : Int))]) [((0 : Nat), Ob.fix F)] fun x => none) (b0 = b0 ∧ TCalls Tryd.prog (30 : Nat) [T.agg [T.v (Value.int IntKind.u8 (↑(Fm.kind f) : Int)), T.v (Value.int IntKind.u8 (↑(Fm.frm f) : Int)), T.v (Value.int IntKind.u8 (↑(Fm.to f) : Int)), T.v (Value.int IntKind.u32 (↑(Fm.ep f) : Int)), T.v (Value.int IntKind.u8 (↑(Fm.key f) : Int)), T.v (Value.int IntKind.u32 (↑(Fm.sn f) : Int)), T.v (Value.int IntKind.u8 (↑(Fm.sb f) : Int)), T.v (Value.int IntKind.u8 (↑(Fm.sl f) : Int)), T.v (Value.bool (Fm.has f)), T.v (Value.string (ByteArray.mk (List.toArray (Fm.x f)))), T.v (Value.bool (Fm.rmw f)), T.v (Value.bool (Fm.flag f)), T.v (Value.int IntKind.u8 (↑(Fm.dir f) : Int)), T.v (Value.int IntKind.u8 (↑(Fm.life f) : Int)), T.v (Value.int IntKind.u32 (↑(Fm.req f) : Int)), T.v (Value.int IntKind.u32 (↑(Fm.bn f) : Int)), T.v (Value.int IntKind.u8 (↑(Fm.bb f) : Int)), T.v (Value.int IntKind.u32 (↑(Fm.slot f) : Int)), T.v (Value.int IntKind.u8 (↑(Cmd.k (Fm.c f)) : Int)), T.v (Value.int IntKind.u8 (↑(Cmd.n (Fm.c f)) : Int)), T.v (Value.int IntKind.u8 (↑(Cmd.l (Fm.c f)) : Int)), T.v (Value.int IntKind.u32 (↑(Cmd.e (Fm.c f)) : Int)), T.v (Value.int IntKind.u32 (↑(Cmd.q (Fm.c f)) : Int)), T.v (Value.int IntKind.u32 (↑(Fm.ve f) : Int)), T.sl (3 : Nat) (List.map (fun x => T.agg (memC x)) (Fm.ms f)), T.v (Value.int IntKind.u8 (↑(Lvs.l0 (Fm.lv f)) : Int)), T.v (Value.int IntKind.u8 (↑(Lvs.l1 (Fm.lv f)) : Int)), T.v (Value.int IntKind.u8 (↑(Lvs.l2 (Fm.lv f)) : Int)), T.v (Value.int IntKind.u8 (↑(Lvs.l3 (Fm.lv f)) : Int)), T.v (Value.int IntKind.u8 (↑(Lvs.l4 (Fm.lv f)) : Int)), T.v (Value.int IntKind.u8 (↑(Lvs.l5 (Fm.lv f)) : Int)), T.v (Value.int IntKind.u8 (↑(Lvs.l6 (Fm.lv f)) : Int)), T.v (Value.int IntKind.u8 (↑(Lvs.l7 (Fm.lv f)) : Int)), T.sl (8 : Nat) (List.map (fun x => T.agg (entC x)) (Fm.es f))], T.v (Value.int IntKind.i32 (↑r : Int))] [] (fun x => none) (callPost (Hint.call false Unit (fun x => True) [] false (fun x => T.sl (4 : Nat) PX) (fun x => []) fun x => none_)) ∧ ∀ (a : Unit), True → (hd = hd ∧ List.length P = List.length P) ∧ Fits (List.length P + List.length PX) (nat_lit 40) ∧ ∀ (x : Value), TWk Tryd.prog Γ (fin Tryd.prog Tryd.f11 [(0 : Nat)] Q) [It.code (sub (bd Tryd.f11) [(1 : Nat), (1 : Nat), (1 : Nat), (1 : Nat), (0 : Nat), (1 : Nat), (0 : Nat)]), It.blk (0 : Nat), It.code (sub (bd Tryd.f11) [(1 : Nat), (1 : Nat), (1 : Nat), (1 : Nat), (1 : Nat)])] { fr := [T.und, T.ptr (1 : Nat) b0 (0 : Nat), T.und, T.und, T.und, T.und, T.slx (4 : Nat) (2 : Nat) (P ++ PX) x, T.und, T.und, T.und, T.und, T.und, T.und, T.und, T.und, T.und, T.und, T.und, T.und, T.und, T.und, T.und, T.und, T.und, T.und, T.und, T.und, T.und, T.und, T.und, T.und, T.und, T.und, T.und, T.ptr (3 : Nat) c (0 : Nat), T.und, T.und, T.und, T.und, T.und, T.und, T.und, T.und, T.und, T.und, T.und, T.und, T.und, T.und, T.und, T.und, T.und, T.und, T.und, T.und, T.und, T.und], ob := [((0 : Nat), Ob.fix F), (b0, Ob.cells [T.v (Value.int IntKind.u8 (↑(Fm.kind f) : Int)), T.v (Value.int IntKind.u8 (↑(Fm.frm f) : Int)), T.v (Value.int IntKind.u8 (↑(Fm.to f) : Int)), T.v (Value.int IntKind.u32 (↑(Fm.ep f) : Int)), T.v (Value.int IntKind.u8 (↑(Fm.key f) : Int)), T.v (Value.int IntKind.u32 (↑(Fm.sn f) : Int)), T.v (Value.int IntKind.u8 (↑(Fm.sb f) : Int)), T.v (Value.int IntKind.u8 (↑(Fm.sl f) : Int)), T.v (Value.bool (Fm.has f)), T.v (Value.string (ByteArray.mk (List.toArray (Fm.x f)))), T.v (Value.bool (Fm.rmw f)), T.v (Value.bool (Fm.flag f)), T.v (Value.int IntKind.u8 (↑(Fm.dir f) : Int)), T.v (Value.int IntKind.u8 (↑(Fm.life f) : Int)), T.v (Value.int IntKind.u32 (↑(Fm.req f) : Int)), T.v (Value.int IntKind.u32 (↑(Fm.bn f) : Int)), T.v (Value.int IntKind.u8 (↑(Fm.bb f) : Int)), T.v (Value.int IntKind.u32 (↑(Fm.slot f) : Int)), T.v (Value.int IntKind.u8 (↑(Cmd.k (Fm.c f)) : Int)), T.v (Value.int IntKind.u8 (↑(Cmd.n (Fm.c f)) : Int)), T.v (Value.int IntKind.u8 (↑(Cmd.l (Fm.c f)) : Int)), T.v (Value.int IntKind.u32 (↑(Cmd.e (Fm.c f)) : Int)), T.v (Value.int IntKind.u32 (↑(Cmd.q (Fm.c f)) : Int)), T.v (Value.int IntKind.u32 (↑(Fm.ve f) : Int)), T.sl (3 : Nat) (List.map (fun x => T.agg (memC x)) (Fm.ms f)), T.v (Value.int IntKind.u8 (↑(Lvs.l0 (Fm.lv f)) : Int)), T.v (Value.int IntKind.u8 (↑(Lvs.l1 (Fm.lv f)) : Int)), T.v (Value.int IntKind.u8 (↑(Lvs.l2 (Fm.lv f)) : Int)), T.v (Value.int IntKind.u8 (↑(Lvs.l3 (Fm.lv f)) : Int)), T.v (Value.int IntKind.u8 (↑(Lvs.l4 (Fm.lv f)) : Int)), T.v (Value.int IntKind.u8 (↑(Lvs.l5 (Fm.lv f)) : Int)), T.v (Value.int IntKind.u8 (↑(Lvs.l6 (Fm.lv f)) : Int)), T.v (Value.int IntKind.u8 (↑(Lvs.l7 (Fm.lv f)) : Int)), T.sl (8 : Nat) (List.map (fun x => T.agg (entC x)) (Fm.es f))]), ((0 : Nat), Ob.room (4 : Nat) (109 : Nat) (List.length (P ++ PX)) x), (c, Ob.siter z (n + (1 : Nat)))], gl := fun x => none })) ∧ (ByteArray.size z ≤ n → TWk Tryd.prog Γ (fin Tryd.prog Tryd.f11 [(0 : Nat)] Q) [It.code (sub (bd Tryd.f11) [(1 : Nat), (1 : Nat), (1 : Nat), (1 : Nat), (1 : Nat)])] { fr := [T.und, T.und, T.und, T.und, T.und, T.und, T.slx (4 : Nat) (2 : Nat) P hd, T.und, T.und, T.und, T.und, T.und, T.und, T.und, T.und, T.und, T.und, T.und, T.und, T.und, T.und, T.und, T.und, T.und, T.und, T.und, T.und, T.und, T.und, T.und, T.und, T.und, T.und, T.und, T.und, T.und, T.und, T.und, T.und, T.und, T.und, T.und, T.und, T.und, T.und, T.und, T.und, T.und, T.und, T.und, T.und, T.und, T.und, T.und, T.und, T.und, T.und], ob := [((0 : Nat), Ob.fix F), (b0, Ob.cells [T.v (Value.int IntKind.u8 (↑(Fm.kind f) : Int)), T.v (Value.int IntKind.u8 (↑(Fm.frm f) : Int)), T.v (Value.int IntKind.u8 (↑(Fm.to f) : Int)), T.v (Value.int IntKind.u32 (↑(Fm.ep f) : Int)), T.v (Value.int IntKind.u8 (↑(Fm.key f) : Int)), T.v (Value.int IntKind.u32 (↑(Fm.sn f) : Int)), T.v (Value.int IntKind.u8 (↑(Fm.sb f) : Int)), T.v (Value.int IntKind.u8 (↑(Fm.sl f) : Int)), T.v (Value.bool (Fm.has f)), T.v (Value.string (ByteArray.mk (List.toArray (Fm.x f)))), T.v (Value.bool (Fm.rmw f)), T.v (Value.bool (Fm.flag f)), T.v (Value.int IntKind.u8 (↑(Fm.dir f) : Int)), T.v (Value.int IntKind.u8 (↑(Fm.life f) : Int)), T.v (Value.int IntKind.u32 (↑(Fm.req f) : Int)), T.v (Value.int IntKind.u32 (↑(Fm.bn f) : Int)), T.v (Value.int IntKind.u8 (↑(Fm.bb f) : Int)), T.v (Value.int IntKind.u32 (↑(Fm.slot f) : Int)), T.v (Value.int IntKind.u8 (↑(Cmd.k (Fm.c f)) : Int)), T.v (Value.int IntKind.u8 (↑(Cmd.n (Fm.c f)) : Int)), T.v (Value.int IntKind.u8 (↑(Cmd.l (Fm.c f)) : Int)), T.v (Value.int IntKind.u32 (↑(Cmd.e (Fm.c f)) : Int)), T.v (Value.int IntKind.u32 (↑(Cmd.q (Fm.c f)) : Int)), T.v (Value.int IntKind.u32 (↑(Fm.ve f) : Int)), T.sl (3 : Nat) (List.map (fun x => T.agg (memC x)) (Fm.ms f)), T.v (Value.int IntKind.u8 (↑(Lvs.l0 (Fm.lv f)) : Int)), T.v (Value.int IntKind.u8 (↑(Lvs.l1 (Fm.lv f)) : Int)), T.v (Value.int IntKind.u8 (↑(Lvs.l2 (Fm.lv f)) : Int)), T.v (Value.int IntKind.u8 (↑(Lvs.l3 (Fm.lv f)) : Int)), T.v (Value.int IntKind.u8 (↑(Lvs.l4 (Fm.lv f)) : Int)), T.v (Value.int IntKind.u8 (↑(Lvs.l5 (Fm.lv f)) : Int)), T.v (Value.int IntKind.u8 (↑(Lvs.l6 (Fm.lv f)) : Int)), T.v (Value.int IntKind.u8 (↑(Lvs.l7 (Fm.lv f)) : Int)), T.sl (8 : Nat) (List.map (fun x => T.agg (entC x)) (Fm.es f))]), ((0 : Nat), Ob.room (4 : Nat) (109 : Nat) (List.length P) hd), (c, Ob.siter z n)], gl := fun x => none })) (by kernel_rfl) ?_
    repeat' (first | exact rfl | exact Nat.le_of_ble_eq_true rfl | refine And.intro ?_ ?_ | intro _ | refine bsplit_mk (fun _ => ?_) (fun _ => ?_))
    all_goals first
      | exact nx (bnF ‹_›) _
      | exact hbad (bnT ‹_›)
      | exact ⟨x, (hx x).2 rfl⟩
      | (obtain rfl := (hx _).1 ‹_›; exact hmy)
      | (obtain rfl := (hx _).1 ‹_›; exact hpt)
      | (exfalso; omega)
      | (simp [maxLen]; omega)
      | trace_state
theorem enc_any (f : Fm) (hf : f.Ok) : TCalls Tryd.prog 11 [.agg (frC f)] obsF none_ (callPost (told (encT f) [0] obsF)) := by
  have hQ : ∀ x, x = encT f → callPost (told (encT f) [0] obsF) x obsF none_ := fun x h => told_post h
  generalize callPost (told (encT f) [0] obsF) = Q at *
  have s1 := small_post f.kind hf.kind
  have s2 := small_post f.frm hf.frm
  have s3 := small_post f.to hf.to
  by_cases hk : 1 ≤ f.kind ∧ f.kind < 17
  · have ho := of_yes f.kind hk
    have lp := fun Γ b0 c hd => enc_loop Γ b0 c f hf hk Q hQ (lets f.kind) [] hd rfl (fun x h => by cases h)
    have lp : ∀ Γ b0 c hd, TWk Tryd.prog Γ (fin Tryd.prog Tryd.f11 [0] Q) [.code (sub (bd Tryd.f11) [1, 1, 1, 1, 0, 1, 0]), .blk 0, .code (sub (bd Tryd.f11) [1, 1, 1, 1, 1])] ⟨frame 57 [(1, .ptr 1 b0 0), (6, .slx 4 2 (parts f.hps) hd), (34, .ptr 3 c 0)], [(0, .fix fixF), (b0, .cells (frC f)), (0, .room 4 109 (parts f.hps).length hd), (c, .siter ⟨(letS (lets f.kind)).toArray⟩ 0)], none_⟩ := lp
    have hz : str (letS (lets f.kind)) = .v (.string ⟨(letS (lets f.kind)).toArray⟩) := rfl
    rw [hz] at ho
    clear hQ
    generalize (⟨(letS (lets f.kind)).toArray⟩ : ByteArray) = z at *
    unfold obsF at *
    generalize fixF = F at *
    refine TCalls.of Tryd.func11 rfl (CanCall.of Tryd.func11 rfl (by decide)) [0] fun Γ => ?_
    refine run_sound (⟨fun | 1, 3 => told (.tup [.v (.string z), bool true]) [0] [(0, .fix F)] | 4, 3 => told (.agg (partC (num 1 f.kind))) [] [] | 4, 7 => told (.agg (partC (num 1 f.frm))) [] [] | 4, 11 => told (.agg (partC (num 1 f.to))) [] [] | 4, 12 => .plain .no | _, _ => .no, [((2, 6), ([1, 6, 34], 4))], fun | 4 => some ⟨[1], [11, 12], .take true [0,1,2,4,5,6,8,9,10] (.one 3 (.one 7 (.one 11 (.one 12 (.take false [13] .done)))))⟩ | _ => none⟩) 400 (B := ∀ (b : Nat), b = b ∧ TCalls Tryd.prog (27 : Nat) [T.v (Value.int IntKind.u8 (↑(Fm.kind f) : Int))] [((0 : Nat), Ob.fix F)] (fun x => none) (callPost (Hint.call false Unit (fun x => True) [(0 : Nat)] false (fun x => T.tup [T.v (Value.string z), bool true]) (fun x => [((0 : Nat), Ob.fix F)]) fun x => none_)) ∧ ∀ (a : Unit), True → b = b ∧ b = b ∧ b = b ∧ TCalls Tryd.prog (28 : Nat) [T.v (Value.int IntKind.u8 (↑(Fm.kind f) : Int))] [] (fun x => none) (callPost (Hint.call false Unit (fun x => True) [] false (fun x => T.agg (partC (num (1 : Int) (Fm.kind f)))) (fun x => []) fun x => none_)) ∧ ∀ (a : Unit), True → TCalls Tryd.prog (28 : Nat) [T.v (Value.int IntKind.u8 (↑(Fm.frm f) : Int))] [] (fun x => none) (callPost (Hint.call false Unit (fun x => True) [] false (fun x => T.agg (partC (num (1 : Int) (Fm.frm f)))) (fun x => []) fun x => none_)) ∧ ∀ (a : Unit), True → TCalls Tryd.prog (28 : Nat) [T.v (Value.int IntKind.u8 (↑(Fm.to f) : Int))] [] (fun x => none) (callPost (Hint.call false Unit (fun x => True) [] false (fun x => T.agg (partC (num (1 : Int) (Fm.to f)))) (fun x => []) fun x => none_)) ∧ ∀ (a : Unit), True → ∀ (x : Value) (c : Nat), TWk Tryd.prog Γ (fin Tryd.prog Tryd.f11 [(0 : Nat)] Q) [It.code (sub (bd Tryd.f11) [(1 : Nat), (1 : Nat), (1 : Nat), (1 : Nat), (0 : Nat), (1 : Nat), (0 : Nat)]), It.blk (0 : Nat), It.code (sub (bd Tryd.f11) [(1 : Nat), (1 : Nat), (1 : Nat), (1 : Nat), (1 : Nat)])] { fr := [T.und, T.ptr (1 : Nat) b (0 : Nat), T.und, T.und, T.und, T.und, T.slx (4 : Nat) (2 : Nat) [T.agg [T.v (Value.int IntKind.i64 (Part.kind (num (1 : Int) (Fm.kind f)))), T.v (Value.int IntKind.i64 (Part.size (num (1 : Int) (Fm.kind f)))), T.v (Value.int IntKind.u64 (↑(Part.n (num (1 : Int) (Fm.kind f))) : Int)), T.v (Value.string (Part.s (num (1 : Int) (Fm.kind f))))], T.agg [T.v (Value.int IntKind.i64 (Part.kind (num (1 : Int) (Fm.frm f)))), T.v (Value.int IntKind.i64 (Part.size (num (1 : Int) (Fm.frm f)))), T.v (Value.int IntKind.u64 (↑(Part.n (num (1 : Int) (Fm.frm f))) : Int)), T.v (Value.string (Part.s (num (1 : Int) (Fm.frm f))))], T.agg [T.v (Value.int IntKind.i64 (Part.kind (num (1 : Int) (Fm.to f)))), T.v (Value.int IntKind.i64 (Part.size (num (1 : Int) (Fm.to f)))), T.v (Value.int IntKind.u64 (↑(Part.n (num (1 : Int) (Fm.to f))) : Int)), T.v (Value.string (Part.s (num (1 : Int) (Fm.to f))))]] x, T.und, T.und, T.und, T.und, T.und, T.und, T.und, T.und, T.und, T.und, T.und, T.und, T.und, T.und, T.und, T.und, T.und, T.und, T.und, T.und, T.und, T.und, T.und, T.und, T.und, T.und, T.und, T.ptr (3 : Nat) c (0 : Nat), T.und, T.und, T.und, T.und, T.und, T.und, T.und, T.und, T.und, T.und, T.und, T.und, T.und, T.und, T.und, T.und, T.und, T.und, T.und, T.und, T.und, T.und], ob := [((0 : Nat), Ob.fix F), (b, Ob.cells [T.v (Value.int IntKind.u8 (↑(Fm.kind f) : Int)), T.v (Value.int IntKind.u8 (↑(Fm.frm f) : Int)), T.v (Value.int IntKind.u8 (↑(Fm.to f) : Int)), T.v (Value.int IntKind.u32 (↑(Fm.ep f) : Int)), T.v (Value.int IntKind.u8 (↑(Fm.key f) : Int)), T.v (Value.int IntKind.u32 (↑(Fm.sn f) : Int)), T.v (Value.int IntKind.u8 (↑(Fm.sb f) : Int)), T.v (Value.int IntKind.u8 (↑(Fm.sl f) : Int)), T.v (Value.bool (Fm.has f)), T.v (Value.string (ByteArray.mk (List.toArray (Fm.x f)))), T.v (Value.bool (Fm.rmw f)), T.v (Value.bool (Fm.flag f)), T.v (Value.int IntKind.u8 (↑(Fm.dir f) : Int)), T.v (Value.int IntKind.u8 (↑(Fm.life f) : Int)), T.v (Value.int IntKind.u32 (↑(Fm.req f) : Int)), T.v (Value.int IntKind.u32 (↑(Fm.bn f) : Int)), T.v (Value.int IntKind.u8 (↑(Fm.bb f) : Int)), T.v (Value.int IntKind.u32 (↑(Fm.slot f) : Int)), T.v (Value.int IntKind.u8 (↑(Cmd.k (Fm.c f)) : Int)), T.v (Value.int IntKind.u8 (↑(Cmd.n (Fm.c f)) : Int)), T.v (Value.int IntKind.u8 (↑(Cmd.l (Fm.c f)) : Int)), T.v (Value.int IntKind.u32 (↑(Cmd.e (Fm.c f)) : Int)), T.v (Value.int IntKind.u32 (↑(Cmd.q (Fm.c f)) : Int)), T.v (Value.int IntKind.u32 (↑(Fm.ve f) : Int)), T.sl (3 : Nat) (List.map (fun x => T.agg (memC x)) (Fm.ms f)), T.v (Value.int IntKind.u8 (↑(Lvs.l0 (Fm.lv f)) : Int)), T.v (Value.int IntKind.u8 (↑(Lvs.l1 (Fm.lv f)) : Int)), T.v (Value.int IntKind.u8 (↑(Lvs.l2 (Fm.lv f)) : Int)), T.v (Value.int IntKind.u8 (↑(Lvs.l3 (Fm.lv f)) : Int)), T.v (Value.int IntKind.u8 (↑(Lvs.l4 (Fm.lv f)) : Int)), T.v (Value.int IntKind.u8 (↑(Lvs.l5 (Fm.lv f)) : Int)), T.v (Value.int IntKind.u8 (↑(Lvs.l6 (Fm.lv f)) : Int)), T.v (Value.int IntKind.u8 (↑(Lvs.l7 (Fm.lv f)) : Int)), T.sl (8 : Nat) (List.map (fun x => T.agg (entC x)) (Fm.es f))]), ((0 : Nat), Ob.room (4 : Nat) (109 : Nat) (3 : Nat) x), (c, Ob.siter z (0 : Nat))], gl := fun x => none }) (by kernel_rfl) ?_
    repeat' (first | exact rfl | exact Nat.le_of_ble_eq_true rfl | refine And.intro ?_ ?_ | intro _ | refine bsplit_mk (fun _ => ?_) (fun _ => ?_))
    all_goals first
      | exact ho
      | exact s1
      | exact s2
      | exact s3
      | exact lp _ _ _ _
      | trace_state
  · have ho := of_no f.kind hf.kind hk
    have he : encT f = .tup [str [], int 4] := by
      unfold encT Frm.Fm.enc Frm.Fm.good Frm.hasKind
      rw [decide_eq_false hk, Bool.false_and]; rfl
    rw [he] at hQ
    unfold obsF at *
    generalize fixF = F at *
    refine TCalls.of Tryd.func11 rfl (CanCall.of Tryd.func11 rfl (by decide)) [0] fun Γ => ?_
    refine run_sound (⟨fun | 1, 3 => told (.tup [str [], bool false]) [0] [(0, .fix F)] | _, _ => .no, [], fun | 4 => some ⟨[], [11, 12], .take true [0,1,2,4,5,6,8,9,10] (.one 3 (.one 7 (.one 11 (.one 12 (.take false [13] .done)))))⟩ | _ => none⟩) 400 (B := ∀ (b : Nat), b = b ∧ TCalls Tryd.prog (27 : Nat) [T.v (Value.int IntKind.u8 (↑(Fm.kind f) : Int))] [((0 : Nat), Ob.fix F)] (fun x => none) (callPost (Hint.call false Unit (fun x => True) [(0 : Nat)] false (fun x => T.tup [str [], bool false]) (fun x => [((0 : Nat), Ob.fix F)]) fun x => none_)) ∧ ∀ (a : Unit), True → Q (T.tup [T.v (Value.string (ByteArray.mk (#[]))), T.v (Value.int IntKind.i64 (4 : Int))]) [((0 : Nat), Ob.fix F)] fun x => none) (by kernel_rfl) ?_
    repeat' (first | exact rfl | exact Nat.le_of_ble_eq_true rfl | refine And.intro ?_ ?_ | intro _ | refine bsplit_mk (fun _ => ?_) (fun _ => ?_))
    all_goals first
      | exact ho
      | exact hQ _ rfl
      | trace_state
end X6
end Go.Proofs.YtaepgceodcdnhaaDoor.Vm
