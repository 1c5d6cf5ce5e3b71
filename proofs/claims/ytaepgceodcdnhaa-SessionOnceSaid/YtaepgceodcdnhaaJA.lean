/- Disks by the engine. -/
import Derived.Test.YtaepgceodcdnhaaOR
namespace Go.Proofs.Ytaepgceodcdnhaa.Vm
open Go Go.RowKit
set_option maxRecDepth 100000
namespace X9
open Jrn (Dk)
def dkC (d : Dk) : List T := [str d.b, int d.n, bool d.off]
def obsK (b : Nat) (d : Dk) : Obs := [(b, .cells (dkC d))]
/-- a disk's method, as a call tells it -/
def dkH (i : Nat) (d : Dk) (x : T) : Hint := .withB fun B => told x [i] (obsK (B.getD i 0) d)
theorem dk_post {b : Nat} {d : Dk} {x y : T} {gl : Glb} (h : y = x) : callPost (told x [0] (obsK b d)) y (obsK b d) gl := ⟨(), trivial, h, rfl, Nat.le_of_ble_eq_true rfl, fun h => by cases h⟩
theorem dnew_any (Q : T → Obs → Glb → Prop) (hQ : ∀ b, Q (.ptr 0 b 0) (obsK b Jrn.newD) none_) : TCalls Try.prog 11 [] [] none_ Q := by
  refine TCalls.of Try.func11 rfl (CanCall.of Try.func11 rfl (by decide)) [0] fun Γ => ?_
  refine run_sound (⟨fun _ _ => .no, [], fun _ => none⟩) 400 (B := ∀ (b : Nat), Q (T.ptr (0 : Nat) b (0 : Nat)) [(b, Ob.cells [T.v (Value.string (ByteArray.mk (#[]))), T.v (Value.int IntKind.i64 (0 : Int)), T.v (Value.bool false)])] fun x => none) (by kernel_rfl) ?_
  repeat' (first | exact rfl | exact Nat.le_of_ble_eq_true rfl | refine And.intro ?_ ?_ | intro _ | refine bsplit_mk (fun _ => ?_) (fun _ => ?_))
  exact hQ _
theorem ready_any (b : Nat) (d : Dk) (Q : T → Obs → Glb → Prop) (hQ : ∀ x, x = int (Jrn.rdyE d) → Q x (obsK b d) none_) : TCalls Try.prog 36 [.ptr 0 b 0] (obsK b d) none_ Q := by
  unfold Jrn.rdyE at hQ
  cases ho : d.off with
  | true =>
    rw [ho] at hQ
    have e : obsK b d = obsK b ⟨d.b, d.n, true⟩ := by rw [← ho]
    rw [e] at hQ ⊢
    refine TCalls.of Try.func36 rfl (CanCall.of Try.func36 rfl (by decide)) [0] fun Γ => ?_
    refine run_sound (⟨fun _ _ => .no, [], fun _ => none⟩) 400 (B := b = b ∧ Q (T.v (Value.int IntKind.i64 (10 : Int))) [(b, Ob.cells [T.v (Value.string (ByteArray.mk (List.toArray (Dk.b { b := Dk.b d, n := Dk.n d, off := true })))), T.v (Value.int IntKind.i64 (↑(Dk.n { b := Dk.b d, n := Dk.n d, off := true }) : Int)), T.v (Value.bool true)])] fun x => none) (by kernel_rfl) ?_
    repeat' (first | exact rfl | exact Nat.le_of_ble_eq_true rfl | refine And.intro ?_ ?_ | intro _ | refine bsplit_mk (fun _ => ?_) (fun _ => ?_))
    exact hQ _ rfl
  | false =>
    rw [ho] at hQ
    have e : obsK b d = obsK b ⟨d.b, d.n, false⟩ := by rw [← ho]
    rw [e] at hQ ⊢
    refine TCalls.of Try.func36 rfl (CanCall.of Try.func36 rfl (by decide)) [0] fun Γ => ?_
    refine run_sound (⟨fun _ _ => .no, [], fun _ => none⟩) 400 (B := b = b ∧ Q (T.v (Value.int IntKind.i64 (0 : Int))) [(b, Ob.cells [T.v (Value.string (ByteArray.mk (List.toArray (Dk.b { b := Dk.b d, n := Dk.n d, off := false })))), T.v (Value.int IntKind.i64 (↑(Dk.n { b := Dk.b d, n := Dk.n d, off := false }) : Int)), T.v (Value.bool false)])] fun x => none) (by kernel_rfl) ?_
    repeat' (first | exact rfl | exact Nat.le_of_ble_eq_true rfl | refine And.intro ?_ ?_ | intro _ | refine bsplit_mk (fun _ => ?_) (fun _ => ?_))
    exact hQ _ rfl
theorem ready_post (b : Nat) (d : Dk) : TCalls Try.prog 36 [.ptr 0 b 0] (obsK b d) none_ (callPost (told (int (Jrn.rdyE d)) [0] (obsK b d))) := ready_any b d _ fun _ h => dk_post h
theorem app_any (b : Nat) (d : Dk) (hd : d.Ok) (s : List UInt8) (_hs : s.length ≤ 1000000000) (Q : T → Obs → Glb → Prop) (hQ : ∀ x, x = int (Jrn.appE d s) → Q x (obsK b (Jrn.appD d s)) none_) : TCalls Try.prog 12 [.ptr 0 b 0, str s] (obsK b d) none_ Q := by
  have h1 := hd.l
  have hr := ready_post b d
  unfold Jrn.appD Jrn.appE at hQ
  unfold Jrn.rdyE at hr
  have hw : IntKind.wrap .i64 (1048576 - ((⟨d.b.toArray⟩ : ByteArray).size : Int)) = 1048576 - (d.b.length : Int) := by rw [bs_len, wrap_i64 (by omega) (by omega)]
  by_cases ho : d.off = true
  · rw [if_pos ho] at hr
    rw [if_pos ho] at hQ
    refine TCalls.of Try.func12 rfl (CanCall.of Try.func12 rfl (by decide)) [0] fun Γ => ?_
    refine run_sound (⟨fun | 1, 1 => dkH 0 d (int 10) | _, _ => .no, [], fun  | _ => none⟩) 400 (B := TCalls Try.prog (36 : Nat) [T.ptr (0 : Nat) b (0 : Nat)] [(b, Ob.cells [T.v (Value.string (ByteArray.mk (List.toArray (Dk.b d)))), T.v (Value.int IntKind.i64 (↑(Dk.n d) : Int)), T.v (Value.bool (Dk.off d))])] (fun x => none) (callPost (Hint.call false Unit (fun x => True) [(0 : Nat)] false (fun x => int (10 : Int)) (fun x => obsK b d) fun x => none_)) ∧ ∀ (a : Unit), True → Q (T.v (Value.int IntKind.i64 (10 : Int))) [(b, Ob.cells [T.v (Value.string (ByteArray.mk (List.toArray (Dk.b d)))), T.v (Value.int IntKind.i64 (↑(Dk.n d) : Int)), T.v (Value.bool (Dk.off d))])] fun x => none) (by kernel_rfl) ?_
    repeat' (first | exact rfl | exact Nat.le_of_ble_eq_true rfl | refine And.intro ?_ ?_ | intro _ | refine bsplit_mk (fun _ => ?_) (fun _ => ?_))
    all_goals first
      | exact hr
      | exact hQ _ rfl
      | trace_state
  · rw [if_neg ho] at hr
    rw [if_neg ho] at hQ
    by_cases hf : 1048576 < d.b.length + s.length
    · rw [if_pos hf] at hQ
      refine TCalls.of Try.func12 rfl (CanCall.of Try.func12 rfl (by decide)) [0] fun Γ => ?_
      refine run_sound (⟨fun | 1, 1 => dkH 0 d (int 0) | _, _ => .no, [((0, 6), ([0, 1], 1))], fun  | _ => none⟩) 400 (B := TCalls Try.prog (36 : Nat) [T.ptr (0 : Nat) b (0 : Nat)] [(b, Ob.cells [T.v (Value.string (ByteArray.mk (List.toArray (Dk.b d)))), T.v (Value.int IntKind.i64 (↑(Dk.n d) : Int)), T.v (Value.bool (Dk.off d))])] (fun x => none) (callPost (Hint.call false Unit (fun x => True) [(0 : Nat)] false (fun x => int (0 : Int)) (fun x => obsK b d) fun x => none_)) ∧ ∀ (a : Unit), True → b = b ∧ bsplit (decide ((↑(ByteArray.size (ByteArray.mk (List.toArray s))) : Int) > IntKind.wrap IntKind.i64 ((1048576 : Int) - (↑(ByteArray.size (ByteArray.mk (List.toArray (Dk.b d)))) : Int)))) (Q (T.v (Value.int IntKind.i64 (6 : Int))) [(b, Ob.cells [T.v (Value.string (ByteArray.mk (List.toArray (Dk.b d)))), T.v (Value.int IntKind.i64 (↑(Dk.n d) : Int)), T.v (Value.bool (Dk.off d))])] fun x => none) (TWk Try.prog Γ (fin Try.prog Try.f12 [(0 : Nat)] Q) [It.code (sub (bd Try.f12) [(1 : Nat), (1 : Nat), (1 : Nat)])] { fr := [T.ptr (0 : Nat) b (0 : Nat), T.v (Value.string (ByteArray.mk (List.toArray s))), T.und, T.und, T.und, T.und, T.und, T.und, T.und, T.und, T.und, T.und, T.und, T.und, T.und, T.und, T.und, T.und, T.und, T.und, T.und, T.und, T.und, T.und, T.und, T.und, T.und, T.und], ob := [(b, Ob.cells [T.v (Value.string (ByteArray.mk (List.toArray (Dk.b d)))), T.v (Value.int IntKind.i64 (↑(Dk.n d) : Int)), T.v (Value.bool (Dk.off d))])], gl := fun x => none })) (by kernel_rfl) ?_
      rw [hw]
      repeat' (first | exact rfl | exact Nat.le_of_ble_eq_true rfl | refine And.intro ?_ ?_ | intro _ | refine bsplit_mk (fun _ => ?_) (fun _ => ?_))
      all_goals first
        | exact hr
        | exact hQ _ rfl
        | (exfalso; simp only [decide_eq_false_iff_not, bs_len] at *; omega)
        | trace_state
    · rw [if_neg hf] at hQ
      have hq := hQ _ rfl
      rw [if_pos rfl] at hq
      refine TCalls.of Try.func12 rfl (CanCall.of Try.func12 rfl (by decide)) [0] fun Γ => ?_
      refine run_sound (⟨fun | 1, 1 => dkH 0 d (int 0) | 6, 5 => .res (str (d.b ++ s)) | 6, 8 => .obj (dkC { d with b := d.b ++ s }) | _, _ => .no, [((0, 5), ([], 1))], fun  | _ => none⟩) 400 (B := TCalls Try.prog (36 : Nat) [T.ptr (0 : Nat) b (0 : Nat)] [(b, Ob.cells [T.v (Value.string (ByteArray.mk (List.toArray (Dk.b d)))), T.v (Value.int IntKind.i64 (↑(Dk.n d) : Int)), T.v (Value.bool (Dk.off d))])] (fun x => none) (callPost (Hint.call false Unit (fun x => True) [(0 : Nat)] false (fun x => int (0 : Int)) (fun x => obsK b d) fun x => none_)) ∧ ∀ (a : Unit), True → b = b ∧ bsplit (decide ((↑(ByteArray.size (ByteArray.mk (List.toArray s))) : Int) > IntKind.wrap IntKind.i64 ((1048576 : Int) - (↑(ByteArray.size (ByteArray.mk (List.toArray (Dk.b d)))) : Int)))) (TWk Try.prog Γ (fin Try.prog Try.f12 [(0 : Nat)] Q) [It.code (sub (bd Try.f12) [(1 : Nat), (1 : Nat), (0 : Nat), (1 : Nat), (0 : Nat)]), It.code (sub (bd Try.f12) [(1 : Nat), (1 : Nat), (1 : Nat)])] { fr := [T.und, T.und, T.und, T.und, T.und, T.und, T.und, T.und, T.und, T.und, T.und, T.und, T.und, T.und, T.und, T.und, T.und, T.und, T.und, T.und, T.und, T.und, T.und, T.und, T.und, T.und, T.und, T.und], ob := [(b, Ob.cells [T.v (Value.string (ByteArray.mk (List.toArray (Dk.b d)))), T.v (Value.int IntKind.i64 (↑(Dk.n d) : Int)), T.v (Value.bool (Dk.off d))])], gl := fun x => none }) (b = b ∧ ByteArray.size (ByteArray.mk (List.toArray (Dk.b d))) + ByteArray.size (ByteArray.mk (List.toArray s)) ≤ (9223372036854775807 : Nat) ∧ some (T.v (Value.string ((ByteArray.mk (List.toArray (Dk.b d))) ++ (ByteArray.mk (List.toArray s))))) = some (T.v (Value.string (ByteArray.mk (List.toArray (Dk.b d ++ s))))) ∧ ((1 : Nat) = nat_lit 1 ∧ List.all (List.map T.v (Array.toList #[Value.string (ByteArray.mk (List.toArray (Dk.b d ++ s)))])) T.one = true) ∧ b = b ∧ (0 : Nat) + nat_lit 1 ≤ (3 : Nat) ∧ [T.v (Value.string (ByteArray.mk (List.toArray (Dk.b d ++ s)))), T.v (Value.int IntKind.i64 (↑(Dk.n d) : Int)), T.v (Value.bool (Dk.off d))] = [T.v (Value.string (ByteArray.mk (List.toArray (Dk.b { b := Dk.b d ++ s, n := Dk.n d, off := Dk.off d })))), T.v (Value.int IntKind.i64 (↑(Dk.n { b := Dk.b d ++ s, n := Dk.n d, off := Dk.off d }) : Int)), T.v (Value.bool (Dk.off { b := Dk.b d ++ s, n := Dk.n d, off := Dk.off d }))] ∧ Q (T.v (Value.int IntKind.i64 (0 : Int))) [(b, Ob.cells [T.v (Value.string (ByteArray.mk (List.toArray (Dk.b { b := Dk.b d ++ s, n := Dk.n d, off := Dk.off d })))), T.v (Value.int IntKind.i64 (↑(Dk.n { b := Dk.b d ++ s, n := Dk.n d, off := Dk.off d }) : Int)), T.v (Value.bool (Dk.off { b := Dk.b d ++ s, n := Dk.n d, off := Dk.off d }))])] fun x => none)) (by kernel_rfl) ?_
      rw [hw]
      repeat' (first | exact rfl | exact Nat.le_of_ble_eq_true rfl | refine And.intro ?_ ?_ | intro _ | refine bsplit_mk (fun _ => ?_) (fun _ => ?_))
      all_goals first
        | exact hr
        | exact hq
        | rfl
        | exact cat_ok _ _ (by omega)
        | exact congrArg T.v (str_cat _ _)
        | (exfalso; simp only [decide_eq_true_eq, bs_len] at *; omega)
        | trace_state
theorem sync_any (b : Nat) (d : Dk) (Q : T → Obs → Glb → Prop) (hQ : ∀ x, x = int (Jrn.rdyE d) → Q x (obsK b (Jrn.synD d)) none_) : TCalls Try.prog 41 [.ptr 0 b 0] (obsK b d) none_ Q := by
  have hr := ready_post b d
  unfold Jrn.synD at hQ
  unfold Jrn.rdyE at hr hQ
  by_cases ho : d.off = true
  · rw [if_pos ho] at hr
    rw [if_pos ho] at hQ
    rw [if_pos ho] at hQ
    refine TCalls.of Try.func41 rfl (CanCall.of Try.func41 rfl (by decide)) [0] fun Γ => ?_
    refine run_sound (⟨fun | 1, 1 => dkH 0 d (int 10) | _, _ => .no, [], fun  | _ => none⟩) 400 (B := TCalls Try.prog (36 : Nat) [T.ptr (0 : Nat) b (0 : Nat)] [(b, Ob.cells [T.v (Value.string (ByteArray.mk (List.toArray (Dk.b d)))), T.v (Value.int IntKind.i64 (↑(Dk.n d) : Int)), T.v (Value.bool (Dk.off d))])] (fun x => none) (callPost (Hint.call false Unit (fun x => True) [(0 : Nat)] false (fun x => int (10 : Int)) (fun x => obsK b d) fun x => none_)) ∧ ∀ (a : Unit), True → Q (T.v (Value.int IntKind.i64 (10 : Int))) [(b, Ob.cells [T.v (Value.string (ByteArray.mk (List.toArray (Dk.b d)))), T.v (Value.int IntKind.i64 (↑(Dk.n d) : Int)), T.v (Value.bool (Dk.off d))])] fun x => none) (by kernel_rfl) ?_
    repeat' (first | exact rfl | exact Nat.le_of_ble_eq_true rfl | refine And.intro ?_ ?_ | intro _ | refine bsplit_mk (fun _ => ?_) (fun _ => ?_))
    all_goals first
      | exact hr
      | exact hQ _ rfl
      | trace_state
  · rw [if_neg ho] at hr
    rw [if_neg ho] at hQ
    rw [if_neg ho] at hQ
    refine TCalls.of Try.func41 rfl (CanCall.of Try.func41 rfl (by decide)) [0] fun Γ => ?_
    refine run_sound (⟨fun | 1, 1 => dkH 0 d (int 0) | 4, 5 => .res (int d.b.length) | 4, 8 => .obj (dkC { d with n := d.b.length }) | _, _ => .no, [], fun  | _ => none⟩) 400 (B := TCalls Try.prog (36 : Nat) [T.ptr (0 : Nat) b (0 : Nat)] [(b, Ob.cells [T.v (Value.string (ByteArray.mk (List.toArray (Dk.b d)))), T.v (Value.int IntKind.i64 (↑(Dk.n d) : Int)), T.v (Value.bool (Dk.off d))])] (fun x => none) (callPost (Hint.call false Unit (fun x => True) [(0 : Nat)] false (fun x => int (0 : Int)) (fun x => obsK b d) fun x => none_)) ∧ ∀ (a : Unit), True → b = b ∧ ((1 : Nat) = nat_lit 1 ∧ List.all (List.map T.v (Array.toList #[Value.int IntKind.i64 (↑(ByteArray.size (ByteArray.mk (List.toArray (Dk.b d)))) : Int)])) T.one = true) ∧ b = b ∧ (1 : Nat) + nat_lit 1 ≤ (3 : Nat) ∧ [T.v (Value.string (ByteArray.mk (List.toArray (Dk.b d)))), T.v (Value.int IntKind.i64 (↑(ByteArray.size (ByteArray.mk (List.toArray (Dk.b d)))) : Int)), T.v (Value.bool (Dk.off d))] = [T.v (Value.string (ByteArray.mk (List.toArray (Dk.b { b := Dk.b d, n := List.length (Dk.b d), off := Dk.off d })))), T.v (Value.int IntKind.i64 (↑(Dk.n { b := Dk.b d, n := List.length (Dk.b d), off := Dk.off d }) : Int)), T.v (Value.bool (Dk.off { b := Dk.b d, n := List.length (Dk.b d), off := Dk.off d }))] ∧ Q (T.v (Value.int IntKind.i64 (0 : Int))) [(b, Ob.cells [T.v (Value.string (ByteArray.mk (List.toArray (Dk.b { b := Dk.b d, n := List.length (Dk.b d), off := Dk.off d })))), T.v (Value.int IntKind.i64 (↑(Dk.n { b := Dk.b d, n := List.length (Dk.b d), off := Dk.off d }) : Int)), T.v (Value.bool (Dk.off { b := Dk.b d, n := List.length (Dk.b d), off := Dk.off d }))])] fun x => none) (by kernel_rfl) ?_
    repeat' (first | exact rfl | exact Nat.le_of_ble_eq_true rfl | refine And.intro ?_ ?_ | intro _ | refine bsplit_mk (fun _ => ?_) (fun _ => ?_))
    all_goals first
      | exact hr
      | exact hQ _ rfl
      | rfl
      | (rw [bs_len]; rfl)
      | trace_state
theorem keep_any (b : Nat) (d : Dk) (n : Nat) (hn : n ≤ d.b.length) (Q : T → Obs → Glb → Prop) (hQ : Q (.tup []) (obsK b (Jrn.keepD d n)) none_) : TCalls Try.prog 42 [.ptr 0 b 0, int n] (obsK b d) none_ Q := by
  have hc : T.v (.string ((⟨d.b.toArray⟩ : ByteArray).extract 0 n)) = str (d.b.take n) := by rw [X1.str_cut]; rfl
  have hq : Q (.tup []) [(b, .cells [str (d.b.take n), int n, bool d.off])] none_ := hQ
  rw [← hc] at hq
  refine TCalls.of Try.func42 rfl (CanCall.of Try.func42 rfl (by decide)) [0] fun Γ => ?_
  refine run_sound (⟨fun _ _ => .no, [], fun _ => none⟩) 400 (B := b = b ∧ ((0 : Int) ≤ (↑(0 : Nat) : Int) ∧ (↑(0 : Nat) : Int) ≤ Prod.snd (IntKind.i64, (↑n : Int)) ∧ Prod.snd (IntKind.i64, (↑n : Int)) ≤ (↑(ByteArray.size (ByteArray.mk (List.toArray (Dk.b d)))) : Int)) ∧ ((1 : Nat) = nat_lit 1 ∧ List.all (List.map T.v (Array.toList #[Value.string (ByteArray.extract (ByteArray.mk (List.toArray (Dk.b d))) (Int.toNat (↑(0 : Nat) : Int)) (Int.toNat (Prod.snd (IntKind.i64, (↑n : Int)))))])) T.one = true) ∧ b = b ∧ (0 : Nat) + nat_lit 1 ≤ (3 : Nat) ∧ ((1 : Nat) = nat_lit 1 ∧ List.all (List.map T.v (Array.toList #[Value.int IntKind.i64 (↑n : Int)])) T.one = true) ∧ b = b ∧ (1 : Nat) + nat_lit 1 ≤ (3 : Nat) ∧ Q (T.tup []) [(b, Ob.cells [T.v (Value.string (ByteArray.extract (ByteArray.mk (List.toArray (Dk.b d))) (Int.toNat (↑(0 : Nat) : Int)) (Int.toNat (Prod.snd (IntKind.i64, (↑n : Int)))))), T.v (Value.int IntKind.i64 (↑n : Int)), T.v (Value.bool (Dk.off d))])] fun x => none) (by kernel_rfl) ?_
  repeat' (first | exact rfl | exact Nat.le_of_ble_eq_true rfl | refine And.intro ?_ ?_ | intro _ | refine bsplit_mk (fun _ => ?_) (fun _ => ?_))
  all_goals first
    | exact hq
    | omega
    | (rw [bs_len]; omega)
    | trace_state
theorem cut_any (b : Nat) (d : Dk) (hd : d.Ok) (n : Nat) (hn : n ≤ d.b.length) (ho : d.off = false) (Q : T → Obs → Glb → Prop) (hQ : ∀ x, x = int 0 → Q x (obsK b (Jrn.keepD d n)) none_) : TCalls Try.prog 38 [.ptr 0 b 0, int n] (obsK b d) none_ Q := by
  have h1 := hd.l
  have hr := ready_post b d
  unfold Jrn.rdyE at hr
  rw [if_neg (by rw [ho]; decide)] at hr
  refine TCalls.of Try.func38 rfl (CanCall.of Try.func38 rfl (by decide)) [0] fun Γ => ?_
  refine run_sound (⟨fun | 1, 1 => dkH 0 d (int 0) | 6, 2 => dkH 0 (Jrn.keepD d n) (.tup []) | _, _ => .no, [((0, 5), ([], 1))], fun  | _ => none⟩) 400 (B := TCalls Try.prog (36 : Nat) [T.ptr (0 : Nat) b (0 : Nat)] [(b, Ob.cells [T.v (Value.string (ByteArray.mk (List.toArray (Dk.b d)))), T.v (Value.int IntKind.i64 (↑(Dk.n d) : Int)), T.v (Value.bool (Dk.off d))])] (fun x => none) (callPost (Hint.call false Unit (fun x => True) [(0 : Nat)] false (fun x => int (0 : Int)) (fun x => obsK b d) fun x => none_)) ∧ ∀ (a : Unit), True → b = b ∧ bsplit (decide ((↑n : Int) > (↑(ByteArray.size (ByteArray.mk (List.toArray (Dk.b d)))) : Int))) (TWk Try.prog Γ (fin Try.prog Try.f38 [(0 : Nat)] Q) [It.code (sub (bd Try.f38) [(1 : Nat), (1 : Nat), (0 : Nat), (1 : Nat), (0 : Nat)]), It.code (sub (bd Try.f38) [(1 : Nat), (1 : Nat), (1 : Nat)])] { fr := [T.und, T.und, T.und, T.und, T.und, T.und, T.und, T.und, T.und, T.und, T.und, T.und, T.und, T.und, T.und, T.und, T.und, T.und, T.und, T.und, T.und, T.und, T.und, T.und, T.und], ob := [(b, Ob.cells [T.v (Value.string (ByteArray.mk (List.toArray (Dk.b d)))), T.v (Value.int IntKind.i64 (↑(Dk.n d) : Int)), T.v (Value.bool (Dk.off d))])], gl := fun x => none }) (TCalls Try.prog (42 : Nat) [T.ptr (0 : Nat) b (0 : Nat), T.v (Value.int IntKind.i64 (↑n : Int))] [(b, Ob.cells [T.v (Value.string (ByteArray.mk (List.toArray (Dk.b d)))), T.v (Value.int IntKind.i64 (↑(Dk.n d) : Int)), T.v (Value.bool (Dk.off d))])] (fun x => none) (callPost (Hint.call false Unit (fun x => True) [(0 : Nat)] false (fun x => T.tup []) (fun x => obsK b (Jrn.keepD d n)) fun x => none_)) ∧ ∀ (a : Unit), True → Q (T.v (Value.int IntKind.i64 (0 : Int))) [(b, Ob.cells [T.v (Value.string (ByteArray.mk (List.toArray (Dk.b (Jrn.keepD d n))))), T.v (Value.int IntKind.i64 (↑(Dk.n (Jrn.keepD d n)) : Int)), T.v (Value.bool (Dk.off (Jrn.keepD d n)))])] fun x => none)) (by kernel_rfl) ?_
  repeat' (first | exact rfl | exact Nat.le_of_ble_eq_true rfl | refine And.intro ?_ ?_ | intro _ | refine bsplit_mk (fun _ => ?_) (fun _ => ?_))
  all_goals first
    | exact hr
    | exact keep_any b d n hn _ (dk_post rfl)
    | exact hQ _ rfl
    | (exfalso; simp only [decide_eq_true_eq, bs_len] at *; omega)
    | trace_state
theorem dread_any (b : Nat) (d : Dk) (Q : T → Obs → Glb → Prop) (hQ1 : d.off = true → ∀ x, x = .tup [str [], int 10] → Q x (obsK b d) none_) (hQ : d.off = false → ∀ x, x = .tup [str d.b, int 0] → Q x (obsK b d) none_) : TCalls Try.prog 15 [.ptr 0 b 0] (obsK b d) none_ Q := by
  have hr := ready_post b d
  unfold Jrn.rdyE at hr
  by_cases ho : d.off = true
  · rw [if_pos ho] at hr
    have h0 := hQ1 ho
    refine TCalls.of Try.func15 rfl (CanCall.of Try.func15 rfl (by decide)) [0] fun Γ => ?_
    refine run_sound (⟨fun | 1, 1 => dkH 0 d (int 10) | _, _ => .no, [], fun  | _ => none⟩) 400 (B := TCalls Try.prog (36 : Nat) [T.ptr (0 : Nat) b (0 : Nat)] [(b, Ob.cells [T.v (Value.string (ByteArray.mk (List.toArray (Dk.b d)))), T.v (Value.int IntKind.i64 (↑(Dk.n d) : Int)), T.v (Value.bool (Dk.off d))])] (fun x => none) (callPost (Hint.call false Unit (fun x => True) [(0 : Nat)] false (fun x => int (10 : Int)) (fun x => obsK b d) fun x => none_)) ∧ ∀ (a : Unit), True → Q (T.tup [T.v (Value.string (ByteArray.mk (#[]))), T.v (Value.int IntKind.i64 (10 : Int))]) [(b, Ob.cells [T.v (Value.string (ByteArray.mk (List.toArray (Dk.b d)))), T.v (Value.int IntKind.i64 (↑(Dk.n d) : Int)), T.v (Value.bool (Dk.off d))])] fun x => none) (by kernel_rfl) ?_
    repeat' (first | exact rfl | exact Nat.le_of_ble_eq_true rfl | refine And.intro ?_ ?_ | intro _ | refine bsplit_mk (fun _ => ?_) (fun _ => ?_))
    all_goals first
      | exact hr
      | exact h0 _ rfl
      | trace_state
  · rw [if_neg ho] at hr
    have h0 := hQ (by simpa using ho)
    refine TCalls.of Try.func15 rfl (CanCall.of Try.func15 rfl (by decide)) [0] fun Γ => ?_
    refine run_sound (⟨fun | 1, 1 => dkH 0 d (int 0) | _, _ => .no, [], fun  | _ => none⟩) 400 (B := TCalls Try.prog (36 : Nat) [T.ptr (0 : Nat) b (0 : Nat)] [(b, Ob.cells [T.v (Value.string (ByteArray.mk (List.toArray (Dk.b d)))), T.v (Value.int IntKind.i64 (↑(Dk.n d) : Int)), T.v (Value.bool (Dk.off d))])] (fun x => none) (callPost (Hint.call false Unit (fun x => True) [(0 : Nat)] false (fun x => int (0 : Int)) (fun x => obsK b d) fun x => none_)) ∧ ∀ (a : Unit), True → b = b ∧ Q (T.tup [T.v (Value.string (ByteArray.mk (List.toArray (Dk.b d)))), T.v (Value.int IntKind.i64 (0 : Int))]) [(b, Ob.cells [T.v (Value.string (ByteArray.mk (List.toArray (Dk.b d)))), T.v (Value.int IntKind.i64 (↑(Dk.n d) : Int)), T.v (Value.bool (Dk.off d))])] fun x => none) (by kernel_rfl) ?_
    repeat' (first | exact rfl | exact Nat.le_of_ble_eq_true rfl | refine And.intro ?_ ?_ | intro _ | refine bsplit_mk (fun _ => ?_) (fun _ => ?_))
    all_goals first
      | exact hr
      | exact h0 _ rfl
      | trace_state
theorem start_any (b : Nat) (d : Dk) (Q : T → Obs → Glb → Prop) (hQ : Q (.tup []) (obsK b (Jrn.startD d)) none_) : TCalls Try.prog 20 [.ptr 0 b 0] (obsK b d) none_ Q := by
  refine TCalls.of Try.func20 rfl (CanCall.of Try.func20 rfl (by decide)) [0] fun Γ => ?_
  refine run_sound (⟨fun _ _ => .no, [], fun _ => none⟩) 400 (B := ((1 : Nat) = nat_lit 1 ∧ List.all (List.map T.v (Array.toList #[Value.bool false])) T.one = true) ∧ b = b ∧ (2 : Nat) + nat_lit 1 ≤ (3 : Nat) ∧ Q (T.tup []) [(b, Ob.cells [T.v (Value.string (ByteArray.mk (List.toArray (Dk.b d)))), T.v (Value.int IntKind.i64 (↑(Dk.n d) : Int)), T.v (Value.bool false)])] fun x => none) (by kernel_rfl) ?_
  repeat' (first | exact rfl | exact Nat.le_of_ble_eq_true rfl | refine And.intro ?_ ?_ | intro _ | refine bsplit_mk (fun _ => ?_) (fun _ => ?_))
  exact hQ
theorem crash_any (b : Nat) (d : Dk) (hd : d.Ok) (k : Int) (Q : T → Obs → Glb → Prop) (hQ : Q (.tup []) (obsK b (Jrn.crashD d k)) none_) : TCalls Try.prog 19 [.ptr 0 b 0, int k] (obsK b d) none_ Q := by
  have h1 := hd.l
  have h2 := hd.n
  have hr := ready_post b d
  unfold Jrn.crashD at hQ
  unfold Jrn.rdyE at hr
  by_cases ho : d.off = true
  · rw [if_pos ho] at hr
    rw [if_pos ho] at hQ
    refine TCalls.of Try.func19 rfl (CanCall.of Try.func19 rfl (by decide)) [0] fun Γ => ?_
    refine run_sound (⟨fun | 0, 1 => dkH 0 d (int 10) | _, _ => .no, [], fun | 1 => some ⟨[], [19], .take true [0,1,2,3,4,5,6,7,8,9,10,11,12,13,14,15,16,17,18] (.one 19 .done)⟩ | _ => none⟩) 400 (B := TCalls Try.prog (36 : Nat) [T.ptr (0 : Nat) b (0 : Nat)] [(b, Ob.cells [T.v (Value.string (ByteArray.mk (List.toArray (Dk.b d)))), T.v (Value.int IntKind.i64 (↑(Dk.n d) : Int)), T.v (Value.bool (Dk.off d))])] (fun x => none) (callPost (Hint.call false Unit (fun x => True) [(0 : Nat)] false (fun x => int (10 : Int)) (fun x => obsK b d) fun x => none_)) ∧ ∀ (a : Unit), True → Q (T.tup []) [(b, Ob.cells [T.v (Value.string (ByteArray.mk (List.toArray (Dk.b d)))), T.v (Value.int IntKind.i64 (↑(Dk.n d) : Int)), T.v (Value.bool (Dk.off d))])] fun x => none) (by kernel_rfl) ?_
    repeat' (first | exact rfl | exact Nat.le_of_ble_eq_true rfl | refine And.intro ?_ ?_ | intro _ | refine bsplit_mk (fun _ => ?_) (fun _ => ?_))
    all_goals first
      | exact hr
      | exact hQ
      | trace_state
  · rw [if_neg ho] at hr
    rw [if_neg ho] at hQ
    have hle := Jrn.crashN_le hd k
    refine TCalls.of Try.func19 rfl (CanCall.of Try.func19 rfl (by decide)) [0] fun Γ => ?_
    refine run_sound (⟨fun | 0, 1 => dkH 0 d (int 0) | 1, 18 => .res (int (Jrn.crashN d k)) | 1, 19 => dkH 0 (Jrn.keepD d (Jrn.crashN d k)) (.tup []) | _, _ => .no, [], fun | 1 => some ⟨[0], [19], .take true [0,1,2,3,4,5,6,7,8,9,10,11,12,13,14,15,16,17,18] (.one 19 .done)⟩ | _ => none⟩) 400 (B := TCalls Try.prog (36 : Nat) [T.ptr (0 : Nat) b (0 : Nat)] [(b, Ob.cells [T.v (Value.string (ByteArray.mk (List.toArray (Dk.b d)))), T.v (Value.int IntKind.i64 (↑(Dk.n d) : Int)), T.v (Value.bool (Dk.off d))])] (fun x => none) (callPost (Hint.call false Unit (fun x => True) [(0 : Nat)] false (fun x => int (0 : Int)) (fun x => obsK b d) fun x => none_)) ∧ ∀ (a : Unit), True → b = b ∧ b = b ∧ b = b ∧ T.v (Value.int IntKind.i64 (IntKind.wrap IntKind.i64 ((↑(Dk.n d) : Int) + if IntKind.wrap IntKind.i64 ((↑(ByteArray.size (ByteArray.mk (List.toArray (Dk.b d)))) : Int) - (↑(Dk.n d) : Int)) < if (0 : Int) > k then (0 : Int) else k then IntKind.wrap IntKind.i64 ((↑(ByteArray.size (ByteArray.mk (List.toArray (Dk.b d)))) : Int) - (↑(Dk.n d) : Int)) else if (0 : Int) > k then (0 : Int) else k))) = T.v (Value.int IntKind.i64 (↑(Jrn.crashN d k) : Int)) ∧ TCalls Try.prog (42 : Nat) [T.ptr (0 : Nat) b (0 : Nat), T.v (Value.int IntKind.i64 (↑(Jrn.crashN d k) : Int))] [(b, Ob.cells [T.v (Value.string (ByteArray.mk (List.toArray (Dk.b d)))), T.v (Value.int IntKind.i64 (↑(Dk.n d) : Int)), T.v (Value.bool (Dk.off d))])] (fun x => none) (callPost (Hint.call false Unit (fun x => True) [(0 : Nat)] false (fun x => T.tup []) (fun x => obsK b (Jrn.keepD d (Jrn.crashN d k))) fun x => none_)) ∧ ∀ (a : Unit), True → ((1 : Nat) = nat_lit 1 ∧ List.all (List.map T.v (Array.toList #[Value.bool true])) T.one = true) ∧ b = b ∧ (2 : Nat) + nat_lit 1 ≤ (3 : Nat) ∧ Q (T.tup []) [(b, Ob.cells [T.v (Value.string (ByteArray.mk (List.toArray (Dk.b (Jrn.keepD d (Jrn.crashN d k)))))), T.v (Value.int IntKind.i64 (↑(Dk.n (Jrn.keepD d (Jrn.crashN d k))) : Int)), T.v (Value.bool true)])] fun x => none) (by kernel_rfl) ?_
    repeat' (first | exact rfl | exact Nat.le_of_ble_eq_true rfl | refine And.intro ?_ ?_ | intro _ | refine bsplit_mk (fun _ => ?_) (fun _ => ?_))
    all_goals first
      | exact hr
      | exact keep_any b d _ hle _ (dk_post rfl)
      | exact hQ
      | (refine congrArg int ?_
         rw [bs_len, wrap_i64 (x := (d.b.length : Int) - d.n) (by omega) (by omega)]
         unfold Jrn.crashN at hle ⊢
         split <;> split <;> (rw [wrap_i64 (by omega) (by omega)]; omega))
      | trace_state
end X9
end Go.Proofs.Ytaepgceodcdnhaa.Vm
