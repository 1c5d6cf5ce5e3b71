/- Octets by the engine: the reader. -/
import Derived.Test.YtaepgceodcdnhaaDoorCD
import Derived.Test.YtaepgceodcdnhaaDoorOct2
namespace Go.Proofs.YtaepgceodcdnhaaDoor.Vm
open Go Go.RowKit
set_option maxRecDepth 100000
namespace X1
open Oct (getN takeL)
def rdC (l : List UInt8) (bad : Int) : List T := [str l, int bad]
def obsD (b : Nat) (l : List UInt8) (bad : Int) : Obs := [(b, .cells (rdC l bad))]
theorem read_any (l : List UInt8) (Q : T → Obs → Glb → Prop) (hQ : ∀ b, Q (.ptr 0 b 0) (obsD b l 0) none_) : TCalls Tryd.prog 39 [str l] [] none_ Q := by
  refine TCalls.of Tryd.func39 rfl (CanCall.of Tryd.func39 rfl (by decide)) [0] fun Γ => ?_
  refine run_sound (⟨fun _ _ => .no, [], fun _ => none⟩) 400 (B := ∀ (b : Nat), Q (T.ptr (0 : Nat) b (0 : Nat)) [(b, Ob.cells [T.v (Value.string (ByteArray.mk (List.toArray l))), T.v (Value.int IntKind.i64 (0 : Int))])] fun x => none) (by kernel_rfl) ?_
  repeat' (first | exact rfl | exact Nat.le_of_ble_eq_true rfl | refine And.intro ?_ ?_ | intro _ | refine bsplit_mk (fun _ => ?_) (fun _ => ?_))
  exact hQ _
theorem fail_any (b : Nat) (l : List UInt8) (bad e : Int) (Q : T → Obs → Glb → Prop) (hQ : Q (.tup []) (obsD b l (if bad = 0 then e else bad)) none_) : TCalls Tryd.prog 85 [.ptr 0 b 0, int e] (obsD b l bad) none_ Q := by
  by_cases hb : bad = 0
  · rw [if_pos hb] at hQ
    subst hb
    refine TCalls.of Tryd.func85 rfl (CanCall.of Tryd.func85 rfl (by decide)) [0] fun Γ => ?_
    refine run_sound (⟨fun _ _ => .no, [], fun _ => none⟩) 400 (B := b = b ∧ ((1 : Nat) = nat_lit 1 ∧ List.all (List.map T.v (Array.toList #[Value.int IntKind.i64 e])) T.one = true) ∧ b = b ∧ (1 : Nat) + nat_lit 1 ≤ (2 : Nat) ∧ Q (T.tup []) [(b, Ob.cells [T.v (Value.string (ByteArray.mk (List.toArray l))), T.v (Value.int IntKind.i64 e)])] fun x => none) (by kernel_rfl) ?_
    repeat' (first | exact rfl | exact Nat.le_of_ble_eq_true rfl | refine And.intro ?_ ?_ | intro _ | refine bsplit_mk (fun _ => ?_) (fun _ => ?_))
    all_goals first
      | exact hQ
      | (exfalso; rename_i h; simp at h; done)
      | trace_state
  · rw [if_neg hb] at hQ
    refine TCalls.of Tryd.func85 rfl (CanCall.of Tryd.func85 rfl (by decide)) [0] fun Γ => ?_
    refine run_sound (⟨fun _ _ => .no, [], fun _ => none⟩) 400 (B := b = b ∧ bsplit (bad == (0 : Int)) (((1 : Nat) = nat_lit 1 ∧ List.all (List.map T.v (Array.toList #[Value.int IntKind.i64 e])) T.one = true) ∧ b = b ∧ (1 : Nat) + nat_lit 1 ≤ (2 : Nat) ∧ Q (T.tup []) [(b, Ob.cells [T.v (Value.string (ByteArray.mk (List.toArray l))), T.v (Value.int IntKind.i64 e)])] fun x => none) (Q (T.tup []) [(b, Ob.cells [T.v (Value.string (ByteArray.mk (List.toArray l))), T.v (Value.int IntKind.i64 bad)])] fun x => none)) (by kernel_rfl) ?_
    repeat' (first | exact rfl | exact Nat.le_of_ble_eq_true rfl | refine And.intro ?_ ?_ | intro _ | refine bsplit_mk (fun _ => ?_) (fun _ => ?_))
    all_goals first
      | exact hQ
      | (exfalso; simp only [beq_iff_eq] at *; omega)
      | trace_state
/-- a reader's method, as a call tells it -/
def rdH (i : Nat) (l : List UInt8) (bad : Int) (x : T) : Hint := .withB fun B => told x [i] (obsD (B.getD i 0) l bad)
theorem fail_post (b : Nat) (l : List UInt8) (e : Int) : TCalls Tryd.prog 85 [.ptr 0 b 0, int e] (obsD b l 0) none_ (callPost (told (.tup []) [0] (obsD b l e))) :=
  fail_any b l 0 e _ (by rw [if_pos rfl]; exact ⟨(), trivial, rfl, rfl, Nat.le_of_ble_eq_true rfl, fun h => by cases h⟩)
theorem str_cut (l : List UInt8) (a b : Nat) : T.v (.string ((⟨l.toArray⟩ : ByteArray).extract a b)) = str ((l.take b).drop a) := by rw [bs_cut]; rfl
theorem take_any (b : Nat) (l : List UInt8) (hl : l.length ≤ 1000000000) (bad : Int) (frm : Nat) (hf : frm ≤ 1) (hfl : frm ≤ l.length) (n : Int) (hn : n ≤ 1000000000) (Q : T → Obs → Glb → Prop)
    (hQ : ∀ x, x = str (takeL l bad frm n).1 → Q x (obsD b (takeL l bad frm n).2.1 (takeL l bad frm n).2.2) none_) : TCalls Tryd.prog 86 [.ptr 0 b 0, int frm, int n] (obsD b l bad) none_ Q := by
  unfold takeL at hQ
  by_cases hb : bad ≠ 0
  · rw [if_pos hb] at hQ
    refine TCalls.of Tryd.func86 rfl (CanCall.of Tryd.func86 rfl (by decide)) [0] fun Γ => ?_
    refine run_sound (⟨fun _ _ => .no, [((0, 9), ([0, 1, 2], 1))], fun _ => none⟩) 400 (B := b = b ∧ bsplit (bad != (0 : Int)) (Q (T.v (Value.string (ByteArray.mk (#[])))) [(b, Ob.cells [T.v (Value.string (ByteArray.mk (List.toArray l))), T.v (Value.int IntKind.i64 bad)])] fun x => none) (bsplit (decide (n < (0 : Int))) False (b = b ∧ bsplit (decide (n > IntKind.wrap IntKind.i64 ((↑(ByteArray.size (ByteArray.mk (List.toArray l))) : Int) - (↑frm : Int)))) False (TWk Tryd.prog Γ (fin Tryd.prog Tryd.f86 [(0 : Nat)] Q) [It.code (sub (bd Tryd.f86) [(1 : Nat), (1 : Nat)])] { fr := [T.ptr (0 : Nat) b (0 : Nat), T.v (Value.int IntKind.i64 (↑frm : Int)), T.v (Value.int IntKind.i64 n), T.und, T.und, T.und, T.und, T.und, T.und, T.und, T.und, T.und, T.und, T.und, T.und, T.und, T.und, T.und, T.und, T.und, T.und, T.und, T.und, T.und, T.und, T.und, T.und, T.und, T.und, T.und, T.und, T.und, T.und, T.und, T.und, T.und, T.und, T.und, T.und, T.und, T.und, T.und, T.und, T.und, T.und, T.und, T.und, T.und, T.und, T.und, T.und, T.und], ob := [(b, Ob.cells [T.v (Value.string (ByteArray.mk (List.toArray l))), T.v (Value.int IntKind.i64 bad)])], gl := fun x => none })))) (by kernel_rfl) ?_
    repeat' (first | exact rfl | exact Nat.le_of_ble_eq_true rfl | refine And.intro ?_ ?_ | intro _ | refine bsplit_mk (fun _ => ?_) (fun _ => ?_))
    all_goals first
      | exact hQ _ rfl
      | (exfalso; simp only [bne_eq_false_iff_eq] at *; omega)
      | trace_state
  · rw [if_neg hb] at hQ
    have hb0 : bad = 0 := by omega
    subst hb0
    by_cases h0 : n < 0
    · rw [if_pos h0] at hQ
      refine TCalls.of Tryd.func86 rfl (CanCall.of Tryd.func86 rfl (by decide)) [0] fun Γ => ?_
      refine run_sound (⟨fun | 4, 1 => rdH 0 l 4 (.tup []) | _, _ => .no, [((0, 6), ([0, 1, 2], 1))], fun  | _ => none⟩) 400 (B := b = b ∧ bsplit (decide (n < (0 : Int))) (TCalls Tryd.prog (85 : Nat) [T.ptr (0 : Nat) b (0 : Nat), T.v (Value.int IntKind.i64 (4 : Int))] [(b, Ob.cells [T.v (Value.string (ByteArray.mk (List.toArray l))), T.v (Value.int IntKind.i64 (0 : Int))])] (fun x => none) (callPost (Hint.call false Unit (fun x => True) [(0 : Nat)] false (fun x => T.tup []) (fun x => obsD b l (4 : Int)) fun x => none_)) ∧ ∀ (a : Unit), True → Q (T.v (Value.string (ByteArray.mk (#[])))) [(b, Ob.cells [T.v (Value.string (ByteArray.mk (List.toArray l))), T.v (Value.int IntKind.i64 (4 : Int))])] fun x => none) (TWk Tryd.prog Γ (fin Tryd.prog Tryd.f86 [(0 : Nat)] Q) [It.code (sub (bd Tryd.f86) [(1 : Nat), (0 : Nat), (0 : Nat), (1 : Nat), (1 : Nat), (1 : Nat), (1 : Nat)]), It.blk (0 : Nat), It.code (sub (bd Tryd.f86) [(1 : Nat), (1 : Nat)])] { fr := [T.ptr (0 : Nat) b (0 : Nat), T.v (Value.int IntKind.i64 (↑frm : Int)), T.v (Value.int IntKind.i64 n), T.und, T.und, T.und, T.und, T.und, T.und, T.und, T.und, T.und, T.und, T.und, T.und, T.und, T.und, T.und, T.und, T.und, T.und, T.und, T.und, T.und, T.und, T.und, T.und, T.und, T.und, T.und, T.und, T.und, T.und, T.und, T.und, T.und, T.und, T.und, T.und, T.und, T.und, T.und, T.und, T.und, T.und, T.und, T.und, T.und, T.und, T.und, T.und, T.und], ob := [(b, Ob.cells [T.v (Value.string (ByteArray.mk (List.toArray l))), T.v (Value.int IntKind.i64 (0 : Int))])], gl := fun x => none })) (by kernel_rfl) ?_
      repeat' (first | exact rfl | exact Nat.le_of_ble_eq_true rfl | refine And.intro ?_ ?_ | intro _ | refine bsplit_mk (fun _ => ?_) (fun _ => ?_))
      all_goals first
        | exact fail_post b l 4
        | exact hQ _ rfl
        | (exfalso; rename_i h; simp at h; done)
        | (exfalso; simp only [decide_eq_false_iff_not] at *; omega)
        | trace_state
    · rw [if_neg h0] at hQ
      have hw : IntKind.wrap .i64 (((⟨l.toArray⟩ : ByteArray).size : Int) - frm) = (l.length : Int) - frm := by rw [bs_len, wrap_i64 (by omega) (by omega)]
      by_cases h1 : n > (l.length : Int) - frm
      · rw [if_pos h1] at hQ
        refine TCalls.of Tryd.func86 rfl (CanCall.of Tryd.func86 rfl (by decide)) [0] fun Γ => ?_
        refine run_sound (⟨fun | 7, 1 => rdH 0 l 2 (.tup []) | _, _ => .no, [((0, 4), ([0], 1)), ((0, 9), ([0, 1, 2], 1))], fun  | _ => none⟩) 400 (B := b = b ∧ bsplit (decide (n < (0 : Int))) (TWk Tryd.prog Γ (fin Tryd.prog Tryd.f86 [(0 : Nat)] Q) [It.code (sub (bd Tryd.f86) [(1 : Nat), (0 : Nat), (0 : Nat), (1 : Nat), (1 : Nat), (1 : Nat), (0 : Nat)]), It.blk (0 : Nat), It.code (sub (bd Tryd.f86) [(1 : Nat), (1 : Nat)])] { fr := [T.ptr (0 : Nat) b (0 : Nat), T.und, T.und, T.und, T.und, T.und, T.und, T.und, T.und, T.und, T.und, T.und, T.und, T.und, T.und, T.und, T.und, T.und, T.und, T.und, T.und, T.und, T.und, T.und, T.und, T.und, T.und, T.und, T.und, T.und, T.und, T.und, T.und, T.und, T.und, T.und, T.und, T.und, T.und, T.und, T.und, T.und, T.und, T.und, T.und, T.und, T.und, T.und, T.und, T.und, T.und, T.und], ob := [(b, Ob.cells [T.v (Value.string (ByteArray.mk (List.toArray l))), T.v (Value.int IntKind.i64 (0 : Int))])], gl := fun x => none }) (b = b ∧ bsplit (decide (n > IntKind.wrap IntKind.i64 ((↑(ByteArray.size (ByteArray.mk (List.toArray l))) : Int) - (↑frm : Int)))) (TCalls Tryd.prog (85 : Nat) [T.ptr (0 : Nat) b (0 : Nat), T.v (Value.int IntKind.i64 (2 : Int))] [(b, Ob.cells [T.v (Value.string (ByteArray.mk (List.toArray l))), T.v (Value.int IntKind.i64 (0 : Int))])] (fun x => none) (callPost (Hint.call false Unit (fun x => True) [(0 : Nat)] false (fun x => T.tup []) (fun x => obsD b l (2 : Int)) fun x => none_)) ∧ ∀ (a : Unit), True → Q (T.v (Value.string (ByteArray.mk (#[])))) [(b, Ob.cells [T.v (Value.string (ByteArray.mk (List.toArray l))), T.v (Value.int IntKind.i64 (2 : Int))])] fun x => none) (TWk Tryd.prog Γ (fin Tryd.prog Tryd.f86 [(0 : Nat)] Q) [It.code (sub (bd Tryd.f86) [(1 : Nat), (1 : Nat)])] { fr := [T.ptr (0 : Nat) b (0 : Nat), T.v (Value.int IntKind.i64 (↑frm : Int)), T.v (Value.int IntKind.i64 n), T.und, T.und, T.und, T.und, T.und, T.und, T.und, T.und, T.und, T.und, T.und, T.und, T.und, T.und, T.und, T.und, T.und, T.und, T.und, T.und, T.und, T.und, T.und, T.und, T.und, T.und, T.und, T.und, T.und, T.und, T.und, T.und, T.und, T.und, T.und, T.und, T.und, T.und, T.und, T.und, T.und, T.und, T.und, T.und, T.und, T.und, T.und, T.und, T.und], ob := [(b, Ob.cells [T.v (Value.string (ByteArray.mk (List.toArray l))), T.v (Value.int IntKind.i64 (0 : Int))])], gl := fun x => none }))) (by kernel_rfl) ?_
        rw [hw]
        repeat' (first | exact rfl | exact Nat.le_of_ble_eq_true rfl | refine And.intro ?_ ?_ | intro _ | refine bsplit_mk (fun _ => ?_) (fun _ => ?_))
        all_goals first
          | exact fail_post b l 2
          | exact hQ _ rfl
          | (exfalso; rename_i h; simp at h; done)
          | (exfalso; simp only [decide_eq_false_iff_not, decide_eq_true_eq] at *; omega)
          | trace_state
      · rw [if_neg h1] at hQ
        obtain ⟨k, rfl⟩ : ∃ k : Nat, n = k := ⟨n.toNat, by omega⟩
        have hw2 : IntKind.wrap .i64 ((frm : Int) + k) = ((frm + k : Nat) : Int) := by rw [wrap_i64 (by omega) (by omega)]; omega
        have e1 : ((frm : Int) + (k : Int)).toNat = frm + k := by omega
        rw [e1, Int.toNat_natCast] at hQ
        have c1 : T.v (.string ((⟨l.toArray⟩ : ByteArray).extract frm (frm + k))) = str ((l.take (frm + k)).drop frm) := str_cut _ _ _
        have c2 : T.v (.string ((⟨l.toArray⟩ : ByteArray).extract (frm + k) (⟨l.toArray⟩ : ByteArray).size)) = str (l.drop (frm + k)) := by rw [str_cut, bs_len, List.take_length]
        have hq : Q (str ((l.take (frm + k)).drop frm)) [(b, .cells [str (l.drop (frm + k)), int 0])] none_ := hQ _ rfl
        rw [← c1, ← c2] at hq
        refine TCalls.of Tryd.func86 rfl (CanCall.of Tryd.func86 rfl (by decide)) [0] fun Γ => ?_
        refine run_sound (⟨fun _ _ => .no, [((0, 4), ([0], 1)), ((0, 7), ([0], 1))], fun _ => none⟩) 400 (B := b = b ∧ b = b ∧ bsplit (decide ((↑k : Int) > IntKind.wrap IntKind.i64 ((↑(ByteArray.size (ByteArray.mk (List.toArray l))) : Int) - (↑frm : Int)))) (TWk Tryd.prog Γ (fin Tryd.prog Tryd.f86 [(0 : Nat)] Q) [It.code (sub (bd Tryd.f86) [(1 : Nat), (0 : Nat), (0 : Nat), (1 : Nat), (1 : Nat), (1 : Nat), (1 : Nat), (1 : Nat), (0 : Nat)]), It.blk (0 : Nat), It.code (sub (bd Tryd.f86) [(1 : Nat), (1 : Nat)])] { fr := [T.ptr (0 : Nat) b (0 : Nat), T.und, T.und, T.und, T.und, T.und, T.und, T.und, T.und, T.und, T.und, T.und, T.und, T.und, T.und, T.und, T.und, T.und, T.und, T.und, T.und, T.und, T.und, T.und, T.und, T.und, T.und, T.und, T.und, T.und, T.und, T.und, T.und, T.und, T.und, T.und, T.und, T.und, T.und, T.und, T.und, T.und, T.und, T.und, T.und, T.und, T.und, T.und, T.und, T.und, T.und, T.und], ob := [(b, Ob.cells [T.v (Value.string (ByteArray.mk (List.toArray l))), T.v (Value.int IntKind.i64 (0 : Int))])], gl := fun x => none }) (b = b ∧ ((0 : Int) ≤ Prod.snd (IntKind.i64, (↑frm : Int)) ∧ Prod.snd (IntKind.i64, (↑frm : Int)) ≤ Prod.snd (IntKind.i64, IntKind.wrap IntKind.i64 ((↑frm : Int) + (↑k : Int))) ∧ Prod.snd (IntKind.i64, IntKind.wrap IntKind.i64 ((↑frm : Int) + (↑k : Int))) ≤ (↑(ByteArray.size (ByteArray.mk (List.toArray l))) : Int)) ∧ b = b ∧ ((0 : Int) ≤ Prod.snd (IntKind.i64, IntKind.wrap IntKind.i64 ((↑frm : Int) + (↑k : Int))) ∧ Prod.snd (IntKind.i64, IntKind.wrap IntKind.i64 ((↑frm : Int) + (↑k : Int))) ≤ (↑(ByteArray.size (ByteArray.mk (List.toArray l))) : Int) ∧ (↑(ByteArray.size (ByteArray.mk (List.toArray l))) : Int) ≤ (↑(ByteArray.size (ByteArray.mk (List.toArray l))) : Int)) ∧ ((1 : Nat) = nat_lit 1 ∧ List.all (List.map T.v (Array.toList #[Value.string (ByteArray.extract (ByteArray.mk (List.toArray l)) (Int.toNat (Prod.snd (IntKind.i64, IntKind.wrap IntKind.i64 ((↑frm : Int) + (↑k : Int))))) (Int.toNat (↑(ByteArray.size (ByteArray.mk (List.toArray l))) : Int)))])) T.one = true) ∧ b = b ∧ (0 : Nat) + nat_lit 1 ≤ (2 : Nat) ∧ Q (T.v (Value.string (ByteArray.extract (ByteArray.mk (List.toArray l)) (Int.toNat (Prod.snd (IntKind.i64, (↑frm : Int)))) (Int.toNat (Prod.snd (IntKind.i64, IntKind.wrap IntKind.i64 ((↑frm : Int) + (↑k : Int)))))))) [(b, Ob.cells [T.v (Value.string (ByteArray.extract (ByteArray.mk (List.toArray l)) (Int.toNat (Prod.snd (IntKind.i64, IntKind.wrap IntKind.i64 ((↑frm : Int) + (↑k : Int))))) (Int.toNat (↑(ByteArray.size (ByteArray.mk (List.toArray l))) : Int)))), T.v (Value.int IntKind.i64 (0 : Int))])] fun x => none)) (by kernel_rfl) ?_
        rw [hw, hw2]
        repeat' (first | exact rfl | exact Nat.le_of_ble_eq_true rfl | refine And.intro ?_ ?_ | intro _ | refine bsplit_mk (fun _ => ?_) (fun _ => ?_))
        all_goals first
          | (exfalso; rename_i h; simp at h; done)
          | (exfalso; simp only [decide_eq_false_iff_not, decide_eq_true_eq] at *; omega)
          | omega
          | (rw [bs_len]; omega)
          | exact hq
          | trace_state
theorem raw_any (b : Nat) (l : List UInt8) (hl : l.length ≤ 1000000000) (bad : Int) (n : Int) (hn : n ≤ 1000000000) (Q : T → Obs → Glb → Prop)
    (hQ : ∀ x, x = str (takeL l bad 0 n).1 → Q x (obsD b (takeL l bad 0 n).2.1 (takeL l bad 0 n).2.2) none_) : TCalls Tryd.prog 89 [.ptr 0 b 0, int n] (obsD b l bad) none_ Q := by
  have h : TCalls Tryd.prog 86 [.ptr 0 b 0, int 0, int n] (obsD b l bad) none_ (callPost (told (str (takeL l bad 0 n).1) [0] (obsD b (takeL l bad 0 n).2.1 (takeL l bad 0 n).2.2))) :=
    take_any b l hl bad 0 (by decide) (Nat.zero_le _) n hn _ (fun y hy => ⟨(), trivial, hy, rfl, Nat.le_of_ble_eq_true rfl, fun h => by cases h⟩)
  generalize takeL l bad 0 n = q at *
  refine TCalls.of Tryd.func89 rfl (CanCall.of Tryd.func89 rfl (by decide)) [0] fun Γ => ?_
  refine run_sound (⟨fun | 3, 2 => rdH 0 q.2.1 q.2.2 (str q.1) | _, _ => .no, [], fun  | _ => none⟩) 400 (B := TCalls Tryd.prog (86 : Nat) [T.ptr (0 : Nat) b (0 : Nat), T.v (Value.int IntKind.i64 (0 : Int)), T.v (Value.int IntKind.i64 n)] [(b, Ob.cells [T.v (Value.string (ByteArray.mk (List.toArray l))), T.v (Value.int IntKind.i64 bad)])] (fun x => none) (callPost (Hint.call false Unit (fun x => True) [(0 : Nat)] false (fun x => str (Prod.fst q)) (fun x => obsD b (Prod.fst (Prod.snd q)) (Prod.snd (Prod.snd q))) fun x => none_)) ∧ ∀ (a : Unit), True → Q (T.v (Value.string (ByteArray.mk (List.toArray (Prod.fst q))))) [(b, Ob.cells [T.v (Value.string (ByteArray.mk (List.toArray (Prod.fst (Prod.snd q))))), T.v (Value.int IntKind.i64 (Prod.snd (Prod.snd q)))])] fun x => none) (by kernel_rfl) ?_
  repeat' (first | exact rfl | exact Nat.le_of_ble_eq_true rfl | refine And.intro ?_ ?_ | intro _ | refine bsplit_mk (fun _ => ?_) (fun _ => ?_))
  all_goals first
    | exact hQ _ rfl
    | exact h
    | trace_state
theorem orT (N c : Nat) (hN : N * 256 + 256 ≤ 18446744073709551616) (hc : c < 256) : T.v (.int .u64 (IntKind.wrap .u64 ((BitVec.ofInt 64 ((N * 256 : Nat) : Int) ||| BitVec.ofInt 64 (c : Int)).toNat : Int))) = u64 ((256 * N + c : Nat) : Int) := by
  have e : (BitVec.ofInt 64 ((N * 256 : Nat) : Int) ||| BitVec.ofInt 64 (c : Int)).toNat = 256 * N + c := by
    rw [BitVec.toNat_or, BitVec.ofInt_natCast, BitVec.ofInt_natCast, BitVec.toNat_ofNat, BitVec.toNat_ofNat, Nat.mod_eq_of_lt (by omega), Nat.mod_eq_of_lt (by omega), Nat.mul_comm N 256]
    exact (Nat.two_pow_add_eq_or_of_lt (i := 8) (b := c) (by omega) N).symm
  rw [e, IntKind.wrap_u64]
  exact congrArg u64 (by omega)
theorem num_loop (Γ : Ctx) (b : Nat) (l d : List UInt8) (bad : Int) (hd : d.length ≤ 8) (Q : T → Obs → Glb → Prop) (hQ : ∀ x, x = u64 (getN d) → Q x (obsD b l bad) none_) : ∀ (f i : Nat), i + f = d.length →
    TWk Tryd.prog Γ (fin Tryd.prog Tryd.f68 [0] Q) [.code (sub (bd Tryd.f68) [1, 1, 1, 0, 1, 0]), .blk 1, .code (sub (bd Tryd.f68) [1, 1, 1, 1])] ⟨frame 36 [(5, u64 (getN (d.take i))), (23, .sl 1 (bL d)), (24, int (bL d).length), (25, int i)], obsD b l bad, none_⟩ := by
  intro f
  induction f with
  | zero =>
    intro i hi
    obtain rfl : i = d.length := by omega
    rw [List.take_length]
    refine run_sound (⟨fun | 9, 0 => .res (u8 0) | _, _ => .no, [((2, 8), ([5, 23, 24, 25], 1))], fun  | _ => none⟩) 400 (B := bsplit (decide ((↑(List.length d) : Int) < (↑(List.length (List.map (fun c => T.v (Value.int IntKind.u8 (↑(UInt8.toNat c) : Int))) d)) : Int))) ((0 : Int) ≤ (↑(List.length d) : Int) ∧ (List.map (fun c => T.v (Value.int IntKind.u8 (↑(UInt8.toNat c) : Int))) d)[Int.toNat (↑(List.length d) : Int)]? = some (T.v (Value.int IntKind.u8 (0 : Int))) ∧ TWk Tryd.prog Γ (fin Tryd.prog Tryd.f68 [(0 : Nat)] Q) [It.code (sub (bd Tryd.f68) [(1 : Nat), (1 : Nat), (1 : Nat), (0 : Nat), (1 : Nat), (0 : Nat)]), It.blk (1 : Nat), It.code (sub (bd Tryd.f68) [(1 : Nat), (1 : Nat), (1 : Nat), (1 : Nat)])] { fr := [T.und, T.und, T.und, T.und, T.und, T.v (Value.int IntKind.u64 (IntKind.wrap IntKind.u64 (↑(BitVec.toNat (BitVec.ofInt (64 : Nat) (IntKind.wrap IntKind.u64 ((↑(getN d) : Int) * (2 : Int) ^ min (Int.toNat (8 : Int)) (64 : Nat))) ||| BitVec.ofInt (64 : Nat) (IntKind.wrap IntKind.u64 (0 : Int)))) : Int))), T.und, T.und, T.und, T.und, T.und, T.und, T.und, T.und, T.und, T.und, T.und, T.und, T.und, T.und, T.und, T.und, T.und, T.sl (1 : Nat) (List.map (fun c => T.v (Value.int IntKind.u8 (↑(UInt8.toNat c) : Int))) d), T.v (Value.int IntKind.i64 (↑(List.length (List.map (fun c => T.v (Value.int IntKind.u8 (↑(UInt8.toNat c) : Int))) d)) : Int)), T.v (Value.int IntKind.i64 (IntKind.wrap IntKind.i64 ((↑(List.length d) : Int) + (1 : Int)))), T.und, T.und, T.und, T.und, T.und, T.und, T.und, T.und, T.und, T.und], ob := [(b, Ob.cells [T.v (Value.string (ByteArray.mk (List.toArray l))), T.v (Value.int IntKind.i64 bad)])], gl := fun x => none }) (Q (T.v (Value.int IntKind.u64 (↑(getN d) : Int))) [(b, Ob.cells [T.v (Value.string (ByteArray.mk (List.toArray l))), T.v (Value.int IntKind.i64 bad)])] fun x => none)) (by kernel_rfl) ?_
    repeat' (first | exact rfl | exact Nat.le_of_ble_eq_true rfl | refine And.intro ?_ ?_ | intro _ | refine bsplit_mk (fun _ => ?_) (fun _ => ?_))
    all_goals first
      | exact hQ _ rfl
      | (exfalso; simp only [decide_eq_true_eq, List.length_map] at *; omega)
      | trace_state
  | succ f ih =>
    intro i hi
    have hlt : i < d.length := by omega
    have nx := ih (i + 1) (by omega)
    rw [List.take_succ_eq_append_getElem hlt, Oct.getN_snoc] at nx
    have hN := Oct.getN_lt (d.take i)
    have hlen : (d.take i).length = i := by rw [List.length_take]; omega
    rw [hlen] at hN
    have h8 := Oct.pow_le8 (i + 1) (by omega)
    rw [Nat.pow_succ] at h8
    have hc := (d[i]).toNat_lt
    have hx : (bL d)[(i : Int).toNat]? = some (u8 (d[i]).toNat) := by rw [Int.toNat_natCast, bL, List.getElem?_map, List.getElem?_eq_getElem hlt]; rfl
    have hw : IntKind.wrap .i64 ((i : Int) + 1) = ((i + 1 : Nat) : Int) := by rw [wrap_i64 (by omega) (by omega)]; omega
    generalize getN (d.take i) = N at *
    generalize 256 ^ i = p at *
    have hs : T.v (.int .u64 (IntKind.wrap .u64 ((N : Int) * 256))) = u64 (N * 256 : Nat) := by rw [IntKind.wrap_u64]; exact congrArg u64 (by omega)
    have hcv : T.v (.int .u64 (IntKind.wrap .u64 ((d[i]).toNat : Int))) = u64 (d[i]).toNat := by rw [IntKind.wrap_u64]; exact congrArg u64 (by omega)
    refine run_sound (⟨fun | 9, 0 => .res (u8 (d[i]).toNat) | 10, 1 => .res (u64 (N * 256 : Nat)) | 10, 3 => .res (u64 (d[i]).toNat) | 10, 4 => .res (u64 (256 * N + (d[i]).toNat : Nat)) | _, _ => .no, [((2, 8), ([5, 23, 24, 25], 1))], fun  | _ => none⟩) 400 (B := bsplit (decide ((↑i : Int) < (↑(List.length (List.map (fun c => T.v (Value.int IntKind.u8 (↑(UInt8.toNat c) : Int))) d)) : Int))) ((0 : Int) ≤ (↑i : Int) ∧ (List.map (fun c => T.v (Value.int IntKind.u8 (↑(UInt8.toNat c) : Int))) d)[Int.toNat (↑i : Int)]? = some (T.v (Value.int IntKind.u8 (↑(UInt8.toNat d[i]) : Int))) ∧ T.v (Value.int IntKind.u64 (IntKind.wrap IntKind.u64 ((↑N : Int) * (2 : Int) ^ min (Int.toNat (8 : Int)) (64 : Nat)))) = T.v (Value.int IntKind.u64 (↑(N * (256 : Nat)) : Int)) ∧ T.v (Value.int IntKind.u64 (IntKind.wrap IntKind.u64 (↑(UInt8.toNat d[i]) : Int))) = T.v (Value.int IntKind.u64 (↑(UInt8.toNat d[i]) : Int)) ∧ T.v (Value.int IntKind.u64 (IntKind.wrap IntKind.u64 (↑(BitVec.toNat (BitVec.ofInt (64 : Nat) (↑(N * (256 : Nat)) : Int) ||| BitVec.ofInt (64 : Nat) (↑(UInt8.toNat d[i]) : Int))) : Int))) = T.v (Value.int IntKind.u64 (↑((256 : Nat) * N + UInt8.toNat d[i]) : Int)) ∧ TWk Tryd.prog Γ (fin Tryd.prog Tryd.f68 [(0 : Nat)] Q) [It.code (sub (bd Tryd.f68) [(1 : Nat), (1 : Nat), (1 : Nat), (0 : Nat), (1 : Nat), (0 : Nat)]), It.blk (1 : Nat), It.code (sub (bd Tryd.f68) [(1 : Nat), (1 : Nat), (1 : Nat), (1 : Nat)])] { fr := [T.und, T.und, T.und, T.und, T.und, T.v (Value.int IntKind.u64 (↑((256 : Nat) * N + UInt8.toNat d[i]) : Int)), T.und, T.und, T.und, T.und, T.und, T.und, T.und, T.und, T.und, T.und, T.und, T.und, T.und, T.und, T.und, T.und, T.und, T.sl (1 : Nat) (List.map (fun c => T.v (Value.int IntKind.u8 (↑(UInt8.toNat c) : Int))) d), T.v (Value.int IntKind.i64 (↑(List.length (List.map (fun c => T.v (Value.int IntKind.u8 (↑(UInt8.toNat c) : Int))) d)) : Int)), T.v (Value.int IntKind.i64 (IntKind.wrap IntKind.i64 ((↑i : Int) + (1 : Int)))), T.und, T.und, T.und, T.und, T.und, T.und, T.und, T.und, T.und, T.und], ob := [(b, Ob.cells [T.v (Value.string (ByteArray.mk (List.toArray l))), T.v (Value.int IntKind.i64 bad)])], gl := fun x => none }) (Q (T.v (Value.int IntKind.u64 (↑N : Int))) [(b, Ob.cells [T.v (Value.string (ByteArray.mk (List.toArray l))), T.v (Value.int IntKind.i64 bad)])] fun x => none)) (by kernel_rfl) ?_
    rw [hw]
    repeat' (first | exact rfl | exact Nat.le_of_ble_eq_true rfl | refine And.intro ?_ ?_ | intro _ | refine bsplit_mk (fun _ => ?_) (fun _ => ?_))
    all_goals first
      | exact hx
      | exact orT N _ (by omega) (by omega)
      | exact hs
      | exact hcv
      | exact nx
      | omega
      | (exfalso; simp only [decide_eq_false_iff_not, List.length_map] at *; omega)
      | (clear nx ih; trace_state)
theorem rdnum_any (b : Nat) (l : List UInt8) (hl : l.length ≤ 1000000000) (bad : Int) (z : Nat) (hz : 1 ≤ z ∧ z ≤ 8) (Q : T → Obs → Glb → Prop)
    (hQ : ∀ x, x = u64 (getN (takeL l bad 0 z).1) → Q x (obsD b (takeL l bad 0 z).2.1 (takeL l bad 0 z).2.2) none_) : TCalls Tryd.prog 68 [.ptr 0 b 0, int z] (obsD b l bad) none_ Q := by
  have h8 := Oct.takeL_len l bad z (by omega) (by omega)
  have h : TCalls Tryd.prog 86 [.ptr 0 b 0, int 0, int z] (obsD b l bad) none_ (callPost (told (str (takeL l bad 0 z).1) [0] (obsD b (takeL l bad 0 z).2.1 (takeL l bad 0 z).2.2))) :=
    take_any b l hl bad 0 (by decide) (Nat.zero_le _) z (by omega) _ (fun y hy => ⟨(), trivial, hy, rfl, Nat.le_of_ble_eq_true rfl, fun h => by cases h⟩)
  generalize takeL l bad 0 z = q at *
  have lp := fun Γ => num_loop Γ b q.2.1 q.1 q.2.2 h8 Q hQ q.1.length 0 (by omega)
  refine TCalls.of Tryd.func68 rfl (CanCall.of Tryd.func68 rfl (by decide)) [0] fun Γ => ?_
  refine run_sound (⟨fun | 7, 2 => rdH 0 q.2.1 q.2.2 (str q.1) | _, _ => .no, [((2, 8), ([5, 23, 24, 25], 1)), ((0, 4), ([0], 1))], fun  | _ => none⟩) 400 (B := bsplit (decide ((↑z : Int) < (1 : Int))) (TWk Tryd.prog Γ (fin Tryd.prog Tryd.f68 [(0 : Nat)] Q) [It.code (sub (bd Tryd.f68) [(1 : Nat), (0 : Nat), (0 : Nat), (1 : Nat), (1 : Nat), (1 : Nat), (0 : Nat)]), It.blk (0 : Nat), It.code (sub (bd Tryd.f68) [(1 : Nat), (1 : Nat)])] { fr := [T.ptr (0 : Nat) b (0 : Nat), T.und, T.und, T.und, T.und, T.und, T.und, T.und, T.und, T.und, T.und, T.und, T.und, T.und, T.und, T.und, T.und, T.und, T.und, T.und, T.und, T.und, T.und, T.und, T.und, T.und, T.und, T.und, T.und, T.und, T.und, T.und, T.und, T.und, T.und, T.und], ob := [(b, Ob.cells [T.v (Value.string (ByteArray.mk (List.toArray l))), T.v (Value.int IntKind.i64 bad)])], gl := fun x => none }) (bsplit (decide ((↑z : Int) > (8 : Int))) (TWk Tryd.prog Γ (fin Tryd.prog Tryd.f68 [(0 : Nat)] Q) [It.code (sub (bd Tryd.f68) [(1 : Nat), (0 : Nat), (0 : Nat), (1 : Nat), (1 : Nat), (1 : Nat), (0 : Nat)]), It.blk (0 : Nat), It.code (sub (bd Tryd.f68) [(1 : Nat), (1 : Nat)])] { fr := [T.ptr (0 : Nat) b (0 : Nat), T.und, T.und, T.und, T.und, T.und, T.und, T.und, T.und, T.und, T.und, T.und, T.und, T.und, T.und, T.und, T.und, T.und, T.und, T.und, T.und, T.und, T.und, T.und, T.und, T.und, T.und, T.und, T.und, T.und, T.und, T.und, T.und, T.und, T.und, T.und], ob := [(b, Ob.cells [T.v (Value.string (ByteArray.mk (List.toArray l))), T.v (Value.int IntKind.i64 bad)])], gl := fun x => none }) (TCalls Tryd.prog (86 : Nat) [T.ptr (0 : Nat) b (0 : Nat), T.v (Value.int IntKind.i64 (0 : Int)), T.v (Value.int IntKind.i64 (↑z : Int))] [(b, Ob.cells [T.v (Value.string (ByteArray.mk (List.toArray l))), T.v (Value.int IntKind.i64 bad)])] (fun x => none) (callPost (Hint.call false Unit (fun x => True) [(0 : Nat)] false (fun x => str (Prod.fst q)) (fun x => obsD b (Prod.fst (Prod.snd q)) (Prod.snd (Prod.snd q))) fun x => none_)) ∧ ∀ (a : Unit), True → ByteArray.size (ByteArray.mk (List.toArray (Prod.fst q))) ≤ (140737488355328 : Nat) ∧ TWk Tryd.prog Γ (fin Tryd.prog Tryd.f68 [(0 : Nat)] Q) [It.code (sub (bd Tryd.f68) [(1 : Nat), (1 : Nat), (1 : Nat), (0 : Nat), (1 : Nat), (0 : Nat)]), It.blk (1 : Nat), It.code (sub (bd Tryd.f68) [(1 : Nat), (1 : Nat), (1 : Nat), (1 : Nat)])] { fr := [T.und, T.und, T.und, T.und, T.und, T.v (Value.int IntKind.u64 (0 : Int)), T.und, T.und, T.und, T.und, T.und, T.und, T.und, T.und, T.und, T.und, T.und, T.und, T.und, T.und, T.und, T.und, T.und, T.sl (1 : Nat) (List.map (fun c => T.v (Value.int IntKind.u8 (↑(UInt8.toNat c) : Int))) (Array.toList (ByteArray.data (ByteArray.mk (List.toArray (Prod.fst q)))))), T.v (Value.int IntKind.i64 (↑(List.length (List.map (fun c => T.v (Value.int IntKind.u8 (↑(UInt8.toNat c) : Int))) (Array.toList (ByteArray.data (ByteArray.mk (List.toArray (Prod.fst q))))))) : Int)), T.v (Value.int IntKind.i64 (0 : Int)), T.und, T.und, T.und, T.und, T.und, T.und, T.und, T.und, T.und, T.und], ob := [(b, Ob.cells [T.v (Value.string (ByteArray.mk (List.toArray (Prod.fst (Prod.snd q))))), T.v (Value.int IntKind.i64 (Prod.snd (Prod.snd q)))])], gl := fun x => none }))) (by kernel_rfl) ?_
  repeat' (first | exact rfl | exact Nat.le_of_ble_eq_true rfl | refine And.intro ?_ ?_ | intro _ | refine bsplit_mk (fun _ => ?_) (fun _ => ?_))
  all_goals first
    | exact h
    | exact lp Γ
    | omega
    | (rw [bs_len]; omega)
    | (exfalso; simp only [decide_eq_true_eq] at *; omega)
    | trace_state
theorem text_any (b : Nat) (l : List UInt8) (hl : l.length ≤ 1000000000) (bad : Int) (Q : T → Obs → Glb → Prop)
    (hQ0 : l = [] → ∀ x, x = str (takeL l bad 0 1).1 → Q x (obsD b (takeL l bad 0 1).2.1 (takeL l bad 0 1).2.2) none_)
    (hQ : ∀ c r, l = c :: r → ∀ x, x = str (takeL l bad 1 c.toNat).1 → Q x (obsD b (takeL l bad 1 c.toNat).2.1 (takeL l bad 1 c.toNat).2.2) none_) : TCalls Tryd.prog 87 [.ptr 0 b 0] (obsD b l bad) none_ Q := by
  by_cases hl0 : l = []
  · have h : TCalls Tryd.prog 86 [.ptr 0 b 0, int 0, int 1] (obsD b l bad) none_ (callPost (told (str (takeL l bad 0 1).1) [0] (obsD b (takeL l bad 0 1).2.1 (takeL l bad 0 1).2.2))) :=
      take_any b l hl bad 0 (by decide) (Nat.zero_le _) 1 (by omega) _ (fun y hy => ⟨(), trivial, hy, rfl, Nat.le_of_ble_eq_true rfl, fun h => by cases h⟩)
    have h0 := hQ0 hl0
    generalize takeL l bad 0 1 = q at *
    refine TCalls.of Tryd.func87 rfl (CanCall.of Tryd.func87 rfl (by decide)) [0] fun Γ => ?_
    refine run_sound (⟨fun | 4, 1 => rdH 0 q.2.1 q.2.2 (str q.1) | _, _ => .no, [((0, 5), ([0], 1))], fun  | _ => none⟩) 400 (B := b = b ∧ bsplit (decide ((ByteArray.mk (List.toArray l)) = (ByteArray.mk (#[])))) (TCalls Tryd.prog (86 : Nat) [T.ptr (0 : Nat) b (0 : Nat), T.v (Value.int IntKind.i64 (0 : Int)), T.v (Value.int IntKind.i64 (1 : Int))] [(b, Ob.cells [T.v (Value.string (ByteArray.mk (List.toArray l))), T.v (Value.int IntKind.i64 bad)])] (fun x => none) (callPost (Hint.call false Unit (fun x => True) [(0 : Nat)] false (fun x => str (Prod.fst q)) (fun x => obsD b (Prod.fst (Prod.snd q)) (Prod.snd (Prod.snd q))) fun x => none_)) ∧ ∀ (a : Unit), True → Q (T.v (Value.string (ByteArray.mk (List.toArray (Prod.fst q))))) [(b, Ob.cells [T.v (Value.string (ByteArray.mk (List.toArray (Prod.fst (Prod.snd q))))), T.v (Value.int IntKind.i64 (Prod.snd (Prod.snd q)))])] fun x => none) (TWk Tryd.prog Γ (fin Tryd.prog Tryd.f87 [(0 : Nat)] Q) [It.code (sub (bd Tryd.f87) [(1 : Nat), (1 : Nat)])] { fr := [T.ptr (0 : Nat) b (0 : Nat), T.und, T.und, T.und, T.und, T.und, T.und, T.und, T.und, T.und, T.und, T.und, T.und, T.und, T.und, T.und, T.und, T.und, T.und, T.und, T.und, T.und], ob := [(b, Ob.cells [T.v (Value.string (ByteArray.mk (List.toArray l))), T.v (Value.int IntKind.i64 bad)])], gl := fun x => none })) (by kernel_rfl) ?_
    repeat' (first | exact rfl | exact Nat.le_of_ble_eq_true rfl | refine And.intro ?_ ?_ | intro _ | refine bsplit_mk (fun _ => ?_) (fun _ => ?_))
    all_goals first
      | exact h
      | exact h0 _ rfl
      | (exfalso; rename_i h; exact (of_decide_eq_false h) (by rw [hl0]))
      | trace_state
  · obtain ⟨c, r, he⟩ := List.exists_cons_of_ne_nil hl0
    have hc := c.toNat_lt
    have hlen : 0 < l.length := by rw [he]; simp
    have hg : l[0] = c := by simp [he]
    have h : TCalls Tryd.prog 86 [.ptr 0 b 0, int 1, int c.toNat] (obsD b l bad) none_ (callPost (told (str (takeL l bad 1 c.toNat).1) [0] (obsD b (takeL l bad 1 c.toNat).2.1 (takeL l bad 1 c.toNat).2.2))) :=
      take_any b l hl bad 1 (by decide) (by omega) c.toNat (by omega) _ (fun y hy => ⟨(), trivial, hy, rfl, Nat.le_of_ble_eq_true rfl, fun h => by cases h⟩)
    have h0 := hQ c r he
    have hx := str_at l 0 hlen
    rw [hg] at hx
    generalize takeL l bad 1 c.toNat = q at *
    refine TCalls.of Tryd.func87 rfl (CanCall.of Tryd.func87 rfl (by decide)) [0] fun Γ => ?_
    refine run_sound (⟨fun | 4, 1 => .no | 5, 5 => .res (u8 c.toNat) | 5, 6 => .res (int c.toNat) | 5, 7 => rdH 0 q.2.1 q.2.2 (str q.1) | _, _ => .no, [((0, 4), ([0], 1))], fun  | _ => none⟩) 400 (B := b = b ∧ bsplit (decide ((ByteArray.mk (List.toArray l)) = (ByteArray.mk (#[])))) (TWk Tryd.prog Γ (fin Tryd.prog Tryd.f87 [(0 : Nat)] Q) [It.code (sub (bd Tryd.f87) [(1 : Nat), (0 : Nat), (0 : Nat), (1 : Nat), (1 : Nat), (1 : Nat), (0 : Nat)]), It.blk (0 : Nat), It.code (sub (bd Tryd.f87) [(1 : Nat), (1 : Nat)])] { fr := [T.ptr (0 : Nat) b (0 : Nat), T.und, T.und, T.und, T.und, T.und, T.und, T.und, T.und, T.und, T.und, T.und, T.und, T.und, T.und, T.und, T.und, T.und, T.und, T.und, T.und, T.und], ob := [(b, Ob.cells [T.v (Value.string (ByteArray.mk (List.toArray l))), T.v (Value.int IntKind.i64 bad)])], gl := fun x => none }) (b = b ∧ (0 : Int) ≤ (0 : Int) ∧ Option.map (fun c => T.v (Value.int IntKind.u8 (↑(UInt8.toNat c) : Int))) (ByteArray.mk (List.toArray l))[Int.toNat (0 : Int)]? = some (T.v (Value.int IntKind.u8 (↑(UInt8.toNat c) : Int))) ∧ T.v (Value.int IntKind.i64 (IntKind.wrap IntKind.i64 (↑(UInt8.toNat c) : Int))) = T.v (Value.int IntKind.i64 (↑(UInt8.toNat c) : Int)) ∧ TCalls Tryd.prog (86 : Nat) [T.ptr (0 : Nat) b (0 : Nat), T.v (Value.int IntKind.i64 (1 : Int)), T.v (Value.int IntKind.i64 (↑(UInt8.toNat c) : Int))] [(b, Ob.cells [T.v (Value.string (ByteArray.mk (List.toArray l))), T.v (Value.int IntKind.i64 bad)])] (fun x => none) (callPost (Hint.call false Unit (fun x => True) [(0 : Nat)] false (fun x => str (Prod.fst q)) (fun x => obsD b (Prod.fst (Prod.snd q)) (Prod.snd (Prod.snd q))) fun x => none_)) ∧ ∀ (a : Unit), True → Q (T.v (Value.string (ByteArray.mk (List.toArray (Prod.fst q))))) [(b, Ob.cells [T.v (Value.string (ByteArray.mk (List.toArray (Prod.fst (Prod.snd q))))), T.v (Value.int IntKind.i64 (Prod.snd (Prod.snd q)))])] fun x => none)) (by kernel_rfl) ?_
    repeat' (first | exact rfl | exact Nat.le_of_ble_eq_true rfl | refine And.intro ?_ ?_ | intro _ | refine bsplit_mk (fun _ => ?_) (fun _ => ?_))
    all_goals first
      | exact h
      | exact h0 _ rfl
      | exact hx
      | (exfalso; rename_i h; exact hl0 (by have := congrArg (fun b : ByteArray => b.data.toList) (of_decide_eq_true h); simpa using this))
      | exact congrArg int (wrap_i64 (by omega) (by omega))
      | exact Int.le_refl _
      | trace_state
end X1
end Go.Proofs.YtaepgceodcdnhaaDoor.Vm
