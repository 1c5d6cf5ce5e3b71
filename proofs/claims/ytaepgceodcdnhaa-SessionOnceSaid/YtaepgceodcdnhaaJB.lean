/- Journals by the engine: first, Open, Records, Add. -/
import Derived.Test.YtaepgceodcdnhaaJA
namespace Go.Proofs.Ytaepgceodcdnhaa.Vm
open Go Go.RowKit
set_option maxRecDepth 100000
namespace X10
open Jrn (Dk frL firstL firstB hdN recs flat recA)
open X9 (dkC obsK dkH dk_post)
open X1 (obsD rdH)
/-- the text that stands first, whether it is a record or not -/
def firstT (s : List UInt8) : List UInt8 := if 2 ≤ s.length ∧ 1 ≤ hdN s ∧ hdN s ≤ 512 ∧ hdN s + 6 ≤ s.length then (s.drop 2).take (hdN s) else []
theorem firstT_some {s t : List UInt8} (h : firstL s = some t) : firstT s = t := by
  unfold firstL at h
  split at h
  · rename_i hb
    obtain ⟨h1, h2, h3, h4, _⟩ := of_decide_eq_true hb
    injection h with h
    unfold firstT
    rw [if_pos ⟨h1, h2, h3, h4⟩]; exact h
  · cases h
theorem firstB_some {s t : List UInt8} (h : firstL s = some t) : firstB s = true := by
  unfold firstL at h
  split at h
  · assumption
  · cases h
theorem firstB_none {s : List UInt8} (h : firstL s = none) : firstB s = false := by
  unfold firstL at h
  split at h
  · cases h
  · simpa using ‹¬ firstB s = true›
theorem first_any (s : List UInt8) (hs : s.length ≤ 100000000) (Q : T → Obs → Glb → Prop) (hQ : ∀ x, x = .tup [str (firstT s), bool (firstB s)] → Q x [] none_) : TCalls Try.prog 37 [str s] [] none_ Q := by
  have hrd : TCalls Try.prog 52 [str s] [] none_ (callPost (.call false Nat (fun _ => True) [] false (fun b => .ptr 0 b 0) (fun b => obsD b s 0) (fun _ => none_))) :=
    X1.read_any s _ fun b => ⟨b, trivial, rfl, rfl, Nat.zero_le _, fun h => by cases h⟩
  by_cases h2 : 2 ≤ s.length
  · have ht : Oct.takeL s 0 0 2 = (s.take 2, s.drop 2, 0) := by
      unfold Oct.takeL
      rw [if_neg (by decide), if_neg (by decide), if_neg (by omega)]; rfl
    have hnum : ∀ b, TCalls Try.prog 53 [.ptr 0 b 0, int 2] (obsD b s 0) none_ (callPost (told (u64 (hdN s)) [0] (obsD b (s.drop 2) 0))) := fun b =>
      X1.rdnum_any b s (by omega) 0 2 (by decide) _ fun x hx => by
        have ht' : Oct.takeL s 0 0 ((2 : Nat) : Int) = (s.take 2, s.drop 2, 0) := ht
        rw [ht'] at hx ⊢; exact ⟨(), trivial, hx, rfl, Nat.le_of_ble_eq_true rfl, fun h => by cases h⟩
    have hlt : hdN s < 65536 := by
      have := Oct.getN_lt (s.take 2)
      rw [List.length_take, show min 2 s.length = 2 by omega] at this
      exact this
    have hleft : ∀ b, TCalls Try.prog 54 [.ptr 0 b 0] (obsD b (s.drop 2) 0) none_ (callPost (told (int (s.length - 2 : Nat)) [0] (obsD b (s.drop 2) 0))) := fun b =>
      X1.left_any b _ 0 _ fun x hx => ⟨(), trivial, by rw [hx, List.length_drop], rfl, Nat.le_of_ble_eq_true rfl, fun h => by cases h⟩
    by_cases hok : 1 ≤ hdN s ∧ hdN s ≤ 512 ∧ hdN s + 6 ≤ s.length
    · have hT : firstT s = (s.drop 2).take (hdN s) := by unfold firstT; rw [if_pos ⟨h2, hok⟩]
      have hB : firstB s = decide (frL ((s.drop 2).take (hdN s)) = s.take (hdN s + 6)) := by
        unfold firstB
        rw [Bool.eq_iff_iff, decide_eq_true_eq, decide_eq_true_eq]
        exact ⟨fun h => h.2.2.2.2, fun h => ⟨h2, hok.1, hok.2.1, hok.2.2, h⟩⟩
      rw [hT, hB] at hQ
      have ht3 : Oct.takeL (s.drop 2) 0 0 (hdN s) = ((s.drop 2).take (hdN s), (s.drop 2).drop (hdN s), 0) := by
        unfold Oct.takeL
        rw [if_neg (by decide), if_neg (by omega), if_neg (by rw [List.length_drop]; omega), show ((0 : Int) + (hdN s : Int)).toNat = hdN s by omega]; rfl
      have hraw : ∀ b, TCalls Try.prog 55 [.ptr 0 b 0, int (hdN s)] (obsD b (s.drop 2) 0) none_ (callPost (told (str ((s.drop 2).take (hdN s))) [0] (obsD b ((s.drop 2).drop (hdN s)) 0))) := fun b =>
        X1.raw_any b (s.drop 2) (by rw [List.length_drop]; omega) 0 (hdN s) (by omega) _ fun x hx => by
          rw [ht3] at hx ⊢; exact ⟨(), trivial, hx, rfl, Nat.le_of_ble_eq_true rfl, fun h => by cases h⟩
      have htl : ((s.drop 2).take (hdN s)).length < 65536 := by rw [List.length_take]; omega
      have hfr : TCalls Try.prog 40 [str ((s.drop 2).take (hdN s))] [] none_ (callPost (told (str (frL ((s.drop 2).take (hdN s)))) [] [])) := X2.framed_any _ htl _ fun x h => told_post h
      have hcv : T.v (.int .i64 (IntKind.wrap .i64 (hdN s : Int))) = int (hdN s) := congrArg int (wrap_i64 (by omega) (by omega))
      generalize hn : hdN s = n at *
      generalize hd : (s.drop 2).take n = t at *
      generalize hr : (s.drop 2).drop n = r at *
      have hcmp : T.v (.bool (decide ((⟨(frL t).toArray⟩ : ByteArray) = (⟨s.toArray⟩ : ByteArray).extract 0 (n + 6)))) = bool (decide (frL t = s.take (n + 6))) := by
        refine congrArg bool ?_
        rw [bs_cut, List.drop_zero, Bool.eq_iff_iff, decide_eq_true_eq, decide_eq_true_eq]
        constructor
        · intro h; have := congrArg (fun b : ByteArray => b.data.toList) h; simpa using this
        · intro h; rw [h]
      have hq := hQ _ rfl
      rw [← hcmp] at hq
      have hw1 : IntKind.wrap .i64 ((n : Int) + 4) = ((n + 4 : Nat) : Int) := by rw [wrap_i64 (by omega) (by omega)]; omega
      have hw2 : T.v (.int .i64 (IntKind.wrap .i64 (2 + (n : Int)))) = int (n + 2 : Nat) := by rw [wrap_i64 (by omega) (by omega)]; exact congrArg int (by omega)
      have hw3 : T.v (.int .i64 (IntKind.wrap .i64 (((n + 2 : Nat) : Int) + 4))) = int (n + 6 : Nat) := by rw [wrap_i64 (by omega) (by omega)]; exact congrArg int (by omega)
      refine TCalls.of Try.func37 rfl (CanCall.of Try.func37 rfl (by decide)) [] fun Γ => ?_
      refine run_sound (⟨fun | 1, 1 => .call false Nat (fun _ => True) [] false (fun b => .ptr 0 b 0) (fun b => obsD b s 0) (fun _ => none_) | 2, 1 => rdH 0 (s.drop 2) 0 (u64 n) | 2, 2 => .res (int n) | 3, 8 => rdH 0 (s.drop 2) 0 (int (s.length - 2 : Nat)) | 3, 10 => .res (int (n + 4 : Nat)) | 5, 2 => rdH 0 r 0 (str t) | 6, 2 => told (str (frL t)) [] [] | 6, 5 => .res (int (n + 2 : Nat)) | 6, 6 => .res (int (n + 6 : Nat)) | 6, 7 => .no | _, _ => .no, [((0, 4), ([], 1))], fun | 6 => some ⟨[], [2], .take false [0,1,3,4,5,6,7] (.one 2 (.take false [8,9,10] .done))⟩ | _ => none⟩) 400 (B := TCalls Try.prog (52 : Nat) [T.v (Value.string (ByteArray.mk (List.toArray s)))] [] (fun x => none) (callPost (Hint.call false Nat (fun x => True) [] false (fun b => T.ptr (0 : Nat) b (0 : Nat)) (fun b => obsD b s (0 : Int)) fun x => none_)) ∧ ∀ (a : Nat), True → TCalls Try.prog (53 : Nat) [T.ptr (0 : Nat) a (0 : Nat), T.v (Value.int IntKind.i64 (2 : Int))] [(a, Ob.cells [T.v (Value.string (ByteArray.mk (List.toArray s))), T.v (Value.int IntKind.i64 (0 : Int))])] (fun x => none) (callPost (Hint.call false Unit (fun x => True) [(0 : Nat)] false (fun x => u64 (↑n : Int)) (fun x => obsD a (List.drop (2 : Nat) s) (0 : Int)) fun x => none_)) ∧ ∀ (a_1 : Unit), True → T.v (Value.int IntKind.i64 (IntKind.wrap IntKind.i64 (↑n : Int))) = T.v (Value.int IntKind.i64 (↑n : Int)) ∧ bsplit (decide ((↑n : Int) < (1 : Int))) (TWk Try.prog Γ (fin Try.prog Try.f37 [] Q) [It.code (sub (bd Try.f37) [(1 : Nat), (1 : Nat), (1 : Nat), (0 : Nat), (1 : Nat), (0 : Nat)]), It.code (sub (bd Try.f37) [(1 : Nat), (1 : Nat), (1 : Nat), (1 : Nat)])] { fr := [T.und, T.und, T.und, T.und, T.und, T.und, T.und, T.und, T.und, T.und, T.und, T.und, T.und, T.und, T.und, T.und, T.und, T.und, T.und, T.und, T.und, T.und, T.und, T.und, T.und, T.und, T.und, T.und, T.und, T.und, T.und, T.und, T.und, T.und, T.und, T.und, T.und], ob := [(a, Ob.cells [T.v (Value.string (ByteArray.mk (List.toArray (List.drop (2 : Nat) s)))), T.v (Value.int IntKind.i64 (0 : Int))])], gl := fun x => none }) (bsplit (decide ((↑n : Int) > (512 : Int))) (TWk Try.prog Γ (fin Try.prog Try.f37 [] Q) [It.code (sub (bd Try.f37) [(1 : Nat), (1 : Nat), (1 : Nat), (0 : Nat), (1 : Nat), (0 : Nat)]), It.code (sub (bd Try.f37) [(1 : Nat), (1 : Nat), (1 : Nat), (1 : Nat)])] { fr := [T.und, T.und, T.und, T.und, T.und, T.und, T.und, T.und, T.und, T.und, T.und, T.und, T.und, T.und, T.und, T.und, T.und, T.und, T.und, T.und, T.und, T.und, T.und, T.und, T.und, T.und, T.und, T.und, T.und, T.und, T.und, T.und, T.und, T.und, T.und, T.und, T.und], ob := [(a, Ob.cells [T.v (Value.string (ByteArray.mk (List.toArray (List.drop (2 : Nat) s)))), T.v (Value.int IntKind.i64 (0 : Int))])], gl := fun x => none }) (TCalls Try.prog (54 : Nat) [T.ptr (0 : Nat) a (0 : Nat)] [(a, Ob.cells [T.v (Value.string (ByteArray.mk (List.toArray (List.drop (2 : Nat) s)))), T.v (Value.int IntKind.i64 (0 : Int))])] (fun x => none) (callPost (Hint.call false Unit (fun x => True) [(0 : Nat)] false (fun x => int (↑(List.length s - (2 : Nat)) : Int)) (fun x => obsD a (List.drop (2 : Nat) s) (0 : Int)) fun x => none_)) ∧ ∀ (a_2 : Unit), True → T.v (Value.int IntKind.i64 (IntKind.wrap IntKind.i64 ((↑n : Int) + (4 : Int)))) = T.v (Value.int IntKind.i64 (↑(n + (4 : Nat)) : Int)) ∧ bsplit (decide ((↑(List.length s - (2 : Nat)) : Int) < (↑(n + (4 : Nat)) : Int))) (TWk Try.prog Γ (fin Try.prog Try.f37 [] Q) [It.code (sub (bd Try.f37) [(1 : Nat), (1 : Nat), (1 : Nat), (0 : Nat), (1 : Nat), (0 : Nat)]), It.code (sub (bd Try.f37) [(1 : Nat), (1 : Nat), (1 : Nat), (1 : Nat)])] { fr := [T.und, T.und, T.und, T.und, T.und, T.und, T.und, T.und, T.und, T.und, T.und, T.und, T.und, T.und, T.und, T.und, T.und, T.und, T.und, T.und, T.und, T.und, T.und, T.und, T.und, T.und, T.und, T.und, T.und, T.und, T.und, T.und, T.und, T.und, T.und, T.und, T.und], ob := [(a, Ob.cells [T.v (Value.string (ByteArray.mk (List.toArray (List.drop (2 : Nat) s)))), T.v (Value.int IntKind.i64 (0 : Int))])], gl := fun x => none }) (TCalls Try.prog (55 : Nat) [T.ptr (0 : Nat) a (0 : Nat), T.v (Value.int IntKind.i64 (↑n : Int))] [(a, Ob.cells [T.v (Value.string (ByteArray.mk (List.toArray (List.drop (2 : Nat) s)))), T.v (Value.int IntKind.i64 (0 : Int))])] (fun x => none) (callPost (Hint.call false Unit (fun x => True) [(0 : Nat)] false (fun x => str t) (fun x => obsD a r (0 : Int)) fun x => none_)) ∧ ∀ (a : Unit), True → T.v (Value.int IntKind.i64 (IntKind.wrap IntKind.i64 ((2 : Int) + (↑n : Int)))) = T.v (Value.int IntKind.i64 (↑(n + (2 : Nat)) : Int)) ∧ T.v (Value.int IntKind.i64 (IntKind.wrap IntKind.i64 ((↑(n + (2 : Nat)) : Int) + (4 : Int)))) = T.v (Value.int IntKind.i64 (↑(n + (6 : Nat)) : Int)) ∧ ((0 : Int) ≤ (↑(0 : Nat) : Int) ∧ (↑(0 : Nat) : Int) ≤ Prod.snd (IntKind.i64, (↑(n + (6 : Nat)) : Int)) ∧ Prod.snd (IntKind.i64, (↑(n + (6 : Nat)) : Int)) ≤ (↑(ByteArray.size (ByteArray.mk (List.toArray s))) : Int)) ∧ TCalls Try.prog (40 : Nat) [T.v (Value.string (ByteArray.mk (List.toArray t)))] [] (fun x => none) (callPost (Hint.call false Unit (fun x => True) [] false (fun x => str (frL t)) (fun x => []) fun x => none_)) ∧ ∀ (a : Unit), True → Q (T.tup [T.v (Value.string (ByteArray.mk (List.toArray t))), T.v (Value.bool (decide ((ByteArray.mk (List.toArray (frL t))) = ByteArray.extract (ByteArray.mk (List.toArray s)) (Int.toNat (↑(0 : Nat) : Int)) (Int.toNat (Prod.snd (IntKind.i64, (↑(n + (6 : Nat)) : Int)))))))]) [] fun x => none)))) (by kernel_rfl) ?_
      repeat' (first | exact rfl | exact Nat.le_of_ble_eq_true rfl | refine And.intro ?_ ?_ | intro _ | refine bsplit_mk (fun _ => ?_) (fun _ => ?_))
      all_goals first
        | exact hrd
        | exact hnum _
        | exact hleft _
        | exact hraw _
        | exact hfr
        | exact hcv
        | exact congrArg int hw1
        | exact hw2
        | exact hw3
        | omega
        | (rw [bs_len]; omega)
        | (exfalso; simp only [decide_eq_true_eq] at *; omega)
        | exact hq
        | (clear hQ; trace_state)
    · have hT : firstT s = [] := by unfold firstT; rw [if_neg (fun h => hok h.2)]
      have hB : firstB s = false := by unfold firstB; exact decide_eq_false (fun h => hok ⟨h.2.1, h.2.2.1, h.2.2.2.1⟩)
      rw [hT, hB] at hQ
      have hcv : T.v (.int .i64 (IntKind.wrap .i64 (hdN s : Int))) = int (hdN s) := congrArg int (wrap_i64 (by omega) (by omega))
      generalize hn : hdN s = n at *
      have hw1 : IntKind.wrap .i64 ((n : Int) + 4) = ((n + 4 : Nat) : Int) := by rw [wrap_i64 (by omega) (by omega)]; omega
      refine TCalls.of Try.func37 rfl (CanCall.of Try.func37 rfl (by decide)) [] fun Γ => ?_
      refine run_sound (⟨fun | 1, 1 => .call false Nat (fun _ => True) [] false (fun b => .ptr 0 b 0) (fun b => obsD b s 0) (fun _ => none_) | 2, 1 => rdH 0 (s.drop 2) 0 (u64 n) | 2, 2 => .res (int n) | 3, 8 => rdH 0 (s.drop 2) 0 (int (s.length - 2 : Nat)) | 3, 10 => .res (int (n + 4 : Nat)) | _, _ => .no, [((0, 5), ([0, 4, 5], 1))], fun | 6 => some ⟨[], [2], .take false [0,1,3,4,5,6,7] (.one 2 (.take false [8,9,10] .done))⟩ | _ => none⟩) 400 (B := TCalls Try.prog (52 : Nat) [T.v (Value.string (ByteArray.mk (List.toArray s)))] [] (fun x => none) (callPost (Hint.call false Nat (fun x => True) [] false (fun b => T.ptr (0 : Nat) b (0 : Nat)) (fun b => obsD b s (0 : Int)) fun x => none_)) ∧ ∀ (a : Nat), True → TCalls Try.prog (53 : Nat) [T.ptr (0 : Nat) a (0 : Nat), T.v (Value.int IntKind.i64 (2 : Int))] [(a, Ob.cells [T.v (Value.string (ByteArray.mk (List.toArray s))), T.v (Value.int IntKind.i64 (0 : Int))])] (fun x => none) (callPost (Hint.call false Unit (fun x => True) [(0 : Nat)] false (fun x => u64 (↑n : Int)) (fun x => obsD a (List.drop (2 : Nat) s) (0 : Int)) fun x => none_)) ∧ ∀ (a_1 : Unit), True → T.v (Value.int IntKind.i64 (IntKind.wrap IntKind.i64 (↑n : Int))) = T.v (Value.int IntKind.i64 (↑n : Int)) ∧ bsplit (decide ((↑n : Int) < (1 : Int))) (Q (T.tup [T.v (Value.string (ByteArray.mk (#[]))), T.v (Value.bool false)]) [] fun x => none) (bsplit (decide ((↑n : Int) > (512 : Int))) (Q (T.tup [T.v (Value.string (ByteArray.mk (#[]))), T.v (Value.bool false)]) [] fun x => none) (TCalls Try.prog (54 : Nat) [T.ptr (0 : Nat) a (0 : Nat)] [(a, Ob.cells [T.v (Value.string (ByteArray.mk (List.toArray (List.drop (2 : Nat) s)))), T.v (Value.int IntKind.i64 (0 : Int))])] (fun x => none) (callPost (Hint.call false Unit (fun x => True) [(0 : Nat)] false (fun x => int (↑(List.length s - (2 : Nat)) : Int)) (fun x => obsD a (List.drop (2 : Nat) s) (0 : Int)) fun x => none_)) ∧ ∀ (a_2 : Unit), True → T.v (Value.int IntKind.i64 (IntKind.wrap IntKind.i64 ((↑n : Int) + (4 : Int)))) = T.v (Value.int IntKind.i64 (↑(n + (4 : Nat)) : Int)) ∧ bsplit (decide ((↑(List.length s - (2 : Nat)) : Int) < (↑(n + (4 : Nat)) : Int))) (Q (T.tup [T.v (Value.string (ByteArray.mk (#[]))), T.v (Value.bool false)]) [] fun x => none) (TWk Try.prog Γ (fin Try.prog Try.f37 [] Q) [It.code (sub (bd Try.f37) [(1 : Nat), (1 : Nat), (1 : Nat), (1 : Nat)])] { fr := [T.v (Value.string (ByteArray.mk (List.toArray s))), T.und, T.und, T.und, T.ptr (0 : Nat) a (0 : Nat), T.v (Value.int IntKind.i64 (↑n : Int)), T.und, T.und, T.und, T.und, T.und, T.und, T.und, T.und, T.und, T.und, T.und, T.und, T.und, T.und, T.und, T.und, T.und, T.und, T.und, T.und, T.und, T.und, T.und, T.und, T.und, T.und, T.und, T.und, T.und, T.und, T.und], ob := [(a, Ob.cells [T.v (Value.string (ByteArray.mk (List.toArray (List.drop (2 : Nat) s)))), T.v (Value.int IntKind.i64 (0 : Int))])], gl := fun x => none })))) (by kernel_rfl) ?_
      repeat' (first | exact rfl | exact Nat.le_of_ble_eq_true rfl | refine And.intro ?_ ?_ | intro _ | refine bsplit_mk (fun _ => ?_) (fun _ => ?_))
      all_goals first
        | exact hrd
        | exact hnum _
        | exact hleft _
        | exact hcv
        | exact congrArg int hw1
        | exact hQ _ rfl
        | (exfalso; simp only [decide_eq_false_iff_not] at *; omega)
        | (clear hQ; trace_state)
  · have hT : firstT s = [] := by unfold firstT; rw [if_neg (fun h => h2 h.1)]
    have hB : firstB s = false := by unfold firstB; exact decide_eq_false (fun h => h2 h.1)
    rw [hT, hB] at hQ
    have ht : Oct.takeL s 0 0 ((2 : Nat) : Int) = ([], s, 2) := by
      unfold Oct.takeL
      rw [if_neg (by decide), if_neg (by decide), if_pos (by omega)]
    have hnum : ∀ b, TCalls Try.prog 53 [.ptr 0 b 0, int 2] (obsD b s 0) none_ (callPost (told (u64 0) [0] (obsD b s 2))) := fun b =>
      X1.rdnum_any b s (by omega) 0 2 (by decide) _ fun x hx => by
        rw [ht] at hx ⊢; exact ⟨(), trivial, hx, rfl, Nat.le_of_ble_eq_true rfl, fun h => by cases h⟩
    refine TCalls.of Try.func37 rfl (CanCall.of Try.func37 rfl (by decide)) [] fun Γ => ?_
    refine run_sound (⟨fun | 1, 1 => .call false Nat (fun _ => True) [] false (fun b => .ptr 0 b 0) (fun b => obsD b s 0) (fun _ => none_) | 2, 1 => rdH 0 s 2 (u64 0) | _, _ => .no, [], fun | 6 => some ⟨[], [2], .take false [0,1,3,4,5,6,7] (.one 2 (.take false [8,9,10] .done))⟩ | _ => none⟩) 400 (B := TCalls Try.prog (52 : Nat) [T.v (Value.string (ByteArray.mk (List.toArray s)))] [] (fun x => none) (callPost (Hint.call false Nat (fun x => True) [] false (fun b => T.ptr (0 : Nat) b (0 : Nat)) (fun b => obsD b s (0 : Int)) fun x => none_)) ∧ ∀ (a : Nat), True → TCalls Try.prog (53 : Nat) [T.ptr (0 : Nat) a (0 : Nat), T.v (Value.int IntKind.i64 (2 : Int))] [(a, Ob.cells [T.v (Value.string (ByteArray.mk (List.toArray s))), T.v (Value.int IntKind.i64 (0 : Int))])] (fun x => none) (callPost (Hint.call false Unit (fun x => True) [(0 : Nat)] false (fun x => u64 (0 : Int)) (fun x => obsD a s (2 : Int)) fun x => none_)) ∧ ∀ (a : Unit), True → Q (T.tup [T.v (Value.string (ByteArray.mk (#[]))), T.v (Value.bool false)]) [] fun x => none) (by kernel_rfl) ?_
    repeat' (first | exact rfl | exact Nat.le_of_ble_eq_true rfl | refine And.intro ?_ ?_ | intro _ | refine bsplit_mk (fun _ => ?_) (fun _ => ?_))
    all_goals first
      | exact hrd
      | exact hnum _
      | exact hQ _ rfl
      | (clear hQ; trace_state)
/-- texts, as elements -/
def strs (l : List (List UInt8)) : List T := l.map str
theorem strs_len (l : List (List UInt8)) : (strs l).length = l.length := by simp [strs]
theorem strs_snoc (l : List (List UInt8)) (t : List UInt8) : strs (l ++ [t]) = strs l ++ [str t] := by simp [strs]
theorem clone0 (l : List (List UInt8)) (hl : l.length ≤ 100000000) (Q : T → Obs → Glb → Prop) (h1 : l = [] → Q (.v nilS) [] none_) (h2 : Q (.sl 1 (strs l)) [] none_) : TCalls Try.prog 39 [.sl 1 (strs l)] [] none_ Q := by
  refine TCalls.of Try.func39 rfl (CanCall.of Try.func39 rfl (by decide)) [] fun Γ => ?_
  refine run_sound (⟨fun _ _ => .no, [], fun _ => none⟩) 400 (B := (List.length (strs l) = (0 : Nat) → Q (T.v (Value.slice none (0 : Nat) (0 : Nat))) [] fun x => none) ∧ (0 : Nat) < nat_lit 1 ∧ ∀ (x : Value), (x = x ∧ (0 : Nat) = (0 : Nat)) ∧ Fits ((0 : Nat) + List.length (strs l)) (nat_lit 16) ∧ ∀ (x : Value), Q (T.sl (1 : Nat) (strs l)) [] fun x => none) (by kernel_rfl) ?_
  repeat' (first | exact rfl | exact Nat.le_of_ble_eq_true rfl | refine And.intro ?_ ?_ | intro _ | refine bsplit_mk (fun _ => ?_) (fun _ => ?_))
  all_goals first
    | exact h2
    | (rename_i h; exact h1 (List.eq_nil_of_length_eq_zero (by rw [strs_len] at h; exact h)))
    | (simp only [strs_len]; omega)
    | (simp only [strs_len]; unfold maxLen; omega)
    | trace_state
inductive cloneQ (l : List (List UInt8)) (x : T) (ob : Obs) (gl : Glb) : Prop where
  | mk (h1 : x = .v nilS ∧ l = [] ∨ x = .sl 1 (strs l)) (h2 : ob = []) (h3 : gl = none_)
theorem clone_any (l : List (List UInt8)) (hl : l.length ≤ 100000000) (Q : T → Obs → Glb → Prop) (hQ : ∀ x, x = .sl 1 (strs l) → Q x [] none_) : TCalls Try.prog 39 [.sl 1 (strs l)] [] none_ Q := by
  refine TCalls.post (clone0 l hl (cloneQ l) (fun h => .mk (.inl ⟨rfl, h⟩) rfl rfl) (.mk (.inr rfl) rfl rfl)) fun x ob gl h => ?_
  obtain ⟨h | h, rfl, rfl⟩ := h
  · obtain ⟨rfl, rfl⟩ := h
    exact ⟨_, _, _, Imp.slotR (j := 0) rfl (t' := .sl 1 (strs [])) (fun M v r => by
      simp only [Rel] at r ⊢
      exact ⟨none, 0, r, ⟨Nat.le_refl _, by omega, fun _ => ⟨rfl, rfl⟩, (fun a e => by cases e)⟩, (fun e he => by simp [strs] at he), (fun b o e => by cases e)⟩), hQ _ rfl⟩
  · exact ⟨_, _, _, Imp.refl _ _ _, hQ _ h⟩
def jC (db : Nat) (l : List (List UInt8)) (hd : Value) (dead : Bool) : List T := [.ptr 0 db 0, .slx 1 2 (strs l) hd, bool dead]
/-- a disk, its journal -/
def obsJ (db jb : Nat) (d : Dk) (l : List (List UInt8)) (hd : Value) (dead : Bool) : Obs := [(db, .cells (dkC d)), (jb, .cells (jC db l hd dead)), (0, .room 1 9 (strs l).length hd)]
theorem drop_le (s : List UInt8) (n : Nat) (h : s.length ≤ 100000000) : (s.drop n).length ≤ 100000000 := by rw [List.length_drop]; omega
theorem open_loop (Γ : Ctx) (db jb : Nat) (d : Dk) (hd : d.Ok) (ho : d.off = false) (e : Nat) (L : List (List UInt8)) (Q : T → Obs → Glb → Prop) (hQ : ∀ h, Q (.tup [.ptr 1 jb 0, int 0]) (obsJ db jb (Jrn.keepD d e) L h false) none_) :
    ∀ (f : Nat) (a : Nat) (l : List (List UInt8)) (h : Value), a ≤ d.b.length → (d.b.drop a).length ≤ f → l ++ (recs f (d.b.drop a)).1 = L → a + (recs f (d.b.drop a)).2 = e → l.length ≤ a →
    TWk Try.prog Γ (fin Try.prog Try.f14 [0, 1, 2] Q) [.code (sub (bd Try.f14) [1, 1, 1, 1, 1, 0, 1, 0]), .blk 0, .code (sub (bd Try.f14) [1, 1, 1, 1, 1, 1])] ⟨frame 58 [(0, .ptr 0 db 0), (4, str d.b), (6, .ptr 1 jb 0), (7, int a), (8, str (firstT (d.b.drop a))), (9, bool (firstB (d.b.drop a)))], obsJ db jb d l h false, none_⟩ := by
  have h1 := hd.l
  have stop : ∀ (a : Nat) (l : List (List UInt8)) (h : Value), a ≤ d.b.length → firstB (d.b.drop a) = false → l = L → a = e →
      TWk Try.prog Γ (fin Try.prog Try.f14 [0, 1, 2] Q) [.code (sub (bd Try.f14) [1, 1, 1, 1, 1, 0, 1, 0]), .blk 0, .code (sub (bd Try.f14) [1, 1, 1, 1, 1, 1])] ⟨frame 58 [(0, .ptr 0 db 0), (4, str d.b), (6, .ptr 1 jb 0), (7, int a), (8, str (firstT (d.b.drop a))), (9, bool (firstB (d.b.drop a)))], obsJ db jb d l h false, none_⟩ := by
    intro a l h ha hb e1 e2
    rw [hb]
    subst e1 e2
    refine run_sound (⟨fun | 11, 2 => .withB (fun B => told (int 0) [0] (obsK (B.getD 0 0) (Jrn.keepD d a))) | _, _ => .no, [((2, 7), ([0, 4, 6, 7, 8, 9], 3))], fun  | _ => none⟩) 400 (B := TCalls Try.prog (38 : Nat) [T.ptr (0 : Nat) db (0 : Nat), T.v (Value.int IntKind.i64 (↑a : Int))] [(db, Ob.cells [T.v (Value.string (ByteArray.mk (List.toArray (Dk.b d)))), T.v (Value.int IntKind.i64 (↑(Dk.n d) : Int)), T.v (Value.bool (Dk.off d))])] (fun x => none) (callPost (Hint.call false Unit (fun x => True) [(0 : Nat)] false (fun x => int (0 : Int)) (fun x => obsK db (Jrn.keepD d a)) fun x => none_)) ∧ ∀ (a_1 : Unit), True → Q (T.tup [T.ptr (1 : Nat) jb (0 : Nat), T.v (Value.int IntKind.i64 (0 : Int))]) [(db, Ob.cells [T.v (Value.string (ByteArray.mk (List.toArray (Dk.b (Jrn.keepD d a))))), T.v (Value.int IntKind.i64 (↑(Dk.n (Jrn.keepD d a)) : Int)), T.v (Value.bool (Dk.off (Jrn.keepD d a)))]), (jb, Ob.cells [T.ptr (0 : Nat) db (0 : Nat), T.slx (1 : Nat) (2 : Nat) (strs l) h, T.v (Value.bool false)]), ((0 : Nat), Ob.room (1 : Nat) (9 : Nat) (List.length (strs l)) h)] fun x => none) (by kernel_rfl) ?_
    repeat' (first | exact rfl | exact Nat.le_of_ble_eq_true rfl | refine And.intro ?_ ?_ | intro _ | refine bsplit_mk (fun _ => ?_) (fun _ => ?_))
    all_goals first
      | exact X9.cut_any db d hd a ha ho _ (fun x hx => dk_post hx)
      | exact hQ _
      | trace_state
  intro f
  induction f with
  | zero =>
    intro a l h ha hf hl he hla
    have hn : d.b.drop a = [] := List.eq_nil_of_length_eq_zero (by omega)
    exact stop a l h ha (by rw [hn]; exact firstB_none Jrn.firstL_nil) (by simpa [recs] using hl) (by simpa [recs] using he)
  | succ f ih =>
    intro a l h ha hf hl he hla
    unfold recs at hl he
    cases hfi : firstL (d.b.drop a) with
    | none =>
      rw [hfi] at hl he
      exact stop a l h ha (firstB_none hfi) (by simpa using hl) (by simpa using he)
    | some t =>
      rw [hfi] at hl he
      dsimp only at hl he
      obtain ⟨hv, _, hle, _⟩ := Jrn.firstL_some hfi
      rw [List.length_drop] at hle
      rw [List.drop_drop] at hl he
      have hv1 := hv.1
      have hv2 := hv.2
      have ih2 := fun h' => ih (a + (t.length + 6)) (l ++ [t]) h' (by omega) (by rw [List.length_drop] at hf ⊢; omega) (by rw [← hl]; simp) (by omega) (by rw [List.length_append, List.length_singleton]; omega)
      simp only [obsJ, jC, strs_snoc] at ih2
      rw [firstT_some hfi, firstB_some hfi]
      have hw1 : T.v (.int .i64 (IntKind.wrap .i64 (2 + ((⟨t.toArray⟩ : ByteArray).size : Int)))) = int (t.length + 2 : Nat) := by rw [bs_len, wrap_i64 (by omega) (by omega)]; exact congrArg int (by omega)
      have hw2 : T.v (.int .i64 (IntKind.wrap .i64 (((t.length + 2 : Nat) : Int) + 4))) = int (t.length + 6 : Nat) := by rw [wrap_i64 (by omega) (by omega)]; exact congrArg int (by omega)
      have hw3 : T.v (.int .i64 (IntKind.wrap .i64 ((a : Int) + (t.length + 6 : Nat)))) = int (a + (t.length + 6) : Nat) := by rw [wrap_i64 (by omega) (by omega)]; exact congrArg int (by omega)
      have hcut : T.v (.string ((⟨d.b.toArray⟩ : ByteArray).extract (a + (t.length + 6)) (⟨d.b.toArray⟩ : ByteArray).size)) = str (d.b.drop (a + (t.length + 6))) := by rw [X1.str_cut, bs_len, List.take_length]
      have hfst := first_any (d.b.drop (a + (t.length + 6))) (drop_le _ _ (by omega)) (callPost (told (.tup [str (firstT (d.b.drop (a + (t.length + 6)))), bool (firstB (d.b.drop (a + (t.length + 6))))]) [] [])) (fun x hx => told_post hx)
      generalize d.b.drop (a + (t.length + 6)) = w at *
      generalize ha2 : a + (t.length + 6) = a2 at *
      refine run_sound (⟨fun | 10, 3 => .res (int (t.length + 2 : Nat)) | 10, 4 => .res (int (t.length + 6 : Nat)) | 10, 5 => .res (int a2) | 8, 3 => told (.tup [str (firstT w), bool (firstB w)]) [] [] | _, _ => .no, [((2, 7), ([0, 4, 6, 7, 8, 9], 3))], fun  | _ => none⟩) 400 (B := jb = jb ∧ (h = h ∧ List.length (strs l) = List.length (strs l)) ∧ Fits (List.length (strs l) + (1 : Nat)) (nat_lit 16) ∧ ∀ (x : Value), ((1 : Nat) = nat_lit 1 ∧ List.all [T.slx (1 : Nat) (2 : Nat) (strs l ++ [T.v (Value.string (ByteArray.mk (List.toArray t)))]) x] T.one = true) ∧ jb = jb ∧ (1 : Nat) + nat_lit 1 ≤ (3 : Nat) ∧ T.v (Value.int IntKind.i64 (IntKind.wrap IntKind.i64 ((2 : Int) + (↑(ByteArray.size (ByteArray.mk (List.toArray t))) : Int)))) = T.v (Value.int IntKind.i64 (↑(List.length t + (2 : Nat)) : Int)) ∧ T.v (Value.int IntKind.i64 (IntKind.wrap IntKind.i64 ((↑(List.length t + (2 : Nat)) : Int) + (4 : Int)))) = T.v (Value.int IntKind.i64 (↑(List.length t + (6 : Nat)) : Int)) ∧ T.v (Value.int IntKind.i64 (IntKind.wrap IntKind.i64 ((↑a : Int) + (↑(List.length t + (6 : Nat)) : Int)))) = T.v (Value.int IntKind.i64 (↑a2 : Int)) ∧ ((0 : Int) ≤ Prod.snd (IntKind.i64, (↑a2 : Int)) ∧ Prod.snd (IntKind.i64, (↑a2 : Int)) ≤ (↑(ByteArray.size (ByteArray.mk (List.toArray (Dk.b d)))) : Int) ∧ (↑(ByteArray.size (ByteArray.mk (List.toArray (Dk.b d)))) : Int) ≤ (↑(ByteArray.size (ByteArray.mk (List.toArray (Dk.b d)))) : Int)) ∧ TCalls Try.prog (37 : Nat) [T.v (Value.string (ByteArray.extract (ByteArray.mk (List.toArray (Dk.b d))) (Int.toNat (Prod.snd (IntKind.i64, (↑a2 : Int)))) (Int.toNat (↑(ByteArray.size (ByteArray.mk (List.toArray (Dk.b d)))) : Int))))] [] (fun x => none) (callPost (Hint.call false Unit (fun x => True) [] false (fun x => T.tup [str (firstT w), bool (firstB w)]) (fun x => []) fun x => none_)) ∧ ∀ (a : Unit), True → TWk Try.prog Γ (fin Try.prog Try.f14 [(0 : Nat), (1 : Nat), (2 : Nat)] Q) [It.code (sub (bd Try.f14) [(1 : Nat), (1 : Nat), (1 : Nat), (1 : Nat), (1 : Nat), (0 : Nat), (1 : Nat), (0 : Nat)]), It.blk (0 : Nat), It.code (sub (bd Try.f14) [(1 : Nat), (1 : Nat), (1 : Nat), (1 : Nat), (1 : Nat), (1 : Nat)])] { fr := [T.ptr (0 : Nat) db (0 : Nat), T.und, T.und, T.und, T.v (Value.string (ByteArray.mk (List.toArray (Dk.b d)))), T.und, T.ptr (1 : Nat) jb (0 : Nat), T.v (Value.int IntKind.i64 (↑a2 : Int)), T.v (Value.string (ByteArray.mk (List.toArray (firstT w)))), T.v (Value.bool (firstB w)), T.und, T.und, T.und, T.und, T.und, T.und, T.und, T.und, T.und, T.und, T.und, T.und, T.und, T.und, T.und, T.und, T.und, T.und, T.und, T.und, T.und, T.und, T.und, T.und, T.und, T.und, T.und, T.und, T.und, T.und, T.und, T.und, T.und, T.und, T.und, T.und, T.und, T.und, T.und, T.und, T.und, T.und, T.und, T.und, T.und, T.und, T.und, T.und], ob := [(db, Ob.cells [T.v (Value.string (ByteArray.mk (List.toArray (Dk.b d)))), T.v (Value.int IntKind.i64 (↑(Dk.n d) : Int)), T.v (Value.bool (Dk.off d))]), (jb, Ob.cells [T.ptr (0 : Nat) db (0 : Nat), T.slx (1 : Nat) (2 : Nat) (strs l ++ [T.v (Value.string (ByteArray.mk (List.toArray t)))]) x, T.v (Value.bool false)]), ((0 : Nat), Ob.room (1 : Nat) (9 : Nat) (List.length (strs l ++ [T.v (Value.string (ByteArray.mk (List.toArray t)))])) x)], gl := fun x => none }) (by kernel_rfl) ?_
      repeat' (first | exact rfl | exact Nat.le_of_ble_eq_true rfl | refine And.intro ?_ ?_ | intro _ | refine bsplit_mk (fun _ => ?_) (fun _ => ?_))
      all_goals first
        | exact hw1
        | exact hw2
        | exact hw3
        | omega
        | (rw [bs_len]; omega)
        | exact ih2 _
        | (rw [← hcut] at hfst; exact hfst)
        | (simp only [strs_len]; omega)
        | (simp only [strs_len]; unfold maxLen; omega)
        | (clear ih stop; trace_state)
/-- what Open tells -/
def openH (i : Nat) (d : Dk) : Hint := .withB fun B => .call false (Nat × Value) (fun _ => True) [i] false (fun a => .tup [.ptr 1 a.1 0, int 0]) (fun a => obsJ (B.getD i 0) a.1 (Jrn.keepD d (recA d.b).2) (recA d.b).1 a.2 false) (fun _ => none_)
theorem jopen_any (db : Nat) (d : Dk) (hd : d.Ok) (ho : d.off = false) (Q : T → Obs → Glb → Prop) (hQ : ∀ jb h, Q (.tup [.ptr 1 jb 0, int 0]) (obsJ db jb (Jrn.keepD d (recA d.b).2) (recA d.b).1 h false) none_) : TCalls Try.prog 14 [.ptr 0 db 0] (obsK db d) none_ Q := by
  have h1 := hd.l
  have hrd : TCalls Try.prog 15 [.ptr 0 db 0] (obsK db d) none_ (callPost (told (.tup [str d.b, int 0]) [0] (obsK db d))) := X9.dread_any db d _ (fun h => by rw [ho] at h; cases h) (fun _ x hx => dk_post hx)
  have hfst : TCalls Try.prog 37 [str d.b] [] none_ (callPost (told (.tup [str (firstT d.b), bool (firstB d.b)]) [] [])) := first_any d.b (by omega) _ (fun x hx => told_post hx)
  have lp := fun Γ jb => open_loop Γ db jb d hd ho (recA d.b).2 (recA d.b).1 Q (hQ jb) d.b.length 0 [] nilS (Nat.zero_le _) (by simp) (by simp [recA]) (by simp [recA]) (Nat.le_refl _)
  rw [List.drop_zero] at lp
  refine TCalls.of Try.func14 rfl (CanCall.of Try.func14 rfl (by decide)) [0, 1, 2] fun Γ => ?_
  refine run_sound (⟨fun | 1, 1 => dkH 0 d (.tup [str d.b, int 0]) | 6, 1 => told (.tup [str (firstT d.b), bool (firstB d.b)]) [] [] | _, _ => .no, [((2, 7), ([0, 4, 6, 7, 8, 9], 2))], fun  | _ => none⟩) 400 (B := TCalls Try.prog (15 : Nat) [T.ptr (0 : Nat) db (0 : Nat)] [(db, Ob.cells [T.v (Value.string (ByteArray.mk (List.toArray (Dk.b d)))), T.v (Value.int IntKind.i64 (↑(Dk.n d) : Int)), T.v (Value.bool (Dk.off d))])] (fun x => none) (callPost (Hint.call false Unit (fun x => True) [(0 : Nat)] false (fun x => T.tup [str (Dk.b d), int (0 : Int)]) (fun x => obsK db d) fun x => none_)) ∧ ∀ (a : Unit), True → ∀ (b : Nat), TCalls Try.prog (37 : Nat) [T.v (Value.string (ByteArray.mk (List.toArray (Dk.b d))))] [] (fun x => none) (callPost (Hint.call false Unit (fun x => True) [] false (fun x => T.tup [str (firstT (Dk.b d)), bool (firstB (Dk.b d))]) (fun x => []) fun x => none_)) ∧ ∀ (a : Unit), True → TWk Try.prog Γ (fin Try.prog Try.f14 [(0 : Nat), (1 : Nat), (2 : Nat)] Q) [It.code (sub (bd Try.f14) [(1 : Nat), (1 : Nat), (1 : Nat), (1 : Nat), (1 : Nat), (0 : Nat), (1 : Nat), (0 : Nat)]), It.blk (0 : Nat), It.code (sub (bd Try.f14) [(1 : Nat), (1 : Nat), (1 : Nat), (1 : Nat), (1 : Nat), (1 : Nat)])] { fr := [T.ptr (0 : Nat) db (0 : Nat), T.und, T.und, T.und, T.v (Value.string (ByteArray.mk (List.toArray (Dk.b d)))), T.und, T.ptr (1 : Nat) b (0 : Nat), T.v (Value.int IntKind.i64 (0 : Int)), T.v (Value.string (ByteArray.mk (List.toArray (firstT (Dk.b d))))), T.v (Value.bool (firstB (Dk.b d))), T.und, T.und, T.und, T.und, T.und, T.und, T.und, T.und, T.und, T.und, T.und, T.und, T.und, T.und, T.und, T.und, T.und, T.und, T.und, T.und, T.und, T.und, T.und, T.und, T.und, T.und, T.und, T.und, T.und, T.und, T.und, T.und, T.und, T.und, T.und, T.und, T.und, T.und, T.und, T.und, T.und, T.und, T.und, T.und, T.und, T.und, T.und, T.und], ob := [(db, Ob.cells [T.v (Value.string (ByteArray.mk (List.toArray (Dk.b d)))), T.v (Value.int IntKind.i64 (↑(Dk.n d) : Int)), T.v (Value.bool (Dk.off d))]), (b, Ob.cells [T.ptr (0 : Nat) db (0 : Nat), T.v (Value.slice none (0 : Nat) (0 : Nat)), T.v (Value.bool false)])], gl := fun x => none }) (by kernel_rfl) ?_
  repeat' (first | exact rfl | exact Nat.le_of_ble_eq_true rfl | refine And.intro ?_ ?_ | intro _ | refine bsplit_mk (fun _ => ?_) (fun _ => ?_))
  all_goals first
    | exact hrd
    | exact hfst
    | exact TWk.imp (lp Γ _) ((Imp.room 1 9).trans (Imp.cell 1 2 (i := 1) (j := 1) (cs := [.ptr 0 db 0, .v nilS, bool false]) rfl rfl))
    | (clear lp; trace_state)
theorem jopen_off (db : Nat) (d : Dk) (ho : d.off = true) (Q : T → Obs → Glb → Prop) (hQ : ∀ x, x = .tup [.v (.pointer none), int 10] → Q x (obsK db d) none_) : TCalls Try.prog 14 [.ptr 0 db 0] (obsK db d) none_ Q := by
  have hrd : TCalls Try.prog 15 [.ptr 0 db 0] (obsK db d) none_ (callPost (told (.tup [str [], int 10]) [0] (obsK db d))) := X9.dread_any db d _ (fun _ x hx => dk_post hx) (fun h => by rw [ho] at h; cases h)
  refine TCalls.of Try.func14 rfl (CanCall.of Try.func14 rfl (by decide)) [0] fun Γ => ?_
  refine run_sound (⟨fun | 1, 1 => dkH 0 d (.tup [str [], int 10]) | _, _ => .no, [], fun  | _ => none⟩) 400 (B := TCalls Try.prog (15 : Nat) [T.ptr (0 : Nat) db (0 : Nat)] [(db, Ob.cells [T.v (Value.string (ByteArray.mk (List.toArray (Dk.b d)))), T.v (Value.int IntKind.i64 (↑(Dk.n d) : Int)), T.v (Value.bool (Dk.off d))])] (fun x => none) (callPost (Hint.call false Unit (fun x => True) [(0 : Nat)] false (fun x => T.tup [str [], int (10 : Int)]) (fun x => obsK db d) fun x => none_)) ∧ ∀ (a : Unit), True → Q (T.tup [T.v (Value.pointer none), T.v (Value.int IntKind.i64 (10 : Int))]) [(db, Ob.cells [T.v (Value.string (ByteArray.mk (List.toArray (Dk.b d)))), T.v (Value.int IntKind.i64 (↑(Dk.n d) : Int)), T.v (Value.bool (Dk.off d))])] fun x => none) (by kernel_rfl) ?_
  repeat' (first | exact rfl | exact Nat.le_of_ble_eq_true rfl | refine And.intro ?_ ?_ | intro _ | refine bsplit_mk (fun _ => ?_) (fun _ => ?_))
  all_goals first
    | exact hrd
    | exact hQ _ rfl
    | trace_state
theorem recs_any (db jb : Nat) (d : Dk) (l : List (List UInt8)) (hl : l.length ≤ 100000000) (h : Value) (dead : Bool) (Q : T → Obs → Glb → Prop) (hQ : ∀ x, x = .sl 1 (strs l) → Q x (obsJ db jb d l h dead) none_) : TCalls Try.prog 17 [.ptr 1 jb 0] (obsJ db jb d l h dead) none_ Q := by
  have hc := clone_any l hl (callPost (told (.sl 1 (strs l)) [] [])) (fun x hx => told_post hx)
  refine TCalls.of Try.func17 rfl (CanCall.of Try.func17 rfl (by decide)) [0, 1, 2] fun Γ => ?_
  refine run_sound (⟨fun | 3, 4 => .call true Unit (fun _ => True) [] false (fun _ => .sl 1 (strs l)) (fun _ => []) (fun _ => none_) | _, _ => .no, [], fun  | _ => none⟩) 400 (B := jb = jb ∧ TCalls Try.prog (39 : Nat) [T.sl (1 : Nat) (strs l)] [] (fun x => none) (callPost (Hint.call true Unit (fun x => True) [] false (fun x => T.sl (1 : Nat) (strs l)) (fun x => []) fun x => none_)) ∧ ∀ (a : Unit), True → Q (T.sl (1 : Nat) (strs l)) [(db, Ob.cells [T.v (Value.string (ByteArray.mk (List.toArray (Dk.b d)))), T.v (Value.int IntKind.i64 (↑(Dk.n d) : Int)), T.v (Value.bool (Dk.off d))]), (jb, Ob.cells [T.ptr (0 : Nat) db (0 : Nat), T.slx (1 : Nat) (2 : Nat) (strs l) h, T.v (Value.bool dead)]), ((0 : Nat), Ob.room (1 : Nat) (9 : Nat) (List.length (strs l)) h)] fun x => none) (by kernel_rfl) ?_
  repeat' (first | exact rfl | exact Nat.le_of_ble_eq_true rfl | refine And.intro ?_ ?_ | intro _ | refine bsplit_mk (fun _ => ?_) (fun _ => ?_))
  all_goals first
    | exact hc
    | exact hQ _ rfl
    | trace_state
/-! the records as a slice that may grow -/
theorem clone_b2 (Γ : Ctx) (Q : T → Obs → Glb → Prop) (hQ : Q (.v nilS) [(0, .room 1 9 0 nilS)] none_) : TWk Try.prog Γ (fin Try.prog Try.f39 [0] Q) [.code (sub (bd Try.f39) [1, 0, 1, 0]), .code (sub (bd Try.f39) [1, 1])] ⟨frame 8 [], [(0, .room 1 9 0 nilS)], none_⟩ := by
  refine run_sound (⟨fun _ _ => .no, [], fun _ => none⟩) 400 (B := Q (T.v (Value.slice none (0 : Nat) (0 : Nat))) [((0 : Nat), Ob.room (1 : Nat) (9 : Nat) (0 : Nat) (Value.slice none (0 : Nat) (0 : Nat)))] fun x => none) (by kernel_rfl) ?_
  repeat' (first | exact rfl | exact Nat.le_of_ble_eq_true rfl | refine And.intro ?_ ?_ | intro _ | refine bsplit_mk (fun _ => ?_) (fun _ => ?_))
  exact hQ
theorem clone2 (l : List (List UInt8)) (hl : l.length ≤ 100000000) (Q : T → Obs → Glb → Prop) (h1 : l = [] → Q (.v nilS) [(0, .room 1 9 0 nilS)] none_) (h2 : ∀ x, Q (.slx 1 0 (strs l) x) [(0, .room 1 9 (strs l).length x)] none_) : TCalls Try.prog 39 [.sl 1 (strs l)] [] none_ Q := by
  refine TCalls.of Try.func39 rfl (CanCall.of Try.func39 rfl (by decide)) [0] fun Γ => ?_
  refine run_sound (⟨fun _ _ => .no, [((0, 2), ([], 0))], fun _ => none⟩) 400 (B := (List.length (strs l) = (0 : Nat) → TWk Try.prog Γ (fin Try.prog Try.f39 [(0 : Nat)] Q) [It.code (sub (bd Try.f39) [(1 : Nat), (0 : Nat), (1 : Nat), (0 : Nat)]), It.code (sub (bd Try.f39) [(1 : Nat), (1 : Nat)])] { fr := [T.und, T.und, T.und, T.und, T.und, T.und, T.und, T.und], ob := [], gl := fun x => none }) ∧ (0 : Nat) < nat_lit 1 ∧ ∀ (x : Value), (x = x ∧ (0 : Nat) = (0 : Nat)) ∧ Fits ((0 : Nat) + List.length (strs l)) (nat_lit 16) ∧ ∀ (x : Value), Q (T.slx (1 : Nat) (0 : Nat) (strs l) x) [((0 : Nat), Ob.room (1 : Nat) (9 : Nat) (List.length ([] ++ strs l)) x)] fun x => none) (by kernel_rfl) ?_
  repeat' (first | exact rfl | exact Nat.le_of_ble_eq_true rfl | refine And.intro ?_ ?_ | intro _ | refine bsplit_mk (fun _ => ?_) (fun _ => ?_))
  all_goals first
    | exact h2 _
    | (rename_i h; exact TWk.imp (clone_b2 Γ Q (h1 (List.eq_nil_of_length_eq_zero (by rw [strs_len] at h; exact h)))) (Imp.room 1 9))
    | (simp only [strs_len]; omega)
    | (simp only [strs_len]; unfold maxLen; omega)
    | trace_state
inductive cloneR (l : List (List UInt8)) (x : T) (ob : Obs) (gl : Glb) : Prop where
  | nil (h : l = []) (h1 : x = .v nilS) (h2 : ob = [(0, .room 1 9 0 nilS)]) (h3 : gl = none_)
  | row (v : Value) (h1 : x = .slx 1 0 (strs l) v) (h2 : ob = [(0, .room 1 9 (strs l).length v)]) (h3 : gl = none_)
theorem clone2_any (l : List (List UInt8)) (hl : l.length ≤ 100000000) (Q : T → Obs → Glb → Prop) (hQ : ∀ v, Q (.slx 1 0 (strs l) v) [(0, .room 1 9 (strs l).length v)] none_) : TCalls Try.prog 39 [.sl 1 (strs l)] [] none_ Q := by
  refine TCalls.post (clone2 l hl (cloneR l) (fun h => .nil h rfl rfl rfl) (fun v => .row v rfl rfl rfl)) fun x ob gl h => ?_
  rcases h with ⟨rfl, rfl, rfl, rfl⟩ | ⟨v, rfl, rfl, rfl⟩
  · exact ⟨_, _, _, Imp.slotR (j := 0) rfl (t' := .slx 1 0 (strs []) nilS) (fun M v r => rel_nilx r), hQ nilS⟩
  · exact ⟨_, _, _, Imp.refl _ _ _, hQ v⟩
def rcR (l : List (List UInt8)) (v : Value) : Nat × Ob := (0, .room 1 9 (strs l).length v)
theorem recs2_any (db jb : Nat) (d : Dk) (l : List (List UInt8)) (hl : l.length ≤ 100000000) (h : Value) (dead : Bool) (Q : T → Obs → Glb → Prop) (hQ : ∀ v, Q (.slx 1 3 (strs l) v) (obsJ db jb d l h dead ++ [rcR l v]) none_) : TCalls Try.prog 17 [.ptr 1 jb 0] (obsJ db jb d l h dead) none_ Q := by
  have hc := clone2_any l hl (callPost (.call true Value (fun _ => True) [] false (fun v => .slx 1 0 (strs l) v) (fun v => [rcR l v]) (fun _ => none_))) (fun v => ⟨v, trivial, rfl, rfl, Nat.zero_le _, fun h => by cases h⟩)
  refine TCalls.of Try.func17 rfl (CanCall.of Try.func17 rfl (by decide)) [0, 1, 2, 3] fun Γ => ?_
  refine run_sound (⟨fun | 3, 4 => .call true Value (fun _ => True) [] false (fun v => .slx 1 0 (strs l) v) (fun v => [rcR l v]) (fun _ => none_) | _, _ => .no, [((0, 2), ([], 3))], fun  | _ => none⟩) 400 (B := jb = jb ∧ TCalls Try.prog (39 : Nat) [T.sl (1 : Nat) (strs l)] [] (fun x => none) (callPost (Hint.call true Value (fun x => True) [] false (fun v => T.slx (1 : Nat) (0 : Nat) (strs l) v) (fun v => [rcR l v]) fun x => none_)) ∧ ∀ (a : Value), True → Q (T.slx (1 : Nat) (3 : Nat) (strs l) a) [(db, Ob.cells [T.v (Value.string (ByteArray.mk (List.toArray (Dk.b d)))), T.v (Value.int IntKind.i64 (↑(Dk.n d) : Int)), T.v (Value.bool (Dk.off d))]), (jb, Ob.cells [T.ptr (0 : Nat) db (0 : Nat), T.slx (1 : Nat) (2 : Nat) (strs l) h, T.v (Value.bool dead)]), ((0 : Nat), Ob.room (1 : Nat) (9 : Nat) (List.length (strs l)) h), ((0 : Nat), Ob.room (1 : Nat) (9 : Nat) (List.length (strs l)) a)] fun x => none) (by kernel_rfl) ?_
  repeat' (first | exact rfl | exact Nat.le_of_ble_eq_true rfl | refine And.intro ?_ ?_ | intro _ | refine bsplit_mk (fun _ => ?_) (fun _ => ?_))
  all_goals first
    | exact hc
    | exact hQ _
    | trace_state
/-- the error that Add tells -/
def addE (d : Dk) (dead : Bool) (s : List UInt8) : Int := if s = [] then 1 else if 512 < s.length then 3 else if dead then 8 else Jrn.appE d (frL s)
theorem add_ok (db jb : Nat) (d : Dk) (hd : d.Ok) (l : List (List UInt8)) (hl : l.length ≤ 100000000) (h : Value) (s : List UInt8) (hs : Jrn.Vr s) (he : Jrn.appE d (frL s) = 0) (Q : T → Obs → Glb → Prop)
    (hQ : ∀ h', Q (int 0) (obsJ db jb (Jrn.synD (Jrn.appD d (frL s))) (l ++ [s]) h' false) none_) : TCalls Try.prog 18 [.ptr 1 jb 0, str s] (obsJ db jb d l h false) none_ Q := by
  have hs1 := hs.1
  have hs2 := hs.2
  have hne : s ≠ [] := fun e => by rw [e] at hs1; simp at hs1
  have hfl := Jrn.frL_len s
  have ho : d.off = false := by
    unfold Jrn.appE at he
    cases hoff : d.off with
    | false => rfl
    | true => rw [hoff] at he; simp at he
  have hfr : TCalls Try.prog 40 [str s] [] none_ (callPost (told (str (frL s)) [] [])) := X2.framed_any s (by omega) _ fun x h => told_post h
  have hap : TCalls Try.prog 12 [.ptr 0 db 0, str (frL s)] (obsK db d) none_ (callPost (told (int 0) [0] (obsK db (Jrn.appD d (frL s))))) := X9.app_any db d hd (frL s) (by omega) _ fun x hx => by rw [he] at hx; exact dk_post hx
  have hsy : TCalls Try.prog 41 [.ptr 0 db 0] (obsK db (Jrn.appD d (frL s))) none_ (callPost (told (int 0) [0] (obsK db (Jrn.synD (Jrn.appD d (frL s)))))) := X9.sync_any db _ _ fun x hx => by
    have : Jrn.rdyE (Jrn.appD d (frL s)) = 0 := by unfold Jrn.rdyE Jrn.appD; rw [if_pos he]; simp [ho]
    rw [this] at hx; exact dk_post hx
  generalize Jrn.appD d (frL s) = d1 at *
  generalize Jrn.synD d1 = d2 at *
  simp only [obsJ, jC, strs_snoc] at hQ
  refine TCalls.of Try.func18 rfl (CanCall.of Try.func18 rfl (by decide)) [0, 1, 2] fun Γ => ?_
  refine run_sound (⟨fun | 7, 5 => told (str (frL s)) [] [] | 7, 6 => dkH 0 d1 (int 0) | 9, 4 => dkH 0 d2 (int 0) | _, _ => .no, [((0, 2), ([], 3)), ((0, 4), ([], 3)), ((0, 11), ([0, 5], 3))], fun | 7 => some ⟨[1], [6], .take true [0,1,2,3,4] (.one 5 (.one 6 (.take false [7] .done)))⟩ | _ => none⟩) 400 (B := bsplit (decide ((ByteArray.mk (List.toArray s)) = (ByteArray.mk (#[])))) (TWk Try.prog Γ (fin Try.prog Try.f18 [(0 : Nat), (1 : Nat), (2 : Nat)] Q) [It.code (sub (bd Try.f18) [(1 : Nat), (0 : Nat), (0 : Nat), (1 : Nat), (0 : Nat)]), It.blk (0 : Nat), It.code (sub (bd Try.f18) [(1 : Nat), (1 : Nat)])] { fr := [T.und, T.und, T.und, T.und, T.und, T.und, T.und, T.und, T.und, T.und, T.und, T.und, T.und, T.und, T.und, T.und, T.und, T.und, T.und, T.und, T.und, T.und, T.und, T.und, T.und, T.und, T.und, T.und, T.und, T.und, T.und, T.und, T.und, T.und, T.und, T.und, T.und, T.und, T.und, T.und, T.und, T.und, T.und, T.und, T.und, T.und, T.und, T.und, T.und, T.und, T.und, T.und], ob := [(db, Ob.cells [T.v (Value.string (ByteArray.mk (List.toArray (Dk.b d)))), T.v (Value.int IntKind.i64 (↑(Dk.n d) : Int)), T.v (Value.bool (Dk.off d))]), (jb, Ob.cells [T.ptr (0 : Nat) db (0 : Nat), T.slx (1 : Nat) (2 : Nat) (strs l) h, T.v (Value.bool false)]), ((0 : Nat), Ob.room (1 : Nat) (9 : Nat) (List.length (strs l)) h)], gl := fun x => none }) (bsplit (decide ((↑(ByteArray.size (ByteArray.mk (List.toArray s))) : Int) > (512 : Int))) (TWk Try.prog Γ (fin Try.prog Try.f18 [(0 : Nat), (1 : Nat), (2 : Nat)] Q) [It.code (sub (bd Try.f18) [(1 : Nat), (0 : Nat), (0 : Nat), (1 : Nat), (1 : Nat), (1 : Nat), (0 : Nat)]), It.blk (0 : Nat), It.code (sub (bd Try.f18) [(1 : Nat), (1 : Nat)])] { fr := [T.und, T.und, T.und, T.und, T.und, T.und, T.und, T.und, T.und, T.und, T.und, T.und, T.und, T.und, T.und, T.und, T.und, T.und, T.und, T.und, T.und, T.und, T.und, T.und, T.und, T.und, T.und, T.und, T.und, T.und, T.und, T.und, T.und, T.und, T.und, T.und, T.und, T.und, T.und, T.und, T.und, T.und, T.und, T.und, T.und, T.und, T.und, T.und, T.und, T.und, T.und, T.und], ob := [(db, Ob.cells [T.v (Value.string (ByteArray.mk (List.toArray (Dk.b d)))), T.v (Value.int IntKind.i64 (↑(Dk.n d) : Int)), T.v (Value.bool (Dk.off d))]), (jb, Ob.cells [T.ptr (0 : Nat) db (0 : Nat), T.slx (1 : Nat) (2 : Nat) (strs l) h, T.v (Value.bool false)]), ((0 : Nat), Ob.room (1 : Nat) (9 : Nat) (List.length (strs l)) h)], gl := fun x => none }) (jb = jb ∧ jb = jb ∧ TCalls Try.prog (40 : Nat) [T.v (Value.string (ByteArray.mk (List.toArray s)))] [] (fun x => none) (callPost (Hint.call false Unit (fun x => True) [] false (fun x => str (frL s)) (fun x => []) fun x => none_)) ∧ ∀ (a : Unit), True → TCalls Try.prog (12 : Nat) [T.ptr (0 : Nat) db (0 : Nat), T.v (Value.string (ByteArray.mk (List.toArray (frL s))))] [(db, Ob.cells [T.v (Value.string (ByteArray.mk (List.toArray (Dk.b d)))), T.v (Value.int IntKind.i64 (↑(Dk.n d) : Int)), T.v (Value.bool (Dk.off d))])] (fun x => none) (callPost (Hint.call false Unit (fun x => True) [(0 : Nat)] false (fun x => int (0 : Int)) (fun x => obsK db d1) fun x => none_)) ∧ ∀ (a : Unit), True → jb = jb ∧ TCalls Try.prog (41 : Nat) [T.ptr (0 : Nat) db (0 : Nat)] [(db, Ob.cells [T.v (Value.string (ByteArray.mk (List.toArray (Dk.b d1)))), T.v (Value.int IntKind.i64 (↑(Dk.n d1) : Int)), T.v (Value.bool (Dk.off d1))])] (fun x => none) (callPost (Hint.call false Unit (fun x => True) [(0 : Nat)] false (fun x => int (0 : Int)) (fun x => obsK db d2) fun x => none_)) ∧ ∀ (a : Unit), True → jb = jb ∧ (h = h ∧ List.length (strs l) = List.length (strs l)) ∧ Fits (List.length (strs l) + (1 : Nat)) (nat_lit 16) ∧ ∀ (x : Value), ((1 : Nat) = nat_lit 1 ∧ List.all [T.slx (1 : Nat) (2 : Nat) (strs l ++ [T.v (Value.string (ByteArray.mk (List.toArray s)))]) x] T.one = true) ∧ jb = jb ∧ (1 : Nat) + nat_lit 1 ≤ (3 : Nat) ∧ Q (T.v (Value.int IntKind.i64 (0 : Int))) [(db, Ob.cells [T.v (Value.string (ByteArray.mk (List.toArray (Dk.b d2)))), T.v (Value.int IntKind.i64 (↑(Dk.n d2) : Int)), T.v (Value.bool (Dk.off d2))]), (jb, Ob.cells [T.ptr (0 : Nat) db (0 : Nat), T.slx (1 : Nat) (2 : Nat) (strs l ++ [T.v (Value.string (ByteArray.mk (List.toArray s)))]) x, T.v (Value.bool false)]), ((0 : Nat), Ob.room (1 : Nat) (9 : Nat) (List.length (strs l ++ [T.v (Value.string (ByteArray.mk (List.toArray s)))])) x)] fun x => none))) (by kernel_rfl) ?_
  repeat' (first | exact rfl | exact Nat.le_of_ble_eq_true rfl | refine And.intro ?_ ?_ | intro _ | refine bsplit_mk (fun _ => ?_) (fun _ => ?_))
  all_goals first
    | exact hfr
    | exact hap
    | exact hsy
    | exact hQ _
    | (exfalso; rename_i h; exact hne (by have := congrArg (fun b : ByteArray => b.data.toList) (of_decide_eq_true h); simpa using this))
    | (exfalso; simp only [decide_eq_true_eq, bs_len] at *; omega)
    | (exfalso; rename_i h; simp at h; done)
    | (simp only [strs_len]; omega)
    | (simp only [strs_len]; unfold maxLen; omega)
    | trace_state
theorem bs_nil {s : List UInt8} (h : decide ((⟨s.toArray⟩ : ByteArray) = ⟨#[]⟩) = true) : s = [] := by
  have := congrArg (fun b : ByteArray => b.data.toList) (of_decide_eq_true h); simpa using this
theorem add_arg (db jb : Nat) (d : Dk) (l : List (List UInt8)) (h : Value) (dead : Bool) (Q : T → Obs → Glb → Prop)
    (hQ : ∀ x, x = int 1 → Q x (obsJ db jb d l h dead) none_) : TCalls Try.prog 18 [.ptr 1 jb 0, str []] (obsJ db jb d l h dead) none_ Q := by
  refine TCalls.of Try.func18 rfl (CanCall.of Try.func18 rfl (by decide)) [0, 1, 2] fun Γ => ?_
  refine run_sound (⟨fun  | _, _ => .no, [((0, 3), ([0, 1], 3))], fun | 7 => some ⟨[], [6], .take true [0,1,2,3,4] (.one 5 (.one 6 (.take false [7] .done)))⟩ | _ => none⟩) 400 (B := Q (T.v (Value.int IntKind.i64 (1 : Int))) [(db, Ob.cells [T.v (Value.string (ByteArray.mk (List.toArray (Dk.b d)))), T.v (Value.int IntKind.i64 (↑(Dk.n d) : Int)), T.v (Value.bool (Dk.off d))]), (jb, Ob.cells [T.ptr (0 : Nat) db (0 : Nat), T.slx (1 : Nat) (2 : Nat) (strs l) h, T.v (Value.bool dead)]), ((0 : Nat), Ob.room (1 : Nat) (9 : Nat) (List.length (strs l)) h)] fun x => none) (by kernel_rfl) ?_
  repeat' (first | exact rfl | exact Nat.le_of_ble_eq_true rfl | refine And.intro ?_ ?_ | intro _ | refine bsplit_mk (fun _ => ?_) (fun _ => ?_))
  all_goals first
    | exact hQ _ rfl
    | (exfalso; rename_i h; simp at h; done)
    | trace_state
theorem add_long (db jb : Nat) (d : Dk) (l : List (List UInt8)) (h : Value) (dead : Bool) (s : List UInt8) (hs : 512 < s.length) (Q : T → Obs → Glb → Prop)
    (hQ : ∀ x, x = int 3 → Q x (obsJ db jb d l h dead) none_) : TCalls Try.prog 18 [.ptr 1 jb 0, str s] (obsJ db jb d l h dead) none_ Q := by
  have hne : s ≠ [] := fun e => by rw [e] at hs; simp at hs
  refine TCalls.of Try.func18 rfl (CanCall.of Try.func18 rfl (by decide)) [0, 1, 2] fun Γ => ?_
  refine run_sound (⟨fun  | _, _ => .no, [((0, 2), ([], 3)), ((0, 5), ([0, 1], 3))], fun | 7 => some ⟨[], [6], .take true [0,1,2,3,4] (.one 5 (.one 6 (.take false [7] .done)))⟩ | _ => none⟩) 400 (B := bsplit (decide ((ByteArray.mk (List.toArray s)) = (ByteArray.mk (#[])))) (TWk Try.prog Γ (fin Try.prog Try.f18 [(0 : Nat), (1 : Nat), (2 : Nat)] Q) [It.code (sub (bd Try.f18) [(1 : Nat), (0 : Nat), (0 : Nat), (1 : Nat), (0 : Nat)]), It.blk (0 : Nat), It.code (sub (bd Try.f18) [(1 : Nat), (1 : Nat)])] { fr := [T.und, T.und, T.und, T.und, T.und, T.und, T.und, T.und, T.und, T.und, T.und, T.und, T.und, T.und, T.und, T.und, T.und, T.und, T.und, T.und, T.und, T.und, T.und, T.und, T.und, T.und, T.und, T.und, T.und, T.und, T.und, T.und, T.und, T.und, T.und, T.und, T.und, T.und, T.und, T.und, T.und, T.und, T.und, T.und, T.und, T.und, T.und, T.und, T.und, T.und, T.und, T.und], ob := [(db, Ob.cells [T.v (Value.string (ByteArray.mk (List.toArray (Dk.b d)))), T.v (Value.int IntKind.i64 (↑(Dk.n d) : Int)), T.v (Value.bool (Dk.off d))]), (jb, Ob.cells [T.ptr (0 : Nat) db (0 : Nat), T.slx (1 : Nat) (2 : Nat) (strs l) h, T.v (Value.bool dead)]), ((0 : Nat), Ob.room (1 : Nat) (9 : Nat) (List.length (strs l)) h)], gl := fun x => none }) (bsplit (decide ((↑(ByteArray.size (ByteArray.mk (List.toArray s))) : Int) > (512 : Int))) (Q (T.v (Value.int IntKind.i64 (3 : Int))) [(db, Ob.cells [T.v (Value.string (ByteArray.mk (List.toArray (Dk.b d)))), T.v (Value.int IntKind.i64 (↑(Dk.n d) : Int)), T.v (Value.bool (Dk.off d))]), (jb, Ob.cells [T.ptr (0 : Nat) db (0 : Nat), T.slx (1 : Nat) (2 : Nat) (strs l) h, T.v (Value.bool dead)]), ((0 : Nat), Ob.room (1 : Nat) (9 : Nat) (List.length (strs l)) h)] fun x => none) (TWk Try.prog Γ (fin Try.prog Try.f18 [(0 : Nat), (1 : Nat), (2 : Nat)] Q) [It.code (sub (bd Try.f18) [(1 : Nat), (0 : Nat), (0 : Nat), (1 : Nat), (1 : Nat), (1 : Nat), (1 : Nat)]), It.blk (0 : Nat), It.code (sub (bd Try.f18) [(1 : Nat), (1 : Nat)])] { fr := [T.ptr (1 : Nat) jb (0 : Nat), T.v (Value.string (ByteArray.mk (List.toArray s))), T.und, T.und, T.und, T.und, T.und, T.und, T.und, T.und, T.und, T.und, T.und, T.und, T.und, T.und, T.und, T.und, T.und, T.und, T.und, T.und, T.und, T.und, T.und, T.und, T.und, T.und, T.und, T.und, T.und, T.und, T.und, T.und, T.und, T.und, T.und, T.und, T.und, T.und, T.und, T.und, T.und, T.und, T.und, T.und, T.und, T.und, T.und, T.und, T.und, T.und], ob := [(db, Ob.cells [T.v (Value.string (ByteArray.mk (List.toArray (Dk.b d)))), T.v (Value.int IntKind.i64 (↑(Dk.n d) : Int)), T.v (Value.bool (Dk.off d))]), (jb, Ob.cells [T.ptr (0 : Nat) db (0 : Nat), T.slx (1 : Nat) (2 : Nat) (strs l) h, T.v (Value.bool dead)]), ((0 : Nat), Ob.room (1 : Nat) (9 : Nat) (List.length (strs l)) h)], gl := fun x => none }))) (by kernel_rfl) ?_
  repeat' (first | exact rfl | exact Nat.le_of_ble_eq_true rfl | refine And.intro ?_ ?_ | intro _ | refine bsplit_mk (fun _ => ?_) (fun _ => ?_))
  all_goals first
    | exact hQ _ rfl
    | (exfalso; rename_i h; exact hne (bs_nil h))
    | (exfalso; simp only [decide_eq_false_iff_not, bs_len] at *; omega)
    | trace_state
theorem add_dead (db jb : Nat) (d : Dk) (l : List (List UInt8)) (h : Value) (s : List UInt8) (hs : Jrn.Vr s) (Q : T → Obs → Glb → Prop)
    (hQ : ∀ x, x = int 8 → Q x (obsJ db jb d l h true) none_) : TCalls Try.prog 18 [.ptr 1 jb 0, str s] (obsJ db jb d l h true) none_ Q := by
  have hs1 := hs.1
  have hs2 := hs.2
  have hne : s ≠ [] := fun e => by rw [e] at hs1; simp at hs1
  refine TCalls.of Try.func18 rfl (CanCall.of Try.func18 rfl (by decide)) [0, 1, 2] fun Γ => ?_
  refine run_sound (⟨fun  | _, _ => .no, [((0, 2), ([], 3)), ((0, 4), ([], 3))], fun | 7 => some ⟨[], [6], .take true [0,1,2,3,4] (.one 5 (.one 6 (.take false [7] .done)))⟩ | _ => none⟩) 400 (B := bsplit (decide ((ByteArray.mk (List.toArray s)) = (ByteArray.mk (#[])))) (TWk Try.prog Γ (fin Try.prog Try.f18 [(0 : Nat), (1 : Nat), (2 : Nat)] Q) [It.code (sub (bd Try.f18) [(1 : Nat), (0 : Nat), (0 : Nat), (1 : Nat), (0 : Nat)]), It.blk (0 : Nat), It.code (sub (bd Try.f18) [(1 : Nat), (1 : Nat)])] { fr := [T.und, T.und, T.und, T.und, T.und, T.und, T.und, T.und, T.und, T.und, T.und, T.und, T.und, T.und, T.und, T.und, T.und, T.und, T.und, T.und, T.und, T.und, T.und, T.und, T.und, T.und, T.und, T.und, T.und, T.und, T.und, T.und, T.und, T.und, T.und, T.und, T.und, T.und, T.und, T.und, T.und, T.und, T.und, T.und, T.und, T.und, T.und, T.und, T.und, T.und, T.und, T.und], ob := [(db, Ob.cells [T.v (Value.string (ByteArray.mk (List.toArray (Dk.b d)))), T.v (Value.int IntKind.i64 (↑(Dk.n d) : Int)), T.v (Value.bool (Dk.off d))]), (jb, Ob.cells [T.ptr (0 : Nat) db (0 : Nat), T.slx (1 : Nat) (2 : Nat) (strs l) h, T.v (Value.bool true)]), ((0 : Nat), Ob.room (1 : Nat) (9 : Nat) (List.length (strs l)) h)], gl := fun x => none }) (bsplit (decide ((↑(ByteArray.size (ByteArray.mk (List.toArray s))) : Int) > (512 : Int))) (TWk Try.prog Γ (fin Try.prog Try.f18 [(0 : Nat), (1 : Nat), (2 : Nat)] Q) [It.code (sub (bd Try.f18) [(1 : Nat), (0 : Nat), (0 : Nat), (1 : Nat), (1 : Nat), (1 : Nat), (0 : Nat)]), It.blk (0 : Nat), It.code (sub (bd Try.f18) [(1 : Nat), (1 : Nat)])] { fr := [T.und, T.und, T.und, T.und, T.und, T.und, T.und, T.und, T.und, T.und, T.und, T.und, T.und, T.und, T.und, T.und, T.und, T.und, T.und, T.und, T.und, T.und, T.und, T.und, T.und, T.und, T.und, T.und, T.und, T.und, T.und, T.und, T.und, T.und, T.und, T.und, T.und, T.und, T.und, T.und, T.und, T.und, T.und, T.und, T.und, T.und, T.und, T.und, T.und, T.und, T.und, T.und], ob := [(db, Ob.cells [T.v (Value.string (ByteArray.mk (List.toArray (Dk.b d)))), T.v (Value.int IntKind.i64 (↑(Dk.n d) : Int)), T.v (Value.bool (Dk.off d))]), (jb, Ob.cells [T.ptr (0 : Nat) db (0 : Nat), T.slx (1 : Nat) (2 : Nat) (strs l) h, T.v (Value.bool true)]), ((0 : Nat), Ob.room (1 : Nat) (9 : Nat) (List.length (strs l)) h)], gl := fun x => none }) (jb = jb ∧ Q (T.v (Value.int IntKind.i64 (8 : Int))) [(db, Ob.cells [T.v (Value.string (ByteArray.mk (List.toArray (Dk.b d)))), T.v (Value.int IntKind.i64 (↑(Dk.n d) : Int)), T.v (Value.bool (Dk.off d))]), (jb, Ob.cells [T.ptr (0 : Nat) db (0 : Nat), T.slx (1 : Nat) (2 : Nat) (strs l) h, T.v (Value.bool true)]), ((0 : Nat), Ob.room (1 : Nat) (9 : Nat) (List.length (strs l)) h)] fun x => none))) (by kernel_rfl) ?_
  repeat' (first | exact rfl | exact Nat.le_of_ble_eq_true rfl | refine And.intro ?_ ?_ | intro _ | refine bsplit_mk (fun _ => ?_) (fun _ => ?_))
  all_goals first
    | exact hQ _ rfl
    | (exfalso; rename_i h; exact hne (bs_nil h))
    | (exfalso; simp only [decide_eq_true_eq, bs_len] at *; omega)
    | trace_state
theorem add_fail (db jb : Nat) (d : Dk) (hd : d.Ok) (l : List (List UInt8)) (h : Value) (s : List UInt8) (hs : Jrn.Vr s) (e : Int) (he : Jrn.appE d (frL s) = e) (hne0 : e ≠ 0) (Q : T → Obs → Glb → Prop)
    (hQ : ∀ x, x = int e → Q x (obsJ db jb d l h true) none_) : TCalls Try.prog 18 [.ptr 1 jb 0, str s] (obsJ db jb d l h false) none_ Q := by
  have hs1 := hs.1
  have hs2 := hs.2
  have hne : s ≠ [] := fun e => by rw [e] at hs1; simp at hs1
  have hfl := Jrn.frL_len s
  have hfr : TCalls Try.prog 40 [str s] [] none_ (callPost (told (str (frL s)) [] [])) := X2.framed_any s (by omega) _ fun x h => told_post h
  have had : Jrn.appD d (frL s) = d := by unfold Jrn.appD; rw [if_neg (by rw [he]; exact hne0)]
  have hap : TCalls Try.prog 12 [.ptr 0 db 0, str (frL s)] (obsK db d) none_ (callPost (told (int e) [0] (obsK db d))) := X9.app_any db d hd (frL s) (by omega) _ fun x hx => by rw [he] at hx; rw [had]; exact dk_post hx
  refine TCalls.of Try.func18 rfl (CanCall.of Try.func18 rfl (by decide)) [0, 1, 2] fun Γ => ?_
  refine run_sound (⟨fun | 7, 5 => told (str (frL s)) [] [] | 7, 6 => dkH 0 d (int e) | _, _ => .no, [((0, 2), ([], 3)), ((0, 4), ([], 3)), ((0, 9), ([0, 1], 3)), ((0, 13), ([0, 1], 3))], fun | 7 => some ⟨[1], [6], .take true [0,1,2,3,4] (.one 5 (.one 6 (.take false [7] .done)))⟩ | _ => none⟩) 400 (B := bsplit (decide ((ByteArray.mk (List.toArray s)) = (ByteArray.mk (#[])))) (TWk Try.prog Γ (fin Try.prog Try.f18 [(0 : Nat), (1 : Nat), (2 : Nat)] Q) [It.code (sub (bd Try.f18) [(1 : Nat), (0 : Nat), (0 : Nat), (1 : Nat), (0 : Nat)]), It.blk (0 : Nat), It.code (sub (bd Try.f18) [(1 : Nat), (1 : Nat)])] { fr := [T.und, T.und, T.und, T.und, T.und, T.und, T.und, T.und, T.und, T.und, T.und, T.und, T.und, T.und, T.und, T.und, T.und, T.und, T.und, T.und, T.und, T.und, T.und, T.und, T.und, T.und, T.und, T.und, T.und, T.und, T.und, T.und, T.und, T.und, T.und, T.und, T.und, T.und, T.und, T.und, T.und, T.und, T.und, T.und, T.und, T.und, T.und, T.und, T.und, T.und, T.und, T.und], ob := [(db, Ob.cells [T.v (Value.string (ByteArray.mk (List.toArray (Dk.b d)))), T.v (Value.int IntKind.i64 (↑(Dk.n d) : Int)), T.v (Value.bool (Dk.off d))]), (jb, Ob.cells [T.ptr (0 : Nat) db (0 : Nat), T.slx (1 : Nat) (2 : Nat) (strs l) h, T.v (Value.bool false)]), ((0 : Nat), Ob.room (1 : Nat) (9 : Nat) (List.length (strs l)) h)], gl := fun x => none }) (bsplit (decide ((↑(ByteArray.size (ByteArray.mk (List.toArray s))) : Int) > (512 : Int))) (TWk Try.prog Γ (fin Try.prog Try.f18 [(0 : Nat), (1 : Nat), (2 : Nat)] Q) [It.code (sub (bd Try.f18) [(1 : Nat), (0 : Nat), (0 : Nat), (1 : Nat), (1 : Nat), (1 : Nat), (0 : Nat)]), It.blk (0 : Nat), It.code (sub (bd Try.f18) [(1 : Nat), (1 : Nat)])] { fr := [T.und, T.und, T.und, T.und, T.und, T.und, T.und, T.und, T.und, T.und, T.und, T.und, T.und, T.und, T.und, T.und, T.und, T.und, T.und, T.und, T.und, T.und, T.und, T.und, T.und, T.und, T.und, T.und, T.und, T.und, T.und, T.und, T.und, T.und, T.und, T.und, T.und, T.und, T.und, T.und, T.und, T.und, T.und, T.und, T.und, T.und, T.und, T.und, T.und, T.und, T.und, T.und], ob := [(db, Ob.cells [T.v (Value.string (ByteArray.mk (List.toArray (Dk.b d)))), T.v (Value.int IntKind.i64 (↑(Dk.n d) : Int)), T.v (Value.bool (Dk.off d))]), (jb, Ob.cells [T.ptr (0 : Nat) db (0 : Nat), T.slx (1 : Nat) (2 : Nat) (strs l) h, T.v (Value.bool false)]), ((0 : Nat), Ob.room (1 : Nat) (9 : Nat) (List.length (strs l)) h)], gl := fun x => none }) (jb = jb ∧ jb = jb ∧ TCalls Try.prog (40 : Nat) [T.v (Value.string (ByteArray.mk (List.toArray s)))] [] (fun x => none) (callPost (Hint.call false Unit (fun x => True) [] false (fun x => str (frL s)) (fun x => []) fun x => none_)) ∧ ∀ (a : Unit), True → TCalls Try.prog (12 : Nat) [T.ptr (0 : Nat) db (0 : Nat), T.v (Value.string (ByteArray.mk (List.toArray (frL s))))] [(db, Ob.cells [T.v (Value.string (ByteArray.mk (List.toArray (Dk.b d)))), T.v (Value.int IntKind.i64 (↑(Dk.n d) : Int)), T.v (Value.bool (Dk.off d))])] (fun x => none) (callPost (Hint.call false Unit (fun x => True) [(0 : Nat)] false (fun x => int e) (fun x => obsK db d) fun x => none_)) ∧ ∀ (a : Unit), True → bsplit (e == (0 : Int)) (TWk Try.prog Γ (fin Try.prog Try.f18 [(0 : Nat), (1 : Nat), (2 : Nat)] Q) [It.code (sub (bd Try.f18) [(1 : Nat), (1 : Nat), (1 : Nat), (0 : Nat), (1 : Nat), (0 : Nat)]), It.code (sub (bd Try.f18) [(1 : Nat), (1 : Nat), (1 : Nat), (1 : Nat)])] { fr := [T.ptr (1 : Nat) jb (0 : Nat), T.v (Value.string (ByteArray.mk (List.toArray s))), T.und, T.und, T.und, T.und, T.und, T.und, T.und, T.und, T.und, T.und, T.und, T.und, T.und, T.und, T.und, T.und, T.und, T.und, T.und, T.und, T.und, T.und, T.und, T.und, T.und, T.und, T.und, T.und, T.und, T.und, T.und, T.und, T.und, T.und, T.und, T.und, T.und, T.und, T.und, T.und, T.und, T.und, T.und, T.und, T.und, T.und, T.und, T.und, T.und, T.und], ob := [(db, Ob.cells [T.v (Value.string (ByteArray.mk (List.toArray (Dk.b d)))), T.v (Value.int IntKind.i64 (↑(Dk.n d) : Int)), T.v (Value.bool (Dk.off d))]), (jb, Ob.cells [T.ptr (0 : Nat) db (0 : Nat), T.slx (1 : Nat) (2 : Nat) (strs l) h, T.v (Value.bool false)]), ((0 : Nat), Ob.room (1 : Nat) (9 : Nat) (List.length (strs l)) h)], gl := fun x => none }) (bsplit (e != (0 : Int)) (((1 : Nat) = nat_lit 1 ∧ List.all (List.map T.v (Array.toList #[Value.bool true])) T.one = true) ∧ jb = jb ∧ (2 : Nat) + nat_lit 1 ≤ (3 : Nat) ∧ Q (T.v (Value.int IntKind.i64 e)) [(db, Ob.cells [T.v (Value.string (ByteArray.mk (List.toArray (Dk.b d)))), T.v (Value.int IntKind.i64 (↑(Dk.n d) : Int)), T.v (Value.bool (Dk.off d))]), (jb, Ob.cells [T.ptr (0 : Nat) db (0 : Nat), T.slx (1 : Nat) (2 : Nat) (strs l) h, T.v (Value.bool true)]), ((0 : Nat), Ob.room (1 : Nat) (9 : Nat) (List.length (strs l)) h)] fun x => none) (TWk Try.prog Γ (fin Try.prog Try.f18 [(0 : Nat), (1 : Nat), (2 : Nat)] Q) [It.code (sub (bd Try.f18) [(1 : Nat), (1 : Nat), (1 : Nat), (1 : Nat), (1 : Nat)])] { fr := [T.ptr (1 : Nat) jb (0 : Nat), T.v (Value.string (ByteArray.mk (List.toArray s))), T.und, T.und, T.und, T.und, T.und, T.und, T.und, T.und, T.und, T.und, T.und, T.und, T.und, T.und, T.und, T.und, T.und, T.und, T.und, T.und, T.und, T.und, T.und, T.und, T.und, T.und, T.und, T.und, T.und, T.und, T.und, T.und, T.und, T.und, T.und, T.und, T.und, T.und, T.und, T.und, T.und, T.und, T.und, T.und, T.und, T.und, T.und, T.und, T.und, T.und], ob := [(db, Ob.cells [T.v (Value.string (ByteArray.mk (List.toArray (Dk.b d)))), T.v (Value.int IntKind.i64 (↑(Dk.n d) : Int)), T.v (Value.bool (Dk.off d))]), (jb, Ob.cells [T.ptr (0 : Nat) db (0 : Nat), T.slx (1 : Nat) (2 : Nat) (strs l) h, T.v (Value.bool false)]), ((0 : Nat), Ob.room (1 : Nat) (9 : Nat) (List.length (strs l)) h)], gl := fun x => none }))))) (by kernel_rfl) ?_
  repeat' (first | exact rfl | exact Nat.le_of_ble_eq_true rfl | refine And.intro ?_ ?_ | intro _ | refine bsplit_mk (fun _ => ?_) (fun _ => ?_))
  all_goals first
    | exact hfr
    | exact hap
    | exact hQ _ rfl
    | (exfalso; rename_i h; exact hne (bs_nil h))
    | (exfalso; simp only [decide_eq_true_eq, bs_len] at *; omega)
    | (exfalso; simp only [beq_iff_eq, bne_eq_false_iff_eq] at *; omega)
    | trace_state
theorem add_nil (s : List UInt8) (Q : T → Obs → Glb → Prop) (hQ : ∀ x, x = int 1 → Q x [] none_) : TCalls Try.prog 18 [.v (.pointer none), str s] [] none_ Q := by
  refine TCalls.of Try.func18 rfl (CanCall.of Try.func18 rfl (by decide)) [] fun Γ => ?_
  refine run_sound (⟨fun  | _, _ => .no, [], fun | 7 => some ⟨[], [6], .take true [0,1,2,3,4] (.one 5 (.one 6 (.take false [7] .done)))⟩ | _ => none⟩) 400 (B := Q (T.v (Value.int IntKind.i64 (1 : Int))) [] fun x => none) (by kernel_rfl) ?_
  repeat' (first | exact rfl | exact Nat.le_of_ble_eq_true rfl | refine And.intro ?_ ?_ | intro _ | refine bsplit_mk (fun _ => ?_) (fun _ => ?_))
  exact hQ _ rfl
theorem recs_nil (Q : T → Obs → Glb → Prop) (hQ : ∀ x, x = .v nilS → Q x [] none_) : TCalls Try.prog 17 [.v (.pointer none)] [] none_ Q := by
  refine TCalls.of Try.func17 rfl (CanCall.of Try.func17 rfl (by decide)) [] fun Γ => ?_
  refine run_sound (⟨fun _ _ => .no, [], fun _ => none⟩) 400 (B := Q (T.v (Value.slice none (0 : Nat) (0 : Nat))) [] fun x => none) (by kernel_rfl) ?_
  repeat' (first | exact rfl | exact Nat.le_of_ble_eq_true rfl | refine And.intro ?_ ?_ | intro _ | refine bsplit_mk (fun _ => ?_) (fun _ => ?_))
  exact hQ _ rfl
theorem ready_nil (Q : T → Obs → Glb → Prop) (hQ : ∀ x, x = int 1 → Q x [] none_) : TCalls Try.prog 36 [.v (.pointer none)] [] none_ Q := by
  refine TCalls.of Try.func36 rfl (CanCall.of Try.func36 rfl (by decide)) [] fun Γ => ?_
  refine run_sound (⟨fun _ _ => .no, [], fun _ => none⟩) 400 (B := Q (T.v (Value.int IntKind.i64 (1 : Int))) [] fun x => none) (by kernel_rfl) ?_
  repeat' (first | exact rfl | exact Nat.le_of_ble_eq_true rfl | refine And.intro ?_ ?_ | intro _ | refine bsplit_mk (fun _ => ?_) (fun _ => ?_))
  exact hQ _ rfl
theorem dread_nil (Q : T → Obs → Glb → Prop) (hQ : ∀ x, x = .tup [str [], int 1] → Q x [] none_) : TCalls Try.prog 15 [.v (.pointer none)] [] none_ Q := by
  refine TCalls.of Try.func15 rfl (CanCall.of Try.func15 rfl (by decide)) [] fun Γ => ?_
  refine run_sound (⟨fun | 1, 1 => told (int 1) [] [] | _, _ => .no, [], fun  | _ => none⟩) 400 (B := TCalls Try.prog (36 : Nat) [T.v (Value.pointer none)] [] (fun x => none) (callPost (Hint.call false Unit (fun x => True) [] false (fun x => int (1 : Int)) (fun x => []) fun x => none_)) ∧ ∀ (a : Unit), True → Q (T.tup [T.v (Value.string (ByteArray.mk (#[]))), T.v (Value.int IntKind.i64 (1 : Int))]) [] fun x => none) (by kernel_rfl) ?_
  repeat' (first | exact rfl | exact Nat.le_of_ble_eq_true rfl | refine And.intro ?_ ?_ | intro _ | refine bsplit_mk (fun _ => ?_) (fun _ => ?_))
  all_goals first
    | exact ready_nil _ (fun x hx => told_post hx)
    | exact hQ _ rfl
    | trace_state
theorem jopen_nil (Q : T → Obs → Glb → Prop) (hQ : ∀ x, x = .tup [.v (.pointer none), int 1] → Q x [] none_) : TCalls Try.prog 14 [.v (.pointer none)] [] none_ Q := by
  refine TCalls.of Try.func14 rfl (CanCall.of Try.func14 rfl (by decide)) [] fun Γ => ?_
  refine run_sound (⟨fun | 1, 1 => told (.tup [str [], int 1]) [] [] | _, _ => .no, [], fun  | _ => none⟩) 400 (B := TCalls Try.prog (15 : Nat) [T.v (Value.pointer none)] [] (fun x => none) (callPost (Hint.call false Unit (fun x => True) [] false (fun x => T.tup [str [], int (1 : Int)]) (fun x => []) fun x => none_)) ∧ ∀ (a : Unit), True → Q (T.tup [T.v (Value.pointer none), T.v (Value.int IntKind.i64 (1 : Int))]) [] fun x => none) (by kernel_rfl) ?_
  repeat' (first | exact rfl | exact Nat.le_of_ble_eq_true rfl | refine And.intro ?_ ?_ | intro _ | refine bsplit_mk (fun _ => ?_) (fun _ => ?_))
  all_goals first
    | exact dread_nil _ (fun x hx => told_post hx)
    | exact hQ _ rfl
    | trace_state
end X10
end Go.Proofs.Ytaepgceodcdnhaa.Vm
