/- Texts of this claim: JA, OL, CA, JB, View0. -/
import Derived.Test.YtpjkdcbogjigeaaGreatMg15
import Derived.Test.YtpjkdcbogjigeaaGreatMg16
import Derived.Test.YtpjkdcbogjigeaaGreatMg1
namespace Go.Proofs.YtpjkdcbogjigeaaGreat.Vm
open Go Go.RowKit
set_option maxRecDepth 100000
noncomputable abbrev kJA0 (l : List Nat) : It := .code (sub (bd Tryz.f88) l)
def plJA0 : Nat → Option RPlan := fun | 1 => some ⟨[], [19], .take true [0,1,2,3,4,5,6,7,8,9,10,11,12,13,14,15,16,17,18] (.one 19 .done)⟩ | _ => none
namespace X9
open Jrn (Dk)
def dkC (d : Dk) : List T := [str d.b, int d.n, bool d.off]
def obsK (b : Nat) (d : Dk) : Obs := [(b, .cells (dkC d))]
def dkH (i : Nat) (d : Dk) (x : T) : Hint := .withB fun B => told x [i] (obsK (B.getD i 0) d)
theorem dk_post {b : Nat} {d : Dk} {x y : T} {gl : Glb} (h : y = x) : callPost (told x [0] (obsK b d)) y (obsK b d) gl := ⟨(), trivial, h, rfl, Nat.le_of_ble_eq_true rfl, fun h => by cases h⟩
theorem dnew_any (Q : T → Obs → Glb → Prop) (hQ : ∀ b, Q (.ptr 0 b 0) (obsK b Jrn.newD) none_) : TCalls Tryz.prog 7 [] [] none_ Q := by
  refine TCalls.of Tryz.func7 rfl (CanCall.of Tryz.func7 rfl (by decide)) [0] fun Γ => ?_
  let HH : Nat → Nat → Hint := fun _ _ => .no
  exact run_sound ⟨HH, [], fun _ => none⟩ 400 (by kernel_rfl) (fun (Z0 : Nat) => (hQ Z0))
theorem ready_any (b : Nat) (d : Dk) (Q : T → Obs → Glb → Prop) (hQ : ∀ x, x = int (Jrn.rdyE d) → Q x (obsK b d) none_) : TCalls Tryz.prog 63 [.ptr 0 b 0] (obsK b d) none_ Q := by
  unfold Jrn.rdyE at hQ
  cases ho : d.off with
  | true =>
    rw [ho] at hQ
    have e : obsK b d = obsK b ⟨d.b, d.n, true⟩ := by rw [← ho]
    rw [e] at hQ ⊢
    refine TCalls.of Tryz.func63 rfl (CanCall.of Tryz.func63 rfl (by decide)) [0] fun Γ => ?_
    let HH : Nat → Nat → Hint := fun _ _ => .no
    exact run_sound ⟨HH, [], fun _ => none⟩ 400 (by kernel_rfl) (Yb b (hQ (int (10 : Int)) rfl))
  | false =>
    rw [ho] at hQ
    have e : obsK b d = obsK b ⟨d.b, d.n, false⟩ := by rw [← ho]
    rw [e] at hQ ⊢
    refine TCalls.of Tryz.func63 rfl (CanCall.of Tryz.func63 rfl (by decide)) [0] fun Γ => ?_
    let HH : Nat → Nat → Hint := fun _ _ => .no
    exact run_sound ⟨HH, [], fun _ => none⟩ 400 (by kernel_rfl) (Yb b (hQ (int (0 : Int)) rfl))
theorem ready_post (b : Nat) (d : Dk) : TCalls Tryz.prog 63 [.ptr 0 b 0] (obsK b d) none_ (callPost (told (int (Jrn.rdyE d)) [0] (obsK b d))) := ready_any b d _ fun _ h => dk_post h
theorem app_any (b : Nat) (d : Dk) (hd : d.Ok) (s : List UInt8) (_hs : s.length ≤ 1000000000) (Q : T → Obs → Glb → Prop) (hQ : ∀ x, x = int (Jrn.appE d s) → Q x (obsK b (Jrn.appD d s)) none_) : TCalls Tryz.prog 88 [.ptr 0 b 0, str s] (obsK b d) none_ Q := by
  have h1 := hd.l
  have hr := ready_post b d
  unfold Jrn.appD Jrn.appE at hQ
  unfold Jrn.rdyE at hr
  have hw : IntKind.wrap .i64 (1048576 - ((⟨d.b.toArray⟩ : ByteArray).size : Int)) = 1048576 - (d.b.length : Int) := by rw [bs_len, wrap_i64 (by omega) (by omega)]
  by_cases ho : d.off = true
  · rw [if_pos ho] at hr
    rw [if_pos ho] at hQ
    refine TCalls.of Tryz.func88 rfl (CanCall.of Tryz.func88 rfl (by decide)) [0] fun Γ => ?_
    let HH : Nat → Nat → Hint := fun | 1, 1 => dkH 0 d (int 10) | _, _ => .no
    exact run_sound ⟨HH, [], fun  | _ => none⟩ 400 (by kernel_rfl) (Ya hr (Yu (hQ (int (10 : Int)) rfl)))
  · rw [if_neg ho] at hr
    rw [if_neg ho] at hQ
    by_cases hf : 1048576 < d.b.length + s.length
    · rw [if_pos hf] at hQ
      refine TCalls.of Tryz.func88 rfl (CanCall.of Tryz.func88 rfl (by decide)) [0] fun Γ => ?_
      let HH : Nat → Nat → Hint := fun | 1, 1 => dkH 0 d (int 0) | _, _ => .no
      exact run_sound ⟨HH, [((0, 6), ([0,1], 1))], fun  | _ => none⟩ 400 (by kernel_rfl) (Ya hr (Yu (Yb b (Ys (decide ((↑(ByteArray.size (ByteArray.mk (List.toArray s))) : Int) > IntKind.wrap IntKind.i64 ((1048576 : Int) - (↑(ByteArray.size (ByteArray.mk (List.toArray d.b))) : Int)))) (fun Z0 => (hQ (int (6 : Int)) rfl)) (fun Z1 => (show TWk Tryz.prog Γ (fin Tryz.prog Tryz.f88 [0] Q) [kJA0 [1,1,1]] (S.mk (frame 28 [(0, T.ptr 0 b 0), (1, T.v (Value.string (ByteArray.mk (List.toArray s))))]) [(b, Ob.cells [T.v (Value.string (ByteArray.mk (List.toArray d.b))), int d.n, bool d.off])] fun x => none) by exfalso; simp only [decide_eq_false_iff_not, bs_len] at *; omega))))))
    · rw [if_neg hf] at hQ
      have hq := hQ _ rfl
      rw [if_pos rfl] at hq
      refine TCalls.of Tryz.func88 rfl (CanCall.of Tryz.func88 rfl (by decide)) [0] fun Γ => ?_
      let HH : Nat → Nat → Hint := fun | 1, 1 => dkH 0 d (int 0) | 6, 5 => .res (str (d.b ++ s)) | 6, 8 => .obj (dkC { d with b := d.b ++ s }) | _, _ => .no
      let z0 := Value.string (ByteArray.mk (List.toArray (d.b ++ s)))
      exact run_sound ⟨HH, [((0, 5), ([], 1))], fun  | _ => none⟩ 400 (by kernel_rfl) (Ya hr (Yu (Yb b (Ys (decide ((↑(ByteArray.size (ByteArray.mk (List.toArray s))) : Int) > IntKind.wrap IntKind.i64 ((1048576 : Int) - (↑(ByteArray.size (ByteArray.mk (List.toArray d.b))) : Int)))) (fun Z0 => (show TWk Tryz.prog Γ (fin Tryz.prog Tryz.f88 [0] Q) [kJA0 [1,1,0,1,0], kJA0 [1,1,1]] (S.mk (frame 28 []) [(b, Ob.cells [T.v (Value.string (ByteArray.mk (List.toArray d.b))), int d.n, bool d.off])] fun x => none) by exfalso; simp only [decide_eq_true_eq, bs_len] at *; omega)) (fun Z1 => (Yb b (Ya (show ByteArray.size (ByteArray.mk (List.toArray d.b)) + ByteArray.size (ByteArray.mk (List.toArray s)) ≤ 9223372036854775807 from cat_ok _ _ (by omega)) (Ya (Ye (some (T.v z0))) (Yl 1 (Yb b (Ya (Yn (1) (3) rfl) (Ya (Ye ([T.v z0, int d.n, bool d.off])) hq))))))))))))
theorem sync_any (b : Nat) (d : Dk) (Q : T → Obs → Glb → Prop) (hQ : ∀ x, x = int (Jrn.rdyE d) → Q x (obsK b (Jrn.synD d)) none_) : TCalls Tryz.prog 90 [.ptr 0 b 0] (obsK b d) none_ Q := by
  have hr := ready_post b d
  unfold Jrn.synD at hQ
  unfold Jrn.rdyE at hr hQ
  by_cases ho : d.off = true
  · rw [if_pos ho] at hr
    rw [if_pos ho] at hQ
    rw [if_pos ho] at hQ
    refine TCalls.of Tryz.func90 rfl (CanCall.of Tryz.func90 rfl (by decide)) [0] fun Γ => ?_
    let HH : Nat → Nat → Hint := fun | 1, 1 => dkH 0 d (int 10) | _, _ => .no
    exact run_sound ⟨HH, [], fun  | _ => none⟩ 400 (by kernel_rfl) (Ya hr (Yu (hQ (int (10 : Int)) rfl)))
  · rw [if_neg ho] at hr
    rw [if_neg ho] at hQ
    rw [if_neg ho] at hQ
    refine TCalls.of Tryz.func90 rfl (CanCall.of Tryz.func90 rfl (by decide)) [0] fun Γ => ?_
    let HH : Nat → Nat → Hint := fun | 1, 1 => dkH 0 d (int 0) | 4, 5 => .res (int d.b.length) | 4, 8 => .obj (dkC { d with n := d.b.length }) | _, _ => .no
    exact run_sound ⟨HH, [], fun  | _ => none⟩ 400 (by kernel_rfl) (Ya hr (Yu (Yb b (Yl 1 (Yb b (Ya (Yn (2) (3) rfl) (Ya (Ye ([T.v (Value.string (ByteArray.mk (List.toArray d.b))), int (ByteArray.size (ByteArray.mk (List.toArray d.b))), bool d.off])) (hQ (int (0 : Int)) rfl))))))))
theorem keep_any (b : Nat) (d : Dk) (n : Nat) (hn : n ≤ d.b.length) (Q : T → Obs → Glb → Prop) (hQ : Q (.tup []) (obsK b (Jrn.keepD d n)) none_) : TCalls Tryz.prog 64 [.ptr 0 b 0, int n] (obsK b d) none_ Q := by
  have hc : T.v (.string ((⟨d.b.toArray⟩ : ByteArray).extract 0 n)) = str (d.b.take n) := by rw [X1.str_cut]; rfl
  have hq : Q (.tup []) [(b, .cells [str (d.b.take n), int n, bool d.off])] none_ := hQ
  rw [← hc] at hq
  refine TCalls.of Tryz.func64 rfl (CanCall.of Tryz.func64 rfl (by decide)) [0] fun Γ => ?_
  let HH : Nat → Nat → Hint := fun _ _ => .no
  exact run_sound ⟨HH, [], fun _ => none⟩ 400 (by kernel_rfl) (Yb b (Ya (Ya (show (0 : Int) ≤ (↑(0 : Nat) : Int) by omega) (Ya (show (↑(0 : Nat) : Int) ≤ (IntKind.i64, (↑n : Int)).snd by omega) (show (IntKind.i64, (↑n : Int)).snd ≤ (↑(ByteArray.size (ByteArray.mk (List.toArray d.b))) : Int) by rw [bs_len]; omega))) (Yl 1 (Yb b (Ya (Yn (1) (3) rfl) (Yl 1 (Yb b (Ya (Yn (2) (3) rfl) hq))))))))
theorem cut_any (b : Nat) (d : Dk) (hd : d.Ok) (n : Nat) (hn : n ≤ d.b.length) (ho : d.off = false) (Q : T → Obs → Glb → Prop) (hQ : ∀ x, x = int 0 → Q x (obsK b (Jrn.keepD d n)) none_) : TCalls Tryz.prog 86 [.ptr 0 b 0, int n] (obsK b d) none_ Q := by
  have h1 := hd.l
  have hr := ready_post b d
  unfold Jrn.rdyE at hr
  rw [if_neg (by rw [ho]; decide)] at hr
  refine TCalls.of Tryz.func86 rfl (CanCall.of Tryz.func86 rfl (by decide)) [0] fun Γ => ?_
  let HH : Nat → Nat → Hint := fun | 1, 1 => dkH 0 d (int 0) | 6, 2 => dkH 0 (Jrn.keepD d n) (.tup []) | _, _ => .no
  exact run_sound ⟨HH, [((0, 5), ([], 1))], fun  | _ => none⟩ 400 (by kernel_rfl) (Ya hr (Yu (Yb b (Ys (decide ((↑n : Int) > (↑(ByteArray.size (ByteArray.mk (List.toArray d.b))) : Int))) (fun Z0 => (show TWk Tryz.prog Γ (fin Tryz.prog Tryz.f86 [0] Q) [It.code (sub (bd Tryz.f86) [1,1,0,1,0]), It.code (sub (bd Tryz.f86) [1,1,1])] (S.mk (frame 25 []) [(b, Ob.cells [T.v (Value.string (ByteArray.mk (List.toArray d.b))), int d.n, bool d.off])] fun x => none) by exfalso; simp only [decide_eq_true_eq, bs_len] at *; omega)) (fun Z1 => (Ya (keep_any b d n hn (callPost (told (T.tup []) [0] (obsK b (Jrn.keepD d n)))) (dk_post rfl)) (Yu (hQ (int (0 : Int)) rfl))))))))
theorem dread_any (b : Nat) (d : Dk) (Q : T → Obs → Glb → Prop) (hQ1 : d.off = true → ∀ x, x = .tup [str [], int 10] → Q x (obsK b d) none_) (hQ : d.off = false → ∀ x, x = .tup [str d.b, int 0] → Q x (obsK b d) none_) : TCalls Tryz.prog 84 [.ptr 0 b 0] (obsK b d) none_ Q := by
  have hr := ready_post b d
  unfold Jrn.rdyE at hr
  by_cases ho : d.off = true
  · rw [if_pos ho] at hr
    have h0 := hQ1 ho
    refine TCalls.of Tryz.func84 rfl (CanCall.of Tryz.func84 rfl (by decide)) [0] fun Γ => ?_
    let HH : Nat → Nat → Hint := fun | 1, 1 => dkH 0 d (int 10) | _, _ => .no
    exact run_sound ⟨HH, [], fun  | _ => none⟩ 400 (by kernel_rfl) (Ya hr (Yu (h0 (T.tup [T.v (Value.string (ByteArray.mk #[])), int (10 : Int)]) rfl)))
  · rw [if_neg ho] at hr
    have h0 := hQ (by simpa using ho)
    refine TCalls.of Tryz.func84 rfl (CanCall.of Tryz.func84 rfl (by decide)) [0] fun Γ => ?_
    let HH : Nat → Nat → Hint := fun | 1, 1 => dkH 0 d (int 0) | _, _ => .no
    exact run_sound ⟨HH, [], fun  | _ => none⟩ 400 (by kernel_rfl) (Ya hr (Yu (Yb b (h0 (T.tup [T.v (Value.string (ByteArray.mk (List.toArray d.b))), int (0 : Int)]) rfl))))
end X9
end Go.Proofs.YtpjkdcbogjigeaaGreat.Vm
namespace Go.Proofs.YtpjkdcbogjigeaaGreat.Vm
open Go Go.RowKit
set_option maxRecDepth 100000
namespace X1
open Oct (getN takeL)
theorem left_any (b : Nat) (l : List UInt8) (bad : Int) (Q : T → Obs → Glb → Prop) (hQ : ∀ x, x = int l.length → Q x (obsD b l bad) none_) : TCalls Tryz.prog 133 [.ptr 0 b 0] (obsD b l bad) none_ Q := by
  refine TCalls.of Tryz.func133 rfl (CanCall.of Tryz.func133 rfl (by decide)) [0] fun Γ => ?_
  let HH : Nat → Nat → Hint := fun | 3, 4 => .res (int l.length) | _, _ => .no
  exact run_sound ⟨HH, [], fun  | _ => none⟩ 400 (by kernel_rfl) (Yb b (hQ (int (ByteArray.size (ByteArray.mk (List.toArray l)))) rfl))
end X1
end Go.Proofs.YtpjkdcbogjigeaaGreat.Vm
namespace Go.Proofs.YtpjkdcbogjigeaaGreat.Vm
open Go Go.RowKit
set_option maxRecDepth 100000
namespace X2
open Crc
open Jrn (frL frL_len)
theorem framed_any (l : List UInt8) (hl : l.length < 65536) (Q : T → Obs → Glb → Prop) (hQ : ∀ x, x = str (frL l) → Q x [] none_) : TCalls Tryz.prog 89 [str l] [] none_ Q := by
  have hlen : (Oct.be 2 l.length ++ l).length ≤ 1000000000 := by simp [Oct.length_be]; omega
  have hj : Oct.joinRes [⟨1, 2, l.length, ⟨#[]⟩⟩] [] = (Oct.be 2 l.length, 0) := by
    unfold Oct.joinRes Oct.Part.bytes Oct.numRes
    simp [Oct.joinRes, hl]
  refine TCalls.of Tryz.func89 rfl (CanCall.of Tryz.func89 rfl (by decide)) [] fun Γ => ?_
  let HH : Nat → Nat → Hint := fun | 1, 2 => .res (u64 l.length) | 1, 3 => told (.agg (X1.partC ⟨1, 2, l.length, ⟨#[]⟩⟩)) [] [] | 1, 4 => .no | 1, 5 => told (.tup [str (Oct.be 2 l.length), int 0]) [] [] | 2, 2 => .res (str (Oct.be 2 l.length ++ l)) | 2, 3 => told (str (frL l)) [] [] | _, _ => .no
  let z0 := Oct.Part.mk (1 : Int) (2 : Int) (List.length l) (ByteArray.mk #[])
  exact run_sound ⟨HH, [], fun  | _ => none⟩ 400 (by kernel_rfl) (Ya (show u64 (IntKind.wrap IntKind.u64 (↑(ByteArray.size (ByteArray.mk (List.toArray l))) : Int)) = u64 (List.length l) by rw [bs_len]; exact u64T _ (by omega)) (Ya (onum_any (List.length l) ((2 : Int)) (HH 1 3).P (fun x h => told_post h)) (Yu (Ya (show TCalls Tryz.prog 91 [T.sl 4 [T.agg [int (z0.kind), int (z0.size), u64 z0.n, T.v (Value.string z0.s)]]] [] none_ (callPost (told (T.tup [str (Oct.be 2 (List.length l)), int (0 : Int)]) [] [])) from X1.join_any [⟨1, 2, l.length, ⟨#[]⟩⟩] (by simp [Oct.room]; decide) (fun p hp => by simp at hp; subst hp; show l.length < _; omega) (by simp) _ (fun x h => told_post (by rw [h, hj]))) (Yu (Ya (show ByteArray.size (ByteArray.mk (List.toArray (Oct.be 2 (List.length l)))) + ByteArray.size (ByteArray.mk (List.toArray l)) ≤ 9223372036854775807 from cat_ok _ _ (by simp [Oct.length_be]; omega)) (Ya (Ye (some (T.v (Value.string (ByteArray.mk (List.toArray (Oct.be 2 (List.length l) ++ l))))))) (Ya (seal_any (Oct.be 2 (List.length l) ++ l) hlen (HH 2 3).P (fun x h => told_post h)) (Yu (hQ (T.v (Value.string (ByteArray.mk (List.toArray (frL l))))) rfl))))))))))
end X2
end Go.Proofs.YtpjkdcbogjigeaaGreat.Vm
namespace Go.Proofs.YtpjkdcbogjigeaaGreat.Vm
open Go Go.RowKit
set_option maxRecDepth 100000
noncomputable abbrev kJB0 (l : List Nat) : It := .code (sub (bd Tryz.f33) l)
noncomputable abbrev kJB1 (l : List Nat) : It := .code (sub (bd Tryz.f35) l)
noncomputable abbrev kJB2 (l : List Nat) : It := .code (sub (bd Tryz.f85) l)
noncomputable abbrev kJB3 (l : List Nat) : It := .code (sub (bd Tryz.f87) l)
noncomputable abbrev wJB4 (Γ : Ctx) (Q : T → Obs → Glb → Prop) : List It → S → Prop := TWk Tryz.prog Γ (fin Tryz.prog Tryz.f33 [0, 1, 2] Q)
noncomputable abbrev wJB5 (Γ : Ctx) (Q : T → Obs → Glb → Prop) : List It → S → Prop := TWk Tryz.prog Γ (fin Tryz.prog Tryz.f35 [0, 1, 2] Q)
def plJB0 : Nat → Option RPlan := fun | 6 => some ⟨[], [2], .take false [0,1,3,4,5,6,7] (.one 2 (.take false [8,9,10] .done))⟩ | _ => none
def plJB1 : Nat → Option RPlan := fun | 7 => some ⟨[], [6], .take true [0,1,2,3,4] (.one 5 (.one 6 (.take false [7] .done)))⟩ | _ => none
namespace X10
open Jrn (Dk frL firstL firstB hdN recs flat recA)
open X9 (dkC obsK dkH dk_post)
open X1 (obsD rdH)
def firstT (s : List UInt8) : List UInt8 := if 2 ≤ s.length ∧ 1 ≤ hdN s ∧ hdN s ≤ 512 ∧ hdN s + 6 ≤ s.length then (s.drop 2).take (hdN s) else []
theorem firstT_some {s t : List UInt8} (h : firstL s = some t) : firstT s = t := by
  unfold firstL at h
  split at h
  · rename_i hb
    obtain ⟨h1, h2, h3, h4, _⟩ := of_decide_eq_true hb
    injection h with h
    unfold firstT
    rw [if_pos ⟨h1, h2, h3, h4⟩]; exact h
  · cases h
theorem firstB_some {s t : List UInt8} (h : firstL s = some t) : firstB s = true := by
  unfold firstL at h
  split at h
  · assumption
  · cases h
theorem firstB_none {s : List UInt8} (h : firstL s = none) : firstB s = false := by
  unfold firstL at h
  split at h
  · cases h
  · simpa using ‹¬ firstB s = true›
theorem first_any (s : List UInt8) (hs : s.length ≤ 100000000) (Q : T → Obs → Glb → Prop) (hQ : ∀ x, x = .tup [str (firstT s), bool (firstB s)] → Q x [] none_) : TCalls Tryz.prog 85 [str s] [] none_ Q := by
  have hrd : TCalls Tryz.prog 131 [str s] [] none_ (callPost (.call false Nat (fun _ => True) [] false (fun b => .ptr 0 b 0) (fun b => obsD b s 0) (fun _ => none_))) :=
    X1.read_any s _ fun b => ⟨b, trivial, rfl, rfl, Nat.zero_le _, fun h => by cases h⟩
  by_cases h2 : 2 ≤ s.length
  · have ht : Oct.takeL s 0 0 2 = (s.take 2, s.drop 2, 0) := by
      unfold Oct.takeL
      rw [if_neg (by decide), if_neg (by decide), if_neg (by omega)]; rfl
    have hnum : ∀ b, TCalls Tryz.prog 132 [.ptr 0 b 0, int 2] (obsD b s 0) none_ (callPost (told (u64 (hdN s)) [0] (obsD b (s.drop 2) 0))) := fun b =>
      X1.rdnum_any b s (by omega) 0 2 (by decide) _ fun x hx => by
        have ht' : Oct.takeL s 0 0 ((2 : Nat) : Int) = (s.take 2, s.drop 2, 0) := ht
        rw [ht'] at hx ⊢; exact ⟨(), trivial, hx, rfl, Nat.le_of_ble_eq_true rfl, fun h => by cases h⟩
    have hlt : hdN s < 65536 := by
      have := Oct.getN_lt (s.take 2)
      rw [List.length_take, show min 2 s.length = 2 by omega] at this
      exact this
    have hleft : ∀ b, TCalls Tryz.prog 133 [.ptr 0 b 0] (obsD b (s.drop 2) 0) none_ (callPost (told (int (s.length - 2 : Nat)) [0] (obsD b (s.drop 2) 0))) := fun b =>
      X1.left_any b _ 0 _ fun x hx => ⟨(), trivial, by rw [hx, List.length_drop], rfl, Nat.le_of_ble_eq_true rfl, fun h => by cases h⟩
    by_cases hok : 1 ≤ hdN s ∧ hdN s ≤ 512 ∧ hdN s + 6 ≤ s.length
    · have hT : firstT s = (s.drop 2).take (hdN s) := by unfold firstT; rw [if_pos ⟨h2, hok⟩]
      have hB : firstB s = decide (frL ((s.drop 2).take (hdN s)) = s.take (hdN s + 6)) := by
        unfold firstB
        rw [Bool.eq_iff_iff, decide_eq_true_eq, decide_eq_true_eq]
        exact ⟨fun h => h.2.2.2.2, fun h => ⟨h2, hok.1, hok.2.1, hok.2.2, h⟩⟩
      rw [hT, hB] at hQ
      have ht3 : Oct.takeL (s.drop 2) 0 0 (hdN s) = ((s.drop 2).take (hdN s), (s.drop 2).drop (hdN s), 0) := by
        unfold Oct.takeL
        rw [if_neg (by decide), if_neg (by omega), if_neg (by rw [List.length_drop]; omega), show ((0 : Int) + (hdN s : Int)).toNat = hdN s by omega]; rfl
      have hraw : ∀ b, TCalls Tryz.prog 134 [.ptr 0 b 0, int (hdN s)] (obsD b (s.drop 2) 0) none_ (callPost (told (str ((s.drop 2).take (hdN s))) [0] (obsD b ((s.drop 2).drop (hdN s)) 0))) := fun b =>
        X1.raw_any b (s.drop 2) (by rw [List.length_drop]; omega) 0 (hdN s) (by omega) _ fun x hx => by
          rw [ht3] at hx ⊢; exact ⟨(), trivial, hx, rfl, Nat.le_of_ble_eq_true rfl, fun h => by cases h⟩
      have htl : ((s.drop 2).take (hdN s)).length < 65536 := by rw [List.length_take]; omega
      have hfr : TCalls Tryz.prog 89 [str ((s.drop 2).take (hdN s))] [] none_ (callPost (told (str (frL ((s.drop 2).take (hdN s)))) [] [])) := X2.framed_any _ htl _ fun x h => told_post h
      have hcv : T.v (.int .i64 (IntKind.wrap .i64 (hdN s : Int))) = int (hdN s) := congrArg int (wrap_i64 (by omega) (by omega))
      generalize hn : hdN s = n at *
      generalize hd : (s.drop 2).take n = t at *
      generalize hr : (s.drop 2).drop n = r at *
      have hcmp : T.v (.bool (decide ((⟨(frL t).toArray⟩ : ByteArray) = (⟨s.toArray⟩ : ByteArray).extract 0 (n + 6)))) = bool (decide (frL t = s.take (n + 6))) := by
        refine congrArg bool ?_
        rw [bs_cut, List.drop_zero, Bool.eq_iff_iff, decide_eq_true_eq, decide_eq_true_eq]
        constructor
        · intro h; have := congrArg (fun b : ByteArray => b.data.toList) h; simpa using this
        · intro h; rw [h]
      have hq := hQ _ rfl
      rw [← hcmp] at hq
      have hw1 : IntKind.wrap .i64 ((n : Int) + 4) = ((n + 4 : Nat) : Int) := by rw [wrap_i64 (by omega) (by omega)]; omega
      have hw2 : T.v (.int .i64 (IntKind.wrap .i64 (2 + (n : Int)))) = int (n + 2 : Nat) := by rw [wrap_i64 (by omega) (by omega)]; exact congrArg int (by omega)
      have hw3 : T.v (.int .i64 (IntKind.wrap .i64 (((n + 2 : Nat) : Int) + 4))) = int (n + 6 : Nat) := by rw [wrap_i64 (by omega) (by omega)]; exact congrArg int (by omega)
      refine TCalls.of Tryz.func85 rfl (CanCall.of Tryz.func85 rfl (by decide)) [] fun Γ => ?_
      let HH : Nat → Nat → Hint := fun | 1, 1 => .call false Nat (fun _ => True) [] false (fun b => .ptr 0 b 0) (fun b => obsD b s 0) (fun _ => none_) | 2, 1 => rdH 0 (s.drop 2) 0 (u64 n) | 2, 2 => .res (int n) | 3, 8 => rdH 0 (s.drop 2) 0 (int (s.length - 2 : Nat)) | 3, 10 => .res (int (n + 4 : Nat)) | 5, 2 => rdH 0 r 0 (str t) | 6, 2 => told (str (frL t)) [] [] | 6, 5 => .res (int (n + 2 : Nat)) | 6, 6 => .res (int (n + 6 : Nat)) | 6, 7 => .no | _, _ => .no
      let z0 := fun (Z0 : Nat) => S.mk (frame 37 []) [(Z0, Ob.cells [T.v (Value.string (ByteArray.mk (List.toArray (List.drop 2 s)))), int (0 : Int)])] fun x => none
      let z1 := [kJB2 [1,1,1,0,1,0], kJB2 [1,1,1,1]]
      let z2 := fin Tryz.prog Tryz.f85 [] Q
      exact run_sound ⟨HH, [((0, 4), ([], 1))], plJB0⟩ 400 (by kernel_rfl) (Ya hrd (fun (Z0 : Nat) => (fun (Z1 : True) => (Ya (hnum Z0) (Yu (Ya hcv (Ys (decide ((↑n : Int) < (1 : Int))) (fun Z2 => (show TWk Tryz.prog Γ z2 z1 (z0 Z0) by exfalso; simp only [decide_eq_true_eq] at *; omega)) (fun Z3 => (Ys (decide ((↑n : Int) > (512 : Int))) (fun Z4 => (show TWk Tryz.prog Γ z2 z1 (z0 Z0) by exfalso; simp only [decide_eq_true_eq] at *; omega)) (fun Z5 => (Ya (hleft Z0) (Yu (Ya (congrArg int hw1) (Ys (decide ((↑(List.length s - 2) : Int) < (↑(n + 4) : Int))) (fun Z6 => (show TWk Tryz.prog Γ z2 z1 (z0 Z0) by exfalso; simp only [decide_eq_true_eq] at *; omega)) (fun Z7 => (Ya (hraw Z0) (Yu (Ya hw2 (Ya hw3 (Ya (Ya (show (0 : Int) ≤ (↑(0 : Nat) : Int) by omega) (Ya (show (↑(0 : Nat) : Int) ≤ (IntKind.i64, (↑(n + 6) : Int)).snd by omega) (show (IntKind.i64, (↑(n + 6) : Int)).snd ≤ (↑(ByteArray.size (ByteArray.mk (List.toArray s))) : Int) by rw [bs_len]; omega))) (Ya hfr (Yu hq))))))))))))))))))))))
    · have hT : firstT s = [] := by unfold firstT; rw [if_neg (fun h => hok h.2)]
      have hB : firstB s = false := by unfold firstB; exact decide_eq_false (fun h => hok ⟨h.2.1, h.2.2.1, h.2.2.2.1⟩)
      rw [hT, hB] at hQ
      have hcv : T.v (.int .i64 (IntKind.wrap .i64 (hdN s : Int))) = int (hdN s) := congrArg int (wrap_i64 (by omega) (by omega))
      generalize hn : hdN s = n at *
      have hw1 : IntKind.wrap .i64 ((n : Int) + 4) = ((n + 4 : Nat) : Int) := by rw [wrap_i64 (by omega) (by omega)]; omega
      refine TCalls.of Tryz.func85 rfl (CanCall.of Tryz.func85 rfl (by decide)) [] fun Γ => ?_
      let HH : Nat → Nat → Hint := fun | 1, 1 => .call false Nat (fun _ => True) [] false (fun b => .ptr 0 b 0) (fun b => obsD b s 0) (fun _ => none_) | 2, 1 => rdH 0 (s.drop 2) 0 (u64 n) | 2, 2 => .res (int n) | 3, 8 => rdH 0 (s.drop 2) 0 (int (s.length - 2 : Nat)) | 3, 10 => .res (int (n + 4 : Nat)) | _, _ => .no
      let z0 := T.tup [T.v (Value.string (ByteArray.mk #[])), bool false]
      exact run_sound ⟨HH, [((0, 5), ([0,4,5], 1))], plJB0⟩ 400 (by kernel_rfl) (Ya hrd (fun (Z0 : Nat) => (fun (Z1 : True) => (Ya (hnum Z0) (Yu (Ya hcv (Ys (decide ((↑n : Int) < (1 : Int))) (fun Z2 => (hQ z0 rfl)) (fun Z3 => (Ys (decide ((↑n : Int) > (512 : Int))) (fun Z4 => (hQ z0 rfl)) (fun Z5 => (Ya (hleft Z0) (Yu (Ya (congrArg int hw1) (Ys (decide ((↑(List.length s - 2) : Int) < (↑(n + 4) : Int))) (fun Z6 => (hQ z0 rfl)) (fun Z7 => (show TWk Tryz.prog Γ (fin Tryz.prog Tryz.f85 [] Q) [kJB2 [1,1,1,1]] (S.mk (frame 37 [(0, T.v (Value.string (ByteArray.mk (List.toArray s)))), (4, T.ptr 0 Z0 0), (5, int n)]) [(Z0, Ob.cells [T.v (Value.string (ByteArray.mk (List.toArray (List.drop 2 s)))), int (0 : Int)])] fun x => none) by exfalso; simp only [decide_eq_false_iff_not] at *; omega))))))))))))))))
  · have hT : firstT s = [] := by unfold firstT; rw [if_neg (fun h => h2 h.1)]
    have hB : firstB s = false := by unfold firstB; exact decide_eq_false (fun h => h2 h.1)
    rw [hT, hB] at hQ
    have ht : Oct.takeL s 0 0 ((2 : Nat) : Int) = ([], s, 2) := by
      unfold Oct.takeL
      rw [if_neg (by decide), if_neg (by decide), if_pos (by omega)]
    have hnum : ∀ b, TCalls Tryz.prog 132 [.ptr 0 b 0, int 2] (obsD b s 0) none_ (callPost (told (u64 0) [0] (obsD b s 2))) := fun b =>
      X1.rdnum_any b s (by omega) 0 2 (by decide) _ fun x hx => by
        rw [ht] at hx ⊢; exact ⟨(), trivial, hx, rfl, Nat.le_of_ble_eq_true rfl, fun h => by cases h⟩
    refine TCalls.of Tryz.func85 rfl (CanCall.of Tryz.func85 rfl (by decide)) [] fun Γ => ?_
    let HH : Nat → Nat → Hint := fun | 1, 1 => .call false Nat (fun _ => True) [] false (fun b => .ptr 0 b 0) (fun b => obsD b s 0) (fun _ => none_) | 2, 1 => rdH 0 s 2 (u64 0) | _, _ => .no
    exact run_sound ⟨HH, [], plJB0⟩ 400 (by kernel_rfl) (Ya hrd (fun (Z0 : Nat) => (fun (Z1 : True) => (Ya (hnum Z0) (Yu (hQ (T.tup [T.v (Value.string (ByteArray.mk #[])), bool false]) rfl))))))
def strs (l : List (List UInt8)) : List T := l.map str
theorem strs_len (l : List (List UInt8)) : (strs l).length = l.length := by simp [strs]
theorem strs_snoc (l : List (List UInt8)) (t : List UInt8) : strs (l ++ [t]) = strs l ++ [str t] := by simp [strs]
theorem clone0 (l : List (List UInt8)) (hl : l.length ≤ 100000000) (Q : T → Obs → Glb → Prop) (h1 : l = [] → Q (.v nilS) [] none_) (h2 : Q (.sl 1 (strs l)) [] none_) : TCalls Tryz.prog 87 [.sl 1 (strs l)] [] none_ Q := by
  refine TCalls.of Tryz.func87 rfl (CanCall.of Tryz.func87 rfl (by decide)) [] fun Γ => ?_
  let HH : Nat → Nat → Hint := fun _ _ => .no
  exact run_sound ⟨HH, [], fun _ => none⟩ 400 (by kernel_rfl) (Ya (fun (Z0 : List.length (strs l) = 0) => (h1 (List.eq_nil_of_length_eq_zero (by rw [strs_len] at Z0; exact Z0)))) (Ya (show 0 < nat_lit 1 by simp only [strs_len]; omega) (fun (Z1 : Value) => (Ya (Yb Z1 (Ye (0))) (Ya (Ya (show (0 + List.length (strs l)) * nat_lit 16 ≤ 140737488355328 by simp only [strs_len]; omega) (show 0 + List.length (strs l) ≤ maxLen by simp only [strs_len]; unfold maxLen; omega)) (fun (Z2 : Value) => h2))))))
inductive cloneQ (l : List (List UInt8)) (x : T) (ob : Obs) (gl : Glb) : Prop where
  | mk (h1 : x = .v nilS ∧ l = [] ∨ x = .sl 1 (strs l)) (h2 : ob = []) (h3 : gl = none_)
theorem clone_any (l : List (List UInt8)) (hl : l.length ≤ 100000000) (Q : T → Obs → Glb → Prop) (hQ : ∀ x, x = .sl 1 (strs l) → Q x [] none_) : TCalls Tryz.prog 87 [.sl 1 (strs l)] [] none_ Q := by
  refine TCalls.post (clone0 l hl (cloneQ l) (fun h => .mk (.inl ⟨rfl, h⟩) rfl rfl) (.mk (.inr rfl) rfl rfl)) fun x ob gl h => ?_
  obtain ⟨h | h, rfl, rfl⟩ := h
  · obtain ⟨rfl, rfl⟩ := h
    exact ⟨_, _, _, Imp.slotR (j := 0) rfl (t' := .sl 1 (strs [])) (fun M v r => by
      simp only [Rel] at r ⊢
      exact ⟨none, 0, r, ⟨Nat.le_refl _, by omega, fun _ => ⟨rfl, rfl⟩, (fun a e => by cases e)⟩, (fun e he => by simp [strs] at he), (fun b o e => by cases e)⟩), hQ _ rfl⟩
  · exact ⟨_, _, _, Imp.refl _ _ _, hQ _ h⟩
def jC (db : Nat) (l : List (List UInt8)) (hd : Value) (dead : Bool) : List T := [.ptr 0 db 0, .slx 1 2 (strs l) hd, bool dead]
def obsJ (db jb : Nat) (d : Dk) (l : List (List UInt8)) (hd : Value) (dead : Bool) : Obs := [(db, .cells (dkC d)), (jb, .cells (jC db l hd dead)), (0, .room 1 9 (strs l).length hd)]
theorem drop_le (s : List UInt8) (n : Nat) (h : s.length ≤ 100000000) : (s.drop n).length ≤ 100000000 := by rw [List.length_drop]; omega
theorem open_loop (Γ : Ctx) (db jb : Nat) (d : Dk) (hd : d.Ok) (ho : d.off = false) (e : Nat) (L : List (List UInt8)) (Q : T → Obs → Glb → Prop) (hQ : ∀ h, Q (.tup [.ptr 1 jb 0, int 0]) (obsJ db jb (Jrn.keepD d e) L h false) none_) :
    ∀ (f : Nat) (a : Nat) (l : List (List UInt8)) (h : Value), a ≤ d.b.length → (d.b.drop a).length ≤ f → l ++ (recs f (d.b.drop a)).1 = L → a + (recs f (d.b.drop a)).2 = e → l.length ≤ a →
    wJB4 Γ Q [kJB0 [1,1,1,1,1,0,1,0], .blk 0, kJB0 [1,1,1,1,1,1]] ⟨frame 58 [(0, .ptr 0 db 0), (4, str d.b), (6, .ptr 1 jb 0), (7, int a), (8, str (firstT (d.b.drop a))), (9, bool (firstB (d.b.drop a)))], obsJ db jb d l h false, none_⟩ := by
  have h1 := hd.l
  have stop : ∀ (a : Nat) (l : List (List UInt8)) (h : Value), a ≤ d.b.length → firstB (d.b.drop a) = false → l = L → a = e →
      wJB4 Γ Q [kJB0 [1,1,1,1,1,0,1,0], .blk 0, kJB0 [1,1,1,1,1,1]] ⟨frame 58 [(0, .ptr 0 db 0), (4, str d.b), (6, .ptr 1 jb 0), (7, int a), (8, str (firstT (d.b.drop a))), (9, bool (firstB (d.b.drop a)))], obsJ db jb d l h false, none_⟩ := by
    intro a l h ha hb e1 e2
    rw [hb]
    subst e1 e2
    let HH : Nat → Nat → Hint := fun | 11, 2 => .withB (fun B => told (int 0) [0] (obsK (B.getD 0 0) (Jrn.keepD d a))) | _, _ => .no
    exact run_sound ⟨HH, [((2, 7), ([0,4,6,7,8,9], 3))], fun  | _ => none⟩ 400 (by kernel_rfl) (Ya (X9.cut_any db d hd a ha ho (callPost (told (int (0 : Int)) [0] (obsK db (Jrn.keepD d a)))) (fun x hx => dk_post hx)) (Yu (hQ h)))
  intro f
  induction f with
  | zero =>
    intro a l h ha hf hl he hla
    have hn : d.b.drop a = [] := List.eq_nil_of_length_eq_zero (by omega)
    exact stop a l h ha (by rw [hn]; exact firstB_none Jrn.firstL_nil) (by simpa [recs] using hl) (by simpa [recs] using he)
  | succ f ih =>
    intro a l h ha hf hl he hla
    unfold recs at hl he
    cases hfi : firstL (d.b.drop a) with
    | none =>
      rw [hfi] at hl he
      exact stop a l h ha (firstB_none hfi) (by simpa using hl) (by simpa using he)
    | some t =>
      rw [hfi] at hl he
      dsimp only at hl he
      obtain ⟨hv, _, hle, _⟩ := Jrn.firstL_some hfi
      rw [List.length_drop] at hle
      rw [List.drop_drop] at hl he
      have hv1 := hv.1
      have hv2 := hv.2
      have ih2 := fun h' => ih (a + (t.length + 6)) (l ++ [t]) h' (by omega) (by rw [List.length_drop] at hf ⊢; omega) (by rw [← hl]; simp) (by omega) (by rw [List.length_append, List.length_singleton]; omega)
      simp only [obsJ, jC, strs_snoc] at ih2
      rw [firstT_some hfi, firstB_some hfi]
      have hw1 : T.v (.int .i64 (IntKind.wrap .i64 (2 + ((⟨t.toArray⟩ : ByteArray).size : Int)))) = int (t.length + 2 : Nat) := by rw [bs_len, wrap_i64 (by omega) (by omega)]; exact congrArg int (by omega)
      have hw2 : T.v (.int .i64 (IntKind.wrap .i64 (((t.length + 2 : Nat) : Int) + 4))) = int (t.length + 6 : Nat) := by rw [wrap_i64 (by omega) (by omega)]; exact congrArg int (by omega)
      have hw3 : T.v (.int .i64 (IntKind.wrap .i64 ((a : Int) + (t.length + 6 : Nat)))) = int (a + (t.length + 6) : Nat) := by rw [wrap_i64 (by omega) (by omega)]; exact congrArg int (by omega)
      have hcut : T.v (.string ((⟨d.b.toArray⟩ : ByteArray).extract (a + (t.length + 6)) (⟨d.b.toArray⟩ : ByteArray).size)) = str (d.b.drop (a + (t.length + 6))) := by rw [X1.str_cut, bs_len, List.take_length]
      have hfst := first_any (d.b.drop (a + (t.length + 6))) (drop_le _ _ (by omega)) (callPost (told (.tup [str (firstT (d.b.drop (a + (t.length + 6)))), bool (firstB (d.b.drop (a + (t.length + 6))))]) [] [])) (fun x hx => told_post hx)
      generalize d.b.drop (a + (t.length + 6)) = w at *
      generalize ha2 : a + (t.length + 6) = a2 at *
      let HH : Nat → Nat → Hint := fun | 10, 3 => .res (int (t.length + 2 : Nat)) | 10, 4 => .res (int (t.length + 6 : Nat)) | 10, 5 => .res (int a2) | 8, 3 => told (.tup [str (firstT w), bool (firstB w)]) [] [] | _, _ => .no
      exact run_sound ⟨HH, [((2, 7), ([0,4,6,7,8,9], 3))], fun  | _ => none⟩ 400 (by kernel_rfl) (Yb jb (Ya (Yb h (Ye (List.length (strs l)))) (Ya (Ya (show (List.length (strs l) + 1) * nat_lit 16 ≤ 140737488355328 by simp only [strs_len]; omega) (show List.length (strs l) + 1 ≤ maxLen by simp only [strs_len]; unfold maxLen; omega)) (fun (Z0 : Value) => (Yl 1 (Yb jb (Ya (Yn (2) (3) rfl) (Ya hw1 (Ya hw2 (Ya hw3 (Ya (Ya (show (0 : Int) ≤ (IntKind.i64, (↑a2 : Int)).snd by omega) (Ya (show (IntKind.i64, (↑a2 : Int)).snd ≤ (↑(ByteArray.size (ByteArray.mk (List.toArray d.b))) : Int) by rw [bs_len]; omega) (show (↑(ByteArray.size (ByteArray.mk (List.toArray d.b))) : Int) ≤ (↑(ByteArray.size (ByteArray.mk (List.toArray d.b))) : Int) by omega))) (Ya (show TCalls Tryz.prog 85 [T.v (Value.string (ByteArray.extract (ByteArray.mk (List.toArray d.b)) (Int.toNat (IntKind.i64, (↑a2 : Int)).snd) (Int.toNat (↑(ByteArray.size (ByteArray.mk (List.toArray d.b))) : Int))))] [] none_ (callPost (told (T.tup [str (firstT w), bool (firstB w)]) [] [])) by rw [← hcut] at hfst; exact hfst) (Yu (ih2 Z0))))))))))))))
theorem jopen_any (db : Nat) (d : Dk) (hd : d.Ok) (ho : d.off = false) (Q : T → Obs → Glb → Prop) (hQ : ∀ jb h, Q (.tup [.ptr 1 jb 0, int 0]) (obsJ db jb (Jrn.keepD d (recA d.b).2) (recA d.b).1 h false) none_) : TCalls Tryz.prog 33 [.ptr 0 db 0] (obsK db d) none_ Q := by
  have h1 := hd.l
  have hrd : TCalls Tryz.prog 84 [.ptr 0 db 0] (obsK db d) none_ (callPost (told (.tup [str d.b, int 0]) [0] (obsK db d))) := X9.dread_any db d _ (fun h => by rw [ho] at h; cases h) (fun _ x hx => dk_post hx)
  have hfst : TCalls Tryz.prog 85 [str d.b] [] none_ (callPost (told (.tup [str (firstT d.b), bool (firstB d.b)]) [] [])) := first_any d.b (by omega) _ (fun x hx => told_post hx)
  have lp := fun Γ jb => open_loop Γ db jb d hd ho (recA d.b).2 (recA d.b).1 Q (hQ jb) d.b.length 0 [] nilS (Nat.zero_le _) (by simp) (by simp [recA]) (by simp [recA]) (Nat.le_refl _)
  rw [List.drop_zero] at lp
  refine TCalls.of Tryz.func33 rfl (CanCall.of Tryz.func33 rfl (by decide)) [0,1,2] fun Γ => ?_
  let HH : Nat → Nat → Hint := fun | 1, 1 => dkH 0 d (.tup [str d.b, int 0]) | 6, 1 => told (.tup [str (firstT d.b), bool (firstB d.b)]) [] [] | _, _ => .no
  let z0 := Value.string (ByteArray.mk (List.toArray d.b))
  exact run_sound ⟨HH, [((2, 7), ([0,4,6,7,8,9], 2))], fun  | _ => none⟩ 400 (by kernel_rfl) (Ya hrd (Yu (fun (Z0 : Nat) => (Ya hfst (Yu (show wJB4 Γ Q [kJB0 [1,1,1,1,1,0,1,0], It.blk 0, kJB0 [1,1,1,1,1,1]] (S.mk (frame 58 [(0, T.ptr 0 db 0), (4, T.v z0), (6, T.ptr 1 Z0 0), (7, int (0 : Int)), (8, T.v (Value.string (ByteArray.mk (List.toArray (firstT d.b))))), (9, bool (firstB d.b))]) [(db, Ob.cells [T.v z0, int d.n, bool d.off]), (Z0, Ob.cells [T.ptr 0 db 0, T.v (Value.slice none 0 0), bool false])] fun x => none) from (TWk.imp (lp Γ _) ((Imp.room 1 9).trans (Imp.cell 1 2 (i := 1) (j := 1) (cs := [.ptr 0 db 0, .v nilS, bool false]) rfl rfl)))))))))
theorem jopen_off (db : Nat) (d : Dk) (ho : d.off = true) (Q : T → Obs → Glb → Prop) (hQ : ∀ x, x = .tup [.v (.pointer none), int 10] → Q x (obsK db d) none_) : TCalls Tryz.prog 33 [.ptr 0 db 0] (obsK db d) none_ Q := by
  have hrd : TCalls Tryz.prog 84 [.ptr 0 db 0] (obsK db d) none_ (callPost (told (.tup [str [], int 10]) [0] (obsK db d))) := X9.dread_any db d _ (fun _ x hx => dk_post hx) (fun h => by rw [ho] at h; cases h)
  refine TCalls.of Tryz.func33 rfl (CanCall.of Tryz.func33 rfl (by decide)) [0] fun Γ => ?_
  let HH : Nat → Nat → Hint := fun | 1, 1 => dkH 0 d (.tup [str [], int 10]) | _, _ => .no
  exact run_sound ⟨HH, [], fun  | _ => none⟩ 400 (by kernel_rfl) (Ya hrd (Yu (hQ (T.tup [T.v (Value.pointer none), int (10 : Int)]) rfl)))
theorem recs_any (db jb : Nat) (d : Dk) (l : List (List UInt8)) (hl : l.length ≤ 100000000) (h : Value) (dead : Bool) (Q : T → Obs → Glb → Prop) (hQ : ∀ x, x = .sl 1 (strs l) → Q x (obsJ db jb d l h dead) none_) : TCalls Tryz.prog 34 [.ptr 1 jb 0] (obsJ db jb d l h dead) none_ Q := by
  have hc := clone_any l hl (callPost (told (.sl 1 (strs l)) [] [])) (fun x hx => told_post hx)
  refine TCalls.of Tryz.func34 rfl (CanCall.of Tryz.func34 rfl (by decide)) [0,1,2] fun Γ => ?_
  let HH : Nat → Nat → Hint := fun | 3, 4 => .call true Unit (fun _ => True) [] false (fun _ => .sl 1 (strs l)) (fun _ => []) (fun _ => none_) | _, _ => .no
  exact run_sound ⟨HH, [], fun  | _ => none⟩ 400 (by kernel_rfl) (Yb jb (Ya hc (Yu (hQ (T.sl 1 (strs l)) rfl))))
inductive cloneR (l : List (List UInt8)) (x : T) (ob : Obs) (gl : Glb) : Prop where
  | nil (h : l = []) (h1 : x = .v nilS) (h2 : ob = [(0, .room 1 9 0 nilS)]) (h3 : gl = none_)
  | row (v : Value) (h1 : x = .slx 1 0 (strs l) v) (h2 : ob = [(0, .room 1 9 (strs l).length v)]) (h3 : gl = none_)
theorem add_ok (db jb : Nat) (d : Dk) (hd : d.Ok) (l : List (List UInt8)) (hl : l.length ≤ 100000000) (h : Value) (s : List UInt8) (hs : Jrn.Vr s) (he : Jrn.appE d (frL s) = 0) (Q : T → Obs → Glb → Prop)
    (hQ : ∀ h', Q (int 0) (obsJ db jb (Jrn.synD (Jrn.appD d (frL s))) (l ++ [s]) h' false) none_) : TCalls Tryz.prog 35 [.ptr 1 jb 0, str s] (obsJ db jb d l h false) none_ Q := by
  have hs1 := hs.1
  have hs2 := hs.2
  have hne : s ≠ [] := fun e => by rw [e] at hs1; simp at hs1
  have hfl := Jrn.frL_len s
  have ho : d.off = false := by
    unfold Jrn.appE at he
    cases hoff : d.off with
    | false => rfl
    | true => rw [hoff] at he; simp at he
  have hfr : TCalls Tryz.prog 89 [str s] [] none_ (callPost (told (str (frL s)) [] [])) := X2.framed_any s (by omega) _ fun x h => told_post h
  have hap : TCalls Tryz.prog 88 [.ptr 0 db 0, str (frL s)] (obsK db d) none_ (callPost (told (int 0) [0] (obsK db (Jrn.appD d (frL s))))) := X9.app_any db d hd (frL s) (by omega) _ fun x hx => by rw [he] at hx; exact dk_post hx
  have hsy : TCalls Tryz.prog 90 [.ptr 0 db 0] (obsK db (Jrn.appD d (frL s))) none_ (callPost (told (int 0) [0] (obsK db (Jrn.synD (Jrn.appD d (frL s)))))) := X9.sync_any db _ _ fun x hx => by
    have : Jrn.rdyE (Jrn.appD d (frL s)) = 0 := by unfold Jrn.rdyE Jrn.appD; rw [if_pos he]; simp [ho]
    rw [this] at hx; exact dk_post hx
  generalize Jrn.appD d (frL s) = d1 at *
  generalize Jrn.synD d1 = d2 at *
  simp only [obsJ, jC, strs_snoc] at hQ
  refine TCalls.of Tryz.func35 rfl (CanCall.of Tryz.func35 rfl (by decide)) [0,1,2] fun Γ => ?_
  let HH : Nat → Nat → Hint := fun | 7, 5 => told (str (frL s)) [] [] | 7, 6 => dkH 0 d1 (int 0) | 9, 4 => dkH 0 d2 (int 0) | _, _ => .no
  let z0 := S.mk (frame 52 []) [(db, Ob.cells [T.v (Value.string (ByteArray.mk (List.toArray d.b))), int d.n, bool d.off]), (jb, Ob.cells [T.ptr 0 db 0, T.slx 1 2 (strs l) h, bool false]), (0, Ob.room 1 9 (List.length (strs l)) h)] fun x => none
  exact run_sound ⟨HH, [((0, 2), ([], 3)), ((0, 4), ([], 3)), ((0, 11), ([0,5], 3))], fun | 7 => some ⟨[1], [6], .take true [0,1,2,3,4] (.one 5 (.one 6 (.take false [7] .done)))⟩ | n => plJB1 n⟩ 400 (by kernel_rfl) (Ys (decide (ByteArray.mk (List.toArray s) = ByteArray.mk #[])) (fun Z0 => (show wJB5 Γ Q [kJB1 [1,0,0,1,0], It.blk 0, kJB1 [1,1]] z0 by exfalso; exact hne (by have := congrArg (fun b : ByteArray => b.data.toList) (of_decide_eq_true Z0); simpa using this))) (fun Z1 => (Ys (decide ((↑(ByteArray.size (ByteArray.mk (List.toArray s))) : Int) > (512 : Int))) (fun Z2 => (show wJB5 Γ Q [kJB1 [1,0,0,1,1,1,0], It.blk 0, kJB1 [1,1]] z0 by exfalso; simp only [decide_eq_true_eq, bs_len] at *; omega)) (fun Z3 => (Yb jb (Yb jb (Ya hfr (Yu (Ya hap (Yu (Yb jb (Ya hsy (Yu (Yb jb (Ya (Yb h (Ye (List.length (strs l)))) (Ya (Ya (show (List.length (strs l) + 1) * nat_lit 16 ≤ 140737488355328 by simp only [strs_len]; omega) (show List.length (strs l) + 1 ≤ maxLen by simp only [strs_len]; unfold maxLen; omega)) (fun (Z4 : Value) => (Yl 1 (Yb jb (Ya (Yn (2) (3) rfl) (hQ Z4)))))))))))))))))))))
end X10
end Go.Proofs.YtpjkdcbogjigeaaGreat.Vm
namespace Go.Proofs.YtpjkdcbogjigeaaGreat
open Go.RowKit
namespace View
structure Mem where
  node : Nat
  life : Nat
  ready : Bool
  deriving DecidableEq
def Mem.cells (m : Mem) : List Value := [.int .u8 m.node, .int .u8 m.life, .bool m.ready]
def upd (L : Nat → Nat) (k x : Nat) : Nat → Nat := fun i => if i = k then x else L i
structure VS where
  e : Int
  ms : List Mem
  L : Nat → Nat
def atN (ms : List Mem) (x : Nat) : Option Nat := ms.findIdx? (fun m => m.node == x)
def atI (ms : List Mem) (x : Nat) : Int := match atN ms x with | some k => k | none => -1
def ready (ms : List Mem) : Nat := (ms.filter (·.ready)).length
def next (v : VS) (l : List Mem) : VS × Bool := if v.e = 4294967295 then (v, false) else (⟨v.e + 1, l, v.L⟩, true)
def may (v : VS) (node life : Nat) : Bool := decide (1 ≤ node ∧ node ≤ 8 ∧ 1 ≤ life ∧ life ≤ 200 ∧ atN v.ms node = none ∧ v.ms.length < 8 ∧ v.L (node - 1) < life)
def addV (v : VS) (node life : Nat) : VS × Bool :=
  if may v node life then (if v.e = 4294967295 then (v, false) else (⟨v.e + 1, v.ms ++ [⟨node, life, false⟩], upd v.L (node - 1) life⟩, true)) else (v, false)
def removeV (v : VS) (i : Nat) : VS × Bool := if ready (v.ms.eraseIdx i) = 0 then (v, false) else next v (v.ms.eraseIdx i)
def applyV (v : VS) (kind node life : Nat) (epoch : Int) : VS × Bool :=
  if kind = 0 then (v, true) else if kind = 1 then addV v node life else
  match atN v.ms node with
  | none => (v, false)
  | some i =>
    match v.ms[i]? with
    | none => (v, false)
    | some m => if m.life ≠ life then (v, false) else if kind = 2 then removeV v i else if kind = 3 then (⟨v.e, v.ms.set i { m with ready := true }, v.L⟩, true) else (v, decide (kind = 4 ∧ epoch = v.e))
theorem atN_some {ms : List Mem} {x k : Nat} (h : atN ms x = some k) : ∃ hk : k < ms.length, ms[k].node = x ∧ ∀ j (hj : j < k), ms[j].node ≠ x := by
  unfold atN at h
  rw [List.findIdx?_eq_some_iff_getElem] at h
  obtain ⟨hk, h1, h2⟩ := h
  refine ⟨hk, by simpa using h1, fun j hj => by simpa using h2 j hj⟩
theorem atN_none {ms : List Mem} {x : Nat} (h : atN ms x = none) : ∀ k (hk : k < ms.length), ms[k].node ≠ x := fun k hk e => by
  unfold atN at h
  rw [List.findIdx?_eq_none_iff] at h
  have := h ms[k] (by simp)
  simp [e] at this
theorem atI_of {ms : List Mem} {x k : Nat} (hk : k < ms.length) (h1 : ms[k].node = x) (h2 : ∀ j (hj : j < k), ms[j].node ≠ x) : atI ms x = k := by
  have : atN ms x = some k := by
    unfold atN
    rw [List.findIdx?_eq_some_iff_getElem]
    exact ⟨hk, by simpa using h1, fun j hj => by simpa using h2 j hj⟩
  simp [atI, this]
theorem atI_none {ms : List Mem} {x : Nat} (h : ∀ k (hk : k < ms.length), ms[k].node ≠ x) : atI ms x = -1 := by
  have : atN ms x = none := by
    unfold atN
    rw [List.findIdx?_eq_none_iff]
    intro m hm
    obtain ⟨k, hk, rfl⟩ := List.mem_iff_getElem.1 hm
    simpa using h k hk
  simp [atI, this]
theorem ready_le (ms : List Mem) : ready ms ≤ ms.length := List.length_filter_le _ _
theorem ready_snoc (ms : List Mem) (m : Mem) : ready (ms ++ [m]) = ready ms + if m.ready then 1 else 0 := by
  unfold ready
  rw [List.filter_append, List.length_append]
  cases h : m.ready <;> simp [h]
end View
end Go.Proofs.YtpjkdcbogjigeaaGreat
