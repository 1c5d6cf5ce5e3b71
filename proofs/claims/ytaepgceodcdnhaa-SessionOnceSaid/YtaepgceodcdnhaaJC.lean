/- Journals by the engine: the document's records, same; the law speaks. -/
import Derived.Test.YtaepgceodcdnhaaJB
namespace Go.Proofs.Ytaepgceodcdnhaa.Vm
open Go Go.RowKit
set_option maxRecDepth 100000
namespace X10
open Jrn (Dk frL firstL firstB hdN recs flat recA)
open X9 (dkC obsK dkH dk_post)
theorem strs_at {l : List (List UInt8)} {k : Nat} {t : List UInt8} (h : l[k]? = some t) : (strs l)[k]? = some (str t) := by rw [strs, List.getElem?_map, h]; rfl
theorem bs_eq (a b : List UInt8) : decide ((⟨a.toArray⟩ : ByteArray) = ⟨b.toArray⟩) = decide (a = b) := by
  rw [Bool.eq_iff_iff, decide_eq_true_eq, decide_eq_true_eq]
  constructor
  · intro h; have := congrArg (fun b : ByteArray => b.data.toList) h; simpa using this
  · intro h; rw [h]
theorem same_loop (Γ : Ctx) (a b : List (List UInt8)) (hl : a.length = b.length) (hm : a.length ≤ 100000000) (Q : T → Obs → Glb → Prop) (hQ : ∀ x, x = bool (decide (a = b)) → Q x [] none_) : ∀ (f i : Nat), i + f = a.length → a.take i = b.take i →
    TWk Try.prog Γ (fin Try.prog Try.f16 [] Q) [.code (sub (bd Try.f16) [1, 1, 0, 1, 0]), .blk 0, .code (sub (bd Try.f16) [1, 1, 1])] ⟨frame 26 [(0, .sl 1 (strs a)), (1, .sl 1 (strs b)), (5, int i)], [], none_⟩ := by
  intro f
  induction f with
  | zero =>
    intro i hi ht
    obtain rfl : i = a.length := by omega
    have he : a = b := by
      rw [List.take_length, hl, List.take_length] at ht; exact ht
    rw [decide_eq_true he] at hQ
    refine run_sound (⟨fun | 6, 2 => .res (str []) | 6, 6 => .res (str []) | _, _ => .no, [((2, 4), ([0, 1, 5], 0))], fun  | _ => none⟩) 400 (B := bsplit (decide ((↑(List.length a) : Int) < (↑(List.length (strs a)) : Int))) ((0 : Int) ≤ (↑(List.length a) : Int) ∧ (strs a)[Int.toNat (↑(List.length a) : Int)]? = some (T.v (Value.string (ByteArray.mk (#[])))) ∧ (0 : Int) ≤ (↑(List.length a) : Int) ∧ (strs b)[Int.toNat (↑(List.length a) : Int)]? = some (T.v (Value.string (ByteArray.mk (#[])))) ∧ TWk Try.prog Γ (fin Try.prog Try.f16 [] Q) [It.code (sub (bd Try.f16) [(1 : Nat), (1 : Nat), (0 : Nat), (1 : Nat), (0 : Nat)]), It.blk (0 : Nat), It.code (sub (bd Try.f16) [(1 : Nat), (1 : Nat), (1 : Nat)])] { fr := [T.sl (1 : Nat) (strs a), T.sl (1 : Nat) (strs b), T.und, T.und, T.und, T.v (Value.int IntKind.i64 (IntKind.wrap IntKind.i64 ((↑(List.length a) : Int) + (1 : Int)))), T.und, T.und, T.und, T.und, T.und, T.und, T.und, T.und, T.und, T.und, T.und, T.und, T.und, T.und, T.und, T.und, T.und, T.und, T.und, T.und], ob := [], gl := fun x => none }) (Q (T.v (Value.bool true)) [] fun x => none)) (by kernel_rfl) ?_
    repeat' (first | exact rfl | exact Nat.le_of_ble_eq_true rfl | refine And.intro ?_ ?_ | intro _ | refine bsplit_mk (fun _ => ?_) (fun _ => ?_))
    all_goals first
      | exact hQ _ rfl
      | (exfalso; simp only [decide_eq_true_eq, strs_len] at *; omega)
      | trace_state
  | succ f ih =>
    intro i hi ht
    have h1 : i < a.length := by omega
    have h2 : i < b.length := by omega
    have ga : (strs a)[(i : Int).toNat]? = some (str a[i]) := by rw [Int.toNat_natCast]; exact strs_at (List.getElem?_eq_getElem h1)
    have gb : (strs b)[(i : Int).toNat]? = some (str b[i]) := by rw [Int.toNat_natCast]; exact strs_at (List.getElem?_eq_getElem h2)
    have nx := fun he : a[i] = b[i] => ih (i + 1) (by omega) (by rw [List.take_succ_eq_append_getElem h1, List.take_succ_eq_append_getElem h2, ht, he])
    have no := fun he : a[i] ≠ b[i] => hQ (bool false) (by rw [decide_eq_false (fun e => he (by simp only [e]))])
    generalize a[i] = u at *
    generalize b[i] = v at *
    have hw : IntKind.wrap .i64 ((i : Int) + 1) = ((i + 1 : Nat) : Int) := by rw [wrap_i64 (by omega) (by omega)]; omega
    refine run_sound (⟨fun | 6, 2 => .res (str u) | 6, 6 => .res (str v) | _, _ => .no, [((2, 4), ([0, 1, 5], 0))], fun  | _ => none⟩) 400 (B := bsplit (decide ((↑i : Int) < (↑(List.length (strs a)) : Int))) ((0 : Int) ≤ (↑i : Int) ∧ (strs a)[Int.toNat (↑i : Int)]? = some (T.v (Value.string (ByteArray.mk (List.toArray u)))) ∧ (0 : Int) ≤ (↑i : Int) ∧ (strs b)[Int.toNat (↑i : Int)]? = some (T.v (Value.string (ByteArray.mk (List.toArray v)))) ∧ bsplit (!decide ((ByteArray.mk (List.toArray u)) = (ByteArray.mk (List.toArray v)))) (Q (T.v (Value.bool false)) [] fun x => none) (TWk Try.prog Γ (fin Try.prog Try.f16 [] Q) [It.code (sub (bd Try.f16) [(1 : Nat), (1 : Nat), (0 : Nat), (1 : Nat), (0 : Nat)]), It.blk (0 : Nat), It.code (sub (bd Try.f16) [(1 : Nat), (1 : Nat), (1 : Nat)])] { fr := [T.sl (1 : Nat) (strs a), T.sl (1 : Nat) (strs b), T.und, T.und, T.und, T.v (Value.int IntKind.i64 (IntKind.wrap IntKind.i64 ((↑i : Int) + (1 : Int)))), T.und, T.und, T.und, T.und, T.und, T.und, T.und, T.und, T.und, T.und, T.und, T.und, T.und, T.und, T.und, T.und, T.und, T.und, T.und, T.und], ob := [], gl := fun x => none })) (Q (T.v (Value.bool true)) [] fun x => none)) (by kernel_rfl) ?_
    rw [hw]
    repeat' (first | exact rfl | exact Nat.le_of_ble_eq_true rfl | refine And.intro ?_ ?_ | intro _ | refine bsplit_mk (fun _ => ?_) (fun _ => ?_))
    all_goals first
      | exact ga
      | exact gb
      | omega
      | (rename_i h; rw [bs_eq] at h; exact no (by simpa using h))
      | (rename_i h; rw [bs_eq] at h; exact nx (by simpa using h))
      | (exfalso; simp only [decide_eq_false_iff_not, strs_len] at *; omega)
      | (clear nx ih; trace_state)
theorem same_any (a b : List (List UInt8)) (hm : a.length ≤ 100000000) (Q : T → Obs → Glb → Prop) (hQ : ∀ x, x = bool (decide (a = b)) → Q x [] none_) : TCalls Try.prog 16 [.sl 1 (strs a), .sl 1 (strs b)] [] none_ Q := by
  by_cases hl : a.length = b.length
  · have lp := fun Γ => same_loop Γ a b hl hm Q hQ a.length 0 (by omega) rfl
    refine TCalls.of Try.func16 rfl (CanCall.of Try.func16 rfl (by decide)) [] fun Γ => ?_
    refine run_sound (⟨fun _ _ => .no, [((2, 4), ([0, 1, 5], 0))], fun _ => none⟩) 400 (B := bsplit ((↑(List.length (strs a)) : Int) != (↑(List.length (strs b)) : Int)) (Q (T.v (Value.bool false)) [] fun x => none) (TWk Try.prog Γ (fin Try.prog Try.f16 [] Q) [It.code (sub (bd Try.f16) [(1 : Nat), (1 : Nat), (0 : Nat), (1 : Nat), (0 : Nat)]), It.blk (0 : Nat), It.code (sub (bd Try.f16) [(1 : Nat), (1 : Nat), (1 : Nat)])] { fr := [T.sl (1 : Nat) (strs a), T.sl (1 : Nat) (strs b), T.und, T.und, T.und, T.v (Value.int IntKind.i64 (0 : Int)), T.und, T.und, T.und, T.und, T.und, T.und, T.und, T.und, T.und, T.und, T.und, T.und, T.und, T.und, T.und, T.und, T.und, T.und, T.und, T.und], ob := [], gl := fun x => none })) (by kernel_rfl) ?_
    repeat' (first | exact rfl | exact Nat.le_of_ble_eq_true rfl | refine And.intro ?_ ?_ | intro _ | refine bsplit_mk (fun _ => ?_) (fun _ => ?_))
    all_goals first
      | exact lp Γ
      | (exfalso; rename_i h; simp only [strs_len, bne_iff_ne, ne_eq] at h; omega)
      | trace_state
  · have hq := hQ (bool false) (by rw [decide_eq_false (fun e => hl (by rw [e]))])
    refine TCalls.of Try.func16 rfl (CanCall.of Try.func16 rfl (by decide)) [] fun Γ => ?_
    refine run_sound (⟨fun _ _ => .no, [((2, 4), ([0, 1, 5], 0))], fun _ => none⟩) 400 (B := bsplit ((↑(List.length (strs a)) : Int) != (↑(List.length (strs b)) : Int)) (Q (T.v (Value.bool false)) [] fun x => none) (TWk Try.prog Γ (fin Try.prog Try.f16 [] Q) [It.code (sub (bd Try.f16) [(1 : Nat), (1 : Nat), (0 : Nat), (1 : Nat), (0 : Nat)]), It.blk (0 : Nat), It.code (sub (bd Try.f16) [(1 : Nat), (1 : Nat), (1 : Nat)])] { fr := [T.sl (1 : Nat) (strs a), T.sl (1 : Nat) (strs b), T.und, T.und, T.und, T.v (Value.int IntKind.i64 (0 : Int)), T.und, T.und, T.und, T.und, T.und, T.und, T.und, T.und, T.und, T.und, T.und, T.und, T.und, T.und, T.und, T.und, T.und, T.und, T.und, T.und], ob := [], gl := fun x => none })) (by kernel_rfl) ?_
    repeat' (first | exact rfl | exact Nat.le_of_ble_eq_true rfl | refine And.intro ?_ ?_ | intro _ | refine bsplit_mk (fun _ => ?_) (fun _ => ?_))
    all_goals first
      | exact hq
      | (exfalso; rename_i h; simp only [strs_len, bne_eq_false_iff_eq] at h; omega)
      | trace_state
theorem hdN_two (s : List UInt8) (a : Nat) (h : a + 1 < s.length) : hdN (s.drop a) = 256 * (s[a]'(by omega)).toNat + (s[a + 1]).toNat := by
  have e : (s.drop a).take 2 = [s[a]'(by omega), s[a + 1]] := by
    rw [List.drop_eq_getElem_cons (by omega), List.drop_eq_getElem_cons h]; rfl
  unfold hdN
  rw [e]
  simp [Oct.getN]
def obsQ (n : Nat) (h : Value) : Obs := [(0, .room 1 9 n h)]
theorem cut_text (s : List UInt8) (a n : Nat) : (s.take (a + 2 + n)).drop (a + 2) = ((s.drop a).drop 2).take n := by
  rw [List.drop_take, List.drop_drop, show a + 2 + n - (a + 2) = n by omega]
theorem cut_all (s : List UInt8) (a n : Nat) : (s.take (a + n + 6)).drop a = (s.drop a).take (n + 6) := by
  rw [List.drop_take, show a + n + 6 - a = n + 6 by omega]
section
variable (Γ : Ctx) (s : List UInt8)
theorem rr_short (hs : s.length ≤ 100000000) (Q : T → Obs → Glb → Prop) (a : Nat) (l : List (List UInt8)) (h : Value) (ha : a ≤ s.length) (h2 : ¬ a + 2 ≤ s.length) (hQ : Q (.tup [.sl 1 (strs l), int a]) [] none_) :
    TWk Try.prog Γ (fin Try.prog Try.f13 [] Q) [.code (sub (bd Try.f13) [1, 1, 1, 0, 0]), .blk 0, .code (sub (bd Try.f13) [1, 1, 1, 1])] ⟨frame 67 [(0, str s), (4, .slx 1 0 (strs l) h), (5, int a)], obsQ (strs l).length h, none_⟩ := by
  have hw : T.v (.int .i64 (IntKind.wrap .i64 (((⟨s.toArray⟩ : ByteArray).size : Int) - a))) = int (s.length - a : Nat) := by rw [bs_len, wrap_i64 (by omega) (by omega)]; exact congrArg int (by omega)
  refine run_sound (⟨fun | 3, 3 => .res (int (s.length - a : Nat)) | _, _ => .no, [((2, 3), ([0, 4, 5], 1)), ((0, 4), ([0, 4, 5], 1))], fun | 7 => some ⟨[], [1], .take true [0] (.take false [2,3,4,5,6,7,8] (.one 1 (.take false [9] .done)))⟩ | _ => none⟩) 400 (B := T.v (Value.int IntKind.i64 (IntKind.wrap IntKind.i64 ((↑(ByteArray.size (ByteArray.mk (List.toArray s))) : Int) - (↑a : Int)))) = T.v (Value.int IntKind.i64 (↑(List.length s - a) : Int)) ∧ bsplit (decide ((↑(List.length s - a) : Int) ≥ (2 : Int))) (TWk Try.prog Γ (fin Try.prog Try.f13 [] Q) [It.code (sub (bd Try.f13) [(1 : Nat), (1 : Nat), (1 : Nat), (0 : Nat), (0 : Nat), (0 : Nat), (1 : Nat), (0 : Nat)]), It.blk (1 : Nat), It.code (sub (bd Try.f13) [(1 : Nat), (1 : Nat), (1 : Nat), (0 : Nat), (0 : Nat)]), It.blk (0 : Nat), It.code (sub (bd Try.f13) [(1 : Nat), (1 : Nat), (1 : Nat), (1 : Nat)])] { fr := [T.v (Value.string (ByteArray.mk (List.toArray s))), T.und, T.und, T.und, T.slx (1 : Nat) (0 : Nat) (strs l) h, T.v (Value.int IntKind.i64 (↑a : Int)), T.und, T.und, T.und, T.und, T.und, T.und, T.und, T.und, T.und, T.und, T.und, T.und, T.und, T.und, T.und, T.und, T.und, T.und, T.und, T.und, T.und, T.und, T.und, T.und, T.und, T.und, T.und, T.und, T.und, T.und, T.und, T.und, T.und, T.und, T.und, T.und, T.und, T.und, T.und, T.und, T.und, T.und, T.und, T.und, T.und, T.und, T.und, T.und, T.und, T.und, T.und, T.und, T.und, T.und, T.und, T.und, T.und, T.und, T.und, T.und, T.und], ob := [((0 : Nat), Ob.room (1 : Nat) (9 : Nat) (List.length (strs l)) h)], gl := fun x => none }) (Q (T.tup [T.sl (1 : Nat) (strs l), T.v (Value.int IntKind.i64 (↑a : Int))]) [] fun x => none)) (by kernel_rfl) ?_
  repeat' (first | exact rfl | exact Nat.le_of_ble_eq_true rfl | refine And.intro ?_ ?_ | intro _ | refine bsplit_mk (fun _ => ?_) (fun _ => ?_))
  all_goals first
    | exact hw
    | exact hQ
    | (exfalso; simp only [decide_eq_true_eq] at *; omega)
    | trace_state
theorem rr_go (hs : s.length ≤ 100000000) (Q : T → Obs → Glb → Prop) (a : Nat) (l : List (List UInt8)) (h : Value) (h2 : a + 1 < s.length) (hQ : firstB (s.drop a) = false → Q (.tup [.sl 1 (strs l), int a]) [] none_)
    (nx : ∀ t, firstL (s.drop a) = some t → ∀ h', TWk Try.prog Γ (fin Try.prog Try.f13 [] Q) [.code (sub (bd Try.f13) [1, 1, 1, 0, 0]), .blk 0, .code (sub (bd Try.f13) [1, 1, 1, 1])] ⟨frame 67 [(0, str s), (4, .slx 1 0 (strs l ++ [str t]) h'), (5, int (a + (t.length + 6) : Nat))], obsQ (strs l ++ [str t]).length h', none_⟩) (hll : l.length ≤ 100000000) :
    TWk Try.prog Γ (fin Try.prog Try.f13 [] Q) [.code (sub (bd Try.f13) [1, 1, 1, 0, 0]), .blk 0, .code (sub (bd Try.f13) [1, 1, 1, 1])] ⟨frame 67 [(0, str s), (4, .slx 1 0 (strs l) h), (5, int a)], obsQ (strs l).length h, none_⟩ := by
  have hn := hdN_two s a h2
  have c0 := (s[a]'(by omega)).toNat_lt
  have c1 := (s[a + 1]).toNat_lt
  have g0 := str_at s a (by omega)
  have g1 := str_at s (a + 1) h2
  have hw : T.v (.int .i64 (IntKind.wrap .i64 (((⟨s.toArray⟩ : ByteArray).size : Int) - a))) = int (s.length - a : Nat) := by rw [bs_len, wrap_i64 (by omega) (by omega)]; exact congrArg int (by omega)
  generalize (s[a]'(by omega)).toNat = x0 at *
  generalize (s[a + 1]).toNat = x1 at *
  have hle : (s.drop a).length = s.length - a := List.length_drop
  have yes : ∀ n, n = hdN (s.drop a) → 1 ≤ n → n ≤ 512 → n + 6 ≤ s.length - a → frL (((s.drop a).drop 2).take n) = (s.drop a).take (n + 6) → firstL (s.drop a) = some (((s.drop a).drop 2).take n) := by
    rintro n rfl b1 b2 b3 b4
    unfold firstL
    rw [if_pos (by unfold firstB; exact decide_eq_true ⟨by omega, b1, b2, by omega, b4⟩)]
  have no : ∀ n, n = hdN (s.drop a) → (n < 1 ∨ 512 < n ∨ s.length - a < n + 6 ∨ frL (((s.drop a).drop 2).take n) ≠ (s.drop a).take (n + 6)) → firstB (s.drop a) = false := by
    rintro n rfl hb
    unfold firstB
    refine decide_eq_false fun hh => ?_
    rcases hb with hb | hb | hb | hb
    · omega
    · omega
    · omega
    · exact hb hh.2.2.2.2
  obtain ⟨n, hn2⟩ : ∃ n, n = hdN (s.drop a) := ⟨_, rfl⟩
  rw [← hn2] at hn
  have yes := yes n hn2
  have no := no n hn2
  have hw1 : T.v (.int .i64 (IntKind.wrap .i64 ((x0 : Int) * 256))) = int (x0 * 256 : Nat) := by rw [wrap_i64 (by omega) (by omega)]; exact congrArg int (by omega)
  have hw2 : T.v (.int .i64 (IntKind.wrap .i64 (((x0 * 256 : Nat) : Int) + (x1 : Int)))) = int n := by rw [wrap_i64 (by omega) (by omega)]; exact congrArg int (by omega)
  have hx0 : T.v (.int .i64 (IntKind.wrap .i64 (x0 : Int))) = int x0 := congrArg int (wrap_i64 (by omega) (by omega))
  have hx1 : T.v (.int .i64 (IntKind.wrap .i64 (x1 : Int))) = int x1 := congrArg int (wrap_i64 (by omega) (by omega))
  have ha1 : T.v (.int .i64 (IntKind.wrap .i64 ((a : Int) + 1))) = int (a + 1 : Nat) := by rw [wrap_i64 (by omega) (by omega)]; exact congrArg int (by omega)
  have ha2 : T.v (.int .i64 (IntKind.wrap .i64 ((a : Int) + 2))) = int (a + 2 : Nat) := by rw [wrap_i64 (by omega) (by omega)]; exact congrArg int (by omega)
  have ha3 : T.v (.int .i64 (IntKind.wrap .i64 (((a + 2 : Nat) : Int) + n))) = int (a + 2 + n : Nat) := by rw [wrap_i64 (by omega) (by omega)]; exact congrArg int (by omega)
  have hn6 : T.v (.int .i64 (IntKind.wrap .i64 ((n : Int) + 6))) = int (n + 6 : Nat) := by rw [wrap_i64 (by omega) (by omega)]; exact congrArg int (by omega)
  have ha4 : T.v (.int .i64 (IntKind.wrap .i64 ((a : Int) + n))) = int (a + n : Nat) := by rw [wrap_i64 (by omega) (by omega)]; exact congrArg int (by omega)
  have ha5 : T.v (.int .i64 (IntKind.wrap .i64 (((a + n : Nat) : Int) + 6))) = int (a + n + 6 : Nat) := by rw [wrap_i64 (by omega) (by omega)]; exact congrArg int (by omega)
  have ha6 : T.v (.int .i64 (IntKind.wrap .i64 ((a : Int) + (n + 6 : Nat)))) = int (a + (n + 6) : Nat) := by rw [wrap_i64 (by omega) (by omega)]; exact congrArg int (by omega)
  generalize htx : ((s.drop a).drop 2).take n = tx at *
  have hcutT : T.v (.string ((⟨s.toArray⟩ : ByteArray).extract (a + 2) (a + 2 + n))) = str tx := by rw [X1.str_cut, cut_text, htx]
  have htl : tx.length ≤ 100000000 := by rw [← htx, List.length_take]; omega
  have hfrm : TCalls Try.prog 10 [str tx] [] none_ (callPost (told (str (frL tx)) [] [])) := X2.rframed_any tx (by omega) _ (fun x hx => told_post hx)
  rw [← hcutT] at hfrm
  have hcmp : decide ((⟨(frL tx).toArray⟩ : ByteArray) = (⟨s.toArray⟩ : ByteArray).extract a (a + n + 6)) = decide (frL tx = (s.drop a).take (n + 6)) := by rw [bs_cut, bs_eq, cut_all]
  have nx2 := fun b1 b2 b3 b4 h' => nx tx (yes b1 b2 b3 b4) h'
  rw [← hcutT] at nx2
  refine run_sound (⟨fun | 3, 3 => .res (int (s.length - a : Nat)) | 4, 2 => .res (u8 x0) | 4, 3 => .res (int x0) | 4, 4 => .res (int (x0 * 256 : Nat)) | 4, 7 => .res (int (a + 1 : Nat)) | 4, 8 => .res (u8 x1) | 4, 9 => .res (int x1) | 4, 10 => .res (int n) | 5, 10 => .res (int (s.length - a : Nat)) | 5, 12 => .res (int (n + 6 : Nat)) | 6, 2 => .res (int (a + 2 : Nat)) | 6, 4 => .res (int (a + 2 : Nat)) | 6, 6 => .res (int (a + 2 + n : Nat)) | 7, 1 => told (str (frL tx)) [] [] | 7, 6 => .res (int (a + n : Nat)) | 7, 7 => .res (int (a + n + 6 : Nat)) | 9, 2 => .res (int (n + 6 : Nat)) | 9, 3 => .res (int (a + (n + 6) : Nat)) | _, _ => .no, [((2, 3), ([0, 4, 5], 1))], fun | 7 => some ⟨[], [1], .take true [0] (.take false [2,3,4,5,6,7,8] (.one 1 (.take false [9] .done)))⟩ | _ => none⟩) 400 (B := T.v (Value.int IntKind.i64 (IntKind.wrap IntKind.i64 ((↑(ByteArray.size (ByteArray.mk (List.toArray s))) : Int) - (↑a : Int)))) = T.v (Value.int IntKind.i64 (↑(List.length s - a) : Int)) ∧ bsplit (decide ((↑(List.length s - a) : Int) ≥ (2 : Int))) ((0 : Int) ≤ (↑a : Int) ∧ Option.map (fun c => T.v (Value.int IntKind.u8 (↑(UInt8.toNat c) : Int))) (ByteArray.mk (List.toArray s))[Int.toNat (↑a : Int)]? = some (T.v (Value.int IntKind.u8 (↑x0 : Int))) ∧ T.v (Value.int IntKind.i64 (IntKind.wrap IntKind.i64 (↑x0 : Int))) = T.v (Value.int IntKind.i64 (↑x0 : Int)) ∧ T.v (Value.int IntKind.i64 (IntKind.wrap IntKind.i64 ((↑x0 : Int) * (256 : Int)))) = T.v (Value.int IntKind.i64 (↑(x0 * (256 : Nat)) : Int)) ∧ T.v (Value.int IntKind.i64 (IntKind.wrap IntKind.i64 ((↑a : Int) + (1 : Int)))) = T.v (Value.int IntKind.i64 (↑(a + (1 : Nat)) : Int)) ∧ (0 : Int) ≤ (↑(a + (1 : Nat)) : Int) ∧ Option.map (fun c => T.v (Value.int IntKind.u8 (↑(UInt8.toNat c) : Int))) (ByteArray.mk (List.toArray s))[Int.toNat (↑(a + (1 : Nat)) : Int)]? = some (T.v (Value.int IntKind.u8 (↑x1 : Int))) ∧ T.v (Value.int IntKind.i64 (IntKind.wrap IntKind.i64 (↑x1 : Int))) = T.v (Value.int IntKind.i64 (↑x1 : Int)) ∧ T.v (Value.int IntKind.i64 (IntKind.wrap IntKind.i64 ((↑(x0 * (256 : Nat)) : Int) + (↑x1 : Int)))) = T.v (Value.int IntKind.i64 (↑n : Int)) ∧ bsplit (decide ((↑n : Int) < (1 : Int))) (Q (T.tup [T.sl (1 : Nat) (strs l), T.v (Value.int IntKind.i64 (↑a : Int))]) [] fun x => none) (bsplit (decide ((↑n : Int) > (512 : Int))) (Q (T.tup [T.sl (1 : Nat) (strs l), T.v (Value.int IntKind.i64 (↑a : Int))]) [] fun x => none) (T.v (Value.int IntKind.i64 (IntKind.wrap IntKind.i64 ((↑(ByteArray.size (ByteArray.mk (List.toArray s))) : Int) - (↑a : Int)))) = T.v (Value.int IntKind.i64 (↑(List.length s - a) : Int)) ∧ T.v (Value.int IntKind.i64 (IntKind.wrap IntKind.i64 ((↑n : Int) + (6 : Int)))) = T.v (Value.int IntKind.i64 (↑(n + (6 : Nat)) : Int)) ∧ bsplit (decide ((↑(List.length s - a) : Int) < (↑(n + (6 : Nat)) : Int))) (Q (T.tup [T.sl (1 : Nat) (strs l), T.v (Value.int IntKind.i64 (↑a : Int))]) [] fun x => none) (T.v (Value.int IntKind.i64 (IntKind.wrap IntKind.i64 ((↑a : Int) + (2 : Int)))) = T.v (Value.int IntKind.i64 (↑(a + (2 : Nat)) : Int)) ∧ T.v (Value.int IntKind.i64 (IntKind.wrap IntKind.i64 ((↑a : Int) + (2 : Int)))) = T.v (Value.int IntKind.i64 (↑(a + (2 : Nat)) : Int)) ∧ T.v (Value.int IntKind.i64 (IntKind.wrap IntKind.i64 ((↑(a + (2 : Nat)) : Int) + (↑n : Int)))) = T.v (Value.int IntKind.i64 (↑(a + (2 : Nat) + n) : Int)) ∧ ((0 : Int) ≤ Prod.snd (IntKind.i64, (↑(a + (2 : Nat)) : Int)) ∧ Prod.snd (IntKind.i64, (↑(a + (2 : Nat)) : Int)) ≤ Prod.snd (IntKind.i64, (↑(a + (2 : Nat) + n) : Int)) ∧ Prod.snd (IntKind.i64, (↑(a + (2 : Nat) + n) : Int)) ≤ (↑(ByteArray.size (ByteArray.mk (List.toArray s))) : Int)) ∧ T.v (Value.int IntKind.i64 (IntKind.wrap IntKind.i64 ((↑a : Int) + (↑n : Int)))) = T.v (Value.int IntKind.i64 (↑(a + n) : Int)) ∧ T.v (Value.int IntKind.i64 (IntKind.wrap IntKind.i64 ((↑(a + n) : Int) + (6 : Int)))) = T.v (Value.int IntKind.i64 (↑(a + n + (6 : Nat)) : Int)) ∧ ((0 : Int) ≤ Prod.snd (IntKind.i64, (↑a : Int)) ∧ Prod.snd (IntKind.i64, (↑a : Int)) ≤ Prod.snd (IntKind.i64, (↑(a + n + (6 : Nat)) : Int)) ∧ Prod.snd (IntKind.i64, (↑(a + n + (6 : Nat)) : Int)) ≤ (↑(ByteArray.size (ByteArray.mk (List.toArray s))) : Int)) ∧ TCalls Try.prog (10 : Nat) [T.v (Value.string (ByteArray.extract (ByteArray.mk (List.toArray s)) (Int.toNat (Prod.snd (IntKind.i64, (↑(a + (2 : Nat)) : Int)))) (Int.toNat (Prod.snd (IntKind.i64, (↑(a + (2 : Nat) + n) : Int))))))] [] (fun x => none) (callPost (Hint.call false Unit (fun x => True) [] false (fun x => str (frL tx)) (fun x => []) fun x => none_)) ∧ ∀ (a_1 : Unit), True → bsplit (!decide ((ByteArray.mk (List.toArray (frL tx))) = ByteArray.extract (ByteArray.mk (List.toArray s)) (Int.toNat (Prod.snd (IntKind.i64, (↑a : Int)))) (Int.toNat (Prod.snd (IntKind.i64, (↑(a + n + (6 : Nat)) : Int)))))) (Q (T.tup [T.sl (1 : Nat) (strs l), T.v (Value.int IntKind.i64 (↑a : Int))]) [] fun x => none) ((h = h ∧ List.length (strs l) = List.length (strs l)) ∧ Fits (List.length (strs l) + (1 : Nat)) (nat_lit 16) ∧ ∀ (x : Value), T.v (Value.int IntKind.i64 (IntKind.wrap IntKind.i64 ((↑n : Int) + (6 : Int)))) = T.v (Value.int IntKind.i64 (↑(n + (6 : Nat)) : Int)) ∧ T.v (Value.int IntKind.i64 (IntKind.wrap IntKind.i64 ((↑a : Int) + (↑(n + (6 : Nat)) : Int)))) = T.v (Value.int IntKind.i64 (↑(a + (n + (6 : Nat))) : Int)) ∧ TWk Try.prog Γ (fin Try.prog Try.f13 [] Q) [It.code (sub (bd Try.f13) [(1 : Nat), (1 : Nat), (1 : Nat), (0 : Nat), (0 : Nat)]), It.blk (0 : Nat), It.code (sub (bd Try.f13) [(1 : Nat), (1 : Nat), (1 : Nat), (1 : Nat)])] { fr := [T.v (Value.string (ByteArray.mk (List.toArray s))), T.und, T.und, T.und, T.slx (1 : Nat) (0 : Nat) (strs l ++ [T.v (Value.string (ByteArray.extract (ByteArray.mk (List.toArray s)) (Int.toNat (Prod.snd (IntKind.i64, (↑(a + (2 : Nat)) : Int)))) (Int.toNat (Prod.snd (IntKind.i64, (↑(a + (2 : Nat) + n) : Int))))))]) x, T.v (Value.int IntKind.i64 (↑(a + (n + (6 : Nat))) : Int)), T.und, T.und, T.und, T.und, T.und, T.und, T.und, T.und, T.und, T.und, T.und, T.und, T.und, T.und, T.und, T.und, T.und, T.und, T.und, T.und, T.und, T.und, T.und, T.und, T.und, T.und, T.und, T.und, T.und, T.und, T.und, T.und, T.und, T.und, T.und, T.und, T.und, T.und, T.und, T.und, T.und, T.und, T.und, T.und, T.und, T.und, T.und, T.und, T.und, T.und, T.und, T.und, T.und, T.und, T.und, T.und, T.und, T.und, T.und, T.und, T.und], ob := [((0 : Nat), Ob.room (1 : Nat) (9 : Nat) (List.length (strs l ++ [T.v (Value.string (ByteArray.extract (ByteArray.mk (List.toArray s)) (Int.toNat (Prod.snd (IntKind.i64, (↑(a + (2 : Nat)) : Int)))) (Int.toNat (Prod.snd (IntKind.i64, (↑(a + (2 : Nat) + n) : Int))))))])) x)], gl := fun x => none }))))) (Q (T.tup [T.sl (1 : Nat) (strs l), T.v (Value.int IntKind.i64 (↑a : Int))]) [] fun x => none)) (by kernel_rfl) ?_
  repeat' (first | exact rfl | exact Nat.le_of_ble_eq_true rfl | refine And.intro ?_ ?_ | intro _ | refine bsplit_mk (fun _ => ?_) (fun _ => ?_))
  all_goals first
    | exact hw
    | exact g0
    | exact g1
    | exact hx0
    | exact hx1
    | exact hw1
    | exact hw2
    | exact ha1
    | exact ha2
    | exact ha3
    | exact hn6
    | exact ha4
    | exact ha5
    | exact ha6
    | omega
    | (rw [bs_len]; omega)
    | exact hfrm
    | (simp only [strs_len]; omega)
    | (simp only [strs_len]; unfold maxLen; omega)
    | (rw [bs_len]; show ((_ : Nat) : Int) ≤ _; simp only [decide_eq_false_iff_not] at *; omega)
    | (rename_i hh; exact hQ (no (.inl (by simp only [decide_eq_true_eq] at hh; omega))))
    | (rename_i hh; exact hQ (no (.inr (.inl (by simp only [decide_eq_true_eq] at hh; omega)))))
    | (rename_i hh; exact hQ (no (.inr (.inr (.inl (by simp only [decide_eq_true_eq] at hh; omega))))))
    | (rename_i hh; have hh2 : (!decide ((⟨(frL tx).toArray⟩ : ByteArray) = (⟨s.toArray⟩ : ByteArray).extract a (a + n + 6))) = true := hh; rw [hcmp] at hh2; exact hQ (no (.inr (.inr (.inr (by simpa using hh2))))))
    | (rename_i b1 b2 b3 _ _ hh _
       have hh2 : (!decide ((⟨(frL tx).toArray⟩ : ByteArray) = (⟨s.toArray⟩ : ByteArray).extract a (a + n + 6))) = false := hh
       rw [hcmp] at hh2
       simp only [decide_eq_false_iff_not] at b1 b2 b3
       have q := nx2 (by omega) (by omega) (by omega) (by simpa using hh2)
       have hl : tx.length = n := by rw [← htx, List.length_take, List.length_drop, hle]; omega
       rw [hl] at q
       exact q _)
    | (exfalso; simp only [decide_eq_false_iff_not] at *; omega)
    | (clear nx nx2 yes no; trace_state)
end
theorem rr_loop (Γ : Ctx) (s : List UInt8) (hs : s.length ≤ 10000000) (e : Nat) (L : List (List UInt8)) (Q : T → Obs → Glb → Prop) (hQ : Q (.tup [.sl 1 (strs L), int e]) [] none_) :
    ∀ (f : Nat) (a : Nat) (l : List (List UInt8)) (h : Value), a ≤ s.length → (s.drop a).length ≤ f → l ++ (recs f (s.drop a)).1 = L → a + (recs f (s.drop a)).2 = e → l.length ≤ a →
    TWk Try.prog Γ (fin Try.prog Try.f13 [] Q) [.code (sub (bd Try.f13) [1, 1, 1, 0, 0]), .blk 0, .code (sub (bd Try.f13) [1, 1, 1, 1])] ⟨frame 67 [(0, str s), (4, .slx 1 0 (strs l) h), (5, int a)], obsQ (strs l).length h, none_⟩ := by
  intro f
  induction f with
  | zero =>
    intro a l h ha hf hl he hla
    rw [List.length_drop] at hf
    have q := rr_short Γ s (by omega) Q a l h ha (by omega)
    simp only [recs, List.append_nil, Nat.add_zero] at hl he
    rw [hl, he] at q
    rw [hl, he]
    exact q hQ
  | succ f ih =>
    intro a l h ha hf hl he hla
    by_cases h2 : a + 1 < s.length
    · refine rr_go Γ s (by omega) Q a l h h2 (fun hb => ?_) (fun t ht h' => ?_) (by omega)
      · unfold recs at hl he
        have : firstL (s.drop a) = none := by unfold firstL; rw [hb]; rfl
        rw [this] at hl he
        simp only [List.append_nil, Nat.add_zero] at hl he
        rw [hl, he]; exact hQ
      · unfold recs at hl he
        rw [ht] at hl he
        dsimp only at hl he
        obtain ⟨hv, _, hle, _⟩ := Jrn.firstL_some ht
        rw [List.length_drop] at hle
        rw [List.drop_drop] at hl he
        have q := ih (a + (t.length + 6)) (l ++ [t]) h' (by omega) (by rw [List.length_drop] at hf ⊢; omega) (by rw [← hl]; simp) (by omega) (by rw [List.length_append, List.length_singleton]; omega)
        simp only [strs_snoc] at q
        exact q
    · have hn : firstL (s.drop a) = none := by
        unfold firstL
        rw [if_neg]
        intro hb
        have := (of_decide_eq_true hb).1
        rw [List.length_drop] at this
        omega
      unfold recs at hl he
      rw [hn] at hl he
      simp only [List.append_nil, Nat.add_zero] at hl he
      have q := rr_short Γ s (by omega) Q a l h ha (by omega)
      rw [hl, he] at q
      rw [hl, he]
      exact q hQ
theorem rrecs_any (s : List UInt8) (hs : s.length ≤ 10000000) (Q : T → Obs → Glb → Prop) (hQ : ∀ x, x = .tup [.sl 1 (strs (recA s).1), int (recA s).2] → Q x [] none_) : TCalls Try.prog 13 [str s] [] none_ Q := by
  have lp := fun Γ => rr_loop Γ s hs (recA s).2 (recA s).1 Q (hQ _ rfl) s.length 0 [] nilS (Nat.zero_le _) (by simp) (by simp [recA]) (by simp [recA]) (Nat.le_refl _)
  refine TCalls.of Try.func13 rfl (CanCall.of Try.func13 rfl (by decide)) [] fun Γ => ?_
  refine run_sound (⟨fun  | _, _ => .no, [((2, 3), ([0, 4, 5], 0))], fun | 7 => some ⟨[], [1], .take true [0] (.take false [2,3,4,5,6,7,8] (.one 1 (.take false [9] .done)))⟩ | _ => none⟩) 400 (B := TWk Try.prog Γ (fin Try.prog Try.f13 [] Q) [It.code (sub (bd Try.f13) [(1 : Nat), (1 : Nat), (1 : Nat), (0 : Nat), (0 : Nat)]), It.blk (0 : Nat), It.code (sub (bd Try.f13) [(1 : Nat), (1 : Nat), (1 : Nat), (1 : Nat)])] { fr := [T.v (Value.string (ByteArray.mk (List.toArray s))), T.und, T.und, T.und, T.v (Value.slice none (0 : Nat) (0 : Nat)), T.v (Value.int IntKind.i64 (0 : Int)), T.und, T.und, T.und, T.und, T.und, T.und, T.und, T.und, T.und, T.und, T.und, T.und, T.und, T.und, T.und, T.und, T.und, T.und, T.und, T.und, T.und, T.und, T.und, T.und, T.und, T.und, T.und, T.und, T.und, T.und, T.und, T.und, T.und, T.und, T.und, T.und, T.und, T.und, T.und, T.und, T.und, T.und, T.und, T.und, T.und, T.und, T.und, T.und, T.und, T.und, T.und, T.und, T.und, T.und, T.und, T.und, T.und, T.und, T.und, T.und, T.und], ob := [], gl := fun x => none }) (by kernel_rfl) ?_
  repeat' (first | exact rfl | exact Nat.le_of_ble_eq_true rfl | refine And.intro ?_ ?_ | intro _ | refine bsplit_mk (fun _ => ?_) (fun _ => ?_))
  all_goals first
    | exact TWk.imp (lp Γ) ((Imp.room 1 9).trans (Imp.slot 1 0 4 rfl))
    | trace_state
/-- a new disk, as a call tells it -/
def nwH : Hint := .call false Nat (fun _ => True) [] false (fun b => .ptr 0 b 0) (fun b => obsK b Jrn.newD) (fun _ => none_)
theorem nw_post : TCalls Try.prog 11 [] [] none_ (callPost nwH) := X9.dnew_any _ fun b => ⟨b, trivial, rfl, rfl, Nat.zero_le _, fun h => by cases h⟩
/-- a journal opened, as a call tells it -/
def opP (db : Nat) (d : Dk) (l : List (List UInt8)) : Hint := .call false (Nat × Value) (fun _ => True) [0] false (fun a => .tup [.ptr 1 a.1 0, int 0]) (fun a => obsJ db a.1 d l a.2 false) (fun _ => none_)
def opH (i : Nat) (d : Dk) (l : List (List UInt8)) : Hint := .withB fun B => .call false (Nat × Value) (fun _ => True) [i] false (fun a => .tup [.ptr 1 a.1 0, int 0]) (fun a => obsJ (B.getD i 0) a.1 d l a.2 false) (fun _ => none_)
theorem op_post (db : Nat) (d : Dk) (hd : d.Ok) (ho : d.off = false) (d' : Dk) (l : List (List UInt8)) (h1 : Jrn.keepD d (recA d.b).2 = d') (h2 : (recA d.b).1 = l) : TCalls Try.prog 14 [.ptr 0 db 0] (obsK db d) none_ (callPost (opP db d' l)) :=
  jopen_any db d hd ho _ fun jb h => ⟨(jb, h), trivial, rfl, by rw [h1, h2], Nat.le_of_ble_eq_true rfl, fun h => by cases h⟩
/-- a record added, as a call tells it -/
def adP (db jb : Nat) (d : Dk) (l : List (List UInt8)) (x : T) : Hint := .call false Value (fun _ => True) [0, 1, 2] false (fun _ => x) (fun h => obsJ db jb d l h false) (fun _ => none_)
def adH (i j r : Nat) (d : Dk) (l : List (List UInt8)) (x : T) : Hint := .withB fun B => .call false Value (fun _ => True) [i, j, r] false (fun _ => x) (fun h => obsJ (B.getD i 0) (B.getD j 0) d l h false) (fun _ => none_)
theorem ad_post (db jb : Nat) {l : List (List UInt8)} (hv : Jrn.Vs l) (h : Value) (s : List UInt8) (hs : Jrn.Vr s) (h2 : (flat l).length + s.length + 6 ≤ 1048576) : TCalls Try.prog 18 [.ptr 1 jb 0, str s] (obsJ db jb (Jrn.jd l) l h false) none_ (callPost (adP db jb (Jrn.jd (l ++ [s])) (l ++ [s]) (int 0))) :=
  add_ok db jb _ hv.ok l (by have := hv.len; omega) h s hs (Jrn.appE_jd h2) _ fun h' => ⟨h', trivial, rfl, by rw [Jrn.add_jd h2], Nat.le_of_ble_eq_true rfl, fun h => by cases h⟩
/-- a call that leaves its objects as they were -/
def keepH (sel : List Nat) (x : T) : Hint := .withA fun ob _ => told x sel ((sel.filterMap fun i => ob[i]?).map (fwdO sel))
theorem rc_post (db jb : Nat) (d : Dk) (l : List (List UInt8)) (hl : l.length ≤ 100000000) (h : Value) (dead : Bool) : TCalls Try.prog 17 [.ptr 1 jb 0] (obsJ db jb d l h dead) none_ (callPost (told (.sl 1 (strs l)) [0, 1, 2] (obsJ db jb d l h dead))) :=
  recs_any db jb d l hl h dead _ fun x hx => ⟨(), trivial, hx, rfl, Nat.le_of_ble_eq_true rfl, fun h => by cases h⟩
def ra : List UInt8 := [97]
def rb : List UInt8 := [98]
theorem speaks_true (Q : T → Obs → Glb → Prop) (hQ : ∀ x, x = bool true → Q x [] none_) : TCalls Try.prog 9 [] [] none_ Q := by
  have va : Jrn.Vr ra := ⟨by decide, by decide⟩
  have vb : Jrn.Vr rb := ⟨by decide, by decide⟩
  have h0 : (flat []).length + ra.length + 6 ≤ 1048576 := by decide
  have h1 : (flat [ra]).length + rb.length + 6 ≤ 1048576 := by simp [flat, Jrn.frL_len, ra, rb]
  have v1 : Jrn.Vs [ra] := Jrn.vs_nil.snoc va h0
  have v2 : Jrn.Vs [ra, rb] := v1.snoc vb h1
  refine TCalls.of Try.func9 rfl (CanCall.of Try.func9 rfl (by decide)) [] fun Γ => ?_
  refine run_sound (⟨fun | 1, 0 => nwH | 2, 1 => opH 0 (Jrn.jd []) [] | 3, 1 => adH 0 1 2 (Jrn.jd [ra]) [ra] (int 0) | 3, 3 => adH 0 1 2 (Jrn.jd [ra, rb]) [ra, rb] (int 0) | 4, 1 => opH 0 (Jrn.jd [ra, rb]) [ra, rb] | 5, 1 => keepH [0, 3, 4] (.sl 1 (strs [ra, rb])) | _, _ => .no, [], fun  | _ => none⟩) 400 (B := TCalls Try.prog (11 : Nat) [] [] (fun x => none) (callPost (Hint.call false Nat (fun x => True) [] false (fun b => T.ptr (0 : Nat) b (0 : Nat)) (fun b => obsK b Jrn.newD) fun x => none_)) ∧ ∀ (a : Nat), True → TCalls Try.prog (14 : Nat) [T.ptr (0 : Nat) a (0 : Nat)] [(a, Ob.cells [T.v (Value.string (ByteArray.mk (List.toArray (Dk.b Jrn.newD)))), T.v (Value.int IntKind.i64 (↑(Dk.n Jrn.newD) : Int)), T.v (Value.bool false)])] (fun x => none) (callPost (Hint.call false (Nat × Value) (fun x => True) [(0 : Nat)] false (fun a => T.tup [T.ptr (1 : Nat) (Prod.fst a) (0 : Nat), int (0 : Int)]) (fun a_1 => obsJ a (Prod.fst a_1) (Jrn.jd []) [] (Prod.snd a_1) false) fun x => none_)) ∧ ∀ (a_1 : Nat × Value), True → TCalls Try.prog (18 : Nat) [T.ptr (1 : Nat) (Prod.fst a_1) (0 : Nat), T.v (Value.string (ByteArray.mk (#[(97 : UInt8)])))] [(a, Ob.cells [T.v (Value.string (ByteArray.mk (List.toArray (Dk.b (Jrn.jd []))))), T.v (Value.int IntKind.i64 (↑(Dk.n (Jrn.jd [])) : Int)), T.v (Value.bool false)]), (Prod.fst a_1, Ob.cells [T.ptr (0 : Nat) a (0 : Nat), T.slx (1 : Nat) (2 : Nat) [] (Prod.snd a_1), T.v (Value.bool false)]), ((0 : Nat), Ob.room (1 : Nat) (9 : Nat) (0 : Nat) (Prod.snd a_1))] (fun x => none) (callPost (Hint.call false Value (fun x => True) [(0 : Nat), (1 : Nat), (2 : Nat)] false (fun x => int (0 : Int)) (fun h => obsJ a a_1.1 (Jrn.jd [ra]) [ra] h false) fun x => none_)) ∧ ∀ (a_2 : Value), True → TCalls Try.prog (18 : Nat) [T.ptr (1 : Nat) (Prod.fst a_1) (0 : Nat), T.v (Value.string (ByteArray.mk (#[(98 : UInt8)])))] [(a, Ob.cells [T.v (Value.string (ByteArray.mk (List.toArray (Dk.b (Jrn.jd [ra]))))), T.v (Value.int IntKind.i64 (↑(Dk.n (Jrn.jd [ra])) : Int)), T.v (Value.bool false)]), (List.getD (List.map (fun x => Prod.fst x) [(a, Ob.cells [T.v (Value.string (ByteArray.mk (List.toArray (Dk.b (Jrn.jd []))))), T.v (Value.int IntKind.i64 (↑(Dk.n (Jrn.jd [])) : Int)), T.v (Value.bool false)]), (Prod.fst a_1, Ob.cells [T.ptr (0 : Nat) a (0 : Nat), T.slx (1 : Nat) (2 : Nat) [] (Prod.snd a_1), T.v (Value.bool false)]), ((0 : Nat), Ob.room (1 : Nat) (9 : Nat) (0 : Nat) (Prod.snd a_1))]) (1 : Nat) (0 : Nat), Ob.cells [T.ptr (0 : Nat) a (0 : Nat), T.slx (1 : Nat) (2 : Nat) [T.v (Value.string (ByteArray.mk (List.toArray ra)))] a_2, T.v (Value.bool false)]), ((0 : Nat), Ob.room (1 : Nat) (9 : Nat) (1 : Nat) a_2)] (fun x => none) (callPost (Hint.call false Value (fun x => True) [(0 : Nat), (1 : Nat), (2 : Nat)] false (fun x => int (0 : Int)) (fun h => obsJ a a_1.1 (Jrn.jd [ra, rb]) [ra, rb] h false) fun x => none_)) ∧ ∀ (a_3 : Value), True → TCalls Try.prog (14 : Nat) [T.ptr (0 : Nat) a (0 : Nat)] [(a, Ob.cells [T.v (Value.string (ByteArray.mk (List.toArray (Dk.b (Jrn.jd [ra, rb]))))), T.v (Value.int IntKind.i64 (↑(Dk.n (Jrn.jd [ra, rb])) : Int)), T.v (Value.bool false)])] (fun x => none) (callPost (Hint.call false (Nat × Value) (fun x => True) [(0 : Nat)] false (fun a => T.tup [T.ptr (1 : Nat) (Prod.fst a) (0 : Nat), int (0 : Int)]) (fun a_4 => obsJ a (Prod.fst a_4) (Jrn.jd [ra, rb]) [ra, rb] (Prod.snd a_4) false) fun x => none_)) ∧ ∀ (a_4 : Nat × Value), True → TCalls Try.prog (17 : Nat) [T.ptr (1 : Nat) (Prod.fst a_4) (0 : Nat)] [(a, Ob.cells [T.v (Value.string (ByteArray.mk (List.toArray (Dk.b (Jrn.jd [ra, rb]))))), T.v (Value.int IntKind.i64 (↑(Dk.n (Jrn.jd [ra, rb])) : Int)), T.v (Value.bool false)]), (Prod.fst a_4, Ob.cells [T.ptr (0 : Nat) a (0 : Nat), T.slx (1 : Nat) (2 : Nat) [T.v (Value.string (ByteArray.mk (List.toArray ra))), T.v (Value.string (ByteArray.mk (List.toArray rb)))] (Prod.snd a_4), T.v (Value.bool false)]), ((0 : Nat), Ob.room (1 : Nat) (9 : Nat) (2 : Nat) (Prod.snd a_4))] (fun x => none) (callPost (Hint.call false Unit (fun x => True) [(0 : Nat), (3 : Nat), (4 : Nat)] false (fun x => T.sl (1 : Nat) (strs [ra, rb])) (fun x => List.map (fwdO [(0 : Nat), (3 : Nat), (4 : Nat)]) (List.filterMap (fun i => (S.ob { fr := [T.v (Value.bool false), T.ptr (0 : Nat) a (0 : Nat), T.ptr (1 : Nat) (Prod.fst a_1) (0 : Nat), T.v (Value.int IntKind.i64 (0 : Int)), T.v (Value.int IntKind.i64 (0 : Int)), T.v (Value.int IntKind.i64 (0 : Int)), T.ptr (3 : Nat) (Prod.fst a_4) (0 : Nat), T.v (Value.int IntKind.i64 (0 : Int)), T.v (Value.tuple #[]), T.ptr (0 : Nat) a (0 : Nat), T.tup [T.ptr (1 : Nat) (Prod.fst a_1) (0 : Nat), T.v (Value.int IntKind.i64 (0 : Int))], T.ptr (0 : Nat) a (0 : Nat), T.tup [T.ptr (1 : Nat) (Prod.fst a_1) (0 : Nat), T.v (Value.int IntKind.i64 (0 : Int))], T.ptr (1 : Nat) (Prod.fst a_1) (0 : Nat), T.v (Value.int IntKind.i64 (0 : Int)), T.ptr (1 : Nat) (Prod.fst a_1) (0 : Nat), T.v (Value.int IntKind.i64 (0 : Int)), T.ptr (1 : Nat) (Prod.fst a_1) (0 : Nat), T.v (Value.int IntKind.i64 (0 : Int)), T.tup [T.ptr (3 : Nat) (Prod.fst a_4) (0 : Nat), T.v (Value.int IntKind.i64 (0 : Int))], T.ptr (0 : Nat) a (0 : Nat), T.tup [T.ptr (3 : Nat) (Prod.fst a_4) (0 : Nat), T.v (Value.int IntKind.i64 (0 : Int))], T.ptr (3 : Nat) (Prod.fst a_4) (0 : Nat), T.v (Value.int IntKind.i64 (0 : Int)), T.ptr (3 : Nat) (Prod.fst a_4) (0 : Nat), T.v (Value.tuple #[]), T.v (Value.tuple #[]), T.v (Value.tuple #[]), T.v (Value.tuple #[]), T.v (Value.tuple #[]), T.v (Value.tuple #[]), T.v (Value.tuple #[]), T.v (Value.tuple #[]), T.v (Value.tuple #[]), T.v (Value.tuple #[]), T.v (Value.tuple #[]), T.v (Value.tuple #[]), T.v (Value.tuple #[]), T.v (Value.tuple #[]), T.v (Value.tuple #[]), T.v (Value.tuple #[]), T.v (Value.tuple #[]), T.v (Value.tuple #[]), T.v (Value.tuple #[]), T.v (Value.tuple #[]), T.v (Value.tuple #[]), T.v (Value.tuple #[]), T.v (Value.tuple #[]), T.v (Value.tuple #[]), T.v (Value.tuple #[]), T.v (Value.tuple #[]), T.v (Value.tuple #[]), T.v (Value.tuple #[]), T.v (Value.tuple #[]), T.v (Value.tuple #[]), T.v (Value.tuple #[]), T.v (Value.tuple #[])], ob := [(a, Ob.cells [T.v (Value.string (ByteArray.mk (List.toArray (Dk.b (Jrn.jd [ra, rb]))))), T.v (Value.int IntKind.i64 (↑(Dk.n (Jrn.jd [ra, rb])) : Int)), T.v (Value.bool false)]), (a_1.1, Ob.cells [T.ptr (0 : Nat) a (0 : Nat), T.slx (1 : Nat) (2 : Nat) [T.v (Value.string (ByteArray.mk (List.toArray ra))), T.v (Value.string (ByteArray.mk (List.toArray rb)))] a_3, T.v (Value.bool false)]), ((0 : Nat), Ob.room (1 : Nat) (9 : Nat) (2 : Nat) a_3), (Prod.fst a_4, Ob.cells [T.ptr (0 : Nat) a (0 : Nat), T.slx (1 : Nat) (4 : Nat) [T.v (Value.string (ByteArray.mk (List.toArray ra))), T.v (Value.string (ByteArray.mk (List.toArray rb)))] (Prod.snd a_4), T.v (Value.bool false)]), ((0 : Nat), Ob.room (1 : Nat) (9 : Nat) (2 : Nat) (Prod.snd a_4))], gl := fun x => none })[i]?) [(0 : Nat), (3 : Nat), (4 : Nat)])) fun x => none_)) ∧ ∀ (a : Unit), True → (0 : Int) ≤ (0 : Int) ∧ (0 : Int) ≤ (1 : Int) ∧ Q (T.v (Value.bool true)) [] fun x => none) (by kernel_rfl) ?_
  repeat' (first | exact rfl | exact Nat.le_of_ble_eq_true rfl | refine And.intro ?_ ?_ | intro _ | refine bsplit_mk (fun _ => ?_) (fun _ => ?_))
  all_goals first
    | exact nw_post
    | exact hQ _ rfl
    | exact op_post _ _ Jrn.ok_new rfl _ _ rfl rfl
    | exact op_post _ _ v2.ok rfl _ _ (by rw [Jrn.rec_jd v2]; exact Jrn.keep_jd _) (by rw [Jrn.rec_jd v2])
    | exact ad_post _ _ Jrn.vs_nil _ ra va h0
    | exact ad_post _ _ v1 _ rb vb h1
    | exact rc_post _ _ _ [ra, rb] (by decide) _ _
    | decide
    | trace_state
end X10
end Go.Proofs.Ytaepgceodcdnhaa.Vm
