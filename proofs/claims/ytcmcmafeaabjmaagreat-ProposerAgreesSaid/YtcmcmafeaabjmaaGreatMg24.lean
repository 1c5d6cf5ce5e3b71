/- Texts of this claim: OR, Jrn0, JA, OL, CA. -/
import Derived.Test.YtcmcmafeaabjmaaGreatMg15
import Derived.Test.YtcmcmafeaabjmaaGreatMg23
import Derived.Test.YtcmcmafeaabjmaaGreatMg22
namespace Go.Proofs.YtcmcmafeaabjmaaGreat.Vm
open Go Go.RowKit
set_option maxRecDepth 100000
noncomputable abbrev kOR0 (l : List Nat) : It := .code (sub (bd Tryz.f56) l)
noncomputable abbrev kOR1 (l : List Nat) : It := .code (sub (bd Tryz.f74) l)
noncomputable abbrev wOR2 (Γ : Ctx) (Q : T → Obs → Glb → Prop) : List It → S → Prop := TWk Tryz.prog Γ (fin Tryz.prog Tryz.f74 [0] Q)
noncomputable abbrev wOR3 (Γ : Ctx) (Q : T → Obs → Glb → Prop) : List It → S → Prop := TWk Tryz.prog Γ (fin Tryz.prog Tryz.f56 [0] Q)
namespace X1
open Oct (getN takeL)
def rdC (l : List UInt8) (bad : Int) : List T := [str l, int bad]
def obsD (b : Nat) (l : List UInt8) (bad : Int) : Obs := [(b, .cells (rdC l bad))]
theorem read_any (l : List UInt8) (Q : T → Obs → Glb → Prop) (hQ : ∀ b, Q (.ptr 0 b 0) (obsD b l 0) none_) : TCalls Tryz.prog 55 [str l] [] none_ Q := by
  refine TCalls.of Tryz.func55 rfl (CanCall.of Tryz.func55 rfl (by decide)) [0] fun Γ => ?_
  let HH : Nat → Nat → Hint := fun _ _ => .no
  exact run_sound ⟨HH, [], fun _ => none⟩ 400 (by kernel_rfl) (fun (Z0 : Nat) => (hQ Z0))
theorem fail_any (b : Nat) (l : List UInt8) (bad e : Int) (Q : T → Obs → Glb → Prop) (hQ : Q (.tup []) (obsD b l (if bad = 0 then e else bad)) none_) : TCalls Tryz.prog 73 [.ptr 0 b 0, int e] (obsD b l bad) none_ Q := by
  by_cases hb : bad = 0
  · rw [if_pos hb] at hQ
    subst hb
    refine TCalls.of Tryz.func73 rfl (CanCall.of Tryz.func73 rfl (by decide)) [0] fun Γ => ?_
    let HH : Nat → Nat → Hint := fun _ _ => .no
    exact run_sound ⟨HH, [], fun _ => none⟩ 400 (by kernel_rfl) (Yb b (Yl 1 (Yb b (Ya (Yn (2) (2) rfl) hQ))))
  · rw [if_neg hb] at hQ
    refine TCalls.of Tryz.func73 rfl (CanCall.of Tryz.func73 rfl (by decide)) [0] fun Γ => ?_
    let HH : Nat → Nat → Hint := fun _ _ => .no
    exact run_sound ⟨HH, [], fun _ => none⟩ 400 (by kernel_rfl) (Yb b (Ys (bad == (0 : Int)) (fun Z0 => (Yl 1 (Yb b (Ya (Yn (2) (2) rfl) (show Q (T.tup []) [(b, Ob.cells [T.v (Value.string (ByteArray.mk (List.toArray l))), int e])] fun x => none by exfalso; simp only [beq_iff_eq] at *; omega))))) (fun Z1 => hQ)))
def rdH (i : Nat) (l : List UInt8) (bad : Int) (x : T) : Hint := .withB fun B => told x [i] (obsD (B.getD i 0) l bad)
theorem fail_post (b : Nat) (l : List UInt8) (e : Int) : TCalls Tryz.prog 73 [.ptr 0 b 0, int e] (obsD b l 0) none_ (callPost (told (.tup []) [0] (obsD b l e))) :=
  fail_any b l 0 e _ (by rw [if_pos rfl]; exact ⟨(), trivial, rfl, rfl, Nat.le_of_ble_eq_true rfl, fun h => by cases h⟩)
theorem str_cut (l : List UInt8) (a b : Nat) : T.v (.string ((⟨l.toArray⟩ : ByteArray).extract a b)) = str ((l.take b).drop a) := by rw [bs_cut]; rfl
theorem take_any (b : Nat) (l : List UInt8) (hl : l.length ≤ 1000000000) (bad : Int) (frm : Nat) (hf : frm ≤ 1) (hfl : frm ≤ l.length) (n : Int) (hn : n ≤ 1000000000) (Q : T → Obs → Glb → Prop)
    (hQ : ∀ x, x = str (takeL l bad frm n).1 → Q x (obsD b (takeL l bad frm n).2.1 (takeL l bad frm n).2.2) none_) : TCalls Tryz.prog 74 [.ptr 0 b 0, int frm, int n] (obsD b l bad) none_ Q := by
  unfold takeL at hQ
  by_cases hb : bad ≠ 0
  · rw [if_pos hb] at hQ
    refine TCalls.of Tryz.func74 rfl (CanCall.of Tryz.func74 rfl (by decide)) [0] fun Γ => ?_
    let HH : Nat → Nat → Hint := fun _ _ => .no
    exact run_sound ⟨HH, [((0, 9), ([0,1,2], 1))], fun _ => none⟩ 400 (by kernel_rfl) (Yb b (Ys (bad != (0 : Int)) (fun Z0 => (hQ (T.v (Value.string (ByteArray.mk #[]))) rfl)) (fun Z1 => (Ys (decide (n < (0 : Int))) (fun Z2 => (show False by exfalso; simp only [bne_eq_false_iff_eq] at *; omega)) (fun Z3 => (Yb b (Ys (decide (n > IntKind.wrap IntKind.i64 ((↑(ByteArray.size (ByteArray.mk (List.toArray l))) : Int) - (↑frm : Int)))) (fun Z4 => (show False by exfalso; simp only [bne_eq_false_iff_eq] at *; omega)) (fun Z5 => (show wOR2 Γ Q [kOR1 [1,1]] (S.mk (frame 52 [(0, T.ptr 0 b 0), (1, int frm), (2, int n)]) [(b, Ob.cells [T.v (Value.string (ByteArray.mk (List.toArray l))), int bad])] fun x => none) by exfalso; simp only [bne_eq_false_iff_eq] at *; omega)))))))))
  · rw [if_neg hb] at hQ
    have hb0 : bad = 0 := by omega
    subst hb0
    by_cases h0 : n < 0
    · rw [if_pos h0] at hQ
      refine TCalls.of Tryz.func74 rfl (CanCall.of Tryz.func74 rfl (by decide)) [0] fun Γ => ?_
      let HH : Nat → Nat → Hint := fun | 4, 1 => rdH 0 l 4 (.tup []) | _, _ => .no
      exact run_sound ⟨HH, [((0, 6), ([0,1,2], 1))], fun  | _ => none⟩ 400 (by kernel_rfl) (Yb b (Ys (decide (n < (0 : Int))) (fun Z0 => (Ya (fail_post b l 4) (Yu (hQ (T.v (Value.string (ByteArray.mk #[]))) rfl)))) (fun Z1 => (show wOR2 Γ Q [kOR1 [1,0,0,1,1,1,1], It.blk 0, kOR1 [1,1]] (S.mk (frame 52 [(0, T.ptr 0 b 0), (1, int frm), (2, int n)]) [(b, Ob.cells [T.v (Value.string (ByteArray.mk (List.toArray l))), int (0 : Int)])] fun x => none) by exfalso; simp only [decide_eq_false_iff_not] at *; omega))))
    · rw [if_neg h0] at hQ
      have hw : IntKind.wrap .i64 (((⟨l.toArray⟩ : ByteArray).size : Int) - frm) = (l.length : Int) - frm := by rw [bs_len, wrap_i64 (by omega) (by omega)]
      by_cases h1 : n > (l.length : Int) - frm
      · rw [if_pos h1] at hQ
        refine TCalls.of Tryz.func74 rfl (CanCall.of Tryz.func74 rfl (by decide)) [0] fun Γ => ?_
        let HH : Nat → Nat → Hint := fun | 7, 1 => rdH 0 l 2 (.tup []) | _, _ => .no
        let z0 := [(b, Ob.cells [T.v (Value.string (ByteArray.mk (List.toArray l))), int (0 : Int)])]
        exact run_sound ⟨HH, [((0, 4), ([0], 1)), ((0, 9), ([0,1,2], 1))], fun  | _ => none⟩ 400 (by kernel_rfl) (Yb b (Ys (decide (n < (0 : Int))) (fun Z0 => (show wOR2 Γ Q [kOR1 [1,0,0,1,1,1,0], It.blk 0, kOR1 [1,1]] (S.mk (frame 52 [(0, T.ptr 0 b 0)]) z0 fun x => none) by exfalso; simp only [decide_eq_false_iff_not, decide_eq_true_eq] at *; omega)) (fun Z1 => (Yb b (Ys (decide (n > IntKind.wrap IntKind.i64 ((↑(ByteArray.size (ByteArray.mk (List.toArray l))) : Int) - (↑frm : Int)))) (fun Z2 => (Ya (fail_post b l 2) (Yu (hQ (T.v (Value.string (ByteArray.mk #[]))) rfl)))) (fun Z3 => (show wOR2 Γ Q [kOR1 [1,1]] (S.mk (frame 52 [(0, T.ptr 0 b 0), (1, int frm), (2, int n)]) z0 fun x => none) by exfalso; simp only [decide_eq_false_iff_not, decide_eq_true_eq] at *; omega)))))))
      · rw [if_neg h1] at hQ
        obtain ⟨k, rfl⟩ : ∃ k : Nat, n = k := ⟨n.toNat, by omega⟩
        have hw2 : IntKind.wrap .i64 ((frm : Int) + k) = ((frm + k : Nat) : Int) := by rw [wrap_i64 (by omega) (by omega)]; omega
        have e1 : ((frm : Int) + (k : Int)).toNat = frm + k := by omega
        rw [e1, Int.toNat_natCast] at hQ
        have c1 : T.v (.string ((⟨l.toArray⟩ : ByteArray).extract frm (frm + k))) = str ((l.take (frm + k)).drop frm) := str_cut _ _ _
        have c2 : T.v (.string ((⟨l.toArray⟩ : ByteArray).extract (frm + k) (⟨l.toArray⟩ : ByteArray).size)) = str (l.drop (frm + k)) := by rw [str_cut, bs_len, List.take_length]
        have hq : Q (str ((l.take (frm + k)).drop frm)) [(b, .cells [str (l.drop (frm + k)), int 0])] none_ := hQ _ rfl
        rw [← c1, ← c2] at hq
        refine TCalls.of Tryz.func74 rfl (CanCall.of Tryz.func74 rfl (by decide)) [0] fun Γ => ?_
        let HH : Nat → Nat → Hint := fun _ _ => .no
        exact run_sound ⟨HH, [((0, 4), ([0], 1)), ((0, 7), ([0], 1))], fun _ => none⟩ 400 (by kernel_rfl) (Yb b (Yb b (Ys (decide ((↑k : Int) > IntKind.wrap IntKind.i64 ((↑(ByteArray.size (ByteArray.mk (List.toArray l))) : Int) - (↑frm : Int)))) (fun Z0 => (show wOR2 Γ Q [kOR1 [1,0,0,1,1,1,1,1,0], It.blk 0, kOR1 [1,1]] (S.mk (frame 52 [(0, T.ptr 0 b 0)]) [(b, Ob.cells [T.v (Value.string (ByteArray.mk (List.toArray l))), int (0 : Int)])] fun x => none) by exfalso; simp only [decide_eq_false_iff_not, decide_eq_true_eq] at *; omega)) (fun Z1 => (Yb b (Ya (Ya (show (0 : Int) ≤ (IntKind.i64, (↑frm : Int)).snd by omega) (Ya (show (IntKind.i64, (↑frm : Int)).snd ≤ (IntKind.i64, IntKind.wrap IntKind.i64 ((↑frm : Int) + (↑k : Int))).snd by omega) (show (IntKind.i64, IntKind.wrap IntKind.i64 ((↑frm : Int) + (↑k : Int))).snd ≤ (↑(ByteArray.size (ByteArray.mk (List.toArray l))) : Int) by rw [bs_len]; omega))) (Yb b (Ya (Ya (show (0 : Int) ≤ (IntKind.i64, IntKind.wrap IntKind.i64 ((↑frm : Int) + (↑k : Int))).snd by omega) (Ya (show (IntKind.i64, IntKind.wrap IntKind.i64 ((↑frm : Int) + (↑k : Int))).snd ≤ (↑(ByteArray.size (ByteArray.mk (List.toArray l))) : Int) by rw [bs_len]; omega) (show (↑(ByteArray.size (ByteArray.mk (List.toArray l))) : Int) ≤ (↑(ByteArray.size (ByteArray.mk (List.toArray l))) : Int) by omega))) (Yl 1 (Yb b (Ya (Yn (1) (2) rfl) (show Q (T.v (Value.string (ByteArray.extract (ByteArray.mk (List.toArray l)) (Int.toNat (IntKind.i64, (↑frm : Int)).snd) (Int.toNat (IntKind.i64, IntKind.wrap IntKind.i64 ((↑frm : Int) + (↑k : Int))).snd)))) [(b, Ob.cells [T.v (Value.string (ByteArray.extract (ByteArray.mk (List.toArray l)) (Int.toNat (IntKind.i64, IntKind.wrap IntKind.i64 ((↑frm : Int) + (↑k : Int))).snd) (Int.toNat (↑(ByteArray.size (ByteArray.mk (List.toArray l))) : Int)))), int (0 : Int)])] fun x => none by simp only [hw, hw2] at *; exact hq))))))))))))
theorem raw_any (b : Nat) (l : List UInt8) (hl : l.length ≤ 1000000000) (bad : Int) (n : Int) (hn : n ≤ 1000000000) (Q : T → Obs → Glb → Prop)
    (hQ : ∀ x, x = str (takeL l bad 0 n).1 → Q x (obsD b (takeL l bad 0 n).2.1 (takeL l bad 0 n).2.2) none_) : TCalls Tryz.prog 69 [.ptr 0 b 0, int n] (obsD b l bad) none_ Q := by
  have h : TCalls Tryz.prog 74 [.ptr 0 b 0, int 0, int n] (obsD b l bad) none_ (callPost (told (str (takeL l bad 0 n).1) [0] (obsD b (takeL l bad 0 n).2.1 (takeL l bad 0 n).2.2))) :=
    take_any b l hl bad 0 (by decide) (Nat.zero_le _) n hn _ (fun y hy => ⟨(), trivial, hy, rfl, Nat.le_of_ble_eq_true rfl, fun h => by cases h⟩)
  generalize takeL l bad 0 n = q at *
  refine TCalls.of Tryz.func69 rfl (CanCall.of Tryz.func69 rfl (by decide)) [0] fun Γ => ?_
  let HH : Nat → Nat → Hint := fun | 3, 2 => rdH 0 q.2.1 q.2.2 (str q.1) | _, _ => .no
  exact run_sound ⟨HH, [], fun  | _ => none⟩ 400 (by kernel_rfl) (Ya h (Yu (hQ (T.v (Value.string (ByteArray.mk (List.toArray q.fst)))) rfl)))
theorem orT (N c : Nat) (hN : N * 256 + 256 ≤ 18446744073709551616) (hc : c < 256) : T.v (.int .u64 (IntKind.wrap .u64 ((BitVec.ofInt 64 ((N * 256 : Nat) : Int) ||| BitVec.ofInt 64 (c : Int)).toNat : Int))) = u64 ((256 * N + c : Nat) : Int) := by
  have e : (BitVec.ofInt 64 ((N * 256 : Nat) : Int) ||| BitVec.ofInt 64 (c : Int)).toNat = 256 * N + c := by
    rw [BitVec.toNat_or, BitVec.ofInt_natCast, BitVec.ofInt_natCast, BitVec.toNat_ofNat, BitVec.toNat_ofNat, Nat.mod_eq_of_lt (by omega), Nat.mod_eq_of_lt (by omega), Nat.mul_comm N 256]
    exact (Nat.two_pow_add_eq_or_of_lt (i := 8) (b := c) (by omega) N).symm
  rw [e, IntKind.wrap_u64]
  exact congrArg u64 (by omega)
theorem num_loop (Γ : Ctx) (b : Nat) (l d : List UInt8) (bad : Int) (hd : d.length ≤ 8) (Q : T → Obs → Glb → Prop) (hQ : ∀ x, x = u64 (getN d) → Q x (obsD b l bad) none_) : ∀ (f i : Nat), i + f = d.length →
    wOR3 Γ Q [kOR0 [1,1,1,0,1,0], .blk 1, kOR0 [1,1,1,1]] ⟨frame 36 [(5, u64 (getN (d.take i))), (23, .sl 1 (bL d)), (24, int (bL d).length), (25, int i)], obsD b l bad, none_⟩ := by
  intro f
  induction f with
  | zero =>
    intro i hi
    obtain rfl : i = d.length := by omega
    rw [List.take_length]
    let HH : Nat → Nat → Hint := fun | 9, 0 => .res (u8 0) | _, _ => .no
    let z0 := List.map (fun c => u8 (UInt8.toNat c)) d
    exact run_sound ⟨HH, [((2, 8), ([5,23,24,25], 1))], fun  | _ => none⟩ 400 (by kernel_rfl) (Ys (decide ((↑(List.length d) : Int) < (↑(List.length (List.map (fun c => u8 (UInt8.toNat c)) d)) : Int))) (fun Z0 => (Ya (show (0 : Int) ≤ (↑(List.length d) : Int) by omega) (Ya (show z0[Int.toNat (↑(List.length d) : Int)]? = some (u8 (0 : Int)) by exfalso; simp only [decide_eq_true_eq, List.length_map] at *; omega) (show wOR3 Γ Q [kOR0 [1,1,1,0,1,0], It.blk 1, kOR0 [1,1,1,1]] (S.mk (frame 36 [(5, u64 (IntKind.wrap IntKind.u64 (↑(BitVec.toNat (BitVec.ofInt 64 (IntKind.wrap IntKind.u64 ((↑(getN d) : Int) * (2 : Int) ^ min (Int.toNat (8 : Int)) 64)) ||| BitVec.ofInt 64 (IntKind.wrap IntKind.u64 (0 : Int)))) : Int))), (23, T.sl 1 z0), (24, int (List.length z0)), (25, int (IntKind.wrap IntKind.i64 ((↑(List.length d) : Int) + (1 : Int))))]) [(b, Ob.cells [T.v (Value.string (ByteArray.mk (List.toArray l))), int bad])] fun x => none) by exfalso; simp only [decide_eq_true_eq, List.length_map] at *; omega)))) (fun Z1 => (hQ (u64 (getN d)) rfl)))
  | succ f ih =>
    intro i hi
    have hlt : i < d.length := by omega
    have nx := ih (i + 1) (by omega)
    rw [List.take_succ_eq_append_getElem hlt, Oct.getN_snoc] at nx
    have hN := Oct.getN_lt (d.take i)
    have hlen : (d.take i).length = i := by rw [List.length_take]; omega
    rw [hlen] at hN
    have h8 := Oct.pow_le8 (i + 1) (by omega)
    rw [Nat.pow_succ] at h8
    have hc := (d[i]).toNat_lt
    have hx : (bL d)[(i : Int).toNat]? = some (u8 (d[i]).toNat) := by rw [Int.toNat_natCast, bL, List.getElem?_map, List.getElem?_eq_getElem hlt]; rfl
    have hw : IntKind.wrap .i64 ((i : Int) + 1) = ((i + 1 : Nat) : Int) := by rw [wrap_i64 (by omega) (by omega)]; omega
    generalize getN (d.take i) = N at *
    generalize 256 ^ i = p at *
    have hs : T.v (.int .u64 (IntKind.wrap .u64 ((N : Int) * 256))) = u64 (N * 256 : Nat) := by rw [IntKind.wrap_u64]; exact congrArg u64 (by omega)
    have hcv : T.v (.int .u64 (IntKind.wrap .u64 ((d[i]).toNat : Int))) = u64 (d[i]).toNat := by rw [IntKind.wrap_u64]; exact congrArg u64 (by omega)
    let HH : Nat → Nat → Hint := fun | 9, 0 => .res (u8 (d[i]).toNat) | 10, 1 => .res (u64 (N * 256 : Nat)) | 10, 3 => .res (u64 (d[i]).toNat) | 10, 4 => .res (u64 (256 * N + (d[i]).toNat : Nat)) | _, _ => .no
    exact run_sound ⟨HH, [((2, 8), ([5,23,24,25], 1))], fun  | _ => none⟩ 400 (by kernel_rfl) (Ys (decide ((↑i : Int) < (↑(List.length (List.map (fun c => u8 (UInt8.toNat c)) d)) : Int))) (fun Z0 => (Ya (show (0 : Int) ≤ (↑i : Int) by omega) (Ya hx (Ya hs (Ya hcv (Ya (show u64 (IntKind.wrap IntKind.u64 (↑(BitVec.toNat (BitVec.ofInt 64 (↑(N * 256) : Int) ||| BitVec.ofInt 64 (↑(UInt8.toNat d[i]) : Int))) : Int)) = u64 (256 * N + UInt8.toNat d[i]) from orT N _ (by omega) (by omega)) (show wOR3 Γ Q [kOR0 [1,1,1,0,1,0], It.blk 1, kOR0 [1,1,1,1]] (S.mk (frame 36 [(5, u64 (256 * N + UInt8.toNat d[i])), (23, T.sl 1 (List.map (fun c => u8 (UInt8.toNat c)) d)), (24, int (List.length (List.map (fun c => u8 (UInt8.toNat c)) d))), (25, int (IntKind.wrap IntKind.i64 ((↑i : Int) + (1 : Int))))]) [(b, Ob.cells [T.v (Value.string (ByteArray.mk (List.toArray l))), int bad])] fun x => none) by simp only [hw] at *; exact nx))))))) (fun Z1 => (show Q (u64 N) [(b, Ob.cells [T.v (Value.string (ByteArray.mk (List.toArray l))), int bad])] fun x => none by exfalso; simp only [decide_eq_false_iff_not, List.length_map] at *; omega)))
theorem rdnum_any (b : Nat) (l : List UInt8) (hl : l.length ≤ 1000000000) (bad : Int) (z : Nat) (hz : 1 ≤ z ∧ z ≤ 8) (Q : T → Obs → Glb → Prop)
    (hQ : ∀ x, x = u64 (getN (takeL l bad 0 z).1) → Q x (obsD b (takeL l bad 0 z).2.1 (takeL l bad 0 z).2.2) none_) : TCalls Tryz.prog 56 [.ptr 0 b 0, int z] (obsD b l bad) none_ Q := by
  have h8 := Oct.takeL_len l bad z (by omega) (by omega)
  have h : TCalls Tryz.prog 74 [.ptr 0 b 0, int 0, int z] (obsD b l bad) none_ (callPost (told (str (takeL l bad 0 z).1) [0] (obsD b (takeL l bad 0 z).2.1 (takeL l bad 0 z).2.2))) :=
    take_any b l hl bad 0 (by decide) (Nat.zero_le _) z (by omega) _ (fun y hy => ⟨(), trivial, hy, rfl, Nat.le_of_ble_eq_true rfl, fun h => by cases h⟩)
  generalize takeL l bad 0 z = q at *
  have lp := fun Γ => num_loop Γ b q.2.1 q.1 q.2.2 h8 Q hQ q.1.length 0 (by omega)
  refine TCalls.of Tryz.func56 rfl (CanCall.of Tryz.func56 rfl (by decide)) [0] fun Γ => ?_
  let HH : Nat → Nat → Hint := fun | 7, 2 => rdH 0 q.2.1 q.2.2 (str q.1) | _, _ => .no
  let z0 := S.mk (frame 36 [(0, T.ptr 0 b 0)]) [(b, Ob.cells [T.v (Value.string (ByteArray.mk (List.toArray l))), int bad])] fun x => none
  let z1 := [kOR0 [1,0,0,1,1,1,0], It.blk 0, kOR0 [1,1]]
  exact run_sound ⟨HH, [((2, 8), ([5,23,24,25], 1)), ((0, 4), ([0], 1))], fun  | _ => none⟩ 400 (by kernel_rfl) (Ys (decide ((↑z : Int) < (1 : Int))) (fun Z0 => (show wOR3 Γ Q z1 z0 by exfalso; simp only [decide_eq_true_eq] at *; omega)) (fun Z1 => (Ys (decide ((↑z : Int) > (8 : Int))) (fun Z2 => (show wOR3 Γ Q z1 z0 by exfalso; simp only [decide_eq_true_eq] at *; omega)) (fun Z3 => (Ya h (Yu (Ya (show ByteArray.size (ByteArray.mk (List.toArray q.fst)) ≤ 140737488355328 by rw [bs_len]; omega) (lp Γ))))))))
end X1
end Go.Proofs.YtcmcmafeaabjmaaGreat.Vm
namespace Go.Proofs.YtcmcmafeaabjmaaGreat.Jrn
open Crc (sealL sealL_len le4 crc)
open Oct (be getN)
structure Dk where
  b : List UInt8
  n : Nat
  off : Bool
def newD : Dk := ⟨[], 0, false⟩
def rdyE (d : Dk) : Int := if d.off then 10 else 0
def appE (d : Dk) (s : List UInt8) : Int := if d.off then 10 else if 1048576 < d.b.length + s.length then 6 else 0
def appD (d : Dk) (s : List UInt8) : Dk := if appE d s = 0 then { d with b := d.b ++ s } else d
def synD (d : Dk) : Dk := if d.off then d else { d with n := d.b.length }
def keepD (d : Dk) (n : Nat) : Dk := ⟨d.b.take n, n, d.off⟩
def startD (d : Dk) : Dk := { d with off := false }
structure Dk.Ok (d : Dk) : Prop where
  n : d.n ≤ d.b.length
  l : d.b.length ≤ 1048576
theorem Dk.Ok.keep {d : Dk} (h : d.Ok) {n : Nat} (hn : n ≤ d.b.length) : (keepD d n).Ok := by
  have h2 := h.l
  exact ⟨by show n ≤ (d.b.take n).length; rw [List.length_take]; omega, by show (d.b.take n).length ≤ _; rw [List.length_take]; omega⟩
theorem Dk.Ok.start {d : Dk} (h : d.Ok) : (startD d).Ok := ⟨h.n, h.l⟩
def frL (l : List UInt8) : List UInt8 := sealL (be 2 l.length ++ l)
theorem frL_len (l : List UInt8) : (frL l).length = l.length + 6 := by rw [frL, sealL_len]; simp [Oct.length_be]; omega
def hdN (s : List UInt8) : Nat := getN (s.take 2)
def Vr (t : List UInt8) : Prop := 1 ≤ t.length ∧ t.length ≤ 512
def firstB (s : List UInt8) : Bool := decide (2 ≤ s.length ∧ 1 ≤ hdN s ∧ hdN s ≤ 512 ∧ hdN s + 6 ≤ s.length ∧ frL ((s.drop 2).take (hdN s)) = s.take (hdN s + 6))
def firstL (s : List UInt8) : Option (List UInt8) := if firstB s then some ((s.drop 2).take (hdN s)) else none
theorem firstL_some {s t : List UInt8} (h : firstL s = some t) : Vr t ∧ t.length = hdN s ∧ t.length + 6 ≤ s.length ∧ s.take (t.length + 6) = frL t := by
  unfold firstL at h
  split at h
  · rename_i hb
    obtain ⟨h1, h2, h3, h4, h5⟩ := of_decide_eq_true hb
    injection h with h
    have hl : t.length = hdN s := by rw [← h, List.length_take, List.length_drop]; omega
    rw [h] at h5
    exact ⟨⟨by omega, by omega⟩, hl, by omega, by rw [hl]; exact h5.symm⟩
  · cases h
theorem hdN_fr (t r : List UInt8) (h : t.length < 65536) : hdN (frL t ++ r) = t.length := by
  unfold hdN frL sealL
  rw [List.append_assoc, List.append_assoc, List.take_append_of_le_length (by simp [Oct.length_be]), List.take_of_length_le (by simp [Oct.length_be])]
  exact Oct.getN_be 2 t.length (by omega)
theorem text_fr (t r : List UInt8) : ((frL t ++ r).drop 2).take t.length = t := by
  unfold frL sealL
  rw [List.append_assoc, List.append_assoc, List.drop_append_of_le_length (by simp [Oct.length_be]), List.drop_of_length_le (by simp [Oct.length_be]), List.nil_append, List.take_append_of_le_length (Nat.le_refl _), List.take_length]
theorem take_fr (t r : List UInt8) : (frL t ++ r).take (t.length + 6) = frL t := by
  rw [← frL_len, List.take_append_of_le_length (Nat.le_refl _), List.take_length]
theorem firstL_fr {t : List UInt8} (h : Vr t) (r : List UInt8) : firstL (frL t ++ r) = some t := by
  have h1 := h.1
  have h2 := h.2
  unfold firstL
  rw [if_pos]
  · rw [hdN_fr t r (by omega), text_fr]
  · unfold firstB
    rw [hdN_fr t r (by omega), text_fr, take_fr]
    refine decide_eq_true ⟨?_, h1, h2, ?_, rfl⟩
    · rw [List.length_append, frL_len]; omega
    · rw [List.length_append, frL_len]; omega
theorem firstL_nil : firstL [] = none := by unfold firstL; rw [if_neg]; intro hb; obtain ⟨a1, _⟩ := of_decide_eq_true hb; simp at a1
def recs : Nat → List UInt8 → List (List UInt8) × Nat
  | 0, _ => ([], 0)
  | f + 1, s => match firstL s with
    | none => ([], 0)
    | some t => (t :: (recs f (s.drop (t.length + 6))).1, t.length + 6 + (recs f (s.drop (t.length + 6))).2)
def flat (l : List (List UInt8)) : List UInt8 := l.flatMap frL
theorem flat_snoc (l : List (List UInt8)) (t : List UInt8) : flat (l ++ [t]) = flat l ++ frL t := by simp [flat]
theorem flat_cons (l : List (List UInt8)) (t : List UInt8) : flat (t :: l) = frL t ++ flat l := by simp [flat]
def recA (s : List UInt8) : List (List UInt8) × Nat := recs s.length s
theorem recs_flat : ∀ (l : List (List UInt8)) (f : Nat) (r : List UInt8), (∀ t ∈ l, Vr t) → l.length ≤ f → (l.length < f → firstL r = none) → recs f (flat l ++ r) = (l, (flat l).length)
  | [], 0, _, _, _, _ => rfl
  | [], f + 1, r, _, _, h => by
    show recs (f + 1) r = ([], 0)
    unfold recs
    rw [h (by simp)]
  | t :: l, 0, _, _, h, _ => by simp at h
  | t :: l, f + 1, r, hv, hl, h => by
    rw [flat_cons, List.append_assoc]
    unfold recs
    rw [firstL_fr (hv t (by simp))]
    have e : (frL t ++ (flat l ++ r)).drop (t.length + 6) = flat l ++ r := by
      rw [← frL_len, List.drop_append_of_le_length (Nat.le_refl _), List.drop_length, List.nil_append]
    dsimp only
    rw [e, recs_flat l f r (fun t ht => hv t (by simp [ht])) (by simpa using hl) (fun hh => h (by simpa using hh))]
    dsimp only
    rw [List.length_append, frL_len]
theorem flat_len_ge (l : List (List UInt8)) : l.length ≤ (flat l).length := by
  induction l with
  | nil => exact Nat.le_refl _
  | cons t l ih => rw [flat_cons, List.length_append, frL_len, List.length_cons]; omega
theorem recA_flat {l : List (List UInt8)} {r : List UInt8} (hv : ∀ t ∈ l, Vr t) (hr : firstL r = none) : recA (flat l ++ r) = (l, (flat l).length) :=
  recs_flat l _ r hv (by rw [List.length_append]; have := flat_len_ge l; omega) (fun _ => hr)
def jd (l : List (List UInt8)) : Dk := ⟨flat l, (flat l).length, false⟩
def Vs (l : List (List UInt8)) : Prop := (∀ t ∈ l, Vr t) ∧ (flat l).length ≤ 1048576
theorem Vs.ok {l : List (List UInt8)} (h : Vs l) : (jd l).Ok := ⟨Nat.le_refl _, h.2⟩
theorem vs_nil : Vs [] := ⟨(fun _ h => by cases h), (by decide)⟩
theorem rec_jd {l : List (List UInt8)} (h : Vs l) : recA (jd l).b = (l, (flat l).length) := by
  have := recA_flat (r := []) h.1 firstL_nil
  rw [List.append_nil] at this
  exact this
theorem keep_jd (l : List (List UInt8)) : keepD (jd l) (flat l).length = jd l := by
  unfold keepD jd
  rw [List.take_length]
theorem appE_jd {l : List (List UInt8)} {s : List UInt8} (h : (flat l).length + s.length + 6 ≤ 1048576) : appE (jd l) (frL s) = 0 := by
  unfold appE
  rw [if_neg (show ¬ (jd l).off = true from Bool.false_ne_true), if_neg]
  rw [frL_len]
  show ¬ 1048576 < (flat l).length + (s.length + 6)
  omega
theorem add_jd {l : List (List UInt8)} {s : List UInt8} (h : (flat l).length + s.length + 6 ≤ 1048576) : synD (appD (jd l) (frL s)) = jd (l ++ [s]) := by
  unfold appD
  rw [if_pos (appE_jd h)]
  unfold synD
  dsimp only
  rw [if_neg (show ¬ (jd l).off = true from Bool.false_ne_true)]
  unfold jd
  rw [flat_snoc]
theorem Vs.len {l : List (List UInt8)} (h : Vs l) : l.length ≤ 1048576 := Nat.le_trans (flat_len_ge l) h.2
end Go.Proofs.YtcmcmafeaabjmaaGreat.Jrn
namespace Go.Proofs.YtcmcmafeaabjmaaGreat.Vm
open Go Go.RowKit
set_option maxRecDepth 100000
noncomputable abbrev kJA0 (l : List Nat) : It := .code (sub (bd Tryz.f48) l)
namespace X9
open Jrn (Dk)
def dkC (d : Dk) : List T := [str d.b, int d.n, bool d.off]
def obsK (b : Nat) (d : Dk) : Obs := [(b, .cells (dkC d))]
def dkH (i : Nat) (d : Dk) (x : T) : Hint := .withB fun B => told x [i] (obsK (B.getD i 0) d)
theorem dk_post {b : Nat} {d : Dk} {x y : T} {gl : Glb} (h : y = x) : callPost (told x [0] (obsK b d)) y (obsK b d) gl := ⟨(), trivial, h, rfl, Nat.le_of_ble_eq_true rfl, fun h => by cases h⟩
theorem dnew_any (Q : T → Obs → Glb → Prop) (hQ : ∀ b, Q (.ptr 0 b 0) (obsK b Jrn.newD) none_) : TCalls Tryz.prog 6 [] [] none_ Q := by
  refine TCalls.of Tryz.func6 rfl (CanCall.of Tryz.func6 rfl (by decide)) [0] fun Γ => ?_
  let HH : Nat → Nat → Hint := fun _ _ => .no
  exact run_sound ⟨HH, [], fun _ => none⟩ 400 (by kernel_rfl) (fun (Z0 : Nat) => (hQ Z0))
theorem ready_any (b : Nat) (d : Dk) (Q : T → Obs → Glb → Prop) (hQ : ∀ x, x = int (Jrn.rdyE d) → Q x (obsK b d) none_) : TCalls Tryz.prog 67 [.ptr 0 b 0] (obsK b d) none_ Q := by
  unfold Jrn.rdyE at hQ
  cases ho : d.off with
  | true =>
    rw [ho] at hQ
    have e : obsK b d = obsK b ⟨d.b, d.n, true⟩ := by rw [← ho]
    rw [e] at hQ ⊢
    refine TCalls.of Tryz.func67 rfl (CanCall.of Tryz.func67 rfl (by decide)) [0] fun Γ => ?_
    let HH : Nat → Nat → Hint := fun _ _ => .no
    exact run_sound ⟨HH, [], fun _ => none⟩ 400 (by kernel_rfl) (Yb b (hQ (int (10 : Int)) rfl))
  | false =>
    rw [ho] at hQ
    have e : obsK b d = obsK b ⟨d.b, d.n, false⟩ := by rw [← ho]
    rw [e] at hQ ⊢
    refine TCalls.of Tryz.func67 rfl (CanCall.of Tryz.func67 rfl (by decide)) [0] fun Γ => ?_
    let HH : Nat → Nat → Hint := fun _ _ => .no
    exact run_sound ⟨HH, [], fun _ => none⟩ 400 (by kernel_rfl) (Yb b (hQ (int (0 : Int)) rfl))
theorem ready_post (b : Nat) (d : Dk) : TCalls Tryz.prog 67 [.ptr 0 b 0] (obsK b d) none_ (callPost (told (int (Jrn.rdyE d)) [0] (obsK b d))) := ready_any b d _ fun _ h => dk_post h
theorem app_any (b : Nat) (d : Dk) (hd : d.Ok) (s : List UInt8) (_hs : s.length ≤ 1000000000) (Q : T → Obs → Glb → Prop) (hQ : ∀ x, x = int (Jrn.appE d s) → Q x (obsK b (Jrn.appD d s)) none_) : TCalls Tryz.prog 48 [.ptr 0 b 0, str s] (obsK b d) none_ Q := by
  have h1 := hd.l
  have hr := ready_post b d
  unfold Jrn.appD Jrn.appE at hQ
  unfold Jrn.rdyE at hr
  have hw : IntKind.wrap .i64 (1048576 - ((⟨d.b.toArray⟩ : ByteArray).size : Int)) = 1048576 - (d.b.length : Int) := by rw [bs_len, wrap_i64 (by omega) (by omega)]
  by_cases ho : d.off = true
  · rw [if_pos ho] at hr
    rw [if_pos ho] at hQ
    refine TCalls.of Tryz.func48 rfl (CanCall.of Tryz.func48 rfl (by decide)) [0] fun Γ => ?_
    let HH : Nat → Nat → Hint := fun | 1, 1 => dkH 0 d (int 10) | _, _ => .no
    exact run_sound ⟨HH, [], fun  | _ => none⟩ 400 (by kernel_rfl) (Ya hr (Yu (hQ (int (10 : Int)) rfl)))
  · rw [if_neg ho] at hr
    rw [if_neg ho] at hQ
    by_cases hf : 1048576 < d.b.length + s.length
    · rw [if_pos hf] at hQ
      refine TCalls.of Tryz.func48 rfl (CanCall.of Tryz.func48 rfl (by decide)) [0] fun Γ => ?_
      let HH : Nat → Nat → Hint := fun | 1, 1 => dkH 0 d (int 0) | _, _ => .no
      exact run_sound ⟨HH, [((0, 6), ([0,1], 1))], fun  | _ => none⟩ 400 (by kernel_rfl) (Ya hr (Yu (Yb b (Ys (decide ((↑(ByteArray.size (ByteArray.mk (List.toArray s))) : Int) > IntKind.wrap IntKind.i64 ((1048576 : Int) - (↑(ByteArray.size (ByteArray.mk (List.toArray d.b))) : Int)))) (fun Z0 => (hQ (int (6 : Int)) rfl)) (fun Z1 => (show TWk Tryz.prog Γ (fin Tryz.prog Tryz.f48 [0] Q) [kJA0 [1,1,1]] (S.mk (frame 28 [(0, T.ptr 0 b 0), (1, T.v (Value.string (ByteArray.mk (List.toArray s))))]) [(b, Ob.cells [T.v (Value.string (ByteArray.mk (List.toArray d.b))), int d.n, bool d.off])] fun x => none) by exfalso; simp only [decide_eq_false_iff_not, bs_len] at *; omega))))))
    · rw [if_neg hf] at hQ
      have hq := hQ _ rfl
      rw [if_pos rfl] at hq
      refine TCalls.of Tryz.func48 rfl (CanCall.of Tryz.func48 rfl (by decide)) [0] fun Γ => ?_
      let HH : Nat → Nat → Hint := fun | 1, 1 => dkH 0 d (int 0) | 6, 5 => .res (str (d.b ++ s)) | 6, 8 => .obj (dkC { d with b := d.b ++ s }) | _, _ => .no
      let z0 := Value.string (ByteArray.mk (List.toArray (d.b ++ s)))
      exact run_sound ⟨HH, [((0, 5), ([], 1))], fun  | _ => none⟩ 400 (by kernel_rfl) (Ya hr (Yu (Yb b (Ys (decide ((↑(ByteArray.size (ByteArray.mk (List.toArray s))) : Int) > IntKind.wrap IntKind.i64 ((1048576 : Int) - (↑(ByteArray.size (ByteArray.mk (List.toArray d.b))) : Int)))) (fun Z0 => (show TWk Tryz.prog Γ (fin Tryz.prog Tryz.f48 [0] Q) [kJA0 [1,1,0,1,0], kJA0 [1,1,1]] (S.mk (frame 28 []) [(b, Ob.cells [T.v (Value.string (ByteArray.mk (List.toArray d.b))), int d.n, bool d.off])] fun x => none) by exfalso; simp only [decide_eq_true_eq, bs_len] at *; omega)) (fun Z1 => (Yb b (Ya (show ByteArray.size (ByteArray.mk (List.toArray d.b)) + ByteArray.size (ByteArray.mk (List.toArray s)) ≤ 9223372036854775807 from cat_ok _ _ (by omega)) (Ya (Ye (some (T.v z0))) (Yl 1 (Yb b (Ya (Yn (1) (3) rfl) (Ya (Ye ([T.v z0, int d.n, bool d.off])) hq))))))))))))
theorem sync_any (b : Nat) (d : Dk) (Q : T → Obs → Glb → Prop) (hQ : ∀ x, x = int (Jrn.rdyE d) → Q x (obsK b (Jrn.synD d)) none_) : TCalls Tryz.prog 50 [.ptr 0 b 0] (obsK b d) none_ Q := by
  have hr := ready_post b d
  unfold Jrn.synD at hQ
  unfold Jrn.rdyE at hr hQ
  by_cases ho : d.off = true
  · rw [if_pos ho] at hr
    rw [if_pos ho] at hQ
    rw [if_pos ho] at hQ
    refine TCalls.of Tryz.func50 rfl (CanCall.of Tryz.func50 rfl (by decide)) [0] fun Γ => ?_
    let HH : Nat → Nat → Hint := fun | 1, 1 => dkH 0 d (int 10) | _, _ => .no
    exact run_sound ⟨HH, [], fun  | _ => none⟩ 400 (by kernel_rfl) (Ya hr (Yu (hQ (int (10 : Int)) rfl)))
  · rw [if_neg ho] at hr
    rw [if_neg ho] at hQ
    rw [if_neg ho] at hQ
    refine TCalls.of Tryz.func50 rfl (CanCall.of Tryz.func50 rfl (by decide)) [0] fun Γ => ?_
    let HH : Nat → Nat → Hint := fun | 1, 1 => dkH 0 d (int 0) | 4, 5 => .res (int d.b.length) | 4, 8 => .obj (dkC { d with n := d.b.length }) | _, _ => .no
    exact run_sound ⟨HH, [], fun  | _ => none⟩ 400 (by kernel_rfl) (Ya hr (Yu (Yb b (Yl 1 (Yb b (Ya (Yn (2) (3) rfl) (Ya (Ye ([T.v (Value.string (ByteArray.mk (List.toArray d.b))), int (ByteArray.size (ByteArray.mk (List.toArray d.b))), bool d.off])) (hQ (int (0 : Int)) rfl))))))))
theorem keep_any (b : Nat) (d : Dk) (n : Nat) (hn : n ≤ d.b.length) (Q : T → Obs → Glb → Prop) (hQ : Q (.tup []) (obsK b (Jrn.keepD d n)) none_) : TCalls Tryz.prog 70 [.ptr 0 b 0, int n] (obsK b d) none_ Q := by
  have hc : T.v (.string ((⟨d.b.toArray⟩ : ByteArray).extract 0 n)) = str (d.b.take n) := by rw [X1.str_cut]; rfl
  have hq : Q (.tup []) [(b, .cells [str (d.b.take n), int n, bool d.off])] none_ := hQ
  rw [← hc] at hq
  refine TCalls.of Tryz.func70 rfl (CanCall.of Tryz.func70 rfl (by decide)) [0] fun Γ => ?_
  let HH : Nat → Nat → Hint := fun _ _ => .no
  exact run_sound ⟨HH, [], fun _ => none⟩ 400 (by kernel_rfl) (Yb b (Ya (Ya (show (0 : Int) ≤ (↑(0 : Nat) : Int) by omega) (Ya (show (↑(0 : Nat) : Int) ≤ (IntKind.i64, (↑n : Int)).snd by omega) (show (IntKind.i64, (↑n : Int)).snd ≤ (↑(ByteArray.size (ByteArray.mk (List.toArray d.b))) : Int) by rw [bs_len]; omega))) (Yl 1 (Yb b (Ya (Yn (1) (3) rfl) (Yl 1 (Yb b (Ya (Yn (2) (3) rfl) hq))))))))
theorem cut_any (b : Nat) (d : Dk) (hd : d.Ok) (n : Nat) (hn : n ≤ d.b.length) (ho : d.off = false) (Q : T → Obs → Glb → Prop) (hQ : ∀ x, x = int 0 → Q x (obsK b (Jrn.keepD d n)) none_) : TCalls Tryz.prog 46 [.ptr 0 b 0, int n] (obsK b d) none_ Q := by
  have h1 := hd.l
  have hr := ready_post b d
  unfold Jrn.rdyE at hr
  rw [if_neg (by rw [ho]; decide)] at hr
  refine TCalls.of Tryz.func46 rfl (CanCall.of Tryz.func46 rfl (by decide)) [0] fun Γ => ?_
  let HH : Nat → Nat → Hint := fun | 1, 1 => dkH 0 d (int 0) | 6, 2 => dkH 0 (Jrn.keepD d n) (.tup []) | _, _ => .no
  exact run_sound ⟨HH, [((0, 5), ([], 1))], fun  | _ => none⟩ 400 (by kernel_rfl) (Ya hr (Yu (Yb b (Ys (decide ((↑n : Int) > (↑(ByteArray.size (ByteArray.mk (List.toArray d.b))) : Int))) (fun Z0 => (show TWk Tryz.prog Γ (fin Tryz.prog Tryz.f46 [0] Q) [It.code (sub (bd Tryz.f46) [1,1,0,1,0]), It.code (sub (bd Tryz.f46) [1,1,1])] (S.mk (frame 25 []) [(b, Ob.cells [T.v (Value.string (ByteArray.mk (List.toArray d.b))), int d.n, bool d.off])] fun x => none) by exfalso; simp only [decide_eq_true_eq, bs_len] at *; omega)) (fun Z1 => (Ya (keep_any b d n hn (callPost (told (T.tup []) [0] (obsK b (Jrn.keepD d n)))) (dk_post rfl)) (Yu (hQ (int (0 : Int)) rfl))))))))
theorem dread_any (b : Nat) (d : Dk) (Q : T → Obs → Glb → Prop) (hQ1 : d.off = true → ∀ x, x = .tup [str [], int 10] → Q x (obsK b d) none_) (hQ : d.off = false → ∀ x, x = .tup [str d.b, int 0] → Q x (obsK b d) none_) : TCalls Tryz.prog 44 [.ptr 0 b 0] (obsK b d) none_ Q := by
  have hr := ready_post b d
  unfold Jrn.rdyE at hr
  by_cases ho : d.off = true
  · rw [if_pos ho] at hr
    have h0 := hQ1 ho
    refine TCalls.of Tryz.func44 rfl (CanCall.of Tryz.func44 rfl (by decide)) [0] fun Γ => ?_
    let HH : Nat → Nat → Hint := fun | 1, 1 => dkH 0 d (int 10) | _, _ => .no
    exact run_sound ⟨HH, [], fun  | _ => none⟩ 400 (by kernel_rfl) (Ya hr (Yu (h0 (T.tup [T.v (Value.string (ByteArray.mk #[])), int (10 : Int)]) rfl)))
  · rw [if_neg ho] at hr
    have h0 := hQ (by simpa using ho)
    refine TCalls.of Tryz.func44 rfl (CanCall.of Tryz.func44 rfl (by decide)) [0] fun Γ => ?_
    let HH : Nat → Nat → Hint := fun | 1, 1 => dkH 0 d (int 0) | _, _ => .no
    exact run_sound ⟨HH, [], fun  | _ => none⟩ 400 (by kernel_rfl) (Ya hr (Yu (Yb b (h0 (T.tup [T.v (Value.string (ByteArray.mk (List.toArray d.b))), int (0 : Int)]) rfl))))
end X9
end Go.Proofs.YtcmcmafeaabjmaaGreat.Vm
namespace Go.Proofs.YtcmcmafeaabjmaaGreat.Vm
open Go Go.RowKit
set_option maxRecDepth 100000
namespace X1
open Oct (getN takeL)
theorem left_any (b : Nat) (l : List UInt8) (bad : Int) (Q : T → Obs → Glb → Prop) (hQ : ∀ x, x = int l.length → Q x (obsD b l bad) none_) : TCalls Tryz.prog 68 [.ptr 0 b 0] (obsD b l bad) none_ Q := by
  refine TCalls.of Tryz.func68 rfl (CanCall.of Tryz.func68 rfl (by decide)) [0] fun Γ => ?_
  let HH : Nat → Nat → Hint := fun | 3, 4 => .res (int l.length) | _, _ => .no
  exact run_sound ⟨HH, [], fun  | _ => none⟩ 400 (by kernel_rfl) (Yb b (hQ (int (ByteArray.size (ByteArray.mk (List.toArray l)))) rfl))
end X1
end Go.Proofs.YtcmcmafeaabjmaaGreat.Vm
namespace Go.Proofs.YtcmcmafeaabjmaaGreat.Vm
open Go Go.RowKit
set_option maxRecDepth 100000
namespace X2
open Crc
open Jrn (frL frL_len)
theorem framed_any (l : List UInt8) (hl : l.length < 65536) (Q : T → Obs → Glb → Prop) (hQ : ∀ x, x = str (frL l) → Q x [] none_) : TCalls Tryz.prog 49 [str l] [] none_ Q := by
  have hlen : (Oct.be 2 l.length ++ l).length ≤ 1000000000 := by simp [Oct.length_be]; omega
  have hj : Oct.joinRes [⟨1, 2, l.length, ⟨#[]⟩⟩] [] = (Oct.be 2 l.length, 0) := by
    unfold Oct.joinRes Oct.Part.bytes Oct.numRes
    simp [Oct.joinRes, hl]
  refine TCalls.of Tryz.func49 rfl (CanCall.of Tryz.func49 rfl (by decide)) [] fun Γ => ?_
  let HH : Nat → Nat → Hint := fun | 1, 2 => .res (u64 l.length) | 1, 3 => told (.agg (X1.partC ⟨1, 2, l.length, ⟨#[]⟩⟩)) [] [] | 1, 4 => .no | 1, 5 => told (.tup [str (Oct.be 2 l.length), int 0]) [] [] | 2, 2 => .res (str (Oct.be 2 l.length ++ l)) | 2, 3 => told (str (frL l)) [] [] | _, _ => .no
  let z0 := Oct.Part.mk (1 : Int) (2 : Int) (List.length l) (ByteArray.mk #[])
  exact run_sound ⟨HH, [], fun  | _ => none⟩ 400 (by kernel_rfl) (Ya (show u64 (IntKind.wrap IntKind.u64 (↑(ByteArray.size (ByteArray.mk (List.toArray l))) : Int)) = u64 (List.length l) by rw [bs_len]; exact u64T _ (by omega)) (Ya (onum_any (List.length l) ((2 : Int)) (HH 1 3).P (fun x h => told_post h)) (Yu (Ya (show TCalls Tryz.prog 51 [T.sl 4 [T.agg [int (z0.kind), int (z0.size), u64 z0.n, T.v (Value.string z0.s)]]] [] none_ (callPost (told (T.tup [str (Oct.be 2 (List.length l)), int (0 : Int)]) [] [])) from X1.join_any [⟨1, 2, l.length, ⟨#[]⟩⟩] (by simp [Oct.room]; decide) (fun p hp => by simp at hp; subst hp; show l.length < _; omega) (by simp) _ (fun x h => told_post (by rw [h, hj]))) (Yu (Ya (show ByteArray.size (ByteArray.mk (List.toArray (Oct.be 2 (List.length l)))) + ByteArray.size (ByteArray.mk (List.toArray l)) ≤ 9223372036854775807 from cat_ok _ _ (by simp [Oct.length_be]; omega)) (Ya (Ye (some (T.v (Value.string (ByteArray.mk (List.toArray (Oct.be 2 (List.length l) ++ l))))))) (Ya (seal_any (Oct.be 2 (List.length l) ++ l) hlen (HH 2 3).P (fun x h => told_post h)) (Yu (hQ (T.v (Value.string (ByteArray.mk (List.toArray (frL l))))) rfl))))))))))
end X2
end Go.Proofs.YtcmcmafeaabjmaaGreat.Vm
