/- Texts of this claim: VmLib, Tm, OctPure, Oct, OctB, Brg, Crc0. -/
import Derived.Test.YtpjkdcbogjigeaaGreatMg13
import Derived.Test.YtpjkdcbogjigeaaGreatProg
import Derived.KernelRfl
import Derived.IntWalk
import Derived.Test.YtpjkdcbogjigeaaGreatMg1
import Derived.Lib.AppendStr
namespace Go.Proofs.YtpjkdcbogjigeaaGreat.Vm
open Go Go.RowKit
def u8 (n : Int) : T := .v (.int .u8 n)
def u32 (n : Int) : T := .v (.int .u32 n)
def u64 (n : Int) : T := .v (.int .u64 n)
def int (n : Int) : T := .v (.int .i64 n)
def bool (b : Bool) : T := .v (.bool b)
def none_ : Glb := fun _ => none
def frame (n : Nat) (l : List (Nat × T)) : List T := (List.range n).map fun i => (l.lookup i).getD .und
theorem wrap_i64 {x : Int} (h0 : -9223372036854775808 ≤ x) (h1 : x ≤ 9223372036854775807) : IntKind.wrap .i64 x = x := IntWalk.i64_in _ (by omega)
def told (r : T) (sel : List Nat) (ob : Obs) : Hint := .call false Unit (fun _ => True) sel false (fun _ => r) (fun _ => ob) (fun _ => none_)
theorem told_post {r r' : T} {sel : List Nat} {ob ob' : Obs} {gl' : Glb} (hr : r' = r) (hl : sel.length ≤ ob.length := by exact Nat.le_of_ble_eq_true rfl) (ho : ob' = ob := by rfl) : callPost (.call false Unit (fun _ => True) sel false (fun _ => r) (fun _ => ob) (fun _ => none_)) r' ob' gl' :=
  ⟨(), trivial, hr, ho, ho ▸ hl, fun e => by cases e⟩
def toldG (r : T) (sel : List Nat) (ob : Obs) (gl : Glb) : Hint := .call false Unit (fun _ => True) sel true (fun _ => r) (fun _ => ob) (fun _ => gl)
theorem toldG_post {r r' : T} {sel : List Nat} {ob ob' : Obs} {gl gl' : Glb} (hr : r' = r) (hl : sel.length ≤ ob.length := by exact Nat.le_of_ble_eq_true rfl) (ho : ob' = ob := by rfl) (hg : gl' = gl := by rfl) : callPost (.call false Unit (fun _ => True) sel true (fun _ => r) (fun _ => ob) (fun _ => gl)) r' ob' gl' :=
  ⟨(), trivial, hr, ho, ho ▸ hl, fun _ => hg⟩
end Go.Proofs.YtpjkdcbogjigeaaGreat.Vm
namespace Go.Proofs.YtpjkdcbogjigeaaGreat.Vm
open Go Go.RowKit
theorem Ya {p q : Prop} (h : p) (k : q) : p ∧ q := ⟨h, k⟩
theorem Ye {α : Type _} (a : α) : a = a := rfl
theorem Yn (a b : Nat) (h : Nat.ble a b = true) : a ≤ b := Nat.le_of_ble_eq_true h
theorem Ys {A B : Prop} (c : Bool) (f : c = true → A) (g : c = false → B) : bsplit c A B := bsplit_mk f g
theorem Yu {p : Prop} (h : p) : Unit → True → p := fun _ _ => h
theorem Yt : True := True.intro
theorem Yb {α : Type _} {q : Prop} (a : α) (k : q) : a = a ∧ q := ⟨rfl, k⟩
theorem Yi {q : Prop} (k : Int) (n : Nat) (h : 0 ≤ k ∧ k < (n : Int)) (x : q) : (0 ≤ k ∧ k < (n : Int)) ∧ q := ⟨h, x⟩
def Hint.bare : Hint → Hint
  | .plainAt _ h => h.bare
  | .plain h => h.bare
  | h => h
abbrev Hint.P (h : Hint) : T → Obs → Glb → Prop := callPost h.bare
theorem Yk {q : Prop} (n b : Nat) (k : q) : (n = n ∧ true = true) ∧ b = b ∧ n ≤ n ∧ q := ⟨⟨rfl, rfl⟩, rfl, Nat.le_refl n, k⟩
theorem Yl {q : Prop} (n : Nat) (k : q) : (n = n ∧ true = true) ∧ q := ⟨⟨rfl, rfl⟩, k⟩
end Go.Proofs.YtpjkdcbogjigeaaGreat.Vm
namespace Go.Proofs.YtpjkdcbogjigeaaGreat
namespace Oct
def be : Nat → Nat → List UInt8
  | 0, _ => []
  | k + 1, n => be k (n / 256) ++ [UInt8.ofNat n]
theorem length_be : ∀ k n, (be k n).length = k
  | 0, _ => rfl
  | k + 1, n => by simp [be, length_be k]
theorem be_succ : ∀ k n, be (k + 1) n = UInt8.ofNat (n / 256 ^ k) :: be k n
  | 0, n => by simp [be]
  | k + 1, n => by
    have h := be_succ k (n / 256)
    show be (k + 1) (n / 256) ++ [UInt8.ofNat n] = _
    rw [h, Nat.div_div_eq_div_mul, show 256 * 256 ^ k = 256 ^ (k + 1) from by rw [Nat.pow_succ, Nat.mul_comm]]
    rfl
def fill (k n i : Nat) : List UInt8 := List.replicate (k - i) 0 ++ be i n
theorem length_fill (k n i : Nat) (h : i ≤ k) : (fill k n i).length = k := by simp [fill, length_be]; omega
theorem fill_zero (k n : Nat) : fill k n 0 = List.replicate k 0 := by simp [fill, be]
theorem fill_full (k n : Nat) : fill k n k = be k n := by simp [fill]
theorem fill_set (k n i : Nat) (h : i < k) : (fill k n i).set (k - 1 - i) (UInt8.ofNat (n / 256 ^ i)) = fill k n (i + 1) := by
  unfold fill
  rw [be_succ, show k - i = (k - (i + 1)) + 1 from by omega, List.replicate_succ', List.append_assoc]
  rw [List.set_append_right _ _ (by simp; omega)]
  simp [show k - 1 - i - (k - (i + 1)) = 0 from by omega]
theorem u8s_set (l : List UInt8) (j : Nat) (c : UInt8) : (u8s l).setIfInBounds j (.int .u8 (c.toNat : Int)) = u8s (l.set j c) := by
  simp [u8s, List.map_set]
theorem madeCells_u8 (k : Nat) : madeCells #[.int .u8 0] k = u8s (List.replicate k 0) := by
  apply Array.ext
  · simp [size_u8s, madeCells]
  · intro i h1 h2
    have h3 : i < k := by simpa [madeCells] using h1
    simp [u8s, madeCells, Nat.mod_one]
theorem pow_256 (j : Nat) : (2 : Int) ^ (8 * j) = ((256 ^ j : Nat) : Int) := by
  rw [Int.pow_mul, show ((2 : Int) ^ 8) = 256 from rfl]
  exact (Int.natCast_pow 256 j).symm
theorem byteVal (n j : Nat) : ((n : Int) / 2 ^ (8 * j) % 256) = ((UInt8.ofNat (n / 256 ^ j)).toNat : Int) := by
  rw [pow_256]
  have : (UInt8.ofNat (n / 256 ^ j)).toNat = n / 256 ^ j % 256 := UInt8.toNat_ofNat'
  rw [this]
  show (n : Int) / ((256 ^ j : Nat) : Int) % ((256 : Nat) : Int) = _
  rw [← Int.natCast_ediv, ← Int.natCast_emod]
theorem fits_iff (n k : Nat) : (((n : Int) / 2 ^ (8 * k) != 0) = false) ↔ n < 256 ^ k := by
  rw [pow_256]
  have hp : 0 < 256 ^ k := Nat.pow_pos (by omega)
  rw [show ((n : Int) / ((256 ^ k : Nat) : Int)) = ((n / 256 ^ k : Nat) : Int) from (Int.natCast_ediv _ _).symm]
  rw [bne_eq_false_iff_eq, Int.natCast_eq_zero, Nat.div_eq_zero_iff]
  omega
structure Part where
  kind : Int
  size : Int
  n : Nat
  s : ByteArray
def Part.cells (p : Part) : List Value := [.int .i64 p.kind, .int .i64 p.size, .int .u64 p.n, .string p.s]
def Part.val (p : Part) : Value := .agg #[.int .i64 p.kind, .int .i64 p.size, .int .u64 p.n, .string p.s]
def numRes (n : Nat) (size : Int) : List UInt8 × Int := if 1 ≤ size ∧ size ≤ 8 ∧ n < 256 ^ size.toNat then (be size.toNat n, 0) else ([], 9)
def Part.bytes (p : Part) : List UInt8 × Int :=
  if p.kind = 1 then numRes p.n p.size
  else if p.kind = 2 then (if 255 < p.s.size then ([], 3) else (UInt8.ofNat p.s.size :: p.s.data.toList, 0))
  else if p.kind = 3 then (p.s.data.toList, 0)
  else ([], 1)
def joinRes : List Part → List UInt8 → List UInt8 × Int
  | [], acc => (acc, 0)
  | p :: r, acc => if p.bytes.2 ≠ 0 then ([], p.bytes.2) else joinRes r (acc ++ p.bytes.1)
def room (ps : List Part) : Nat := (ps.map fun p => p.s.size + 9).sum
theorem bytes_le (p : Part) : p.bytes.1.length ≤ p.s.size + 9 := by
  have hs : p.s.data.toList.length = p.s.size := by rw [Array.length_toList]; rfl
  unfold Part.bytes
  split
  · unfold numRes
    split
    · rw [length_be]; omega
    · simp
  · split
    · split
      · simp
      · rw [List.length_cons, hs]; omega
    · split
      · rw [hs]; omega
      · simp
theorem room_take (ps : List Part) (k : Nat) (h : k < ps.length) : room (ps.take k) + (ps[k].s.size + 9) ≤ room ps := by
  induction ps generalizing k with
  | nil => simp at h
  | cons p r ih =>
    cases k with
    | zero => simp [room]
    | succ k =>
      have := ih k (by simpa using h)
      simp only [room, List.take_succ_cons, List.map_cons, List.sum_cons, List.getElem_cons_succ] at this ⊢
      omega
theorem room_succ (ps : List Part) (k : Nat) (h : k < ps.length) : room (ps.take (k + 1)) = room (ps.take k) + (ps[k].s.size + 9) := by
  rw [List.take_succ_eq_append_getElem h]
  simp only [room, List.map_append, List.sum_append, List.map_cons, List.map_nil, List.sum_cons, List.sum_nil]
  omega
end Oct
end Go.Proofs.YtpjkdcbogjigeaaGreat
namespace Go.Proofs.YtpjkdcbogjigeaaGreat
open Go.RowKit
namespace Oct
theorem info_u8 : (Tryz.prog.info? 5).map (fun i => (i.zero, i.size, i.bytes)) = some (some (.int .u8 0), 1, 1) := by kernel_rfl
set_option maxHeartbeats 400000 in
theorem number_size (n size : Int) (w : World) (h : size < 1 ∨ size > 8) :
    Calls Tryz.prog 155 #[.int .u64 n, .int .i64 size] w fun e w' => e = .returned (.tuple #[.string ⟨#[]⟩, .int .i64 9]) ∧ Below w.heap.size w w' := by
  rcases h with h | h
  · go_enter Tryz.func155, Tryz.ntmps155
    go_wp2
    go_ret2
    exact ⟨rfl, Below.refl _ _⟩
  · have h1 : ¬ size < 1 := by omega
    go_enter Tryz.func155, Tryz.ntmps155
    go_wp2
    go_ret2
    exact ⟨rfl, Below.refl _ _⟩
set_option maxRecDepth 100000 in
set_option maxHeartbeats 400000 in
theorem number_great (n : Int) (k : Nat) (w : World) (h1 : 1 ≤ k) (h7 : k ≤ 7) (hn : (n / 2 ^ (8 * k) != 0) = true) :
    Calls Tryz.prog 155 #[.int .u64 n, .int .i64 k] w fun e w' => e = .returned (.tuple #[.string ⟨#[]⟩, .int .i64 9]) ∧ Below w.heap.size w w' := by
  go_enter Tryz.func155, Tryz.ntmps155
  go_wp2
  go_ret2
  exact ⟨rfl, Below.refl _ _⟩
set_option maxRecDepth 100000 in
set_option maxHeartbeats 400000 in
theorem number_fits (n k : Nat) (w : World) (h1 : 1 ≤ k) (h8 : k ≤ 8) (hn : k ≤ 7 → (((n : Int) / 2 ^ (8 * k) != 0) = false)) :
    Calls Tryz.prog 155 #[.int .u64 n, .int .i64 k] w fun e w' => e = .returned (.tuple #[.string ⟨(be k n).toArray⟩, .int .i64 0]) ∧ Below w.heap.size w w' := by
  obtain ⟨i0, hi, hz0, hz1, hz2⟩ := info_parts info_u8
  have hmk : ∀ u : World, (Instr.makeSlice 186 (.int .i64 (k : Int)) (.int .i64 (k : Int))).run Tryz.prog u =
      .ok (.slice (some ⟨u.heap.size, 0, none⟩) k k) (u.alloc (.cells (u8s (fill k n 0)) 5)) := fun u => by
    have h := run_make (P := Tryz.prog) u 186 5 i0 (.int .u8 0) Tryz.underlying186 hi hz0 .i64 .i64 (k : Int) (k : Int) (by omega) (Int.le_refl _) (by rw [hz2]; omega) (by omega)
    rw [fill_zero, ← madeCells_u8]
    simpa [hz1, Value.cells] using h
  have e8 : ¬ k < 8 ∨ k ≤ 7 ∧ ((n : Int) / 2 ^ (8 * k) != 0) = false := by
    by_cases h : k < 8
    · exact .inr ⟨by omega, hn (by omega)⟩
    · exact .inl h
  clear hn hi hz0 hz1 hz2
  rcases e8 with h7 | ⟨h7, hn'⟩
  all_goals
    go_enter Tryz.func155, Tryz.ntmps155
    go_wp2
    go_loopw [29] (fun i wr => ∃ j : Nat, j ≤ k ∧ i = .int .i64 j ∧ Blk wr w.heap.size 5 (u8s (fill k n j)) ∧ Below w.heap.size w wr) (fun i _ => k - (intOf i).toNat)
    case atStart => exact ⟨0, by omega, rfl, Blk.new _ _ _, (Below.refl _ _).alloc (Nat.le_refl _) _⟩
    case round =>
      obtain ⟨j, hj, rfl, hb, hbelow⟩ := hrel
      by_cases hlt : j < k
      · have hcell : wr.cell? ⟨w.heap.size, k - 1 - j, none⟩ = some (.int .u8 ((fill k n j)[k - 1 - j]'(by rw [length_fill]; omega; omega)).toNat) := by
          rw [hb.cell, getElem?_u8s, List.getElem?_eq_getElem]
          rfl
        have hf := hb.frozen (k - 1 - j)
        go_wp2
        go_roundw
        case rel => exact ⟨j + 1, by omega, by go_num, by rw [byteVal, ← fill_set k n j hlt, ← u8s_set]; exact hb.set_ _ _, hbelow.setCell (Nat.le_refl _) _⟩
        case measure => simp [intOf]; omega
      · have hj' : j = k := by omega
        subst hj'
        have hcv := run_string_u8s (P := Tryz.prog) 186 5 9 Tryz.underlying186 Tryz.underlying5 Tryz.underlying9 w.heap.size j j _ (by rw [length_fill _ _ _ (Nat.le_refl _)]; exact Nat.le_refl _) _ hb
        rw [List.take_of_length_le (by rw [length_fill _ _ _ (Nat.le_refl _)]; exact Nat.le_refl _), fill_full] at hcv
        go_wp2
        go_ret2
        exact ⟨rfl, hbelow⟩
end Oct
end Go.Proofs.YtpjkdcbogjigeaaGreat
namespace Go.Proofs.YtpjkdcbogjigeaaGreat
open Go.RowKit
namespace Oct
theorem number_any (n : Nat) (size : Int) (w : World) (hn : n < 256 ^ 8) :
    Calls Tryz.prog 155 #[.int .u64 n, .int .i64 size] w fun e w' => e = .returned (.tuple #[.string ⟨(numRes n size).1.toArray⟩, .int .i64 (numRes n size).2]) ∧ Below w.heap.size w w' := by
  by_cases h1 : size < 1 ∨ size > 8
  · have e : numRes n size = ([], 9) := by unfold numRes; rw [if_neg (by omega)]
    rw [e]; exact number_size n size w h1
  · obtain ⟨k, rfl⟩ : ∃ k : Nat, size = k := ⟨size.toNat, by omega⟩
    by_cases h2 : n < 256 ^ k
    · have e : numRes n k = (be k n, 0) := by unfold numRes; rw [if_pos ⟨by omega, by omega, by simpa using h2⟩]; rfl
      rw [e]; exact number_fits n k w (by omega) (by omega) (fun _ => (fits_iff n k).2 h2)
    · have h7 : k ≤ 7 := by
        rcases Nat.lt_or_ge k 8 with h | h
        · omega
        · have : k = 8 := by omega
          subst this; exact absurd hn h2
      have e : numRes n k = ([], 9) := by unfold numRes; rw [if_neg (by intro h; exact h2 (by simpa using h.2.2))]
      rw [e]
      refine number_great n k w (by omega) h7 ?_
      cases hb : ((n : Int) / 2 ^ (8 * k) != 0)
      · exact absurd ((fits_iff n k).1 hb) h2
      · rfl
set_option maxHeartbeats 400000 in
theorem bytes_num (n : Nat) (k : Int) (s : ByteArray) (w : World) (hn : Hid (n < 256 ^ 8)) :
    Calls Tryz.prog 136 #[.agg #[.int .i64 1, .int .i64 k, .int .u64 n, .string s]] w fun e' w' => e' = .returned (.tuple #[.string ⟨(numRes n k).1.toArray⟩, .int .i64 (numRes n k).2]) ∧ Below w.heap.size w w' := by
  go_enter Tryz.func136, Tryz.ntmps136
  go_wp2_with (go_at_call 155; refine (number_any _ _ _ hn.out).mono ?_; rintro e w1 ⟨rfl, hb⟩)
  go_ret2
  exact ⟨rfl, ((Below.refl _ _).alloc (Nat.le_refl _) _).trans (hb.mono (by simp))⟩
set_option maxRecDepth 100000 in
set_option maxHeartbeats 400000 in
theorem bytes_text (n : Int) (k : Int) (s : ByteArray) (w : World) (hs : s.size ≤ 255):
    Calls Tryz.prog 136 #[.agg #[.int .i64 2, .int .i64 k, .int .u64 n, .string s]] w fun e' w' => e' = .returned (.tuple #[.string ⟨(UInt8.ofNat s.size :: s.data.toList).toArray⟩, .int .i64 0]) ∧ Below w.heap.size w w' := by
  have hcv := fun o => run_string_one (P := Tryz.prog) 186 5 9 Tryz.underlying186 Tryz.underlying5 Tryz.underlying9 w s.size (by omega) o
  go_enter Tryz.func136, Tryz.ntmps136
  go_wp2
  go_ret2
  exact ⟨ret_si (bs_ext (by rw [bs_append]; simp)) rfl, ((Below.refl _ _).alloc (Nat.le_refl _) _).alloc (by simp) _⟩
theorem bytes_long (n : Int) (k : Int) (s : ByteArray) (w : World) (hs : ¬ (s.size ≤ 255)):
    Calls Tryz.prog 136 #[.agg #[.int .i64 2, .int .i64 k, .int .u64 n, .string s]] w fun e' w' => e' = .returned (.tuple #[.string ⟨#[]⟩, .int .i64 3]) ∧ Below w.heap.size w w' := by
  go_enter Tryz.func136, Tryz.ntmps136
  go_wp2
  go_ret2
  exact ⟨rfl, (Below.refl _ _).alloc (Nat.le_refl _) _⟩
theorem bytes_raw (n : Int) (k : Int) (s : ByteArray) (w : World) :
    Calls Tryz.prog 136 #[.agg #[.int .i64 3, .int .i64 k, .int .u64 n, .string s]] w fun e' w' => e' = .returned (.tuple #[.string s, .int .i64 0]) ∧ Below w.heap.size w w' := by
  go_enter Tryz.func136, Tryz.ntmps136
  go_wp2
  go_ret2
  exact ⟨rfl, (Below.refl _ _).alloc (Nat.le_refl _) _⟩
theorem bytes_none (d n : Int) (k : Int) (s : ByteArray) (w : World) (h1 : (d == 1) = false) (h2 : (d == 2) = false) (h3 : (d == 3) = false) :
    Calls Tryz.prog 136 #[.agg #[.int .i64 d, .int .i64 k, .int .u64 n, .string s]] w fun e' w' => e' = .returned (.tuple #[.string ⟨#[]⟩, .int .i64 1]) ∧ Below w.heap.size w w' := by
  go_enter Tryz.func136, Tryz.ntmps136
  go_wp2
  go_ret2
  exact ⟨rfl, (Below.refl _ _).alloc (Nat.le_refl _) _⟩
theorem bytes_any (p : Part) (w : World) (hn : p.n < 256 ^ 8) :
    Calls Tryz.prog 136 #[.agg #[.int .i64 p.kind, .int .i64 p.size, .int .u64 p.n, .string p.s]] w fun e' w' => e' = .returned (.tuple #[.string ⟨p.bytes.1.toArray⟩, .int .i64 p.bytes.2]) ∧ Below w.heap.size w w' := by
  obtain ⟨d, k, n, s⟩ := p
  show Calls Tryz.prog 136 #[.agg #[.int .i64 d, .int .i64 k, .int .u64 n, .string s]] w _
  by_cases h1 : d = 1
  · subst h1
    exact bytes_num n k s w hn
  by_cases h2 : d = 2
  · subst h2
    by_cases hs : s.size ≤ 255
    · have e : Part.bytes ⟨2, k, n, s⟩ = (UInt8.ofNat s.size :: s.data.toList, 0) := by
        show (if (2 : Int) = 1 then _ else if (2 : Int) = 2 then _ else _) = _
        rw [if_neg (by decide), if_pos rfl, if_neg (by show ¬ 255 < s.size; omega)]
      rw [e]; exact bytes_text n k s w hs
    · have e : Part.bytes ⟨2, k, n, s⟩ = ([], 3) := by
        show (if (2 : Int) = 1 then _ else if (2 : Int) = 2 then _ else _) = _
        rw [if_neg (by decide), if_pos rfl, if_pos (by show 255 < s.size; omega)]
      rw [e]; exact bytes_long n k s w hs
  by_cases h3 : d = 3
  · subst h3
    have e : Part.bytes ⟨3, k, n, s⟩ = (s.data.toList, 0) := by
      show (if (3 : Int) = 1 then _ else if (3 : Int) = 2 then _ else if (3 : Int) = 3 then _ else _) = _
      rw [if_neg (by decide), if_neg (by decide), if_pos rfl]
    rw [e, bs_self]; exact bytes_raw n k s w
  · have e : Part.bytes ⟨d, k, n, s⟩ = ([], 1) := by
      show (if d = 1 then _ else if d = 2 then _ else if d = 3 then _ else _) = _
      rw [if_neg h1, if_neg h2, if_neg h3]
    rw [e]; exact bytes_none d n k s w (beq_eq_false_iff_ne.2 h1) (beq_eq_false_iff_ne.2 h2) (beq_eq_false_iff_ne.2 h3)
def Parts (w : World) (A : Option Addr) (ps : List Part) : Prop := RowsAt w w.heap.size 4 A (ps.map Part.cells)
set_option maxRecDepth 100000 in
set_option maxHeartbeats 1000000 in
theorem Join_any (A : Option Addr) (c : Nat) (ps : List Part) (w : World) (hp : Parts w A ps) (hroom : room ps ≤ 140737488355328) (hn : ∀ p ∈ ps, p.n < 256 ^ 8) (hl : ps.length ≤ 9223372036854775807) :
    Calls Tryz.prog 91 #[.slice A ps.length c] w fun e w' => e = .returned (.tuple #[.string ⟨(joinRes ps []).1.toArray⟩, .int .i64 (joinRes ps []).2]) ∧ Below w.heap.size w w' := by
  have hP := Lib.hid hp
  have hN := Lib.hid hn
  have hR := Lib.hid hroom
  clear hp hn hroom
  go_enter Tryz.func91, Tryz.ntmps91
  go_wp2
  go_loopw [4, 11] (fun v i wr => ∃ (k : Nat) (acc : List UInt8), k ≤ ps.length ∧ i = .int .i64 k ∧ joinRes ps [] = joinRes (ps.drop k) acc ∧ acc.length ≤ room (ps.take k) ∧
      wr.ownsRow w.heap.size 5 1 v acc.length (acc.map fun b => Value.int .u8 b.toNat) ∧ Below w.heap.size w wr) (fun _ i _ => ps.length - (intOf i).toNat)
  case atStart => exact ⟨0, [], by omega, rfl, rfl, by simp, World.ownsRow_nil _ _ _ _, Below.refl _ _⟩
  case round =>
    obtain ⟨k, acc, hk, rfl, hj, hacc, hown, hbelow⟩ := hrel
    by_cases hlt : k < ps.length
    · obtain ⟨b, off, rfl, hb, hc⟩ := hP.out (by intro h; rw [List.map_eq_nil_iff] at h; subst h; simp at hlt)
      have hc := hc k ps[k].cells (by simp [hlt])
      have cell : ∀ j u, (ps[k].cells)[j]? = some u → wr.cell? ⟨b, off + k * 4 + j, none⟩ = some u := fun j u hu => (hbelow.cell hb).trans (hc j u hu)
      have c0 : wr.cell? ⟨b, off + k * 4, none⟩ = some (.int .i64 ps[k].kind) := cell 0 _ rfl
      have c1 := cell 1 _ rfl
      have c2 := cell 2 _ rfl
      have c3 := cell 3 _ rfl
      have HJ := Lib.hid hj
      have hpn := Lib.hid (hN.out ps[k] (by simp))
      obtain ⟨i0, hi, hz0, hz1, hz2⟩ := info_parts info_u8
      have hrk := room_take ps k hlt
      have hble := bytes_le ps[k]
      have hRk := Lib.hid (show acc.length + (⟨ps[k].bytes.1.toArray⟩ : ByteArray).size ≤ 140737488355328 by have := hR.out; show acc.length + ps[k].bytes.1.toArray.size ≤ _; rw [List.size_toArray]; omega)
      have hdrop : joinRes (ps.drop k) acc = if ps[k].bytes.2 ≠ 0 then ([], ps[k].bytes.2) else joinRes (ps.drop (k + 1)) (acc ++ ps[k].bytes.1) := by
        rw [List.drop_eq_getElem_cons hlt]; rfl
      clear cell hc hj
      by_cases he : ps[k].bytes.2 = 0
      · have he1 : (ps[k].bytes.2 != 0) = false := by rw [he]; rfl
        rw [if_neg (by simp [he])] at hdrop
        have HD := Lib.hid hdrop
        clear hdrop he
        go_wp2_with (first
          | (go_at_call 136; refine (bytes_any ps[k] _ hpn.out).mono ?_; rintro e w1 ⟨rfl, hb1⟩)
          | (at_builtin; refine Stop.out ?_))
        refine Stop.mk ?_
        have hown1 := ownsRow_below (hown.alloc (.cells #[.int .i64 ps[k].kind, .int .i64 ps[k].size, .int .u64 ps[k].n, .string ps[k].s] 109)) hb1 (Nat.le_refl _)
        have hbel1 := (hbelow.alloc hbelow.size _).trans (hb1.mono (by have := hbelow.size; simp; omega))
        refine Lib.wpList_append_own_string _ rfl (.tmp 23) (.tmp 24) 186 9 rfl w.heap.size 5 i0 Tryz.underlying186 Tryz.underlying9 hi hz0 hz1 hz2 u4 acc.length (acc.map fun b => Value.int .u8 (b.toNat : Int)) rfl hown1 ⟨ps[k].bytes.1.toArray⟩ rfl (by have := hRk.out; simp only [maxLen]; omega) hRk.out hbel1.size ?_
        intro v1 w2 hown2 hgr2 _
        rw [cells_of_strs, ← List.map_append] at hown2
        have hbel2 := hbel1.grown hgr2 hbel1.size (ownBlock_base hown1)
        have hsz : (⟨ps[k].bytes.1.toArray⟩ : ByteArray).size = ps[k].bytes.1.length := by show ps[k].bytes.1.toArray.size = _; simp
        have hsz' := Lib.hid hsz
        clear hsz hi hz0 hz1 hz2
        go_wp2
        go_roundw
        case rel => 
          refine ⟨k + 1, acc ++ ps[k].bytes.1, by omega, by go_num, by rw [HJ.out, HD.out], ?_, ?_, hbel2⟩
          · rw [List.length_append]; have := room_succ ps k hlt; omega
          · rw [List.length_append, ← hsz'.out]; exact hown2
        case measure => simp [intOf]; omega
      · have he1 : (ps[k].bytes.2 != 0) = true := by simp [he]
        rw [if_pos he] at hdrop
        have HD := Lib.hid hdrop
        clear hdrop he
        go_wp2_with (go_at_call 136; refine (bytes_any ps[k] _ hpn.out).mono ?_; rintro e w1 ⟨rfl, hb1⟩)
        go_ret2
        rw [HJ.out, HD.out]
        exact ⟨rfl, (hbelow.alloc hbelow.size _).trans (hb1.mono (by have := hbelow.size; simp; omega))⟩
    · obtain rfl : k = ps.length := by omega
      rw [List.drop_length] at hj
      have HJ := Lib.hid hj
      have hcv := run_string_own (P := Tryz.prog) 186 5 9 Tryz.underlying186 Tryz.underlying5 Tryz.underlying9 hown
      clear hj
      go_wp2
      go_ret2
      rw [HJ.out]
      exact ⟨rfl, hbelow⟩
end Oct
end Go.Proofs.YtpjkdcbogjigeaaGreat
namespace Go.Proofs.YtpjkdcbogjigeaaGreat.Vm
open Go Go.RowKit
theorem TCalls.old {P : Program} {f : FuncId} {ts : List T} {r : T} (can : CanCall P f)
    (h : ∀ (M : Pm) (w : World) (xs : Array Value), HRel M [] none_ w → RelL M ts xs.toList → ∃ x, Rel M r x ∧ Calls P f xs w fun e w' => e = .returned x ∧ Below w.heap.size w w')
    (Q : T → Obs → Glb → Prop) (hQ : Q r [] none_) : TCalls P f ts [] none_ Q := ⟨can, fun M w xs hp hx => by
  obtain ⟨x, hr, hc⟩ := h M w xs hp hx
  refine hc.mono fun e w' ⟨he, hb⟩ => ⟨x, r, M, [], _, he, hr, hp.still fun b hb' => hb.block b hb', ?_, hQ⟩
  exact ⟨Pm.le_refl _, fun b o v hv => .inl hv, Fr.of_below hb, fun b hb => .inl hb⟩⟩
def str (l : List UInt8) : T := .v (.string ⟨l.toArray⟩)
namespace X1
open Oct (Part joinRes be room)
def partC (p : Part) : List T := [int p.kind, int p.size, u64 p.n, .v (.string p.s)]
def parts (ps : List Part) : List T := ps.map fun p => .agg (partC p)
theorem parts_len (ps : List Part) : (parts ps).length = ps.length := by simp [parts]
theorem parts_of {M : Pm} {ob : Obs} {gl : Glb} {w : World} (hp : HRel M ob gl w) {ps : List Part} {v : Value} (r : Rel M (.sl 4 (parts ps)) v) : ∃ A cap, v = .slice A ps.length cap ∧ Oct.Parts w A ps := by
  simp only [Rel, parts_len] at r
  obtain ⟨A, cap, e, ⟨d1, d2, d3, d4⟩, hl, hre⟩ := r
  refine ⟨A, cap, e, fun hne => ?_⟩
  have hn : 0 < ps.length := List.length_pos_iff.2 (fun e => hne (by rw [e]; rfl))
  cases A with
  | none => have := (d3 rfl).1; omega
  | some ad =>
    have h4 := d4 ad rfl (by omega)
    obtain ⟨b, o, sp⟩ := ad
    simp only at h4
    subst h4
    have hrel := hre b o rfl
    have key : ∀ (k : Nat) (row : List Value), (ps.map Part.cells)[k]? = some row → ∀ (j : Nat) (u : Value), row[j]? = some u → w.cell? ⟨b, o + k * 4 + j, none⟩ = some u := fun k row hr j u hu => by
      rw [List.getElem?_map, Option.map_eq_some_iff] at hr
      obtain ⟨p, hp1, rfl⟩ := hr
      have he : (parts ps)[k]? = some (.agg (partC p)) := by rw [parts, List.getElem?_map, hp1]; rfl
      have h5 := hrel.el he
      have ht : (partC p)[j]? = some (.v u) := by
        have : partC p = (Part.cells p).map T.v := rfl
        rw [this, List.getElem?_map, hu]; rfl
      obtain ⟨u', h6, h7⟩ := RelA.get (ts := partC p) h5 ht
      simp only [Rel] at h7
      subst h7
      exact (hp.promise _ _ _ h6).1
    refine ⟨b, o, rfl, ?_, key⟩
    obtain ⟨p, hp0⟩ : ∃ p, ps[0]? = some p := ⟨ps[0], List.getElem?_eq_getElem hn⟩
    have := key 0 (Part.cells p) (by rw [List.getElem?_map, hp0]; rfl) 0 (.int .i64 p.kind) rfl
    have := World.block_lt_of_cell? w _ this
    exact this
theorem join_any (ps : List Part) (hroom : room ps ≤ 140737488355328) (hn : ∀ p ∈ ps, p.n < 18446744073709551616) (hl : ps.length ≤ 9223372036854775807) (Q : T → Obs → Glb → Prop)
    (hQ : ∀ x, x = .tup [str (joinRes ps []).1, int (joinRes ps []).2] → Q x [] none_) : TCalls Tryz.prog 91 [.sl 4 (parts ps)] [] none_ Q := by
  refine TCalls.old (CanCall.of Tryz.func91 rfl (by decide)) (fun M w xs hp hx => ?_) Q (hQ _ rfl)
  simp only [RelL] at hx
  obtain ⟨v, us, e, h1, rfl⟩ := hx
  obtain ⟨A, cap, rfl, hP⟩ := parts_of hp h1
  have e2 : xs = #[.slice A ps.length cap] := Array.toList_inj.1 e
  subst e2
  refine ⟨_, ?_, Oct.Join_any A cap ps w hP hroom hn hl⟩
  simp only [Rel, str, int]
  exact ⟨_, rfl, by simp only [RelL]; exact ⟨_, _, rfl, by simp only [Rel], _, _, rfl, by simp only [Rel], rfl⟩⟩
end X1
end Go.Proofs.YtpjkdcbogjigeaaGreat.Vm
namespace Go.Proofs.YtpjkdcbogjigeaaGreat.Crc
open Go
def poly : Nat := 3988292384
def st (r : Nat) : Nat := if r % 2 = 1 then (r / 2) ^^^ poly else r / 2
def stN : Nat → Nat → Nat
  | 0, r => r
  | k + 1, r => st (stN k r)
def step (r c : Nat) : Nat := stN 8 (r ^^^ c)
def sumN (l : List UInt8) (r : Nat) : Nat := l.foldl (fun r c => step r c.toNat) r
def crc (l : List UInt8) : Nat := 4294967295 - sumN l 4294967295
def le4 (n : Nat) : List UInt8 := [UInt8.ofNat (n / 1), UInt8.ofNat (n / 256), UInt8.ofNat (n / 65536), UInt8.ofNat (n / 16777216)]
def sealL (l : List UInt8) : List UInt8 := l ++ le4 (crc l)
theorem sealL_len (l : List UInt8) : (sealL l).length = l.length + 4 := by simp [sealL, le4]
theorem st_lt {r : Nat} (h : r < 4294967296) : st r < 4294967296 := by
  unfold st
  split
  · exact Nat.xor_lt_two_pow (n := 32) (by omega) (by decide)
  · omega
theorem stN_lt {r : Nat} (h : r < 4294967296) : ∀ k, stN k r < 4294967296
  | 0 => h
  | k + 1 => st_lt (stN_lt h k)
theorem step_lt {r c : Nat} (h : r < 4294967296) (hc : c < 256) : step r c < 4294967296 :=
  stN_lt (Nat.xor_lt_two_pow (n := 32) (by omega) (by omega)) 8
theorem sumN_lt : ∀ (l : List UInt8) {r : Nat}, r < 4294967296 → sumN l r < 4294967296
  | [], _, h => h
  | c :: l, r, h => by
    show sumN l (step r c.toNat) < _
    exact sumN_lt l (step_lt h (by have := c.toNat_lt; omega))
theorem sumN_snoc (l : List UInt8) (c : UInt8) (r : Nat) : sumN (l ++ [c]) r = step (sumN l r) c.toNat := by simp [sumN]
theorem crc_lt (l : List UInt8) : crc l < 4294967296 := by unfold crc; omega
def rbit (c i : Nat) : Nat := c / 2 ^ i % 2
def rst (r b : Nat) : Nat := if r % 2 ≠ b then (r / 2) ^^^ poly else r / 2
def rs (r c : Nat) : Nat → Nat
  | 0 => r
  | k + 1 => rst (rs r c k) (rbit c k)
theorem wrap32 {x : Nat} (h : x < 4294967296) : IntKind.wrap .u32 (x : Int) = x := IntWalk.u32_in _ (by omega)
theorem xor32 {x y : Nat} (hx : x < 4294967296) (hy : y < 4294967296) : IntKind.wrap .u32 ((BitVec.ofInt 32 (x : Int) ^^^ BitVec.ofInt 32 (y : Int)).toNat : Int) = ((x ^^^ y : Nat) : Int) := by
  have e : (BitVec.ofInt 32 (x : Int) ^^^ BitVec.ofInt 32 (y : Int)).toNat = x ^^^ y := by
    rw [BitVec.toNat_xor, BitVec.ofInt_natCast, BitVec.ofInt_natCast, BitVec.toNat_ofNat, BitVec.toNat_ofNat, Nat.mod_eq_of_lt hx, Nat.mod_eq_of_lt hy]
  rw [e]
  exact wrap32 (Nat.xor_lt_two_pow (n := 32) hx hy)
theorem and32 {x : Nat} (hx : x < 4294967296) : IntKind.wrap .u32 ((BitVec.ofInt 32 (x : Int) &&& BitVec.ofInt 32 1).toNat : Int) = ((x % 2 : Nat) : Int) := by
  have e : (BitVec.ofInt 32 (x : Int) &&& BitVec.ofInt 32 1).toNat = x % 2 := by
    rw [show (1 : Int) = ((1 : Nat) : Int) from rfl]
    rw [BitVec.toNat_and, BitVec.ofInt_natCast, BitVec.ofInt_natCast, BitVec.toNat_ofNat, BitVec.toNat_ofNat, Nat.mod_eq_of_lt hx, Nat.mod_eq_of_lt (by decide), Nat.and_one_is_mod]
  rw [e]
  exact wrap32 (by omega)
theorem not32 {x : Nat} (hx : x < 4294967296) : IntKind.wrap .u32 ((BitVec.ofInt 32 4294967295 ^^^ BitVec.ofInt 32 (x : Int)).toNat : Int) = ((4294967295 - x : Nat) : Int) := by
  rw [show (4294967295 : Int) = ((4294967295 : Nat) : Int) from rfl, xor32 (by decide) hx]
  congr 1
  have h : (BitVec.allOnes 32 ^^^ BitVec.ofNat 32 x).toNat = 4294967295 - x := by
    rw [BitVec.xor_comm, BitVec.xor_allOnes, BitVec.toNat_not, BitVec.toNat_ofNat, Nat.mod_eq_of_lt hx]
  rw [BitVec.toNat_xor, BitVec.toNat_ofNat, Nat.mod_eq_of_lt hx] at h
  exact h
theorem shr1 (x : Nat) : (x : Int).fdiv (2 ^ min (Int.toNat 1) 32) = ((x / 2 : Nat) : Int) := by
  show (x : Int).fdiv 2 = _
  rw [Int.fdiv_eq_ediv_of_nonneg _ (by decide)]; omega
theorem st_one {r : Nat} (h : r % 2 = 1) : st r = r / 2 ^^^ poly := by unfold st; rw [if_pos h]
theorem st_zero {r : Nat} (h : ¬ r % 2 = 1) : st r = r / 2 := by unfold st; rw [if_neg h]
end Go.Proofs.YtpjkdcbogjigeaaGreat.Crc
