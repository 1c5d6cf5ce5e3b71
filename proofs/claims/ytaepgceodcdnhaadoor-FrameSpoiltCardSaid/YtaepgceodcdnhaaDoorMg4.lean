/- Texts of this claim, one behind the other: Oct, OctB, OctN, VmLib, Brg, Row, Crc0, Oct2, CD, OR, Frm0, Frm1, FA, FB. -/
import Derived.Test.YtaepgceodcdnhaaDoorMg3
import Derived.Test.YtaepgceodcdnhaaDoorProg
import Derived.Lib.AppendStr
import Derived.Test.YtaepgceodcdnhaaDoorMg1
import Derived.Deep.RegionWith
import Derived.KernelRfl
import Derived.IntWalk
/- The contracts of layer 1 (octet): what each function returns, and that nothing that was there has turned. -/
namespace Go.Proofs.YtaepgceodcdnhaaDoor
open Go.RowKit
namespace Oct

theorem info_u8 : (Tryd.prog.info? 5).map (fun i => (i.zero, i.size, i.bytes)) = some (some (.int .u8 0), 1, 1) := by kernel_rfl

set_option maxHeartbeats 400000 in
theorem Num_any (n size : Int) (w : World) :
    Calls Tryd.prog 56 #[.int .u64 n, .int .i64 size] w fun e w' => e = .returned (.agg #[.int .i64 1, .int .i64 size, .int .u64 n, .string ⟨#[]⟩]) ∧ Below w.heap.size w w' := by
  go_enter Tryd.func56, Tryd.ntmps56
  go_wp2
  exact bodyPost_ret (v := .agg #[.int .i64 1, .int .i64 size, .int .u64 n, .string ⟨#[]⟩]) (by simp [results, Tryd.results56, go_sem]) rfl ⟨rfl, (Below.refl _ _).alloc (Nat.le_refl _) _⟩

set_option maxHeartbeats 400000 in
theorem number_size (n size : Int) (w : World) (h : size < 1 ∨ size > 8) :
    Calls Tryd.prog 83 #[.int .u64 n, .int .i64 size] w fun e w' => e = .returned (.tuple #[.string ⟨#[]⟩, .int .i64 9]) ∧ Below w.heap.size w w' := by
  rcases h with h | h
  · go_enter Tryd.func83, Tryd.ntmps83
    go_wp2
    go_ret2
    exact ⟨rfl, Below.refl _ _⟩
  · have h1 : ¬ size < 1 := by omega
    go_enter Tryd.func83, Tryd.ntmps83
    go_wp2
    go_ret2
    exact ⟨rfl, Below.refl _ _⟩

set_option maxRecDepth 100000 in
set_option maxHeartbeats 400000 in
theorem number_great (n : Int) (k : Nat) (w : World) (h1 : 1 ≤ k) (h7 : k ≤ 7) (hn : (n / 2 ^ (8 * k) != 0) = true) :
    Calls Tryd.prog 83 #[.int .u64 n, .int .i64 k] w fun e w' => e = .returned (.tuple #[.string ⟨#[]⟩, .int .i64 9]) ∧ Below w.heap.size w w' := by
  go_enter Tryd.func83, Tryd.ntmps83
  go_wp2
  go_ret2
  exact ⟨rfl, Below.refl _ _⟩

set_option maxRecDepth 100000 in
set_option maxHeartbeats 400000 in
theorem number_fits (n k : Nat) (w : World) (h1 : 1 ≤ k) (h8 : k ≤ 8) (hn : k ≤ 7 → (((n : Int) / 2 ^ (8 * k) != 0) = false)) :
    Calls Tryd.prog 83 #[.int .u64 n, .int .i64 k] w fun e w' => e = .returned (.tuple #[.string ⟨(be k n).toArray⟩, .int .i64 0]) ∧ Below w.heap.size w w' := by
  obtain ⟨i0, hi, hz0, hz1, hz2⟩ := info_parts info_u8
  have hmk : ∀ u : World, (Instr.makeSlice 67 (.int .i64 (k : Int)) (.int .i64 (k : Int))).run Tryd.prog u =
      .ok (.slice (some ⟨u.heap.size, 0, none⟩) k k) (u.alloc (.cells (u8s (fill k n 0)) 5)) := fun u => by
    have h := run_make (P := Tryd.prog) u 67 5 i0 (.int .u8 0) Tryd.underlying67 hi hz0 .i64 .i64 (k : Int) (k : Int) (by omega) (Int.le_refl _) (by rw [hz2]; omega) (by omega)
    rw [fill_zero, ← madeCells_u8]
    simpa [hz1, Value.cells] using h
  have e8 : ¬ k < 8 ∨ k ≤ 7 ∧ ((n : Int) / 2 ^ (8 * k) != 0) = false := by
    by_cases h : k < 8
    · exact .inr ⟨by omega, hn (by omega)⟩
    · exact .inl h
  clear hn hi hz0 hz1 hz2
  rcases e8 with h7 | ⟨h7, hn'⟩
  all_goals
    go_enter Tryd.func83, Tryd.ntmps83
    go_wp2
    go_loopw [29] (fun i wr => ∃ j : Nat, j ≤ k ∧ i = .int .i64 j ∧ Blk wr w.heap.size 5 (u8s (fill k n j)) ∧ Below w.heap.size w wr) (fun i _ => k - (intOf i).toNat)
    case atStart => exact ⟨0, by omega, rfl, Blk.new _ _ _, (Below.refl _ _).alloc (Nat.le_refl _) _⟩
    case round =>
      obtain ⟨j, hj, rfl, hb, hbelow⟩ := hrel
      by_cases hlt : j < k
      · have hcell : wr.cell? ⟨w.heap.size, k - 1 - j, none⟩ = some (.int .u8 ((fill k n j)[k - 1 - j]'(by rw [length_fill]; omega; omega)).toNat) := by
          rw [hb.cell, getElem?_u8s, List.getElem?_eq_getElem]
          rfl
        have hf := hb.frozen (k - 1 - j)
        go_wp2
        go_roundw
        case rel => exact ⟨j + 1, by omega, by go_num, by rw [byteVal, ← fill_set k n j hlt, ← u8s_set]; exact hb.set_ _ _, hbelow.setCell (Nat.le_refl _) _⟩
        case measure => simp [intOf]; omega
      · have hj' : j = k := by omega
        subst hj'
        have hcv := run_string_u8s (P := Tryd.prog) 67 5 9 Tryd.underlying67 Tryd.underlying5 Tryd.underlying9 w.heap.size j j _ (by rw [length_fill _ _ _ (Nat.le_refl _)]; exact Nat.le_refl _) _ hb
        rw [List.take_of_length_le (by rw [length_fill _ _ _ (Nat.le_refl _)]; exact Nat.le_refl _), fill_full] at hcv
        go_wp2
        go_ret2
        exact ⟨rfl, hbelow⟩
end Oct
end Go.Proofs.YtaepgceodcdnhaaDoor
/- The contracts of layer 1 (octet), on: a part's bytes, Join. -/
namespace Go.Proofs.YtaepgceodcdnhaaDoor
open Go.RowKit
namespace Oct

theorem number_any (n : Nat) (size : Int) (w : World) (hn : n < 256 ^ 8) :
    Calls Tryd.prog 83 #[.int .u64 n, .int .i64 size] w fun e w' => e = .returned (.tuple #[.string ⟨(numRes n size).1.toArray⟩, .int .i64 (numRes n size).2]) ∧ Below w.heap.size w w' := by
  by_cases h1 : size < 1 ∨ size > 8
  · have e : numRes n size = ([], 9) := by unfold numRes; rw [if_neg (by omega)]
    rw [e]; exact number_size n size w h1
  · obtain ⟨k, rfl⟩ : ∃ k : Nat, size = k := ⟨size.toNat, by omega⟩
    by_cases h2 : n < 256 ^ k
    · have e : numRes n k = (be k n, 0) := by unfold numRes; rw [if_pos ⟨by omega, by omega, by simpa using h2⟩]; rfl
      rw [e]; exact number_fits n k w (by omega) (by omega) (fun _ => (fits_iff n k).2 h2)
    · have h7 : k ≤ 7 := by
        rcases Nat.lt_or_ge k 8 with h | h
        · omega
        · have : k = 8 := by omega
          subst this; exact absurd hn h2
      have e : numRes n k = ([], 9) := by unfold numRes; rw [if_neg (by intro h; exact h2 (by simpa using h.2.2))]
      rw [e]
      refine number_great n k w (by omega) h7 ?_
      cases hb : ((n : Int) / 2 ^ (8 * k) != 0)
      · exact absurd ((fits_iff n k).1 hb) h2
      · rfl

set_option maxHeartbeats 400000 in
theorem bytes_num (n : Nat) (k : Int) (s : ByteArray) (w : World) (hn : Hid (n < 256 ^ 8)) :
    Calls Tryd.prog 65 #[.agg #[.int .i64 1, .int .i64 k, .int .u64 n, .string s]] w fun e' w' => e' = .returned (.tuple #[.string ⟨(numRes n k).1.toArray⟩, .int .i64 (numRes n k).2]) ∧ Below w.heap.size w w' := by
  go_enter Tryd.func65, Tryd.ntmps65
  go_wp2_with (go_at_call 83; refine (number_any _ _ _ hn.out).mono ?_; rintro e w1 ⟨rfl, hb⟩)
  go_ret2
  exact ⟨rfl, ((Below.refl _ _).alloc (Nat.le_refl _) _).trans (hb.mono (by simp))⟩
set_option maxRecDepth 100000 in
set_option maxHeartbeats 400000 in
theorem bytes_text (n : Int) (k : Int) (s : ByteArray) (w : World) (hs : s.size ≤ 255):
    Calls Tryd.prog 65 #[.agg #[.int .i64 2, .int .i64 k, .int .u64 n, .string s]] w fun e' w' => e' = .returned (.tuple #[.string ⟨(UInt8.ofNat s.size :: s.data.toList).toArray⟩, .int .i64 0]) ∧ Below w.heap.size w w' := by
  have hcv := fun o => run_string_one (P := Tryd.prog) 67 5 9 Tryd.underlying67 Tryd.underlying5 Tryd.underlying9 w s.size (by omega) o
  go_enter Tryd.func65, Tryd.ntmps65
  go_wp2
  go_ret2
  exact ⟨ret_si (bs_ext (by rw [bs_append]; simp)) rfl, ((Below.refl _ _).alloc (Nat.le_refl _) _).alloc (by simp) _⟩
theorem bytes_long (n : Int) (k : Int) (s : ByteArray) (w : World) (hs : ¬ (s.size ≤ 255)):
    Calls Tryd.prog 65 #[.agg #[.int .i64 2, .int .i64 k, .int .u64 n, .string s]] w fun e' w' => e' = .returned (.tuple #[.string ⟨#[]⟩, .int .i64 3]) ∧ Below w.heap.size w w' := by
  go_enter Tryd.func65, Tryd.ntmps65
  go_wp2
  go_ret2
  exact ⟨rfl, (Below.refl _ _).alloc (Nat.le_refl _) _⟩
theorem bytes_raw (n : Int) (k : Int) (s : ByteArray) (w : World) :
    Calls Tryd.prog 65 #[.agg #[.int .i64 3, .int .i64 k, .int .u64 n, .string s]] w fun e' w' => e' = .returned (.tuple #[.string s, .int .i64 0]) ∧ Below w.heap.size w w' := by
  go_enter Tryd.func65, Tryd.ntmps65
  go_wp2
  go_ret2
  exact ⟨rfl, (Below.refl _ _).alloc (Nat.le_refl _) _⟩
theorem bytes_none (d n : Int) (k : Int) (s : ByteArray) (w : World) (h1 : (d == 1) = false) (h2 : (d == 2) = false) (h3 : (d == 3) = false) :
    Calls Tryd.prog 65 #[.agg #[.int .i64 d, .int .i64 k, .int .u64 n, .string s]] w fun e' w' => e' = .returned (.tuple #[.string ⟨#[]⟩, .int .i64 1]) ∧ Below w.heap.size w w' := by
  go_enter Tryd.func65, Tryd.ntmps65
  go_wp2
  go_ret2
  exact ⟨rfl, (Below.refl _ _).alloc (Nat.le_refl _) _⟩
theorem bytes_any (p : Part) (w : World) (hn : p.n < 256 ^ 8) :
    Calls Tryd.prog 65 #[.agg #[.int .i64 p.kind, .int .i64 p.size, .int .u64 p.n, .string p.s]] w fun e' w' => e' = .returned (.tuple #[.string ⟨p.bytes.1.toArray⟩, .int .i64 p.bytes.2]) ∧ Below w.heap.size w w' := by
  obtain ⟨d, k, n, s⟩ := p
  show Calls Tryd.prog 65 #[.agg #[.int .i64 d, .int .i64 k, .int .u64 n, .string s]] w _
  by_cases h1 : d = 1
  · subst h1
    exact bytes_num n k s w hn
  by_cases h2 : d = 2
  · subst h2
    by_cases hs : s.size ≤ 255
    · have e : Part.bytes ⟨2, k, n, s⟩ = (UInt8.ofNat s.size :: s.data.toList, 0) := by
        show (if (2 : Int) = 1 then _ else if (2 : Int) = 2 then _ else _) = _
        rw [if_neg (by decide), if_pos rfl, if_neg (by show ¬ 255 < s.size; omega)]
      rw [e]; exact bytes_text n k s w hs
    · have e : Part.bytes ⟨2, k, n, s⟩ = ([], 3) := by
        show (if (2 : Int) = 1 then _ else if (2 : Int) = 2 then _ else _) = _
        rw [if_neg (by decide), if_pos rfl, if_pos (by show 255 < s.size; omega)]
      rw [e]; exact bytes_long n k s w hs
  by_cases h3 : d = 3
  · subst h3
    have e : Part.bytes ⟨3, k, n, s⟩ = (s.data.toList, 0) := by
      show (if (3 : Int) = 1 then _ else if (3 : Int) = 2 then _ else if (3 : Int) = 3 then _ else _) = _
      rw [if_neg (by decide), if_neg (by decide), if_pos rfl]
    rw [e, bs_self]; exact bytes_raw n k s w
  · have e : Part.bytes ⟨d, k, n, s⟩ = ([], 1) := by
      show (if d = 1 then _ else if d = 2 then _ else if d = 3 then _ else _) = _
      rw [if_neg h1, if_neg h2, if_neg h3]
    rw [e]; exact bytes_none d n k s w (beq_eq_false_iff_ne.2 h1) (beq_eq_false_iff_ne.2 h2) (beq_eq_false_iff_ne.2 h3)

/-- The parts lie in a slice. -/
def Parts (w : World) (A : Option Addr) (ps : List Part) : Prop := RowsAt w w.heap.size 4 A (ps.map Part.cells)

set_option maxRecDepth 100000 in
set_option maxHeartbeats 1000000 in
theorem Join_any (A : Option Addr) (c : Nat) (ps : List Part) (w : World) (hp : Parts w A ps) (hroom : room ps ≤ 140737488355328) (hn : ∀ p ∈ ps, p.n < 256 ^ 8) (hl : ps.length ≤ 9223372036854775807) :
    Calls Tryd.prog 31 #[.slice A ps.length c] w fun e w' => e = .returned (.tuple #[.string ⟨(joinRes ps []).1.toArray⟩, .int .i64 (joinRes ps []).2]) ∧ Below w.heap.size w w' := by
  have hP := Lib.hid hp
  have hN := Lib.hid hn
  have hR := Lib.hid hroom
  clear hp hn hroom
  go_enter Tryd.func31, Tryd.ntmps31
  go_wp2
  go_loopw [4, 11] (fun v i wr => ∃ (k : Nat) (acc : List UInt8), k ≤ ps.length ∧ i = .int .i64 k ∧ joinRes ps [] = joinRes (ps.drop k) acc ∧ acc.length ≤ room (ps.take k) ∧
      wr.ownsRow w.heap.size 5 1 v acc.length (acc.map fun b => Value.int .u8 b.toNat) ∧ Below w.heap.size w wr) (fun _ i _ => ps.length - (intOf i).toNat)
  case atStart => exact ⟨0, [], by omega, rfl, rfl, by simp, World.ownsRow_nil _ _ _ _, Below.refl _ _⟩
  case round =>
    obtain ⟨k, acc, hk, rfl, hj, hacc, hown, hbelow⟩ := hrel
    by_cases hlt : k < ps.length
    · obtain ⟨b, off, rfl, hb, hc⟩ := hP.out (by intro h; rw [List.map_eq_nil_iff] at h; subst h; simp at hlt)
      have hc := hc k ps[k].cells (by simp [hlt])
      have cell : ∀ j u, (ps[k].cells)[j]? = some u → wr.cell? ⟨b, off + k * 4 + j, none⟩ = some u := fun j u hu => (hbelow.cell hb).trans (hc j u hu)
      have c0 : wr.cell? ⟨b, off + k * 4, none⟩ = some (.int .i64 ps[k].kind) := cell 0 _ rfl
      have c1 := cell 1 _ rfl
      have c2 := cell 2 _ rfl
      have c3 := cell 3 _ rfl
      have HJ := Lib.hid hj
      have hpn := Lib.hid (hN.out ps[k] (by simp))
      obtain ⟨i0, hi, hz0, hz1, hz2⟩ := info_parts info_u8
      have hrk := room_take ps k hlt
      have hble := bytes_le ps[k]
      have hRk := Lib.hid (show acc.length + (⟨ps[k].bytes.1.toArray⟩ : ByteArray).size ≤ 140737488355328 by have := hR.out; show acc.length + ps[k].bytes.1.toArray.size ≤ _; rw [List.size_toArray]; omega)
      have hdrop : joinRes (ps.drop k) acc = if ps[k].bytes.2 ≠ 0 then ([], ps[k].bytes.2) else joinRes (ps.drop (k + 1)) (acc ++ ps[k].bytes.1) := by
        rw [List.drop_eq_getElem_cons hlt]; rfl
      clear cell hc hj
      by_cases he : ps[k].bytes.2 = 0
      · have he1 : (ps[k].bytes.2 != 0) = false := by rw [he]; rfl
        rw [if_neg (by simp [he])] at hdrop
        have HD := Lib.hid hdrop
        clear hdrop he
        go_wp2_with (first
          | (go_at_call 65; refine (bytes_any ps[k] _ hpn.out).mono ?_; rintro e w1 ⟨rfl, hb1⟩)
          | (at_builtin; refine Stop.out ?_))
        refine Stop.mk ?_
        have hown1 := ownsRow_below (hown.alloc (.cells #[.int .i64 ps[k].kind, .int .i64 ps[k].size, .int .u64 ps[k].n, .string ps[k].s] 109)) hb1 (Nat.le_refl _)
        have hbel1 := (hbelow.alloc hbelow.size _).trans (hb1.mono (by have := hbelow.size; simp; omega))
        refine Lib.wpList_append_own_string _ rfl (.tmp 23) (.tmp 24) 67 9 rfl w.heap.size 5 i0 Tryd.underlying67 Tryd.underlying9 hi hz0 hz1 hz2 u4 acc.length (acc.map fun b => Value.int .u8 (b.toNat : Int)) rfl hown1 ⟨ps[k].bytes.1.toArray⟩ rfl (by have := hRk.out; simp only [maxLen]; omega) hRk.out hbel1.size ?_
        intro v1 w2 hown2 hgr2 _
        rw [cells_of_strs, ← List.map_append] at hown2
        have hbel2 := hbel1.grown hgr2 hbel1.size (ownBlock_base hown1)
        have hsz : (⟨ps[k].bytes.1.toArray⟩ : ByteArray).size = ps[k].bytes.1.length := by show ps[k].bytes.1.toArray.size = _; simp
        have hsz' := Lib.hid hsz
        clear hsz hi hz0 hz1 hz2
        go_wp2
        go_roundw
        case rel => 
          refine ⟨k + 1, acc ++ ps[k].bytes.1, by omega, by go_num, by rw [HJ.out, HD.out], ?_, ?_, hbel2⟩
          · rw [List.length_append]; have := room_succ ps k hlt; omega
          · rw [List.length_append, ← hsz'.out]; exact hown2
        case measure => simp [intOf]; omega
      · have he1 : (ps[k].bytes.2 != 0) = true := by simp [he]
        rw [if_pos he] at hdrop
        have HD := Lib.hid hdrop
        clear hdrop he
        go_wp2_with (go_at_call 65; refine (bytes_any ps[k] _ hpn.out).mono ?_; rintro e w1 ⟨rfl, hb1⟩)
        go_ret2
        rw [HJ.out, HD.out]
        exact ⟨rfl, (hbelow.alloc hbelow.size _).trans (hb1.mono (by have := hbelow.size; simp; omega))⟩
    · obtain rfl : k = ps.length := by omega
      rw [List.drop_length] at hj
      have HJ := Lib.hid hj
      have hcv := run_string_own (P := Tryd.prog) 67 5 9 Tryd.underlying67 Tryd.underlying5 Tryd.underlying9 hown
      clear hj
      go_wp2
      go_ret2
      rw [HJ.out]
      exact ⟨rfl, hbelow⟩
end Oct
end Go.Proofs.YtaepgceodcdnhaaDoor
/- The document's number in bytes (talariaref01.Num). -/
namespace Go.Proofs.YtaepgceodcdnhaaDoor
open Go.RowKit
namespace Joins
open Oct

/-- a string of one byte that the call has just laid -/
theorem string_one {P : Program} (src e dst : TypeId) (hs : P.underlying src = some (.slice e)) (he : P.underlying e = some (.int .u8)) (hd : P.underlying dst = some .string) (w : World) (m : Nat) :
    (convert src dst (.slice (some ⟨w.heap.size, 0, none⟩) 1 1)).run P (w.alloc (.cells #[.int .u8 ((m : Int) % 256)] e)) = .ok (.string ⟨#[UInt8.ofNat m]⟩) (w.alloc (.cells #[.int .u8 ((m : Int) % 256)] e)) := by
  have h := run_string_u8s (P := P) src e dst hs he hd w.heap.size 1 1 [UInt8.ofNat m] (by simp) e (Blk.new w e (u8s [UInt8.ofNat m]))
  have e1 : u8s [UInt8.ofNat m] = #[Value.int .u8 ((m : Int) % 256)] := by
    have : (UInt8.ofNat m).toNat = m % 256 := by rw [UInt8.toNat_ofNat']
    simp [u8s, this]
  rw [e1] at h
  simpa using h

theorem div_step (n j : Nat) : n / 256 ^ j / 256 = n / 256 ^ (j + 1) := by rw [Nat.div_div_eq_div_mul, Nat.pow_succ]

set_option maxRecDepth 100000 in
set_option maxHeartbeats 1000000 in
theorem RNum (n k : Nat) (w : World) (hk : k ≤ 8) (hn : n < 18446744073709551616) :
    Calls Tryd.prog 66 #[.int .u64 n, .int .i64 k] w fun e w' => e = .returned (.string ⟨(be k n).toArray⟩) ∧ Below w.heap.size w w' := by
  go_enter Tryd.func66, Tryd.ntmps66
  go_wp2
  go_loopg [0, 5, 6] k (fun gk s0 s5 s6 wr => ∃ j m : Nat, j ≤ k ∧ gk = k - j ∧ Hid (m = n / 256 ^ j) ∧ m < 18446744073709551616 ∧ s0 = .int .u64 m ∧ s5 = .string ⟨(be j n).toArray⟩ ∧ s6 = .int .i64 j ∧ Below w.heap.size w wr)
  case atStart => exact ⟨0, n, by omega, by omega, Lib.hid (by simp), hn, rfl, rfl, rfl, Below.refl _ _⟩
  case round =>
    obtain ⟨j, m, hj, rfl, hm, hm8, rfl, rfl, rfl, hB⟩ := hrel
    by_cases hlt : j < k
    · have hcv := string_one (P := Tryd.prog) 67 5 9 Tryd.underlying67 Tryd.underlying5 Tryd.underlying9 wr m
      have HB := Lib.hid (bl_alloc hB (.cells #[.int .u8 ((m : Int) % 256)] 5))
      have hq := Lib.hid (show (m : Int) / 256 = ((m / 256 : Nat) : Int) by omega)
      have hbe := Lib.hid (show (⟨#[UInt8.ofNat m]⟩ : ByteArray) ++ ⟨(be j n).toArray⟩ = ⟨(be (j + 1) n).toArray⟩ by
        rw [be_succ, show (⟨#[UInt8.ofNat m]⟩ : ByteArray) = ⟨[UInt8.ofNat m].toArray⟩ from rfl, bs_cat, hm.out]; rfl)
      have z1 : (⟨#[UInt8.ofNat m]⟩ : ByteArray).size = 1 := rfl
      have z2 : (⟨(be j n).toArray⟩ : ByteArray).size = j := by rw [bs_len, length_be]
      clear hB
      go_wp2_with fail
      go_roundg (k - (j + 1))
      case measure => omega
      case rel => exact ⟨j + 1, m / 256, by omega, rfl, Lib.hid (by rw [hm.out, div_step]), by omega, by rw [hq.out], by rw [hbe.out], by go_num, HB.out⟩
    · obtain rfl : j = k := by omega
      have HB := Lib.hid hB
      clear hB
      go_wp2_with fail
      go_ret
      exact ⟨rfl, HB.out⟩

theorem RNum1 (n : Nat) (w : World) (hn : n < 18446744073709551616) :
    Calls Tryd.prog 66 #[.int .u64 (IntKind.u64.wrap (n : Int)), .int .i64 1] w fun e w' => e = .returned (.string ⟨(be 1 n).toArray⟩) ∧ Below w.heap.size w w' := by
  rw [IntKind.wrap_u64, show (n : Int) % 18446744073709551616 = n from by omega]
  exact RNum n 1 w (by decide) hn

end Joins
end Go.Proofs.YtaepgceodcdnhaaDoor
/- Trees: what the functions' proofs share. -/
namespace Go.Proofs.YtaepgceodcdnhaaDoor.Vm
open Go Go.RowKit
def u8 (n : Int) : T := .v (.int .u8 n)
def u32 (n : Int) : T := .v (.int .u32 n)
def u64 (n : Int) : T := .v (.int .u64 n)
def int (n : Int) : T := .v (.int .i64 n)
def bool (b : Bool) : T := .v (.bool b)
def none_ : Glb := fun _ => none
def frame (n : Nat) (l : List (Nat × T)) : List T := (List.range n).map fun i => (l.lookup i).getD .und
theorem wrap_i64 {x : Int} (h0 : -9223372036854775808 ≤ x) (h1 : x ≤ 9223372036854775807) : IntKind.wrap .i64 x = x := IntWalk.i64_in _ (by omega)
theorem mid_get {α : Type} (d r : List α) (x : α) : (d ++ x :: r)[d.length]? = some x := by simp
/-- a call that only tells something -/
def told (r : T) (sel : List Nat) (ob : Obs) : Hint := .call false Unit (fun _ => True) sel false (fun _ => r) (fun _ => ob) (fun _ => none_)
theorem told_post {r r' : T} {sel : List Nat} {ob ob' : Obs} {gl' : Glb} (hr : r' = r) (hl : sel.length ≤ ob.length := by exact Nat.le_of_ble_eq_true rfl) (ho : ob' = ob := by rfl) : callPost (.call false Unit (fun _ => True) sel false (fun _ => r) (fun _ => ob) (fun _ => none_)) r' ob' gl' :=
  ⟨(), trivial, hr, ho, ho ▸ hl, fun e => by cases e⟩
/-- a call that tells something, beside objects of all kinds -/
def toldG (r : T) (sel : List Nat) (ob : Obs) (gl : Glb) : Hint := .call false Unit (fun _ => True) sel true (fun _ => r) (fun _ => ob) (fun _ => gl)
theorem toldG_post {r r' : T} {sel : List Nat} {ob ob' : Obs} {gl gl' : Glb} (hr : r' = r) (hl : sel.length ≤ ob.length := by exact Nat.le_of_ble_eq_true rfl) (ho : ob' = ob := by rfl) (hg : gl' = gl := by rfl) : callPost (.call false Unit (fun _ => True) sel true (fun _ => r) (fun _ => ob) (fun _ => gl)) r' ob' gl' :=
  ⟨(), trivial, hr, ho, ho ▸ hl, fun _ => hg⟩
end Go.Proofs.YtaepgceodcdnhaaDoor.Vm
/- Trees: contracts of the other style (Calls), told of trees: octet.Join, the document's number. -/
namespace Go.Proofs.YtaepgceodcdnhaaDoor.Vm
open Go Go.RowKit
theorem TCalls.old {P : Program} {f : FuncId} {ts : List T} {r : T} (can : CanCall P f)
    (h : ∀ (M : Pm) (w : World) (xs : Array Value), HRel M [] none_ w → RelL M ts xs.toList → ∃ x, Rel M r x ∧ Calls P f xs w fun e w' => e = .returned x ∧ Below w.heap.size w w')
    (Q : T → Obs → Glb → Prop) (hQ : Q r [] none_) : TCalls P f ts [] none_ Q := ⟨can, fun M w xs hp hx => by
  obtain ⟨x, hr, hc⟩ := h M w xs hp hx
  refine hc.mono fun e w' ⟨he, hb⟩ => ⟨x, r, M, [], _, he, hr, hp.still fun b hb' => hb.block b hb', ?_, hQ⟩
  exact ⟨Pm.le_refl _, fun b o v hv => .inl hv, Fr.of_below hb, fun b hb => .inl hb⟩⟩
def str (l : List UInt8) : T := .v (.string ⟨l.toArray⟩)
namespace X1
open Oct (Part joinRes be room)
def partC (p : Part) : List T := [int p.kind, int p.size, u64 p.n, .v (.string p.s)]
def parts (ps : List Part) : List T := ps.map fun p => .agg (partC p)
theorem parts_len (ps : List Part) : (parts ps).length = ps.length := by simp [parts]
theorem parts_of {M : Pm} {ob : Obs} {gl : Glb} {w : World} (hp : HRel M ob gl w) {ps : List Part} {v : Value} (r : Rel M (.sl 4 (parts ps)) v) : ∃ A cap, v = .slice A ps.length cap ∧ Oct.Parts w A ps := by
  simp only [Rel, parts_len] at r
  obtain ⟨A, cap, e, ⟨d1, d2, d3, d4⟩, hl, hre⟩ := r
  refine ⟨A, cap, e, fun hne => ?_⟩
  have hn : 0 < ps.length := List.length_pos_iff.2 (fun e => hne (by rw [e]; rfl))
  cases A with
  | none => have := (d3 rfl).1; omega
  | some ad =>
    have h4 := d4 ad rfl (by omega)
    obtain ⟨b, o, sp⟩ := ad
    simp only at h4
    subst h4
    have hrel := hre b o rfl
    have key : ∀ (k : Nat) (row : List Value), (ps.map Part.cells)[k]? = some row → ∀ (j : Nat) (u : Value), row[j]? = some u → w.cell? ⟨b, o + k * 4 + j, none⟩ = some u := fun k row hr j u hu => by
      rw [List.getElem?_map, Option.map_eq_some_iff] at hr
      obtain ⟨p, hp1, rfl⟩ := hr
      have he : (parts ps)[k]? = some (.agg (partC p)) := by rw [parts, List.getElem?_map, hp1]; rfl
      have h5 := hrel.el he
      have ht : (partC p)[j]? = some (.v u) := by
        have : partC p = (Part.cells p).map T.v := rfl
        rw [this, List.getElem?_map, hu]; rfl
      obtain ⟨u', h6, h7⟩ := RelA.get (ts := partC p) h5 ht
      simp only [Rel] at h7
      subst h7
      exact (hp.promise _ _ _ h6).1
    refine ⟨b, o, rfl, ?_, key⟩
    obtain ⟨p, hp0⟩ : ∃ p, ps[0]? = some p := ⟨ps[0], List.getElem?_eq_getElem hn⟩
    have := key 0 (Part.cells p) (by rw [List.getElem?_map, hp0]; rfl) 0 (.int .i64 p.kind) rfl
    have := World.block_lt_of_cell? w _ this
    exact this
theorem join_any (ps : List Part) (hroom : room ps ≤ 140737488355328) (hn : ∀ p ∈ ps, p.n < 18446744073709551616) (hl : ps.length ≤ 9223372036854775807) (Q : T → Obs → Glb → Prop)
    (hQ : ∀ x, x = .tup [str (joinRes ps []).1, int (joinRes ps []).2] → Q x [] none_) : TCalls Tryd.prog 31 [.sl 4 (parts ps)] [] none_ Q := by
  refine TCalls.old (CanCall.of Tryd.func31 rfl (by decide)) (fun M w xs hp hx => ?_) Q (hQ _ rfl)
  simp only [RelL] at hx
  obtain ⟨v, us, e, h1, rfl⟩ := hx
  obtain ⟨A, cap, rfl, hP⟩ := parts_of hp h1
  have e2 : xs = #[.slice A ps.length cap] := Array.toList_inj.1 e
  subst e2
  refine ⟨_, ?_, Oct.Join_any A cap ps w hP hroom hn hl⟩
  simp only [Rel, str, int]
  exact ⟨_, rfl, by simp only [RelL]; exact ⟨_, _, rfl, by simp only [Rel], _, _, rfl, by simp only [Rel], rfl⟩⟩
theorem rnum_any (n k : Nat) (hk : k ≤ 8) (hn : n < 18446744073709551616) (Q : T → Obs → Glb → Prop) (hQ : ∀ x, x = str (be k n) → Q x [] none_) : TCalls Tryd.prog 66 [u64 n, int k] [] none_ Q := by
  refine TCalls.old (CanCall.of Tryd.func66 rfl (by decide)) (fun M w xs hp hx => ?_) Q (hQ _ rfl)
  simp only [RelL, u64, int, Rel] at hx
  obtain ⟨v, us, e, rfl, v2, us2, rfl, rfl, rfl⟩ := hx
  have e2 : xs = #[.int .u64 n, .int .i64 k] := Array.toList_inj.1 e
  subst e2
  exact ⟨_, by simp only [Rel, str], Joins.RNum n k w hk hn⟩
end X1
end Go.Proofs.YtaepgceodcdnhaaDoor.Vm
/- Rows of an array that may be written. No program is named here. -/
namespace Go.Proofs.YtaepgceodcdnhaaDoor.Vm
open Go Go.RowKit
namespace Row
section
variable {α : Type} {C : α → List T} {k : Nat}
def aggs (C : α → List T) (l : List α) : List T := l.map fun x => .agg (C x)
def flat (C : α → List T) (l : List α) : List T := l.flatMap C
theorem aggs_len (l : List α) : (aggs C l).length = l.length := by simp [aggs]
theorem aggs_at {l : List α} {i : Nat} {x : α} (h : l[i]? = some x) : (aggs C l)[i]? = some (.agg (C x)) := by rw [aggs, List.getElem?_map, h]; rfl
theorem aggs_snoc (l : List α) (x : α) : aggs C (l ++ [x]) = aggs C l ++ [.agg (C x)] := by simp [aggs]
theorem aggs_flat (l : List α) : (aggs C l).flatMap elCells = flat C l := by simp [aggs, flat, List.flatMap_map, elCells]
theorem flat_app (l m : List α) : flat C (l ++ m) = flat C l ++ flat C m := by simp [flat]
theorem flat_cons (x : α) (l : List α) : flat C (x :: l) = C x ++ flat C l := by simp [flat]
theorem flat_len (hk : ∀ x, (C x).length = k) : ∀ l : List α, (flat C l).length = l.length * k
  | [] => by simp [flat]
  | x :: l => by rw [flat_cons, List.length_append, hk, flat_len hk l, List.length_cons, Nat.add_mul]; omega
theorem takes (hk : ∀ x, (C x).length = k) (l : List α) (R : List T) : ((flat C l ++ R).drop 0).take (l.length * k) = flat C l := by
  rw [List.drop_zero, List.take_left' (flat_len hk l)]
theorem one (h : ∀ x, (C x).all T.one = true) : ∀ l : List α, (flat C l).all T.one = true
  | [] => rfl
  | x :: l => by rw [flat_cons, List.all_append, h x, one h l]; rfl
theorem chunk_flat (hk : ∀ x, (C x).length = k) : ∀ l : List α, chunk true k l.length (flat C l) = aggs C l
  | [] => rfl
  | x :: l => by
    rw [flat_cons]
    show (if true then T.agg ((C x ++ flat C l).take k) else _) :: chunk true k l.length ((C x ++ flat C l).drop k) = _
    rw [if_pos rfl, List.take_left' (hk x), List.drop_left' (hk x), chunk_flat hk l]; rfl
theorem split_at {l : List α} {i : Nat} (hi : i < l.length) : l = l.take i ++ l[i] :: l.drop (i + 1) := by
  rw [← List.drop_eq_getElem_cons hi, List.take_append_drop]
/-- a row that is set -/
theorem set_row (hk : ∀ x, (C x).length = k) (l : List α) (i : Nat) (hi : i < l.length) (x : α) (R : List T) : (flat C l ++ R).take (i * k) ++ C x ++ (flat C l ++ R).drop (i * k + k) = flat C (l.set i x) ++ R := by
  have e := split_at hi
  have h1 : flat C l = flat C (l.take i) ++ (C l[i] ++ flat C (l.drop (i + 1))) := by
    conv => lhs; rw [e]
    rw [flat_app, flat_cons]
  have h2 : l.set i x = l.take i ++ x :: l.drop (i + 1) := List.set_eq_take_append_cons_drop.trans (if_pos hi)
  have hl : (flat C (l.take i)).length = i * k := by rw [flat_len hk, List.length_take, Nat.min_eq_left (by omega)]
  have hl2 : (flat C (l.take i) ++ C l[i]).length = i * k + k := by rw [List.length_append, hl, hk]
  have h3 : flat C l ++ R = (flat C (l.take i) ++ C l[i]) ++ (flat C (l.drop (i + 1)) ++ R) := by rw [h1]; simp [List.append_assoc]
  have h4 : flat C l ++ R = flat C (l.take i) ++ (C l[i] ++ (flat C (l.drop (i + 1)) ++ R)) := by rw [h1]; simp [List.append_assoc]
  have h5 : (flat C l ++ R).take (i * k) = flat C (l.take i) := by rw [h4, List.take_left' hl]
  have h6 : (flat C l ++ R).drop (i * k + k) = flat C (l.drop (i + 1)) ++ R := by rw [h3, List.drop_left' hl2]
  rw [h5, h6, h2, flat_app, flat_cons]
  simp [List.append_assoc]
/-- the cells from a row on -/
theorem drop_row (hk : ∀ x, (C x).length = k) (l : List α) (i : Nat) (hi : i < l.length) (R : List T) : (flat C l ++ R).drop (i * k) = C l[i] ++ (flat C (l.drop (i + 1)) ++ R) := by
  have e := split_at hi
  have h1 : flat C l = flat C (l.take i) ++ (C l[i] ++ flat C (l.drop (i + 1))) := by
    conv => lhs; rw [e]
    rw [flat_app, flat_cons]
  have hl : (flat C (l.take i)).length = i * k := by rw [flat_len hk, List.length_take, Nat.min_eq_left (by omega)]
  rw [h1, List.append_assoc, List.drop_left' hl, List.append_assoc]
theorem fit (hk : ∀ x, (C x).length = k) (l : List α) (i : Nat) (hi : i < l.length) (R : List T) : i * k + k ≤ (flat C l ++ R).length := by
  rw [List.length_append, flat_len hk]
  have : (i + 1) * k ≤ l.length * k := Nat.mul_le_mul_right k hi
  rw [Nat.add_mul] at this
  omega
/-- an array becomes a slice: what `ImpM.slot` asks -/
theorem fz_len (hk : ∀ x, (C x).length = k) {cs R : List T} {l : List α} {n : Nat} (h : cs = flat C l ++ R) (hn : n = l.length) : 0 + n * k ≤ cs.length := by rw [h, hn, List.length_append, flat_len hk]; omega
theorem fz_one (hk : ∀ x, (C x).length = k) (h1 : ∀ x, (C x).all T.one = true) {cs R : List T} {l : List α} {n : Nat} (h : cs = flat C l ++ R) (hn : n = l.length) : ((cs.drop 0).take (n * k)).all T.one = true := by rw [h, hn, takes hk]; exact one h1 l
theorem fz_es (hk : ∀ x, (C x).length = k) {cs R : List T} {l : List α} {n : Nat} (h : cs = flat C l ++ R) (hn : n = l.length) : chunk true k n ((cs.drop 0).take (n * k)) = aggs C l := by rw [h, hn, takes hk]; exact chunk_flat hk l
end
end Row
end Go.Proofs.YtaepgceodcdnhaaDoor.Vm
/- Sums that find what was turned (crc): plain mathematics. No program is named here. -/
namespace Go.Proofs.YtaepgceodcdnhaaDoor.Crc
open Go
def poly : Nat := 3988292384
def st (r : Nat) : Nat := if r % 2 = 1 then (r / 2) ^^^ poly else r / 2
def stN : Nat → Nat → Nat
  | 0, r => r
  | k + 1, r => st (stN k r)
def step (r c : Nat) : Nat := stN 8 (r ^^^ c)
def sumN (l : List UInt8) (r : Nat) : Nat := l.foldl (fun r c => step r c.toNat) r
def crc (l : List UInt8) : Nat := 4294967295 - sumN l 4294967295
def le4 (n : Nat) : List UInt8 := [UInt8.ofNat (n / 1), UInt8.ofNat (n / 256), UInt8.ofNat (n / 65536), UInt8.ofNat (n / 16777216)]
def sealL (l : List UInt8) : List UInt8 := l ++ le4 (crc l)
theorem sealL_len (l : List UInt8) : (sealL l).length = l.length + 4 := by simp [sealL, le4]
theorem st_lt {r : Nat} (h : r < 4294967296) : st r < 4294967296 := by
  unfold st
  split
  · exact Nat.xor_lt_two_pow (n := 32) (by omega) (by decide)
  · omega
theorem stN_lt {r : Nat} (h : r < 4294967296) : ∀ k, stN k r < 4294967296
  | 0 => h
  | k + 1 => st_lt (stN_lt h k)
theorem step_lt {r c : Nat} (h : r < 4294967296) (hc : c < 256) : step r c < 4294967296 :=
  stN_lt (Nat.xor_lt_two_pow (n := 32) (by omega) (by omega)) 8
theorem sumN_lt : ∀ (l : List UInt8) {r : Nat}, r < 4294967296 → sumN l r < 4294967296
  | [], _, h => h
  | c :: l, r, h => by
    show sumN l (step r c.toNat) < _
    exact sumN_lt l (step_lt h (by have := c.toNat_lt; omega))
theorem sumN_snoc (l : List UInt8) (c : UInt8) (r : Nat) : sumN (l ++ [c]) r = step (sumN l r) c.toNat := by simp [sumN]
theorem crc_lt (l : List UInt8) : crc l < 4294967296 := by unfold crc; omega
/-! bit by bit -/
def rbit (c i : Nat) : Nat := c / 2 ^ i % 2
def rst (r b : Nat) : Nat := if r % 2 ≠ b then (r / 2) ^^^ poly else r / 2
def rs (r c : Nat) : Nat → Nat
  | 0 => r
  | k + 1 => rst (rs r c k) (rbit c k)
theorem xor_half (a b : Nat) : (a ^^^ b) / 2 = a / 2 ^^^ b / 2 := by
  have := Nat.shiftRight_xor_distrib (a := a) (b := b) (i := 1)
  simpa [Nat.shiftRight_eq_div_pow] using this
theorem xor_low (a b : Nat) : (a ^^^ b) % 2 = 1 ↔ a % 2 ≠ b % 2 := by
  rw [Nat.xor_mod_two_eq_one]
  omega
theorem st_xor (a b : Nat) : st (a ^^^ b) = rst a (b % 2) ^^^ (b / 2) := by
  unfold st rst
  by_cases h : a % 2 ≠ b % 2
  · rw [if_pos ((xor_low a b).2 h), if_pos h, xor_half, Nat.xor_assoc, Nat.xor_comm (b / 2) poly, ← Nat.xor_assoc]
  · rw [if_neg (fun e => h ((xor_low a b).1 e)), if_neg h, xor_half]
theorem stN_xor (r c : Nat) : ∀ k, stN k (r ^^^ c) = rs r c k ^^^ (c / 2 ^ k)
  | 0 => by simp [stN, rs]
  | k + 1 => by
    show st (stN k (r ^^^ c)) = rst (rs r c k) (rbit c k) ^^^ (c / 2 ^ (k + 1))
    rw [stN_xor r c k, st_xor, Nat.div_div_eq_div_mul, ← Nat.pow_succ]; rfl
theorem step_eq (r c : Nat) (hc : c < 256) : step r c = rs r c 8 := by
  unfold step
  rw [stN_xor, show c / 2 ^ 8 = 0 by omega, Nat.xor_zero]
theorem rst_lt {r b : Nat} (h : r < 4294967296) : rst r b < 4294967296 := by
  unfold rst
  split
  · exact Nat.xor_lt_two_pow (n := 32) (by omega) (by decide)
  · omega
def bitL (l : List UInt8) (i : Nat) : Nat := rbit (l.getD (i / 8) 0).toNat (i % 8)
def sumB (l : List UInt8) : Nat → Nat
  | 0 => 4294967295
  | i + 1 => rst (sumB l i) (bitL l i)
theorem sumB_lt (l : List UInt8) : ∀ i, sumB l i < 4294967296
  | 0 => by show 4294967295 < 4294967296; decide
  | i + 1 => rst_lt (sumB_lt l i)
theorem sumB_byte (l : List UInt8) (n : Nat) : ∀ j, j ≤ 8 → sumB l (8 * n + j) = rs (sumB l (8 * n)) (l.getD n 0).toNat j
  | 0, _ => rfl
  | j + 1, h => by
    show rst (sumB l (8 * n + j)) (rbit (l.getD ((8 * n + j) / 8) 0).toNat ((8 * n + j) % 8)) = rst (rs (sumB l (8 * n)) (l.getD n 0).toNat j) (rbit (l.getD n 0).toNat j)
    rw [sumB_byte l n j (by omega), show (8 * n + j) / 8 = n by omega, show (8 * n + j) % 8 = j by omega]
theorem sumB_eq (l : List UInt8) : ∀ n, n ≤ l.length → sumB l (8 * n) = sumN (l.take n) 4294967295
  | 0, _ => rfl
  | n + 1, h => by
    have hn : n < l.length := by omega
    rw [show 8 * (n + 1) = 8 * n + 8 by omega, sumB_byte l n 8 (by omega), sumB_eq l n (by omega), List.take_succ_eq_append_getElem hn, sumN_snoc, step_eq _ _ (by have := (l[n]).toNat_lt; omega)]
    rw [List.getD_eq_getElem?_getD, List.getElem?_eq_getElem hn]; rfl
theorem sumB_all (l : List UInt8) : 4294967295 - sumB l (8 * l.length) = crc l := by rw [sumB_eq l _ (Nat.le_refl _), List.take_length]; rfl
/-! numbers as the machine has them -/
theorem wrap32 {x : Nat} (h : x < 4294967296) : IntKind.wrap .u32 (x : Int) = x := IntWalk.u32_in _ (by omega)
theorem xor32 {x y : Nat} (hx : x < 4294967296) (hy : y < 4294967296) : IntKind.wrap .u32 ((BitVec.ofInt 32 (x : Int) ^^^ BitVec.ofInt 32 (y : Int)).toNat : Int) = ((x ^^^ y : Nat) : Int) := by
  have e : (BitVec.ofInt 32 (x : Int) ^^^ BitVec.ofInt 32 (y : Int)).toNat = x ^^^ y := by
    rw [BitVec.toNat_xor, BitVec.ofInt_natCast, BitVec.ofInt_natCast, BitVec.toNat_ofNat, BitVec.toNat_ofNat, Nat.mod_eq_of_lt hx, Nat.mod_eq_of_lt hy]
  rw [e]
  exact wrap32 (Nat.xor_lt_two_pow (n := 32) hx hy)
theorem and32 {x : Nat} (hx : x < 4294967296) : IntKind.wrap .u32 ((BitVec.ofInt 32 (x : Int) &&& BitVec.ofInt 32 1).toNat : Int) = ((x % 2 : Nat) : Int) := by
  have e : (BitVec.ofInt 32 (x : Int) &&& BitVec.ofInt 32 1).toNat = x % 2 := by
    rw [show (1 : Int) = ((1 : Nat) : Int) from rfl]
    rw [BitVec.toNat_and, BitVec.ofInt_natCast, BitVec.ofInt_natCast, BitVec.toNat_ofNat, BitVec.toNat_ofNat, Nat.mod_eq_of_lt hx, Nat.mod_eq_of_lt (by decide), Nat.and_one_is_mod]
  rw [e]
  exact wrap32 (by omega)
theorem not32 {x : Nat} (hx : x < 4294967296) : IntKind.wrap .u32 ((BitVec.ofInt 32 4294967295 ^^^ BitVec.ofInt 32 (x : Int)).toNat : Int) = ((4294967295 - x : Nat) : Int) := by
  rw [show (4294967295 : Int) = ((4294967295 : Nat) : Int) from rfl, xor32 (by decide) hx]
  congr 1
  have h : (BitVec.allOnes 32 ^^^ BitVec.ofNat 32 x).toNat = 4294967295 - x := by
    rw [BitVec.xor_comm, BitVec.xor_allOnes, BitVec.toNat_not, BitVec.toNat_ofNat, Nat.mod_eq_of_lt hx]
  rw [BitVec.toNat_xor, BitVec.toNat_ofNat, Nat.mod_eq_of_lt hx] at h
  exact h
theorem shr1 (x : Nat) : (x : Int).fdiv (2 ^ min (Int.toNat 1) 32) = ((x / 2 : Nat) : Int) := by
  show (x : Int).fdiv 2 = _
  rw [Int.fdiv_eq_ediv_of_nonneg _ (by decide)]; omega
theorem xorP {x : Nat} (h : x < 4294967296) : IntKind.wrap .u32 ((BitVec.ofInt 32 (x : Int) ^^^ BitVec.ofInt 32 3988292384).toNat : Int) = ((x ^^^ poly : Nat) : Int) := xor32 (y := poly) h (by decide)
theorem st_one {r : Nat} (h : r % 2 = 1) : st r = r / 2 ^^^ poly := by unfold st; rw [if_pos h]
theorem st_zero {r : Nat} (h : ¬ r % 2 = 1) : st r = r / 2 := by unfold st; rw [if_neg h]
end Go.Proofs.YtaepgceodcdnhaaDoor.Crc
/- Plain mathematics of layer 1: what a reader takes. No program is named here. -/
namespace Go.Proofs.YtaepgceodcdnhaaDoor
namespace Oct
/-- the number of some bytes, the largest first -/
def getN (l : List UInt8) : Nat := l.foldl (fun n c => 256 * n + c.toNat) 0

/-- what 'take' does: what it answers, what is left, what is wrong -/
def takeL (l : List UInt8) (bad : Int) (frm n : Int) : List UInt8 × List UInt8 × Int :=
  if bad ≠ 0 then ([], l, bad) else if n < 0 then ([], l, 4) else if n > l.length - frm then ([], l, 2)
  else ((l.take (frm + n).toNat).drop frm.toNat, l.drop (frm + n).toNat, 0)

theorem takeL_len (l : List UInt8) (bad : Int) (n : Int) (h0 : 0 ≤ n) (h8 : n ≤ 8) : (takeL l bad 0 n).1.length ≤ 8 := by
  unfold takeL
  split
  · simp
  · split
    · simp
    · split
      · simp
      · simp; omega
theorem getN_lt (l : List UInt8) : getN l < 256 ^ l.length := by
  unfold getN
  suffices h : ∀ (l : List UInt8) (n k : Nat), n < 256 ^ k → l.foldl (fun n c => 256 * n + c.toNat) n < 256 ^ (k + l.length) by
    have := h l 0 0 (by simp)
    simpa using this
  intro l
  induction l with
  | nil => intro n k h; simpa using h
  | cons c l ih =>
    intro n k h
    have := ih (256 * n + c.toNat) (k + 1) (by
      have hc : c.toNat < 256 := c.toNat_lt
      rw [Nat.pow_succ]; omega)
    simpa [Nat.add_assoc, Nat.add_comm 1] using this
theorem getN_snoc (l : List UInt8) (c : UInt8) : getN (l ++ [c]) = 256 * getN l + c.toNat := by simp [getN]
theorem pow_le8 (k : Nat) (h : k ≤ 8) : 256 ^ k ≤ 18446744073709551616 := Nat.le_trans (Nat.pow_le_pow_right (by omega) h) (Nat.le_of_eq rfl)
def endL (l : List UInt8) (bad : Int) : Int := if bad ≠ 0 then bad else if l ≠ [] then 3 else 0
theorem getN_be : ∀ (k n : Nat), n < 256 ^ k → getN (be k n) = n
  | 0, n, h => by simp at h; simp [be, getN, h]
  | k + 1, n, h => by
    show getN (be k (n / 256) ++ [UInt8.ofNat n]) = n
    rw [getN_snoc, getN_be k (n / 256) (by rw [Nat.pow_succ] at h; omega), UInt8.toNat_ofNat']
    omega
end Oct
end Go.Proofs.YtaepgceodcdnhaaDoor
/- Sums by the engine: crc.step, Sum, Seal; the document's Bit, Sum, Seal. -/
namespace Go.Proofs.YtaepgceodcdnhaaDoor.Vm
open Go Go.RowKit
set_option maxRecDepth 100000
/-- bytes, as elements -/
def bL (l : List UInt8) : List T := l.map fun c => T.v (.int .u8 c.toNat)
theorem bytesL_mk (l : List UInt8) : bytesL ⟨l.toArray⟩ = bL l := rfl
theorem bL_len (l : List UInt8) : (bL l).length = l.length := by simp [bL]
theorem bL_app (a b : List UInt8) : bL (a ++ b) = bL a ++ bL b := by simp [bL]
theorem str_cat (a b : List UInt8) : (Value.string (⟨a.toArray⟩ ++ ⟨b.toArray⟩)) = Value.string ⟨(a ++ b).toArray⟩ := by rw [bs_cat]
theorem str_at (l : List UInt8) (i : Nat) (h : i < l.length) : ((⟨l.toArray⟩ : ByteArray)[((i : Int)).toNat]?).map (fun c : UInt8 => T.v (.int .u8 c.toNat)) = some (u8 (l[i]).toNat) := by
  rw [Int.toNat_natCast]
  have hs : i < (⟨l.toArray⟩ : ByteArray).size := by rw [bs_len]; exact h
  rw [getElem?_pos (⟨l.toArray⟩ : ByteArray) i hs]
  rfl
theorem cat_ok (a b : List UInt8) (h : a.length + b.length ≤ 9223372036854775807) : (⟨a.toArray⟩ : ByteArray).size + (⟨b.toArray⟩ : ByteArray).size ≤ 9223372036854775807 := by rw [bs_len, bs_len]; exact h
namespace X2
open Crc
theorem xorT {x y : Nat} (hx : x < 4294967296) (hy : y < 4294967296) : T.v (.int .u32 (IntKind.wrap .u32 ((BitVec.ofInt 32 (x : Int) ^^^ BitVec.ofInt 32 (y : Int)).toNat : Int))) = u32 ((x ^^^ y : Nat) : Int) := by rw [xor32 hx hy]; rfl
theorem andT {x : Nat} (hx : x < 4294967296) : T.v (.int .u32 (IntKind.wrap .u32 ((BitVec.ofInt 32 (x : Int) &&& BitVec.ofInt 32 1).toNat : Int))) = u32 ((x % 2 : Nat) : Int) := by rw [and32 hx]; rfl
theorem notT {x : Nat} (hx : x < 4294967296) : T.v (.int .u32 (IntKind.wrap .u32 ((BitVec.ofInt 32 4294967295 ^^^ BitVec.ofInt 32 (x : Int)).toNat : Int))) = u32 ((4294967295 - x : Nat) : Int) := by rw [not32 hx]; rfl
theorem shrT (x : Nat) : T.v (.int .u32 ((x : Int).fdiv (2 ^ min (Int.toNat 1) 32))) = u32 ((x / 2 : Nat) : Int) := by rw [shr1]; rfl
theorem step_loop (Γ : Ctx) (r0 : Nat) (h0 : r0 < 4294967296) (Q : T → Obs → Glb → Prop) (hQ : ∀ x, x = u32 (stN 8 r0) → Q x [] none_) : ∀ (f j : Nat), j + f = 8 →
    TWk Tryd.prog Γ (fin Tryd.prog Tryd.f79 [] Q) [.code (sub (bd Tryd.f79) [1, 1, 0, 1, 0]), .blk 0, .code (sub (bd Tryd.f79) [1, 1, 1])] ⟨frame 21 [(0, u32 (stN j r0)), (9, int j)], [], none_⟩ := by
  intro f
  induction f with
  | zero =>
    intro j hj
    obtain rfl : j = 8 := by omega
    refine run_sound (⟨fun _ _ => .no, [((2, 3), ([0, 9], 0))], fun _ => none⟩) 400 (B := Q (T.v (Value.int IntKind.u32 (↑(stN (8 : Nat) r0) : Int))) [] fun x => none) (by kernel_rfl) ?_
    repeat' (first | exact rfl | exact Nat.le_of_ble_eq_true rfl | refine And.intro ?_ ?_ | intro _ | refine bsplit_mk (fun _ => ?_) (fun _ => ?_))
    all_goals first
      | exact hQ _ rfl
      | (exfalso; rename_i h; simp at h; done)
      | trace_state
  | succ f ih =>
    intro j hj
    have nx := ih (j + 1) (by omega)
    have hl := stN_lt h0 j
    have hw : IntKind.wrap .i64 ((j : Int) + 1) = ((j + 1 : Nat) : Int) := by rw [wrap_i64 (by omega) (by omega)]; omega
    refine run_sound (⟨fun | 4, 1 => .res (u32 (stN j r0 % 2 : Nat)) | 5, 1 => .res (u32 (stN j r0 / 2 : Nat)) | 5, 2 => .res (u32 (stN j r0 / 2 ^^^ poly : Nat)) | 6, 1 => .res (u32 (stN j r0 / 2 : Nat)) | _, _ => .no, [((2, 3), ([0, 9], 0))], fun  | _ => none⟩) 400 (B := bsplit (decide ((↑j : Int) < (8 : Int))) (u32 (IntKind.wrap IntKind.u32 (↑(BitVec.toNat (BitVec.ofInt 32 (↑(stN j r0) : Int) &&& BitVec.ofInt 32 (1 : Int))) : Int)) = u32 (stN j r0 % 2) ∧ bsplit ((↑(stN j r0 % 2) : Int) == (1 : Int)) (u32 (Int.fdiv (↑(stN j r0) : Int) ((2 : Int) ^ min (Int.toNat (1 : Int)) 32)) = u32 (stN j r0 / 2) ∧ u32 (IntKind.wrap IntKind.u32 (↑(BitVec.toNat (BitVec.ofInt 32 (↑(stN j r0 / 2) : Int) ^^^ BitVec.ofInt 32 (3988292384 : Int))) : Int)) = u32 (stN j r0 / 2 ^^^ poly) ∧ TWk Tryd.prog Γ (fin Tryd.prog Tryd.f79 [] Q) [It.code (sub (bd Tryd.f79) [1, 1, 0, 1, 0]), It.blk 0, It.code (sub (bd Tryd.f79) [1, 1, 1])] { fr := frame 21 [(0, u32 (stN j r0 / 2 ^^^ poly)), (9, int (IntKind.wrap IntKind.i64 ((↑j : Int) + (1 : Int))))], ob := [], gl := fun x => none }) (u32 (Int.fdiv (↑(stN j r0) : Int) ((2 : Int) ^ min (Int.toNat (1 : Int)) 32)) = u32 (stN j r0 / 2) ∧ TWk Tryd.prog Γ (fin Tryd.prog Tryd.f79 [] Q) [It.code (sub (bd Tryd.f79) [1, 1, 0, 1, 0]), It.blk 0, It.code (sub (bd Tryd.f79) [1, 1, 1])] { fr := frame 21 [(0, u32 (stN j r0 / 2)), (9, int (IntKind.wrap IntKind.i64 ((↑j : Int) + (1 : Int))))], ob := [], gl := fun x => none })) (Q (u32 (stN j r0)) [] fun x => none)) (by kernel_rfl) ?_
    rw [hw]
    repeat' (first | exact rfl | exact Nat.le_of_ble_eq_true rfl | refine And.intro ?_ ?_ | intro _ | refine bsplit_mk (fun _ => ?_) (fun _ => ?_))
    all_goals first
      | exact andT hl
      | exact shrT _
      | exact xorT (y := poly) (by omega : stN j r0 / 2 < 4294967296) (by decide)
      | (rename_i h; have e : stN (j + 1) r0 = stN j r0 / 2 ^^^ poly := st_one (by simp at h; omega); rw [e] at nx; exact nx)
      | (rename_i h; have e : stN (j + 1) r0 = stN j r0 / 2 := st_zero (by simp at h; omega); rw [e] at nx; exact nx)
      | (exfalso; simp only [decide_eq_false_iff_not] at *; omega)
      | (clear nx ih hQ; trace_state)
theorem step_any (r c : Nat) (hr : r < 4294967296) (hc : c < 256) (Q : T → Obs → Glb → Prop) (hQ : ∀ x, x = u32 (Crc.step r c) → Q x [] none_) : TCalls Tryd.prog 79 [u32 r, u8 c] [] none_ Q := by
  have h0 : r ^^^ c < 4294967296 := Nat.xor_lt_two_pow (n := 32) (by omega) (by omega)
  have lp := fun Γ => step_loop Γ (r ^^^ c) h0 Q hQ 8 0 rfl
  refine TCalls.of Tryd.func79 rfl (CanCall.of Tryd.func79 rfl (by decide)) [] fun Γ => ?_
  refine run_sound (⟨fun | 1, 2 => .res (u32 c) | 1, 3 => .res (u32 (r ^^^ c : Nat)) | _, _ => .no, [((2, 3), ([0, 9], 0))], fun  | _ => none⟩) 400 (B := u32 (IntKind.wrap IntKind.u32 (↑c : Int)) = u32 c ∧ u32 (IntKind.wrap IntKind.u32 (↑(BitVec.toNat (BitVec.ofInt 32 (↑r : Int) ^^^ BitVec.ofInt 32 (↑c : Int))) : Int)) = u32 (r ^^^ c) ∧ TWk Tryd.prog Γ (fin Tryd.prog Tryd.f79 [] Q) [It.code (sub (bd Tryd.f79) [1, 1, 0, 1, 0]), It.blk 0, It.code (sub (bd Tryd.f79) [1, 1, 1])] { fr := frame 21 [(0, u32 (r ^^^ c)), (9, int 0)], ob := [], gl := fun x => none }) (by kernel_rfl) ?_
  repeat' (first | exact rfl | exact Nat.le_of_ble_eq_true rfl | refine And.intro ?_ ?_ | intro _ | refine bsplit_mk (fun _ => ?_) (fun _ => ?_))
  all_goals first
    | exact xorT hr (by omega)
    | exact lp Γ
    | exact congrArg (fun z => T.v (.int .u32 z)) (wrap32 (by omega : c < 4294967296))
    | trace_state
/-- one text -/
theorem sum_in (Γ : Ctx) (l : List UInt8) (hl : l.length ≤ 1000000000) (Q : T → Obs → Glb → Prop) (hQ : ∀ x, x = u32 (crc l) → Q x [] none_) : ∀ (f i : Nat), i + f = l.length →
    TWk Tryd.prog Γ (fin Tryd.prog Tryd.f49 [] Q) [.code (sub (bd Tryd.f49) [1, 1, 0, 1, 0, 0, 1, 1, 0, 0, 1, 1, 0]), .blk 2, .blk 1, .code (sub (bd Tryd.f49) [1, 1, 0, 1, 0, 0, 1, 1, 1]), .code (sub (bd Tryd.f49) [1, 1, 0, 1, 0]), .blk 0, .code (sub (bd Tryd.f49) [1, 1, 1])] ⟨frame 27 [(3, u32 (sumN (l.take i) 4294967295)), (5, str l), (7, .sl 1 [str l]), (8, int 1), (9, int 0), (14, int l.length), (15, int i)], [], none_⟩ := by
  intro f
  induction f with
  | zero =>
    intro i hi
    obtain rfl : i = l.length := by omega
    have hw := notT (sumN_lt l (show 4294967295 < 4294967296 by decide))
    rw [List.take_length]
    refine run_sound (⟨fun | 8, 3 => .res (u8 0) | 8, 4 => told (u32 0) [] [] | 11, 1 => .res (u32 (crc l)) | _, _ => .no, [((2, 6), ([3, 5, 7, 8, 9, 14, 15], 0))], fun  | _ => none⟩) 400 (B := bsplit (decide ((↑(List.length l) : Int) < (↑(List.length l) : Int))) ((0 : Int) ≤ (↑(List.length l) : Int) ∧ Option.map (fun c => u8 (UInt8.toNat c)) (ByteArray.mk (List.toArray l))[Int.toNat (↑(List.length l) : Int)]? = some (u8 0) ∧ TCalls Tryd.prog 79 [u32 (sumN l 4294967295), u8 0] [] none_ (callPost (Hint.call false Unit (fun x => True) [] false (fun x => u32 0) (fun x => []) fun x => none_)) ∧ ∀ (a : Unit), True → TWk Tryd.prog Γ (fin Tryd.prog Tryd.f49 [] Q) [It.code (sub (bd Tryd.f49) [1, 1, 0, 1, 0, 0, 1, 1, 0, 0, 1, 1, 0]), It.blk 2, It.blk 1, It.code (sub (bd Tryd.f49) [1, 1, 0, 1, 0, 0, 1, 1, 1]), It.code (sub (bd Tryd.f49) [1, 1, 0, 1, 0]), It.blk 0, It.code (sub (bd Tryd.f49) [1, 1, 1])] { fr := frame 27 [(3, u32 0), (5, str l), (7, T.sl 1 [str l]), (8, int 1), (9, int 0), (14, int (List.length l)), (15, int (IntKind.wrap IntKind.i64 ((↑(List.length l) : Int) + (1 : Int))))], ob := [], gl := fun x => none }) (u32 (IntKind.wrap IntKind.u32 (↑(BitVec.toNat (BitVec.ofInt 32 (if IntKind.signed IntKind.u32 = true then (-1 : Int) else if IntKind.signed IntKind.u32 = true then (2 : Int) ^ (32 - 1) - (1 : Int) else (2 : Int) ^ 32 - (1 : Int)) ^^^ BitVec.ofInt 32 (↑(sumN l 4294967295) : Int))) : Int)) = u32 (crc l) ∧ Q (u32 (crc l)) [] fun x => none)) (by kernel_rfl) ?_
    repeat' (first | exact rfl | exact Nat.le_of_ble_eq_true rfl | refine And.intro ?_ ?_ | intro _ | refine bsplit_mk (fun _ => ?_) (fun _ => ?_))
    all_goals first
      | exact hw
      | exact hQ _ rfl
      | (exfalso; simp only [decide_eq_true_eq] at *; omega)
      | trace_state
  | succ f ih =>
    intro i hi
    have hlt : i < l.length := by omega
    have nx := ih (i + 1) (by omega)
    rw [List.take_succ_eq_append_getElem hlt, sumN_snoc] at nx
    have hb := sumN_lt (l.take i) (show 4294967295 < 4294967296 by decide)
    have hc := (l[i]).toNat_lt
    have hw : IntKind.wrap .i64 ((i : Int) + 1) = ((i + 1 : Nat) : Int) := by rw [wrap_i64 (by omega) (by omega)]; omega
    refine run_sound (⟨fun | 8, 3 => .res (u8 (l[i]).toNat) | 8, 4 => told (u32 (Crc.step (sumN (l.take i) 4294967295) (l[i]).toNat)) [] [] | _, _ => .no, [((2, 6), ([3, 5, 7, 8, 9, 14, 15], 0))], fun  | _ => none⟩) 400 (B := bsplit (decide ((↑i : Int) < (↑(List.length l) : Int))) ((0 : Int) ≤ (↑i : Int) ∧ Option.map (fun c => u8 (UInt8.toNat c)) (ByteArray.mk (List.toArray l))[Int.toNat (↑i : Int)]? = some (u8 (UInt8.toNat l[i])) ∧ TCalls Tryd.prog 79 [u32 (sumN (List.take i l) 4294967295), u8 (UInt8.toNat l[i])] [] none_ (callPost (Hint.call false Unit (fun x => True) [] false (fun x => u32 (↑(Crc.step (sumN (List.take i l) 4294967295) (UInt8.toNat l[i])) : Int)) (fun x => []) fun x => none_)) ∧ ∀ (a : Unit), True → TWk Tryd.prog Γ (fin Tryd.prog Tryd.f49 [] Q) [It.code (sub (bd Tryd.f49) [1, 1, 0, 1, 0, 0, 1, 1, 0, 0, 1, 1, 0]), It.blk 2, It.blk 1, It.code (sub (bd Tryd.f49) [1, 1, 0, 1, 0, 0, 1, 1, 1]), It.code (sub (bd Tryd.f49) [1, 1, 0, 1, 0]), It.blk 0, It.code (sub (bd Tryd.f49) [1, 1, 1])] { fr := frame 27 [(3, u32 (Crc.step (sumN (List.take i l) 4294967295) (UInt8.toNat l[i]))), (5, str l), (7, T.sl 1 [str l]), (8, int 1), (9, int 0), (14, int (List.length l)), (15, int (IntKind.wrap IntKind.i64 ((↑i : Int) + (1 : Int))))], ob := [], gl := fun x => none }) (Q (u32 (IntKind.wrap IntKind.u32 (↑(BitVec.toNat (BitVec.ofInt 32 (if IntKind.signed IntKind.u32 = true then (-1 : Int) else if IntKind.signed IntKind.u32 = true then (2 : Int) ^ (32 - 1) - (1 : Int) else (2 : Int) ^ 32 - (1 : Int)) ^^^ BitVec.ofInt 32 (↑(sumN (List.take i l) 4294967295) : Int))) : Int))) [] fun x => none)) (by kernel_rfl) ?_
    rw [hw]
    repeat' (first | exact rfl | exact Nat.le_of_ble_eq_true rfl | refine And.intro ?_ ?_ | intro _ | refine bsplit_mk (fun _ => ?_) (fun _ => ?_))
    all_goals first
      | exact nx
      | exact step_any _ _ hb (by omega) _ (fun x h => told_post h)
      | omega
      | exact str_at l i hlt
      | (exfalso; simp only [decide_eq_false_iff_not] at *; omega)
      | (clear nx ih hQ; trace_state)
theorem sum_any (l : List UInt8) (hl : l.length ≤ 1000000000) (Q : T → Obs → Glb → Prop) (hQ : ∀ x, x = u32 (crc l) → Q x [] none_) : TCalls Tryd.prog 49 [.sl 1 [str l]] [] none_ Q := by
  have lp := fun Γ => sum_in Γ l hl Q hQ l.length 0 (by omega)
  refine TCalls.of Tryd.func49 rfl (CanCall.of Tryd.func49 rfl (by decide)) [] fun Γ => ?_
  refine run_sound (⟨fun _ _ => .no, [((2, 6), ([3, 5, 7, 8, 9, 14, 15], 0))], fun _ => none⟩) 400 (B := (0 : Int) ≤ (0 : Int) ∧ TWk Tryd.prog Γ (fin Tryd.prog Tryd.f49 [] Q) [It.code (sub (bd Tryd.f49) [1, 1, 0, 1, 0, 0, 1, 1, 0, 0, 1, 1, 0]), It.blk 2, It.blk 1, It.code (sub (bd Tryd.f49) [1, 1, 0, 1, 0, 0, 1, 1, 1]), It.code (sub (bd Tryd.f49) [1, 1, 0, 1, 0]), It.blk 0, It.code (sub (bd Tryd.f49) [1, 1, 1])] { fr := frame 27 [(3, u32 4294967295), (5, str l), (7, T.sl 1 [str l]), (8, int 1), (9, int 0), (14, int (ByteArray.size (ByteArray.mk (List.toArray l)))), (15, int 0)], ob := [], gl := fun x => none }) (by kernel_rfl) ?_
  repeat' (first | exact rfl | exact Nat.le_of_ble_eq_true rfl | refine And.intro ?_ ?_ | intro _ | refine bsplit_mk (fun _ => ?_) (fun _ => ?_))
  all_goals first
    | exact lp Γ
    | decide
    | (exfalso; rename_i h; simp at h; done)
    | trace_state
theorem byteOf (n m : Nat) : IntKind.wrap .u8 ((n : Int).fdiv (2 ^ m)) = ((UInt8.ofNat (n / 2 ^ m)).toNat : Int) := by
  rw [Int.fdiv_eq_ediv_of_nonneg _ (Int.le_of_lt (Int.pow_pos (by decide))), UInt8.toNat_ofNat']
  have : (n : Int) / 2 ^ m = ((n / 2 ^ m : Nat) : Int) := by rw [Int.natCast_ediv]; norm_cast
  rw [this, IntKind.wrap_u8]
  omega
/-- the sum behind a text, byte by byte -/
theorem seal_any (l : List UInt8) (hl : l.length ≤ 1000000000) (Q : T → Obs → Glb → Prop) (hQ : ∀ x, x = str (sealL l) → Q x [] none_) : TCalls Tryd.prog 17 [str l] [] none_ Q := by
  have hc := crc_lt l
  refine TCalls.of Tryd.func17 rfl (CanCall.of Tryd.func17 rfl (by decide)) [] fun Γ => ?_
  refine run_sound (⟨fun | 1, 2 => told (u32 (crc l)) [] [] | 2, 1 => .plain .no | 8, 1 => .res (str (sealL l)) | _, _ => .no, [], fun  | _ => none⟩) 400 (B := TCalls Tryd.prog 49 [T.sl 1 [str l]] [] none_ (callPost (Hint.call false Unit (fun x => True) [] false (fun x => u32 (↑(crc l) : Int)) (fun x => []) fun x => none_)) ∧ ∀ (a : Unit), True → ByteArray.size (ByteArray.mk (List.toArray l)) ≤ 140737488355328 ∧ ∀ (x : Value), ¬IntKind.wrap IntKind.i64 ((8 : Int) * (0 : Int)) < (0 : Int) ∧ (x = x ∧ List.length (List.map (fun c => u8 (UInt8.toNat c)) (Array.toList (ByteArray.data (ByteArray.mk (List.toArray l))))) = List.length (List.map (fun c => u8 (UInt8.toNat c)) (Array.toList (ByteArray.data (ByteArray.mk (List.toArray l)))))) ∧ Fits (List.length (List.map (fun c => u8 (UInt8.toNat c)) (Array.toList (ByteArray.data (ByteArray.mk (List.toArray l))))) + 1) (nat_lit 1) ∧ ∀ (x : Value), ¬IntKind.wrap IntKind.i64 ((8 : Int) * IntKind.wrap IntKind.i64 ((0 : Int) + (1 : Int))) < (0 : Int) ∧ (x = x ∧ List.length (List.map (fun c => u8 (UInt8.toNat c)) (Array.toList (ByteArray.data (ByteArray.mk (List.toArray l)))) ++ [u8 (IntKind.wrap IntKind.u8 (Int.fdiv (↑(crc l) : Int) ((2 : Int) ^ min (Int.toNat (IntKind.wrap IntKind.i64 ((8 : Int) * (0 : Int)))) 32)))]) = List.length (List.map (fun c => u8 (UInt8.toNat c)) (Array.toList (ByteArray.data (ByteArray.mk (List.toArray l)))) ++ [u8 (IntKind.wrap IntKind.u8 (Int.fdiv (↑(crc l) : Int) ((2 : Int) ^ min (Int.toNat (IntKind.wrap IntKind.i64 ((8 : Int) * (0 : Int)))) 32)))])) ∧ Fits (List.length (List.map (fun c => u8 (UInt8.toNat c)) (Array.toList (ByteArray.data (ByteArray.mk (List.toArray l)))) ++ [u8 (IntKind.wrap IntKind.u8 (Int.fdiv (↑(crc l) : Int) ((2 : Int) ^ min (Int.toNat (IntKind.wrap IntKind.i64 ((8 : Int) * (0 : Int)))) 32)))]) + 1) (nat_lit 1) ∧ ∀ (x : Value), ¬IntKind.wrap IntKind.i64 ((8 : Int) * IntKind.wrap IntKind.i64 (IntKind.wrap IntKind.i64 ((0 : Int) + (1 : Int)) + (1 : Int))) < (0 : Int) ∧ (x = x ∧ List.length (List.map (fun c => u8 (UInt8.toNat c)) (Array.toList (ByteArray.data (ByteArray.mk (List.toArray l)))) ++ [u8 (IntKind.wrap IntKind.u8 (Int.fdiv (↑(crc l) : Int) ((2 : Int) ^ min (Int.toNat (IntKind.wrap IntKind.i64 ((8 : Int) * (0 : Int)))) 32)))] ++ [u8 (IntKind.wrap IntKind.u8 (Int.fdiv (↑(crc l) : Int) ((2 : Int) ^ min (Int.toNat (IntKind.wrap IntKind.i64 ((8 : Int) * IntKind.wrap IntKind.i64 ((0 : Int) + (1 : Int))))) 32)))]) = List.length (List.map (fun c => u8 (UInt8.toNat c)) (Array.toList (ByteArray.data (ByteArray.mk (List.toArray l)))) ++ [u8 (IntKind.wrap IntKind.u8 (Int.fdiv (↑(crc l) : Int) ((2 : Int) ^ min (Int.toNat (IntKind.wrap IntKind.i64 ((8 : Int) * (0 : Int)))) 32)))] ++ [u8 (IntKind.wrap IntKind.u8 (Int.fdiv (↑(crc l) : Int) ((2 : Int) ^ min (Int.toNat (IntKind.wrap IntKind.i64 ((8 : Int) * IntKind.wrap IntKind.i64 ((0 : Int) + (1 : Int))))) 32)))])) ∧ Fits (List.length (List.map (fun c => u8 (UInt8.toNat c)) (Array.toList (ByteArray.data (ByteArray.mk (List.toArray l)))) ++ [u8 (IntKind.wrap IntKind.u8 (Int.fdiv (↑(crc l) : Int) ((2 : Int) ^ min (Int.toNat (IntKind.wrap IntKind.i64 ((8 : Int) * (0 : Int)))) 32)))] ++ [u8 (IntKind.wrap IntKind.u8 (Int.fdiv (↑(crc l) : Int) ((2 : Int) ^ min (Int.toNat (IntKind.wrap IntKind.i64 ((8 : Int) * IntKind.wrap IntKind.i64 ((0 : Int) + (1 : Int))))) 32)))]) + 1) (nat_lit 1) ∧ ∀ (x : Value), ¬IntKind.wrap IntKind.i64 ((8 : Int) * IntKind.wrap IntKind.i64 (IntKind.wrap IntKind.i64 (IntKind.wrap IntKind.i64 ((0 : Int) + (1 : Int)) + (1 : Int)) + (1 : Int))) < (0 : Int) ∧ (x = x ∧ List.length (List.map (fun c => u8 (UInt8.toNat c)) (Array.toList (ByteArray.data (ByteArray.mk (List.toArray l)))) ++ [u8 (IntKind.wrap IntKind.u8 (Int.fdiv (↑(crc l) : Int) ((2 : Int) ^ min (Int.toNat (IntKind.wrap IntKind.i64 ((8 : Int) * (0 : Int)))) 32)))] ++ [u8 (IntKind.wrap IntKind.u8 (Int.fdiv (↑(crc l) : Int) ((2 : Int) ^ min (Int.toNat (IntKind.wrap IntKind.i64 ((8 : Int) * IntKind.wrap IntKind.i64 ((0 : Int) + (1 : Int))))) 32)))] ++ [u8 (IntKind.wrap IntKind.u8 (Int.fdiv (↑(crc l) : Int) ((2 : Int) ^ min (Int.toNat (IntKind.wrap IntKind.i64 ((8 : Int) * IntKind.wrap IntKind.i64 (IntKind.wrap IntKind.i64 ((0 : Int) + (1 : Int)) + (1 : Int))))) 32)))]) = List.length (List.map (fun c => u8 (UInt8.toNat c)) (Array.toList (ByteArray.data (ByteArray.mk (List.toArray l)))) ++ [u8 (IntKind.wrap IntKind.u8 (Int.fdiv (↑(crc l) : Int) ((2 : Int) ^ min (Int.toNat (IntKind.wrap IntKind.i64 ((8 : Int) * (0 : Int)))) 32)))] ++ [u8 (IntKind.wrap IntKind.u8 (Int.fdiv (↑(crc l) : Int) ((2 : Int) ^ min (Int.toNat (IntKind.wrap IntKind.i64 ((8 : Int) * IntKind.wrap IntKind.i64 ((0 : Int) + (1 : Int))))) 32)))] ++ [u8 (IntKind.wrap IntKind.u8 (Int.fdiv (↑(crc l) : Int) ((2 : Int) ^ min (Int.toNat (IntKind.wrap IntKind.i64 ((8 : Int) * IntKind.wrap IntKind.i64 (IntKind.wrap IntKind.i64 ((0 : Int) + (1 : Int)) + (1 : Int))))) 32)))])) ∧ Fits (List.length (List.map (fun c => u8 (UInt8.toNat c)) (Array.toList (ByteArray.data (ByteArray.mk (List.toArray l)))) ++ [u8 (IntKind.wrap IntKind.u8 (Int.fdiv (↑(crc l) : Int) ((2 : Int) ^ min (Int.toNat (IntKind.wrap IntKind.i64 ((8 : Int) * (0 : Int)))) 32)))] ++ [u8 (IntKind.wrap IntKind.u8 (Int.fdiv (↑(crc l) : Int) ((2 : Int) ^ min (Int.toNat (IntKind.wrap IntKind.i64 ((8 : Int) * IntKind.wrap IntKind.i64 ((0 : Int) + (1 : Int))))) 32)))] ++ [u8 (IntKind.wrap IntKind.u8 (Int.fdiv (↑(crc l) : Int) ((2 : Int) ^ min (Int.toNat (IntKind.wrap IntKind.i64 ((8 : Int) * IntKind.wrap IntKind.i64 (IntKind.wrap IntKind.i64 ((0 : Int) + (1 : Int)) + (1 : Int))))) 32)))]) + 1) (nat_lit 1) ∧ ∀ (x : Value), List.map (fun c => u8 (UInt8.toNat c)) (Array.toList (ByteArray.data (ByteArray.mk (List.toArray l)))) ++ [u8 (IntKind.wrap IntKind.u8 (Int.fdiv (↑(crc l) : Int) ((2 : Int) ^ min (Int.toNat (IntKind.wrap IntKind.i64 ((8 : Int) * (0 : Int)))) 32)))] ++ [u8 (IntKind.wrap IntKind.u8 (Int.fdiv (↑(crc l) : Int) ((2 : Int) ^ min (Int.toNat (IntKind.wrap IntKind.i64 ((8 : Int) * IntKind.wrap IntKind.i64 ((0 : Int) + (1 : Int))))) 32)))] ++ [u8 (IntKind.wrap IntKind.u8 (Int.fdiv (↑(crc l) : Int) ((2 : Int) ^ min (Int.toNat (IntKind.wrap IntKind.i64 ((8 : Int) * IntKind.wrap IntKind.i64 (IntKind.wrap IntKind.i64 ((0 : Int) + (1 : Int)) + (1 : Int))))) 32)))] ++ [u8 (IntKind.wrap IntKind.u8 (Int.fdiv (↑(crc l) : Int) ((2 : Int) ^ min (Int.toNat (IntKind.wrap IntKind.i64 ((8 : Int) * IntKind.wrap IntKind.i64 (IntKind.wrap IntKind.i64 (IntKind.wrap IntKind.i64 ((0 : Int) + (1 : Int)) + (1 : Int)) + (1 : Int))))) 32)))] = List.map (fun c => u8 (UInt8.toNat c)) (Array.toList (ByteArray.data (ByteArray.mk (List.toArray (sealL l))))) ∧ Q (str (sealL l)) [] fun x => none) (by kernel_rfl) ?_
  repeat' (first | exact rfl | exact Nat.le_of_ble_eq_true rfl | refine And.intro ?_ ?_ | intro _ | refine bsplit_mk (fun _ => ?_) (fun _ => ?_))
  all_goals first
    | exact sum_any l hl _ (fun x h => told_post h)
    | exact hQ _ rfl
    | (show (⟨l.toArray⟩ : ByteArray).size ≤ _; rw [bs_len]; omega)
    | (rename_i h; exact absurd h (by decide))
    | (simp [maxLen]; omega)
    | (show bL l ++ [_] ++ [_] ++ [_] ++ [_] = bL (sealL l)
       unfold sealL
       rw [bL_app]
       simp only [List.append_assoc, List.cons_append, List.nil_append]
       congr 1
       unfold le4 bL
       simp only [List.map_cons, List.map_nil]
       rw [byteOf, byteOf, byteOf, byteOf]
       rfl)
    | trace_state
theorem tmod8 (i : Nat) : T.v (.int .i64 ((i : Int).tmod 8)) = int (i % 8 : Nat) := by rw [Int.tmod_eq_emod_of_nonneg (by omega)]; exact congrArg int (by omega)
theorem bit_loop (Γ : Ctx) (c i : Nat) (hc : c < 256) (Q : T → Obs → Glb → Prop) (hQ : ∀ x, x = int (rbit c (i % 8)) → Q x [] none_) : ∀ (f j : Nat), j + f = i % 8 →
    TWk Tryd.prog Γ (fin Tryd.prog Tryd.f84 [] Q) [.code (sub (bd Tryd.f84) [1, 1, 0, 1, 0]), .blk 0, .code (sub (bd Tryd.f84) [1, 1, 1])] ⟨frame 22 [(1, int i), (5, int (c / 2 ^ j : Nat)), (6, int j)], [], none_⟩ := by
  intro f
  induction f with
  | zero =>
    intro j hj
    obtain rfl : j = i % 8 := by omega
    have hr : T.v (.int .i64 (((c / 2 ^ (i % 8) : Nat) : Int).tmod 2)) = int (rbit c (i % 8)) := by unfold rbit; generalize c / 2 ^ (i % 8) = y; rw [Int.tmod_eq_emod_of_nonneg (by omega)]; exact congrArg int (by omega)
    refine run_sound (⟨fun | 3, 2 => .res (int (i % 8 : Nat)) | 6, 1 => .res (int (rbit c (i % 8))) | _, _ => .no, [((2, 3), ([1, 5, 6], 0))], fun  | _ => none⟩) 400 (B := int (Int.tmod (↑i : Int) (8 : Int)) = int (i % 8) ∧ bsplit (decide ((↑(i % 8) : Int) < (↑(i % 8) : Int))) (TWk Tryd.prog Γ (fin Tryd.prog Tryd.f84 [] Q) [It.code (sub (bd Tryd.f84) [1, 1, 0, 1, 0]), It.blk 0, It.code (sub (bd Tryd.f84) [1, 1, 1])] { fr := frame 22 [(1, int i), (5, int (IntKind.wrap IntKind.i64 (Int.tdiv (↑(c / 2 ^ (i % 8)) : Int) (2 : Int)))), (6, int (IntKind.wrap IntKind.i64 ((↑(i % 8) : Int) + (1 : Int))))], ob := [], gl := fun x => none }) (int (Int.tmod (↑(c / 2 ^ (i % 8)) : Int) (2 : Int)) = int (rbit c (i % 8)) ∧ Q (int (rbit c (i % 8))) [] fun x => none)) (by kernel_rfl) ?_
    repeat' (first | exact rfl | exact Nat.le_of_ble_eq_true rfl | refine And.intro ?_ ?_ | intro _ | refine bsplit_mk (fun _ => ?_) (fun _ => ?_))
    all_goals first
      | exact tmod8 i
      | exact hr
      | exact hQ _ rfl
      | (exfalso; simp only [decide_eq_true_eq] at *; omega)
      | trace_state
  | succ f ih =>
    intro j hj
    have nx := ih (j + 1) (by omega)
    have hw : IntKind.wrap .i64 ((j : Int) + 1) = ((j + 1 : Nat) : Int) := by rw [wrap_i64 (by omega) (by omega)]; omega
    have hcd : c / 2 ^ j ≤ c := Nat.div_le_self _ _
    have hd : T.v (.int .i64 (IntKind.wrap .i64 (((c / 2 ^ j : Nat) : Int).tdiv 2))) = int (c / 2 ^ (j + 1) : Nat) := by
      rw [Nat.pow_succ, ← Nat.div_div_eq_div_mul]
      generalize c / 2 ^ j = y at *
      rw [Int.tdiv_eq_ediv_of_nonneg (by omega), wrap_i64 (by omega) (by omega)]
      exact congrArg int (by omega)
    refine run_sound (⟨fun | 3, 2 => .res (int (i % 8 : Nat)) | 5, 1 => .res (int (c / 2 ^ (j + 1) : Nat)) | _, _ => .no, [((2, 3), ([1, 5, 6], 0))], fun  | _ => none⟩) 400 (B := int (Int.tmod (↑i : Int) (8 : Int)) = int (i % 8) ∧ bsplit (decide ((↑j : Int) < (↑(i % 8) : Int))) (int (IntKind.wrap IntKind.i64 (Int.tdiv (↑(c / 2 ^ j) : Int) (2 : Int))) = int (c / 2 ^ (j + 1)) ∧ TWk Tryd.prog Γ (fin Tryd.prog Tryd.f84 [] Q) [It.code (sub (bd Tryd.f84) [1, 1, 0, 1, 0]), It.blk 0, It.code (sub (bd Tryd.f84) [1, 1, 1])] { fr := frame 22 [(1, int i), (5, int (c / 2 ^ (j + 1))), (6, int (IntKind.wrap IntKind.i64 ((↑j : Int) + (1 : Int))))], ob := [], gl := fun x => none }) (Q (int (Int.tmod (↑(c / 2 ^ j) : Int) (2 : Int))) [] fun x => none)) (by kernel_rfl) ?_
    rw [hw]
    repeat' (first | exact rfl | exact Nat.le_of_ble_eq_true rfl | refine And.intro ?_ ?_ | intro _ | refine bsplit_mk (fun _ => ?_) (fun _ => ?_))
    all_goals first
      | exact tmod8 i
      | exact hd
      | exact nx
      | (exfalso; simp only [decide_eq_false_iff_not] at *; omega)
      | trace_state
theorem bit_any (l : List UInt8) (hl : l.length ≤ 1000000000) (i : Nat) (hi : i < 8 * l.length) (Q : T → Obs → Glb → Prop) (hQ : ∀ x, x = int (bitL l i) → Q x [] none_) : TCalls Tryd.prog 84 [str l, int i] [] none_ Q := by
  have h8 : i / 8 < l.length := by omega
  have hg : l.getD (i / 8) 0 = l[i / 8] := by rw [List.getD_eq_getElem?_getD, List.getElem?_eq_getElem h8]; rfl
  have hc := (l[i / 8]).toNat_lt
  have lp := fun Γ => bit_loop Γ (l[i / 8]).toNat i (by omega) Q (by rw [← hg]; exact hQ) (i % 8) 0 (by omega)
  rw [Nat.pow_zero, Nat.div_one] at lp
  have hq : T.v (.int .i64 (IntKind.wrap .i64 ((i : Int).tdiv 8))) = int (i / 8 : Nat) := by
    rw [Int.tdiv_eq_ediv_of_nonneg (by omega), wrap_i64 (by omega) (by omega)]; exact congrArg int (by omega)
  refine TCalls.of Tryd.func84 rfl (CanCall.of Tryd.func84 rfl (by decide)) [] fun Γ => ?_
  refine run_sound (⟨fun | 1, 2 => .res (int (i / 8 : Nat)) | 1, 3 => .res (u8 (l[i / 8]).toNat) | 1, 4 => .res (int (l[i / 8]).toNat) | _, _ => .no, [((2, 3), ([1, 5, 6], 0))], fun  | _ => none⟩) 400 (B := int (IntKind.wrap IntKind.i64 (Int.tdiv (↑i : Int) (8 : Int))) = int (i / 8) ∧ (0 : Int) ≤ (↑(i / 8) : Int) ∧ Option.map (fun c => u8 (UInt8.toNat c)) (ByteArray.mk (List.toArray l))[Int.toNat (↑(i / 8) : Int)]? = some (u8 (UInt8.toNat l[i / 8])) ∧ int (IntKind.wrap IntKind.i64 (↑(UInt8.toNat l[i / 8]) : Int)) = int (UInt8.toNat l[i / 8]) ∧ TWk Tryd.prog Γ (fin Tryd.prog Tryd.f84 [] Q) [It.code (sub (bd Tryd.f84) [1, 1, 0, 1, 0]), It.blk 0, It.code (sub (bd Tryd.f84) [1, 1, 1])] { fr := frame 22 [(1, int i), (5, int (UInt8.toNat l[i / 8])), (6, int 0)], ob := [], gl := fun x => none }) (by kernel_rfl) ?_
  repeat' (first | exact rfl | exact Nat.le_of_ble_eq_true rfl | refine And.intro ?_ ?_ | intro _ | refine bsplit_mk (fun _ => ?_) (fun _ => ?_))
  all_goals first
    | exact lp Γ
    | exact hq
    | exact str_at l (i / 8) h8
    | exact congrArg int (wrap_i64 (by omega) (by omega))
    | omega
    | trace_state
theorem rsum_loop (Γ : Ctx) (l : List UInt8) (hl : l.length ≤ 1000000000) (Q : T → Obs → Glb → Prop) (hQ : ∀ x, x = u32 (crc l) → Q x [] none_) : ∀ (f i : Nat), i + f = 8 * l.length →
    TWk Tryd.prog Γ (fin Tryd.prog Tryd.f67 [] Q) [.code (sub (bd Tryd.f67) [1, 1, 0, 1, 0]), .blk 0, .code (sub (bd Tryd.f67) [1, 1, 1])] ⟨frame 27 [(0, str l), (3, u32 (sumB l i)), (4, int i)], [], none_⟩ := by
  have h8 : T.v (.int .i64 (IntKind.wrap .i64 (8 * (⟨l.toArray⟩ : ByteArray).size))) = int (8 * l.length : Nat) := by rw [bs_len, wrap_i64 (by omega) (by omega)]; exact congrArg int (by omega)
  intro f
  induction f with
  | zero =>
    intro i hi
    obtain rfl : i = 8 * l.length := by omega
    have hb := sumB_lt l (8 * l.length)
    have hs : T.v (.int .u32 (IntKind.wrap .u32 (4294967295 - (sumB l (8 * l.length) : Int)))) = u32 (crc l) := by
      rw [← sumB_all]
      generalize sumB l (8 * l.length) = y at *
      rw [show (4294967295 - (y : Int)) = ((4294967295 - y : Nat) : Int) by omega, wrap32 (by omega)]; rfl
    refine run_sound (⟨fun | 3, 3 => .res (int (8 * l.length : Nat)) | 5, 2 => .res (int 0) | 7, 3 => told (int 0) [] [] | 9, 1 => .res (u32 (crc l)) | _, _ => .no, [((2, 3), ([0, 3, 4], 0)), ((0, 5), ([0, 3, 4], 0))], fun  | _ => none⟩) 400 (B := int (IntKind.wrap IntKind.i64 ((8 : Int) * (↑(ByteArray.size (ByteArray.mk (List.toArray l))) : Int))) = int (8 * List.length l) ∧ bsplit (decide ((↑(8 * List.length l) : Int) < (↑(8 * List.length l) : Int))) (TWk Tryd.prog Γ (fin Tryd.prog Tryd.f67 [] Q) [It.code (sub (bd Tryd.f67) [1, 1, 0, 1, 0, 0, 1, 0, 0]), It.blk 1, It.code (sub (bd Tryd.f67) [1, 1, 0, 1, 0, 0, 1, 1]), It.code (sub (bd Tryd.f67) [1, 1, 0, 1, 0]), It.blk 0, It.code (sub (bd Tryd.f67) [1, 1, 1])] { fr := frame 27 [(0, str l), (3, u32 (sumB l (8 * List.length l))), (4, int (8 * List.length l))], ob := [], gl := fun x => none }) (u32 (IntKind.wrap IntKind.u32 ((4294967295 : Int) - (↑(sumB l (8 * List.length l)) : Int))) = u32 (crc l) ∧ Q (u32 (crc l)) [] fun x => none)) (by kernel_rfl) ?_
    repeat' (first | exact rfl | exact Nat.le_of_ble_eq_true rfl | refine And.intro ?_ ?_ | intro _ | refine bsplit_mk (fun _ => ?_) (fun _ => ?_))
    all_goals first
      | exact h8
      | exact hs
      | exact hQ _ rfl
      | (exfalso; simp only [decide_eq_true_eq] at *; omega)
      | trace_state
  | succ f ih =>
    intro i hi
    have nx := ih (i + 1) (by omega)
    have hb := sumB_lt l i
    have hr2 : bitL l i < 2 := by unfold bitL rbit; omega
    have hw : IntKind.wrap .i64 ((i : Int) + 1) = ((i + 1 : Nat) : Int) := by rw [wrap_i64 (by omega) (by omega)]; omega
    have hm : T.v (.int .u32 ((sumB l i : Int).tmod 2)) = u32 (sumB l i % 2 : Nat) := by
      generalize sumB l i = y; rw [Int.tmod_eq_emod_of_nonneg (by omega)]; exact congrArg u32 (by omega)
    have hm2 : T.v (.int .i64 (IntKind.wrap .i64 ((sumB l i % 2 : Nat) : Int))) = int (sumB l i % 2 : Nat) := by
      generalize sumB l i = y; rw [wrap_i64 (by omega) (by omega)]; rfl
    have hd : T.v (.int .u32 (IntKind.wrap .u32 ((sumB l i : Int).tdiv 2))) = u32 (sumB l i / 2 : Nat) := by
      generalize sumB l i = y at *; rw [Int.tdiv_eq_ediv_of_nonneg (by omega), show ((y : Int) / 2) = ((y / 2 : Nat) : Int) by omega, wrap32 (by omega)]; rfl
    refine run_sound (⟨fun | 3, 3 => .res (int (8 * l.length : Nat)) | 5, 1 => .res (u32 (sumB l i % 2 : Nat)) | 5, 2 => .res (int (sumB l i % 2 : Nat)) | 6, 1 => .res (u32 (sumB l i / 2 : Nat)) | 7, 3 => told (int (bitL l i)) [] [] | 8, 1 => .res (u32 (sumB l i / 2 ^^^ poly : Nat)) | _, _ => .no, [((2, 3), ([0, 3, 4], 0))], fun  | _ => none⟩) 400 (B := int (IntKind.wrap IntKind.i64 ((8 : Int) * (↑(ByteArray.size (ByteArray.mk (List.toArray l))) : Int))) = int (8 * List.length l) ∧ bsplit (decide ((↑i : Int) < (↑(8 * List.length l) : Int))) (u32 (Int.tmod (↑(sumB l i) : Int) (2 : Int)) = u32 (sumB l i % 2) ∧ int (IntKind.wrap IntKind.i64 (↑(sumB l i % 2) : Int)) = int (sumB l i % 2) ∧ u32 (IntKind.wrap IntKind.u32 (Int.tdiv (↑(sumB l i) : Int) (2 : Int))) = u32 (sumB l i / 2) ∧ TCalls Tryd.prog 84 [str l, int i] [] none_ (callPost (Hint.call false Unit (fun x => True) [] false (fun x => int (↑(bitL l i) : Int)) (fun x => []) fun x => none_)) ∧ ∀ (a : Unit), True → bsplit ((↑(sumB l i % 2) : Int) != (↑(bitL l i) : Int)) (u32 (IntKind.wrap IntKind.u32 (↑(BitVec.toNat (BitVec.ofInt 32 (↑(sumB l i / 2) : Int) ^^^ BitVec.ofInt 32 (3988292384 : Int))) : Int)) = u32 (sumB l i / 2 ^^^ poly) ∧ TWk Tryd.prog Γ (fin Tryd.prog Tryd.f67 [] Q) [It.code (sub (bd Tryd.f67) [1, 1, 0, 1, 0]), It.blk 0, It.code (sub (bd Tryd.f67) [1, 1, 1])] { fr := frame 27 [(0, str l), (3, u32 (sumB l i / 2 ^^^ poly)), (4, int (IntKind.wrap IntKind.i64 ((↑i : Int) + (1 : Int))))], ob := [], gl := fun x => none }) (TWk Tryd.prog Γ (fin Tryd.prog Tryd.f67 [] Q) [It.code (sub (bd Tryd.f67) [1, 1, 0, 1, 0]), It.blk 0, It.code (sub (bd Tryd.f67) [1, 1, 1])] { fr := frame 27 [(0, str l), (3, u32 (sumB l i / 2)), (4, int (IntKind.wrap IntKind.i64 ((↑i : Int) + (1 : Int))))], ob := [], gl := fun x => none })) (Q (u32 (IntKind.wrap IntKind.u32 ((4294967295 : Int) - (↑(sumB l i) : Int)))) [] fun x => none)) (by kernel_rfl) ?_
    rw [hw]
    repeat' (first | exact rfl | exact Nat.le_of_ble_eq_true rfl | refine And.intro ?_ ?_ | intro _ | refine bsplit_mk (fun _ => ?_) (fun _ => ?_))
    all_goals first
      | exact h8
      | exact hm
      | exact hm2
      | exact hd
      | exact bit_any l hl i (by omega) _ (fun x h => told_post h)
      | exact xorT (y := poly) (by omega : sumB l i / 2 < 4294967296) (by decide)
      | (rename_i h; have e : sumB l (i + 1) = sumB l i / 2 ^^^ poly := by
           show rst (sumB l i) _ = _
           unfold rst; rw [if_pos]; simp at h; omega
         rw [e] at nx; exact nx)
      | (rename_i h; have e : sumB l (i + 1) = sumB l i / 2 := by
           show rst (sumB l i) _ = _
           unfold rst; rw [if_neg]; simp at h; omega
         rw [e] at nx; exact nx)
      | (exfalso; simp only [decide_eq_false_iff_not] at *; omega)
      | (clear nx ih; trace_state)
theorem rsum_any (l : List UInt8) (hl : l.length ≤ 1000000000) (Q : T → Obs → Glb → Prop) (hQ : ∀ x, x = u32 (crc l) → Q x [] none_) : TCalls Tryd.prog 67 [str l] [] none_ Q := by
  have lp := fun Γ => rsum_loop Γ l hl Q hQ (8 * l.length) 0 (by omega)
  refine TCalls.of Tryd.func67 rfl (CanCall.of Tryd.func67 rfl (by decide)) [] fun Γ => ?_
  refine run_sound (⟨fun _ _ => .no, [((2, 3), ([0, 3, 4], 0))], fun _ => none⟩) 400 (B := TWk Tryd.prog Γ (fin Tryd.prog Tryd.f67 [] Q) [It.code (sub (bd Tryd.f67) [1, 1, 0, 1, 0]), It.blk 0, It.code (sub (bd Tryd.f67) [1, 1, 1])] { fr := frame 27 [(0, T.v (Value.string (ByteArray.mk (List.toArray l)))), (3, u32 (4294967295 : Int)), (4, int (0 : Int))], ob := [], gl := fun x => none }) (by kernel_rfl) ?_
  repeat' (first | exact rfl | exact Nat.le_of_ble_eq_true rfl | refine And.intro ?_ ?_ | intro _ | refine bsplit_mk (fun _ => ?_) (fun _ => ?_))
  exact lp Γ
theorem le4_take (n j : Nat) (h : j < 4) : (le4 n).take (j + 1) = (le4 n).take j ++ [UInt8.ofNat (n / 256 ^ j)] := by
  rcases (by omega : j = 0 ∨ j = 1 ∨ j = 2 ∨ j = 3) with rfl | rfl | rfl | rfl <;> rfl
theorem rseal_loop (Γ : Ctx) (l : List UInt8) (hl : l.length ≤ 1000000000) (n : Nat) (hn : n < 4294967296) (Q : T → Obs → Glb → Prop) (hQ : ∀ x, x = str (l ++ le4 n) → Q x [] none_) : ∀ (f j : Nat), j + f = 4 →
    TWk Tryd.prog Γ (fin Tryd.prog Tryd.f37 [] Q) [.code (sub (bd Tryd.f37) [1, 1, 0, 1, 0]), .blk 0, .code (sub (bd Tryd.f37) [1, 1, 1])] ⟨frame 21 [(0, str (l ++ (le4 n).take j)), (3, u32 (n / 256 ^ j : Nat)), (4, int j)], [], none_⟩ := by
  intro f
  induction f with
  | zero =>
    intro j hj
    obtain rfl : j = 4 := by omega
    refine run_sound (⟨fun _ _ => .no, [((2, 3), ([0, 3, 4], 0)), ((0, 5), ([0, 3, 4], 0))], fun _ => none⟩) 400 (B := Q (T.v (Value.string (ByteArray.mk (List.toArray (l ++ List.take (4 : Nat) (le4 n)))))) [] fun x => none) (by kernel_rfl) ?_
    repeat' (first | exact rfl | exact Nat.le_of_ble_eq_true rfl | refine And.intro ?_ ?_ | intro _ | refine bsplit_mk (fun _ => ?_) (fun _ => ?_))
    all_goals first
      | exact hQ _ rfl
      | (exfalso; rename_i h; simp at h; done)
      | trace_state
  | succ f ih =>
    intro j hj
    have nx := ih (j + 1) (by omega)
    have hle : n / 256 ^ j ≤ n := Nat.div_le_self _ _
    rw [le4_take n j (by omega), ← List.append_assoc, Nat.pow_succ, ← Nat.div_div_eq_div_mul] at nx
    generalize n / 256 ^ j = y at *
    have hw : IntKind.wrap .i64 ((j : Int) + 1) = ((j + 1 : Nat) : Int) := by rw [wrap_i64 (by omega) (by omega)]; omega
    have hm : T.v (.int .u32 ((y : Int).tmod 256)) = u32 (y % 256 : Nat) := by rw [Int.tmod_eq_emod_of_nonneg (by omega)]; exact congrArg u32 (by omega)
    have hm2 : T.v (.int .u8 (IntKind.wrap .u8 ((y % 256 : Nat) : Int))) = u8 (UInt8.ofNat y).toNat := by rw [IntKind.wrap_u8, UInt8.toNat_ofNat']; exact congrArg u8 (by omega)
    have hd : T.v (.int .u32 (IntKind.wrap .u32 ((y : Int).tdiv 256))) = u32 (y / 256 : Nat) := by
      rw [Int.tdiv_eq_ediv_of_nonneg (by omega), show ((y : Int) / 256) = ((y / 256 : Nat) : Int) by omega, wrap32 (by omega)]; rfl
    refine run_sound (⟨fun | 5, 2 => .res (u32 (y % 256 : Nat)) | 5, 3 => .res (u8 (UInt8.ofNat y).toNat) | 5, 5 => .res (str [UInt8.ofNat y]) | 5, 6 => .res (str (l ++ (le4 n).take j ++ [UInt8.ofNat y])) | 6, 1 => .res (u32 (y / 256 : Nat)) | _, _ => .no, [((2, 3), ([0, 3, 4], 0))], fun  | _ => none⟩) 400 (B := bsplit (decide ((↑j : Int) < (4 : Int))) (u32 (Int.tmod (↑y : Int) (256 : Int)) = u32 (y % 256) ∧ u8 (IntKind.wrap IntKind.u8 (↑(y % 256) : Int)) = u8 (UInt8.toNat (UInt8.ofNat y)) ∧ [u8 (UInt8.toNat (UInt8.ofNat y))] = [u8 (UInt8.toNat (UInt8.ofNat y))] ∧ ByteArray.size (ByteArray.mk (List.toArray (l ++ List.take j (le4 n)))) + ByteArray.size (ByteArray.mk (#[UInt8.ofNat y])) ≤ 9223372036854775807 ∧ some (T.v (Value.string ((ByteArray.mk (List.toArray (l ++ List.take j (le4 n)))) ++ (ByteArray.mk (#[UInt8.ofNat y]))))) = some (str (l ++ List.take j (le4 n) ++ [UInt8.ofNat y])) ∧ u32 (IntKind.wrap IntKind.u32 (Int.tdiv (↑y : Int) (256 : Int))) = u32 (y / 256) ∧ TWk Tryd.prog Γ (fin Tryd.prog Tryd.f37 [] Q) [It.code (sub (bd Tryd.f37) [1, 1, 0, 1, 0]), It.blk 0, It.code (sub (bd Tryd.f37) [1, 1, 1])] { fr := frame 21 [(0, str (l ++ List.take j (le4 n) ++ [UInt8.ofNat y])), (3, u32 (y / 256)), (4, int (IntKind.wrap IntKind.i64 ((↑j : Int) + (1 : Int))))], ob := [], gl := fun x => none }) (Q (str (l ++ List.take j (le4 n))) [] fun x => none)) (by kernel_rfl) ?_
    rw [hw]
    repeat' (first | exact rfl | exact Nat.le_of_ble_eq_true rfl | refine And.intro ?_ ?_ | intro _ | refine bsplit_mk (fun _ => ?_) (fun _ => ?_))
    all_goals first
      | exact hm
      | exact hm2
      | exact hd
      | exact nx
      | exact congrArg T.v (str_cat _ _)
      | exact cat_ok _ [_] (by simp [le4]; omega)
      | (exfalso; simp only [decide_eq_false_iff_not] at *; omega)
      | (clear nx ih; trace_state)
theorem rseal_any (l : List UInt8) (hl : l.length ≤ 1000000000) (Q : T → Obs → Glb → Prop) (hQ : ∀ x, x = str (sealL l) → Q x [] none_) : TCalls Tryd.prog 37 [str l] [] none_ Q := by
  have lp := fun Γ => rseal_loop Γ l hl (crc l) (crc_lt l) Q hQ 4 0 rfl
  rw [Nat.pow_zero, Nat.div_one, List.take_zero, List.append_nil] at lp
  refine TCalls.of Tryd.func37 rfl (CanCall.of Tryd.func37 rfl (by decide)) [] fun Γ => ?_
  refine run_sound (⟨fun | 1, 1 => told (u32 (crc l)) [] [] | _, _ => .no, [((2, 3), ([0, 3, 4], 0))], fun  | _ => none⟩) 400 (B := TCalls Tryd.prog 67 [str l] [] none_ (callPost (Hint.call false Unit (fun x => True) [] false (fun x => u32 (↑(crc l) : Int)) (fun x => []) fun x => none_)) ∧ ∀ (a : Unit), True → TWk Tryd.prog Γ (fin Tryd.prog Tryd.f37 [] Q) [It.code (sub (bd Tryd.f37) [1, 1, 0, 1, 0]), It.blk 0, It.code (sub (bd Tryd.f37) [1, 1, 1])] { fr := frame 21 [(0, str l), (3, u32 (crc l)), (4, int 0)], ob := [], gl := fun x => none }) (by kernel_rfl) ?_
  repeat' (first | exact rfl | exact Nat.le_of_ble_eq_true rfl | refine And.intro ?_ ?_ | intro _ | refine bsplit_mk (fun _ => ?_) (fun _ => ?_))
  all_goals first
    | exact rsum_any l hl _ (fun x h => told_post h)
    | exact lp Γ
    | trace_state
theorem u64T (n : Nat) (h : n ≤ 1000000000) : T.v (.int .u64 (IntKind.wrap .u64 (n : Int))) = u64 n := by rw [IntKind.wrap_u64]; exact congrArg u64 (by omega)
theorem onum_any (n : Nat) (z : Int) (Q : T → Obs → Glb → Prop) (hQ : ∀ x, x = .agg (X1.partC ⟨1, z, n, ⟨#[]⟩⟩) → Q x [] none_) : TCalls Tryd.prog 56 [u64 n, int z] [] none_ Q := by
  refine TCalls.of Tryd.func56 rfl (CanCall.of Tryd.func56 rfl (by decide)) [] fun Γ => ?_
  refine run_sound (⟨fun _ _ => .no, [], fun _ => none⟩) 400 (B := ∀ (b : Nat), (4 = nat_lit 4 ∧ List.all [int (1 : Int), int z, u64 n, T.v (Value.string (ByteArray.mk (#[])))] T.one = true) ∧ b = b ∧ 0 + nat_lit 4 ≤ 4 ∧ b = b ∧ Q (T.agg [int (1 : Int), int z, u64 n, T.v (Value.string (ByteArray.mk (#[])))]) [] fun x => none) (by kernel_rfl) ?_
  repeat' (first | exact rfl | exact Nat.le_of_ble_eq_true rfl | refine And.intro ?_ ?_ | intro _ | refine bsplit_mk (fun _ => ?_) (fun _ => ?_))
  exact hQ _ rfl
end X2
end Go.Proofs.YtaepgceodcdnhaaDoor.Vm
/- Octets by the engine: the reader. -/
namespace Go.Proofs.YtaepgceodcdnhaaDoor.Vm
open Go Go.RowKit
set_option maxRecDepth 100000
namespace X1
open Oct (getN takeL)
def rdC (l : List UInt8) (bad : Int) : List T := [str l, int bad]
def obsD (b : Nat) (l : List UInt8) (bad : Int) : Obs := [(b, .cells (rdC l bad))]
theorem read_any (l : List UInt8) (Q : T → Obs → Glb → Prop) (hQ : ∀ b, Q (.ptr 0 b 0) (obsD b l 0) none_) : TCalls Tryd.prog 39 [str l] [] none_ Q := by
  refine TCalls.of Tryd.func39 rfl (CanCall.of Tryd.func39 rfl (by decide)) [0] fun Γ => ?_
  refine run_sound (⟨fun _ _ => .no, [], fun _ => none⟩) 400 (B := ∀ (b : Nat), Q (T.ptr (0 : Nat) b (0 : Nat)) [(b, Ob.cells [T.v (Value.string (ByteArray.mk (List.toArray l))), T.v (Value.int IntKind.i64 (0 : Int))])] fun x => none) (by kernel_rfl) ?_
  repeat' (first | exact rfl | exact Nat.le_of_ble_eq_true rfl | refine And.intro ?_ ?_ | intro _ | refine bsplit_mk (fun _ => ?_) (fun _ => ?_))
  exact hQ _
theorem fail_any (b : Nat) (l : List UInt8) (bad e : Int) (Q : T → Obs → Glb → Prop) (hQ : Q (.tup []) (obsD b l (if bad = 0 then e else bad)) none_) : TCalls Tryd.prog 85 [.ptr 0 b 0, int e] (obsD b l bad) none_ Q := by
  by_cases hb : bad = 0
  · rw [if_pos hb] at hQ
    subst hb
    refine TCalls.of Tryd.func85 rfl (CanCall.of Tryd.func85 rfl (by decide)) [0] fun Γ => ?_
    refine run_sound (⟨fun _ _ => .no, [], fun _ => none⟩) 400 (B := b = b ∧ ((1 : Nat) = nat_lit 1 ∧ List.all (List.map T.v (Array.toList #[Value.int IntKind.i64 e])) T.one = true) ∧ b = b ∧ (1 : Nat) + nat_lit 1 ≤ (2 : Nat) ∧ Q (T.tup []) [(b, Ob.cells [T.v (Value.string (ByteArray.mk (List.toArray l))), T.v (Value.int IntKind.i64 e)])] fun x => none) (by kernel_rfl) ?_
    repeat' (first | exact rfl | exact Nat.le_of_ble_eq_true rfl | refine And.intro ?_ ?_ | intro _ | refine bsplit_mk (fun _ => ?_) (fun _ => ?_))
    all_goals first
      | exact hQ
      | (exfalso; rename_i h; simp at h; done)
      | trace_state
  · rw [if_neg hb] at hQ
    refine TCalls.of Tryd.func85 rfl (CanCall.of Tryd.func85 rfl (by decide)) [0] fun Γ => ?_
    refine run_sound (⟨fun _ _ => .no, [], fun _ => none⟩) 400 (B := b = b ∧ bsplit (bad == (0 : Int)) ((1 = nat_lit 1 ∧ List.all (List.map T.v (Array.toList #[Value.int IntKind.i64 e])) T.one = true) ∧ b = b ∧ 1 + nat_lit 1 ≤ 2 ∧ Q (T.tup []) [(b, Ob.cells [T.v (Value.string (ByteArray.mk (List.toArray l))), int e])] fun x => none) (Q (T.tup []) [(b, Ob.cells [T.v (Value.string (ByteArray.mk (List.toArray l))), int bad])] fun x => none)) (by kernel_rfl) ?_
    repeat' (first | exact rfl | exact Nat.le_of_ble_eq_true rfl | refine And.intro ?_ ?_ | intro _ | refine bsplit_mk (fun _ => ?_) (fun _ => ?_))
    all_goals first
      | exact hQ
      | (exfalso; simp only [beq_iff_eq] at *; omega)
      | trace_state
/-- a reader's method, as a call tells it -/
def rdH (i : Nat) (l : List UInt8) (bad : Int) (x : T) : Hint := .withB fun B => told x [i] (obsD (B.getD i 0) l bad)
theorem fail_post (b : Nat) (l : List UInt8) (e : Int) : TCalls Tryd.prog 85 [.ptr 0 b 0, int e] (obsD b l 0) none_ (callPost (told (.tup []) [0] (obsD b l e))) :=
  fail_any b l 0 e _ (by rw [if_pos rfl]; exact ⟨(), trivial, rfl, rfl, Nat.le_of_ble_eq_true rfl, fun h => by cases h⟩)
theorem str_cut (l : List UInt8) (a b : Nat) : T.v (.string ((⟨l.toArray⟩ : ByteArray).extract a b)) = str ((l.take b).drop a) := by rw [bs_cut]; rfl
theorem take_any (b : Nat) (l : List UInt8) (hl : l.length ≤ 1000000000) (bad : Int) (frm : Nat) (hf : frm ≤ 1) (hfl : frm ≤ l.length) (n : Int) (hn : n ≤ 1000000000) (Q : T → Obs → Glb → Prop)
    (hQ : ∀ x, x = str (takeL l bad frm n).1 → Q x (obsD b (takeL l bad frm n).2.1 (takeL l bad frm n).2.2) none_) : TCalls Tryd.prog 86 [.ptr 0 b 0, int frm, int n] (obsD b l bad) none_ Q := by
  unfold takeL at hQ
  by_cases hb : bad ≠ 0
  · rw [if_pos hb] at hQ
    refine TCalls.of Tryd.func86 rfl (CanCall.of Tryd.func86 rfl (by decide)) [0] fun Γ => ?_
    refine run_sound (⟨fun _ _ => .no, [((0, 9), ([0, 1, 2], 1))], fun _ => none⟩) 400 (B := b = b ∧ bsplit (bad != (0 : Int)) (Q (str []) [(b, Ob.cells [str l, int bad])] fun x => none) (bsplit (decide (n < (0 : Int))) False (b = b ∧ bsplit (decide (n > IntKind.wrap IntKind.i64 ((↑(ByteArray.size (ByteArray.mk (List.toArray l))) : Int) - (↑frm : Int)))) False (TWk Tryd.prog Γ (fin Tryd.prog Tryd.f86 [0] Q) [It.code (sub (bd Tryd.f86) [1, 1])] { fr := frame 52 [(0, T.ptr 0 b 0), (1, int frm), (2, int n)], ob := [(b, Ob.cells [str l, int bad])], gl := fun x => none })))) (by kernel_rfl) ?_
    repeat' (first | exact rfl | exact Nat.le_of_ble_eq_true rfl | refine And.intro ?_ ?_ | intro _ | refine bsplit_mk (fun _ => ?_) (fun _ => ?_))
    all_goals first
      | exact hQ _ rfl
      | (exfalso; simp only [bne_eq_false_iff_eq] at *; omega)
      | trace_state
  · rw [if_neg hb] at hQ
    have hb0 : bad = 0 := by omega
    subst hb0
    by_cases h0 : n < 0
    · rw [if_pos h0] at hQ
      refine TCalls.of Tryd.func86 rfl (CanCall.of Tryd.func86 rfl (by decide)) [0] fun Γ => ?_
      refine run_sound (⟨fun | 4, 1 => rdH 0 l 4 (.tup []) | _, _ => .no, [((0, 6), ([0, 1, 2], 1))], fun  | _ => none⟩) 400 (B := b = b ∧ bsplit (decide (n < (0 : Int))) (TCalls Tryd.prog 85 [T.ptr 0 b 0, int 4] [(b, Ob.cells [str l, int 0])] none_ (callPost (Hint.call false Unit (fun x => True) [0] false (fun x => T.tup []) (fun x => obsD b l (4 : Int)) fun x => none_)) ∧ ∀ (a : Unit), True → Q (str []) [(b, Ob.cells [str l, int 4])] fun x => none) (TWk Tryd.prog Γ (fin Tryd.prog Tryd.f86 [0] Q) [It.code (sub (bd Tryd.f86) [1, 0, 0, 1, 1, 1, 1]), It.blk 0, It.code (sub (bd Tryd.f86) [1, 1])] { fr := frame 52 [(0, T.ptr 0 b 0), (1, int frm), (2, int n)], ob := [(b, Ob.cells [str l, int 0])], gl := fun x => none })) (by kernel_rfl) ?_
      repeat' (first | exact rfl | exact Nat.le_of_ble_eq_true rfl | refine And.intro ?_ ?_ | intro _ | refine bsplit_mk (fun _ => ?_) (fun _ => ?_))
      all_goals first
        | exact fail_post b l 4
        | exact hQ _ rfl
        | (exfalso; rename_i h; simp at h; done)
        | (exfalso; simp only [decide_eq_false_iff_not] at *; omega)
        | trace_state
    · rw [if_neg h0] at hQ
      have hw : IntKind.wrap .i64 (((⟨l.toArray⟩ : ByteArray).size : Int) - frm) = (l.length : Int) - frm := by rw [bs_len, wrap_i64 (by omega) (by omega)]
      by_cases h1 : n > (l.length : Int) - frm
      · rw [if_pos h1] at hQ
        refine TCalls.of Tryd.func86 rfl (CanCall.of Tryd.func86 rfl (by decide)) [0] fun Γ => ?_
        refine run_sound (⟨fun | 7, 1 => rdH 0 l 2 (.tup []) | _, _ => .no, [((0, 4), ([0], 1)), ((0, 9), ([0, 1, 2], 1))], fun  | _ => none⟩) 400 (B := b = b ∧ bsplit (decide (n < (0 : Int))) (TWk Tryd.prog Γ (fin Tryd.prog Tryd.f86 [0] Q) [It.code (sub (bd Tryd.f86) [1, 0, 0, 1, 1, 1, 0]), It.blk 0, It.code (sub (bd Tryd.f86) [1, 1])] { fr := frame 52 [(0, T.ptr 0 b 0)], ob := [(b, Ob.cells [str l, int 0])], gl := fun x => none }) (b = b ∧ bsplit (decide (n > IntKind.wrap IntKind.i64 ((↑(ByteArray.size (ByteArray.mk (List.toArray l))) : Int) - (↑frm : Int)))) (TCalls Tryd.prog 85 [T.ptr 0 b 0, int 2] [(b, Ob.cells [str l, int 0])] none_ (callPost (Hint.call false Unit (fun x => True) [0] false (fun x => T.tup []) (fun x => obsD b l (2 : Int)) fun x => none_)) ∧ ∀ (a : Unit), True → Q (str []) [(b, Ob.cells [str l, int 2])] fun x => none) (TWk Tryd.prog Γ (fin Tryd.prog Tryd.f86 [0] Q) [It.code (sub (bd Tryd.f86) [1, 1])] { fr := frame 52 [(0, T.ptr 0 b 0), (1, int frm), (2, int n)], ob := [(b, Ob.cells [str l, int 0])], gl := fun x => none }))) (by kernel_rfl) ?_
        rw [hw]
        repeat' (first | exact rfl | exact Nat.le_of_ble_eq_true rfl | refine And.intro ?_ ?_ | intro _ | refine bsplit_mk (fun _ => ?_) (fun _ => ?_))
        all_goals first
          | exact fail_post b l 2
          | exact hQ _ rfl
          | (exfalso; rename_i h; simp at h; done)
          | (exfalso; simp only [decide_eq_false_iff_not, decide_eq_true_eq] at *; omega)
          | trace_state
      · rw [if_neg h1] at hQ
        obtain ⟨k, rfl⟩ : ∃ k : Nat, n = k := ⟨n.toNat, by omega⟩
        have hw2 : IntKind.wrap .i64 ((frm : Int) + k) = ((frm + k : Nat) : Int) := by rw [wrap_i64 (by omega) (by omega)]; omega
        have e1 : ((frm : Int) + (k : Int)).toNat = frm + k := by omega
        rw [e1, Int.toNat_natCast] at hQ
        have c1 : T.v (.string ((⟨l.toArray⟩ : ByteArray).extract frm (frm + k))) = str ((l.take (frm + k)).drop frm) := str_cut _ _ _
        have c2 : T.v (.string ((⟨l.toArray⟩ : ByteArray).extract (frm + k) (⟨l.toArray⟩ : ByteArray).size)) = str (l.drop (frm + k)) := by rw [str_cut, bs_len, List.take_length]
        have hq : Q (str ((l.take (frm + k)).drop frm)) [(b, .cells [str (l.drop (frm + k)), int 0])] none_ := hQ _ rfl
        rw [← c1, ← c2] at hq
        refine TCalls.of Tryd.func86 rfl (CanCall.of Tryd.func86 rfl (by decide)) [0] fun Γ => ?_
        refine run_sound (⟨fun _ _ => .no, [((0, 4), ([0], 1)), ((0, 7), ([0], 1))], fun _ => none⟩) 400 (B := b = b ∧ b = b ∧ bsplit (decide ((↑k : Int) > IntKind.wrap IntKind.i64 ((↑(ByteArray.size (ByteArray.mk (List.toArray l))) : Int) - (↑frm : Int)))) (TWk Tryd.prog Γ (fin Tryd.prog Tryd.f86 [0] Q) [It.code (sub (bd Tryd.f86) [1, 0, 0, 1, 1, 1, 1, 1, 0]), It.blk 0, It.code (sub (bd Tryd.f86) [1, 1])] { fr := frame 52 [(0, T.ptr 0 b 0)], ob := [(b, Ob.cells [str l, int 0])], gl := fun x => none }) (b = b ∧ ((0 : Int) ≤ Prod.snd (IntKind.i64, (↑frm : Int)) ∧ Prod.snd (IntKind.i64, (↑frm : Int)) ≤ Prod.snd (IntKind.i64, IntKind.wrap IntKind.i64 ((↑frm : Int) + (↑k : Int))) ∧ Prod.snd (IntKind.i64, IntKind.wrap IntKind.i64 ((↑frm : Int) + (↑k : Int))) ≤ (↑(ByteArray.size (ByteArray.mk (List.toArray l))) : Int)) ∧ b = b ∧ ((0 : Int) ≤ Prod.snd (IntKind.i64, IntKind.wrap IntKind.i64 ((↑frm : Int) + (↑k : Int))) ∧ Prod.snd (IntKind.i64, IntKind.wrap IntKind.i64 ((↑frm : Int) + (↑k : Int))) ≤ (↑(ByteArray.size (ByteArray.mk (List.toArray l))) : Int) ∧ (↑(ByteArray.size (ByteArray.mk (List.toArray l))) : Int) ≤ (↑(ByteArray.size (ByteArray.mk (List.toArray l))) : Int)) ∧ (1 = nat_lit 1 ∧ List.all (List.map T.v (Array.toList #[Value.string (ByteArray.extract (ByteArray.mk (List.toArray l)) (Int.toNat (Prod.snd (IntKind.i64, IntKind.wrap IntKind.i64 ((↑frm : Int) + (↑k : Int))))) (Int.toNat (↑(ByteArray.size (ByteArray.mk (List.toArray l))) : Int)))])) T.one = true) ∧ b = b ∧ 0 + nat_lit 1 ≤ 2 ∧ Q (T.v (Value.string (ByteArray.extract (ByteArray.mk (List.toArray l)) (Int.toNat (Prod.snd (IntKind.i64, (↑frm : Int)))) (Int.toNat (Prod.snd (IntKind.i64, IntKind.wrap IntKind.i64 ((↑frm : Int) + (↑k : Int)))))))) [(b, Ob.cells [T.v (Value.string (ByteArray.extract (ByteArray.mk (List.toArray l)) (Int.toNat (Prod.snd (IntKind.i64, IntKind.wrap IntKind.i64 ((↑frm : Int) + (↑k : Int))))) (Int.toNat (↑(ByteArray.size (ByteArray.mk (List.toArray l))) : Int)))), int 0])] fun x => none)) (by kernel_rfl) ?_
        rw [hw, hw2]
        repeat' (first | exact rfl | exact Nat.le_of_ble_eq_true rfl | refine And.intro ?_ ?_ | intro _ | refine bsplit_mk (fun _ => ?_) (fun _ => ?_))
        all_goals first
          | (exfalso; rename_i h; simp at h; done)
          | (exfalso; simp only [decide_eq_false_iff_not, decide_eq_true_eq] at *; omega)
          | omega
          | (rw [bs_len]; omega)
          | exact hq
          | trace_state
theorem raw_any (b : Nat) (l : List UInt8) (hl : l.length ≤ 1000000000) (bad : Int) (n : Int) (hn : n ≤ 1000000000) (Q : T → Obs → Glb → Prop)
    (hQ : ∀ x, x = str (takeL l bad 0 n).1 → Q x (obsD b (takeL l bad 0 n).2.1 (takeL l bad 0 n).2.2) none_) : TCalls Tryd.prog 89 [.ptr 0 b 0, int n] (obsD b l bad) none_ Q := by
  have h : TCalls Tryd.prog 86 [.ptr 0 b 0, int 0, int n] (obsD b l bad) none_ (callPost (told (str (takeL l bad 0 n).1) [0] (obsD b (takeL l bad 0 n).2.1 (takeL l bad 0 n).2.2))) :=
    take_any b l hl bad 0 (by decide) (Nat.zero_le _) n hn _ (fun y hy => ⟨(), trivial, hy, rfl, Nat.le_of_ble_eq_true rfl, fun h => by cases h⟩)
  generalize takeL l bad 0 n = q at *
  refine TCalls.of Tryd.func89 rfl (CanCall.of Tryd.func89 rfl (by decide)) [0] fun Γ => ?_
  refine run_sound (⟨fun | 3, 2 => rdH 0 q.2.1 q.2.2 (str q.1) | _, _ => .no, [], fun  | _ => none⟩) 400 (B := TCalls Tryd.prog 86 [T.ptr 0 b 0, int 0, int n] [(b, Ob.cells [str l, int bad])] none_ (callPost (Hint.call false Unit (fun x => True) [0] false (fun x => str (Prod.fst q)) (fun x => obsD b (Prod.fst (Prod.snd q)) (Prod.snd (Prod.snd q))) fun x => none_)) ∧ ∀ (a : Unit), True → Q (str (Prod.fst q)) [(b, Ob.cells [str (Prod.fst (Prod.snd q)), int (Prod.snd (Prod.snd q))])] fun x => none) (by kernel_rfl) ?_
  repeat' (first | exact rfl | exact Nat.le_of_ble_eq_true rfl | refine And.intro ?_ ?_ | intro _ | refine bsplit_mk (fun _ => ?_) (fun _ => ?_))
  all_goals first
    | exact hQ _ rfl
    | exact h
    | trace_state
theorem orT (N c : Nat) (hN : N * 256 + 256 ≤ 18446744073709551616) (hc : c < 256) : T.v (.int .u64 (IntKind.wrap .u64 ((BitVec.ofInt 64 ((N * 256 : Nat) : Int) ||| BitVec.ofInt 64 (c : Int)).toNat : Int))) = u64 ((256 * N + c : Nat) : Int) := by
  have e : (BitVec.ofInt 64 ((N * 256 : Nat) : Int) ||| BitVec.ofInt 64 (c : Int)).toNat = 256 * N + c := by
    rw [BitVec.toNat_or, BitVec.ofInt_natCast, BitVec.ofInt_natCast, BitVec.toNat_ofNat, BitVec.toNat_ofNat, Nat.mod_eq_of_lt (by omega), Nat.mod_eq_of_lt (by omega), Nat.mul_comm N 256]
    exact (Nat.two_pow_add_eq_or_of_lt (i := 8) (b := c) (by omega) N).symm
  rw [e, IntKind.wrap_u64]
  exact congrArg u64 (by omega)
theorem num_loop (Γ : Ctx) (b : Nat) (l d : List UInt8) (bad : Int) (hd : d.length ≤ 8) (Q : T → Obs → Glb → Prop) (hQ : ∀ x, x = u64 (getN d) → Q x (obsD b l bad) none_) : ∀ (f i : Nat), i + f = d.length →
    TWk Tryd.prog Γ (fin Tryd.prog Tryd.f68 [0] Q) [.code (sub (bd Tryd.f68) [1, 1, 1, 0, 1, 0]), .blk 1, .code (sub (bd Tryd.f68) [1, 1, 1, 1])] ⟨frame 36 [(5, u64 (getN (d.take i))), (23, .sl 1 (bL d)), (24, int (bL d).length), (25, int i)], obsD b l bad, none_⟩ := by
  intro f
  induction f with
  | zero =>
    intro i hi
    obtain rfl : i = d.length := by omega
    rw [List.take_length]
    refine run_sound (⟨fun | 9, 0 => .res (u8 0) | _, _ => .no, [((2, 8), ([5, 23, 24, 25], 1))], fun  | _ => none⟩) 400 (B := bsplit (decide ((↑(List.length d) : Int) < (↑(List.length (List.map (fun c => u8 (UInt8.toNat c)) d)) : Int))) ((0 : Int) ≤ (↑(List.length d) : Int) ∧ (List.map (fun c => u8 (UInt8.toNat c)) d)[Int.toNat (↑(List.length d) : Int)]? = some (u8 0) ∧ TWk Tryd.prog Γ (fin Tryd.prog Tryd.f68 [0] Q) [It.code (sub (bd Tryd.f68) [1, 1, 1, 0, 1, 0]), It.blk 1, It.code (sub (bd Tryd.f68) [1, 1, 1, 1])] { fr := frame 36 [(5, u64 (IntKind.wrap IntKind.u64 (↑(BitVec.toNat (BitVec.ofInt 64 (IntKind.wrap IntKind.u64 ((↑(getN d) : Int) * (2 : Int) ^ min (Int.toNat (8 : Int)) 64)) ||| BitVec.ofInt 64 (IntKind.wrap IntKind.u64 0))) : Int))), (23, T.sl 1 (List.map (fun c => u8 (UInt8.toNat c)) d)), (24, int (List.length (List.map (fun c => u8 (UInt8.toNat c)) d))), (25, int (IntKind.wrap IntKind.i64 ((↑(List.length d) : Int) + (1 : Int))))], ob := [(b, Ob.cells [str l, int bad])], gl := fun x => none }) (Q (u64 (getN d)) [(b, Ob.cells [str l, int bad])] fun x => none)) (by kernel_rfl) ?_
    repeat' (first | exact rfl | exact Nat.le_of_ble_eq_true rfl | refine And.intro ?_ ?_ | intro _ | refine bsplit_mk (fun _ => ?_) (fun _ => ?_))
    all_goals first
      | exact hQ _ rfl
      | (exfalso; simp only [decide_eq_true_eq, List.length_map] at *; omega)
      | trace_state
  | succ f ih =>
    intro i hi
    have hlt : i < d.length := by omega
    have nx := ih (i + 1) (by omega)
    rw [List.take_succ_eq_append_getElem hlt, Oct.getN_snoc] at nx
    have hN := Oct.getN_lt (d.take i)
    have hlen : (d.take i).length = i := by rw [List.length_take]; omega
    rw [hlen] at hN
    have h8 := Oct.pow_le8 (i + 1) (by omega)
    rw [Nat.pow_succ] at h8
    have hc := (d[i]).toNat_lt
    have hx : (bL d)[(i : Int).toNat]? = some (u8 (d[i]).toNat) := by rw [Int.toNat_natCast, bL, List.getElem?_map, List.getElem?_eq_getElem hlt]; rfl
    have hw : IntKind.wrap .i64 ((i : Int) + 1) = ((i + 1 : Nat) : Int) := by rw [wrap_i64 (by omega) (by omega)]; omega
    generalize getN (d.take i) = N at *
    generalize 256 ^ i = p at *
    have hs : T.v (.int .u64 (IntKind.wrap .u64 ((N : Int) * 256))) = u64 (N * 256 : Nat) := by rw [IntKind.wrap_u64]; exact congrArg u64 (by omega)
    have hcv : T.v (.int .u64 (IntKind.wrap .u64 ((d[i]).toNat : Int))) = u64 (d[i]).toNat := by rw [IntKind.wrap_u64]; exact congrArg u64 (by omega)
    refine run_sound (⟨fun | 9, 0 => .res (u8 (d[i]).toNat) | 10, 1 => .res (u64 (N * 256 : Nat)) | 10, 3 => .res (u64 (d[i]).toNat) | 10, 4 => .res (u64 (256 * N + (d[i]).toNat : Nat)) | _, _ => .no, [((2, 8), ([5, 23, 24, 25], 1))], fun  | _ => none⟩) 400 (B := bsplit (decide ((↑i : Int) < (↑(List.length (List.map (fun c => u8 (UInt8.toNat c)) d)) : Int))) ((0 : Int) ≤ (↑i : Int) ∧ (List.map (fun c => u8 (UInt8.toNat c)) d)[Int.toNat (↑i : Int)]? = some (u8 (UInt8.toNat d[i])) ∧ u64 (IntKind.wrap IntKind.u64 ((↑N : Int) * (2 : Int) ^ min (Int.toNat (8 : Int)) 64)) = u64 (N * 256) ∧ u64 (IntKind.wrap IntKind.u64 (↑(UInt8.toNat d[i]) : Int)) = u64 (UInt8.toNat d[i]) ∧ u64 (IntKind.wrap IntKind.u64 (↑(BitVec.toNat (BitVec.ofInt 64 (↑(N * 256) : Int) ||| BitVec.ofInt 64 (↑(UInt8.toNat d[i]) : Int))) : Int)) = u64 (256 * N + UInt8.toNat d[i]) ∧ TWk Tryd.prog Γ (fin Tryd.prog Tryd.f68 [0] Q) [It.code (sub (bd Tryd.f68) [1, 1, 1, 0, 1, 0]), It.blk 1, It.code (sub (bd Tryd.f68) [1, 1, 1, 1])] { fr := frame 36 [(5, u64 (256 * N + UInt8.toNat d[i])), (23, T.sl 1 (List.map (fun c => u8 (UInt8.toNat c)) d)), (24, int (List.length (List.map (fun c => u8 (UInt8.toNat c)) d))), (25, int (IntKind.wrap IntKind.i64 ((↑i : Int) + (1 : Int))))], ob := [(b, Ob.cells [str l, int bad])], gl := fun x => none }) (Q (u64 N) [(b, Ob.cells [str l, int bad])] fun x => none)) (by kernel_rfl) ?_
    rw [hw]
    repeat' (first | exact rfl | exact Nat.le_of_ble_eq_true rfl | refine And.intro ?_ ?_ | intro _ | refine bsplit_mk (fun _ => ?_) (fun _ => ?_))
    all_goals first
      | exact hx
      | exact orT N _ (by omega) (by omega)
      | exact hs
      | exact hcv
      | exact nx
      | omega
      | (exfalso; simp only [decide_eq_false_iff_not, List.length_map] at *; omega)
      | (clear nx ih; trace_state)
theorem rdnum_any (b : Nat) (l : List UInt8) (hl : l.length ≤ 1000000000) (bad : Int) (z : Nat) (hz : 1 ≤ z ∧ z ≤ 8) (Q : T → Obs → Glb → Prop)
    (hQ : ∀ x, x = u64 (getN (takeL l bad 0 z).1) → Q x (obsD b (takeL l bad 0 z).2.1 (takeL l bad 0 z).2.2) none_) : TCalls Tryd.prog 68 [.ptr 0 b 0, int z] (obsD b l bad) none_ Q := by
  have h8 := Oct.takeL_len l bad z (by omega) (by omega)
  have h : TCalls Tryd.prog 86 [.ptr 0 b 0, int 0, int z] (obsD b l bad) none_ (callPost (told (str (takeL l bad 0 z).1) [0] (obsD b (takeL l bad 0 z).2.1 (takeL l bad 0 z).2.2))) :=
    take_any b l hl bad 0 (by decide) (Nat.zero_le _) z (by omega) _ (fun y hy => ⟨(), trivial, hy, rfl, Nat.le_of_ble_eq_true rfl, fun h => by cases h⟩)
  generalize takeL l bad 0 z = q at *
  have lp := fun Γ => num_loop Γ b q.2.1 q.1 q.2.2 h8 Q hQ q.1.length 0 (by omega)
  refine TCalls.of Tryd.func68 rfl (CanCall.of Tryd.func68 rfl (by decide)) [0] fun Γ => ?_
  refine run_sound (⟨fun | 7, 2 => rdH 0 q.2.1 q.2.2 (str q.1) | _, _ => .no, [((2, 8), ([5, 23, 24, 25], 1)), ((0, 4), ([0], 1))], fun  | _ => none⟩) 400 (B := bsplit (decide ((↑z : Int) < (1 : Int))) (TWk Tryd.prog Γ (fin Tryd.prog Tryd.f68 [0] Q) [It.code (sub (bd Tryd.f68) [1, 0, 0, 1, 1, 1, 0]), It.blk 0, It.code (sub (bd Tryd.f68) [1, 1])] { fr := frame 36 [(0, T.ptr 0 b 0)], ob := [(b, Ob.cells [str l, int bad])], gl := fun x => none }) (bsplit (decide ((↑z : Int) > (8 : Int))) (TWk Tryd.prog Γ (fin Tryd.prog Tryd.f68 [0] Q) [It.code (sub (bd Tryd.f68) [1, 0, 0, 1, 1, 1, 0]), It.blk 0, It.code (sub (bd Tryd.f68) [1, 1])] { fr := frame 36 [(0, T.ptr 0 b 0)], ob := [(b, Ob.cells [str l, int bad])], gl := fun x => none }) (TCalls Tryd.prog 86 [T.ptr 0 b 0, int 0, int z] [(b, Ob.cells [str l, int bad])] none_ (callPost (Hint.call false Unit (fun x => True) [0] false (fun x => str (Prod.fst q)) (fun x => obsD b (Prod.fst (Prod.snd q)) (Prod.snd (Prod.snd q))) fun x => none_)) ∧ ∀ (a : Unit), True → ByteArray.size (ByteArray.mk (List.toArray (Prod.fst q))) ≤ 140737488355328 ∧ TWk Tryd.prog Γ (fin Tryd.prog Tryd.f68 [0] Q) [It.code (sub (bd Tryd.f68) [1, 1, 1, 0, 1, 0]), It.blk 1, It.code (sub (bd Tryd.f68) [1, 1, 1, 1])] { fr := frame 36 [(5, u64 0), (23, T.sl 1 (List.map (fun c => u8 (UInt8.toNat c)) (Array.toList (ByteArray.data (ByteArray.mk (List.toArray (Prod.fst q))))))), (24, int (List.length (List.map (fun c => u8 (UInt8.toNat c)) (Array.toList (ByteArray.data (ByteArray.mk (List.toArray (Prod.fst q)))))))), (25, int 0)], ob := [(b, Ob.cells [str (Prod.fst (Prod.snd q)), int (Prod.snd (Prod.snd q))])], gl := fun x => none }))) (by kernel_rfl) ?_
  repeat' (first | exact rfl | exact Nat.le_of_ble_eq_true rfl | refine And.intro ?_ ?_ | intro _ | refine bsplit_mk (fun _ => ?_) (fun _ => ?_))
  all_goals first
    | exact h
    | exact lp Γ
    | omega
    | (rw [bs_len]; omega)
    | (exfalso; simp only [decide_eq_true_eq] at *; omega)
    | trace_state
theorem text_any (b : Nat) (l : List UInt8) (hl : l.length ≤ 1000000000) (bad : Int) (Q : T → Obs → Glb → Prop)
    (hQ0 : l = [] → ∀ x, x = str (takeL l bad 0 1).1 → Q x (obsD b (takeL l bad 0 1).2.1 (takeL l bad 0 1).2.2) none_)
    (hQ : ∀ c r, l = c :: r → ∀ x, x = str (takeL l bad 1 c.toNat).1 → Q x (obsD b (takeL l bad 1 c.toNat).2.1 (takeL l bad 1 c.toNat).2.2) none_) : TCalls Tryd.prog 87 [.ptr 0 b 0] (obsD b l bad) none_ Q := by
  by_cases hl0 : l = []
  · have h : TCalls Tryd.prog 86 [.ptr 0 b 0, int 0, int 1] (obsD b l bad) none_ (callPost (told (str (takeL l bad 0 1).1) [0] (obsD b (takeL l bad 0 1).2.1 (takeL l bad 0 1).2.2))) :=
      take_any b l hl bad 0 (by decide) (Nat.zero_le _) 1 (by omega) _ (fun y hy => ⟨(), trivial, hy, rfl, Nat.le_of_ble_eq_true rfl, fun h => by cases h⟩)
    have h0 := hQ0 hl0
    generalize takeL l bad 0 1 = q at *
    refine TCalls.of Tryd.func87 rfl (CanCall.of Tryd.func87 rfl (by decide)) [0] fun Γ => ?_
    refine run_sound (⟨fun | 4, 1 => rdH 0 q.2.1 q.2.2 (str q.1) | _, _ => .no, [((0, 5), ([0], 1))], fun  | _ => none⟩) 400 (B := b = b ∧ bsplit (decide ((ByteArray.mk (List.toArray l)) = (ByteArray.mk (#[])))) (TCalls Tryd.prog 86 [T.ptr 0 b 0, int 0, int 1] [(b, Ob.cells [str l, int bad])] none_ (callPost (Hint.call false Unit (fun x => True) [0] false (fun x => str (Prod.fst q)) (fun x => obsD b (Prod.fst (Prod.snd q)) (Prod.snd (Prod.snd q))) fun x => none_)) ∧ ∀ (a : Unit), True → Q (str (Prod.fst q)) [(b, Ob.cells [str (Prod.fst (Prod.snd q)), int (Prod.snd (Prod.snd q))])] fun x => none) (TWk Tryd.prog Γ (fin Tryd.prog Tryd.f87 [0] Q) [It.code (sub (bd Tryd.f87) [1, 1])] { fr := frame 22 [(0, T.ptr 0 b 0)], ob := [(b, Ob.cells [str l, int bad])], gl := fun x => none })) (by kernel_rfl) ?_
    repeat' (first | exact rfl | exact Nat.le_of_ble_eq_true rfl | refine And.intro ?_ ?_ | intro _ | refine bsplit_mk (fun _ => ?_) (fun _ => ?_))
    all_goals first
      | exact h
      | exact h0 _ rfl
      | (exfalso; rename_i h; exact (of_decide_eq_false h) (by rw [hl0]))
      | trace_state
  · obtain ⟨c, r, he⟩ := List.exists_cons_of_ne_nil hl0
    have hc := c.toNat_lt
    have hlen : 0 < l.length := by rw [he]; simp
    have hg : l[0] = c := by simp [he]
    have h : TCalls Tryd.prog 86 [.ptr 0 b 0, int 1, int c.toNat] (obsD b l bad) none_ (callPost (told (str (takeL l bad 1 c.toNat).1) [0] (obsD b (takeL l bad 1 c.toNat).2.1 (takeL l bad 1 c.toNat).2.2))) :=
      take_any b l hl bad 1 (by decide) (by omega) c.toNat (by omega) _ (fun y hy => ⟨(), trivial, hy, rfl, Nat.le_of_ble_eq_true rfl, fun h => by cases h⟩)
    have h0 := hQ c r he
    have hx := str_at l 0 hlen
    rw [hg] at hx
    generalize takeL l bad 1 c.toNat = q at *
    refine TCalls.of Tryd.func87 rfl (CanCall.of Tryd.func87 rfl (by decide)) [0] fun Γ => ?_
    refine run_sound (⟨fun | 4, 1 => .no | 5, 5 => .res (u8 c.toNat) | 5, 6 => .res (int c.toNat) | 5, 7 => rdH 0 q.2.1 q.2.2 (str q.1) | _, _ => .no, [((0, 4), ([0], 1))], fun  | _ => none⟩) 400 (B := b = b ∧ bsplit (decide ((ByteArray.mk (List.toArray l)) = (ByteArray.mk (#[])))) (TWk Tryd.prog Γ (fin Tryd.prog Tryd.f87 [0] Q) [It.code (sub (bd Tryd.f87) [1, 0, 0, 1, 1, 1, 0]), It.blk 0, It.code (sub (bd Tryd.f87) [1, 1])] { fr := frame 22 [(0, T.ptr 0 b 0)], ob := [(b, Ob.cells [str l, int bad])], gl := fun x => none }) (b = b ∧ (0 : Int) ≤ (0 : Int) ∧ Option.map (fun c => u8 (UInt8.toNat c)) (ByteArray.mk (List.toArray l))[Int.toNat (0 : Int)]? = some (u8 (UInt8.toNat c)) ∧ int (IntKind.wrap IntKind.i64 (↑(UInt8.toNat c) : Int)) = int (UInt8.toNat c) ∧ TCalls Tryd.prog 86 [T.ptr 0 b 0, int 1, int (UInt8.toNat c)] [(b, Ob.cells [str l, int bad])] none_ (callPost (Hint.call false Unit (fun x => True) [0] false (fun x => str (Prod.fst q)) (fun x => obsD b (Prod.fst (Prod.snd q)) (Prod.snd (Prod.snd q))) fun x => none_)) ∧ ∀ (a : Unit), True → Q (str (Prod.fst q)) [(b, Ob.cells [str (Prod.fst (Prod.snd q)), int (Prod.snd (Prod.snd q))])] fun x => none)) (by kernel_rfl) ?_
    repeat' (first | exact rfl | exact Nat.le_of_ble_eq_true rfl | refine And.intro ?_ ?_ | intro _ | refine bsplit_mk (fun _ => ?_) (fun _ => ?_))
    all_goals first
      | exact h
      | exact h0 _ rfl
      | exact hx
      | (exfalso; rename_i h; exact hl0 (by have := congrArg (fun b : ByteArray => b.data.toList) (of_decide_eq_true h); simpa using this))
      | exact congrArg int (wrap_i64 (by omega) (by omega))
      | exact Int.le_refl _
      | trace_state
end X1
end Go.Proofs.YtaepgceodcdnhaaDoor.Vm
/- Frames: plain. No program is named here. -/
namespace Go.Proofs.YtaepgceodcdnhaaDoor.Frm
open Oct (Part joinRes be getN takeL)
def num (z : Int) (n : Nat) : Part := ⟨1, z, n, ⟨#[]⟩⟩
def text (x : List UInt8) : Part := ⟨2, 0, 0, ⟨x.toArray⟩⟩
def raw (x : List UInt8) : Part := ⟨3, 0, 0, ⟨x.toArray⟩⟩
def one (b : Bool) : Nat := if b then 1 else 0
structure Cmd where
  k : Nat
  n : Nat
  l : Nat
  e : Nat
  q : Nat
  deriving DecidableEq
structure Mem where
  n : Nat
  l : Nat
  r : Bool
  deriving DecidableEq
structure Ent where
  s : Nat
  n : Nat
  b : Nat
  c : Cmd
  deriving DecidableEq
structure Lvs where
  l0 : Nat
  l1 : Nat
  l2 : Nat
  l3 : Nat
  l4 : Nat
  l5 : Nat
  l6 : Nat
  l7 : Nat
  deriving DecidableEq
structure Fm where
  kind : Nat
  frm : Nat
  to : Nat
  ep : Nat
  key : Nat
  sn : Nat
  sb : Nat
  sl : Nat
  has : Bool
  x : List UInt8
  rmw : Bool
  flag : Bool
  dir : Nat
  life : Nat
  req : Nat
  bn : Nat
  bb : Nat
  slot : Nat
  c : Cmd
  ve : Nat
  ms : List Mem
  lv : Lvs
  es : List Ent
  deriving DecidableEq
def Cmd.ps (c : Cmd) : List Part := [num 1 c.k, num 1 c.n, num 1 c.l, num 4 c.e, num 4 c.q]
def Cmd.bs (c : Cmd) : List UInt8 := be 1 c.k ++ (be 1 c.n ++ (be 1 c.l ++ (be 4 c.e ++ be 4 c.q)))
def Mem.ps (m : Mem) : List Part := [num 1 m.n, num 1 m.l, num 1 (one m.r)]
def Mem.bs (m : Mem) : List UInt8 := be 1 m.n ++ (be 1 m.l ++ be 1 (one m.r))
def Ent.ps (x : Ent) : List Part := num 4 x.s :: num 4 x.n :: num 1 x.b :: x.c.ps
def Ent.bs (x : Ent) : List UInt8 := be 4 x.s ++ (be 4 x.n ++ (be 1 x.b ++ x.c.bs))
def Lvs.bs (l : Lvs) : List UInt8 := [UInt8.ofNat l.l0, UInt8.ofNat l.l1, UInt8.ofNat l.l2, UInt8.ofNat l.l3, UInt8.ofNat l.l4, UInt8.ofNat l.l5, UInt8.ofNat l.l6, UInt8.ofNat l.l7]
/-- the parts of a field: its letter by its number -/
def Fm.ps (f : Fm) (c : Nat) : List Part :=
  if c = 101 then [num 4 f.ep] else if c = 107 then [num 1 f.key] else if c = 115 then [num 4 f.sn, num 1 f.sb, num 1 f.sl]
  else if c = 118 then [num 1 (one f.has), text f.x] else if c = 114 then [num 1 (one f.rmw)] else if c = 102 then [num 1 (one f.flag)]
  else if c = 100 then [num 1 f.dir] else if c = 108 then [num 1 f.life] else if c = 113 then [num 4 f.req] else if c = 98 then [num 4 f.bn, num 1 f.bb]
  else if c = 110 then [num 4 f.slot] else if c = 99 then f.c.ps
  else if c = 119 then num 4 f.ve :: num 1 f.ms.length :: (f.ms.flatMap Mem.ps ++ [raw f.lv.bs])
  else num 1 f.es.length :: f.es.flatMap Ent.ps
def Fm.fb (f : Fm) (c : Nat) : List UInt8 :=
  if c = 101 then be 4 f.ep else if c = 107 then be 1 f.key else if c = 115 then be 4 f.sn ++ (be 1 f.sb ++ be 1 f.sl)
  else if c = 118 then be 1 (one f.has) ++ (UInt8.ofNat f.x.length :: f.x) else if c = 114 then be 1 (one f.rmw) else if c = 102 then be 1 (one f.flag)
  else if c = 100 then be 1 f.dir else if c = 108 then be 1 f.life else if c = 113 then be 4 f.req else if c = 98 then be 4 f.bn ++ be 1 f.bb
  else if c = 110 then be 4 f.slot else if c = 99 then f.c.bs
  else if c = 119 then be 4 f.ve ++ (be 1 f.ms.length ++ (f.ms.flatMap Mem.bs ++ f.lv.bs))
  else be 1 f.es.length ++ f.es.flatMap Ent.bs
def valOk (h : Bool) (x : List UInt8) : Bool := decide (x.length ≤ 32) && (h || decide (x = []))
def Fm.may (f : Fm) (c : Nat) : Bool :=
  if c = 107 then decide (f.key < 6) else if c = 118 then valOk f.has f.x else if c = 119 then decide (f.ms.length ≤ 8) else if c = 116 then decide (f.es.length ≤ 16) else true
/-- the letters of a kind's fields -/
def fields : List (List Nat) := [[], [101, 107, 115, 118, 114, 100], [101, 107, 115, 102], [101, 107, 115], [101, 107], [101, 107, 115, 118, 114, 102], [101, 108, 113, 102], [119], [101, 108, 113], [98, 110], [98, 110, 116], [98], [98, 110, 99], [98, 110], [110, 99], [110, 102], [110, 119]]
def lets (k : Nat) : List Nat := fields.getD k []
def isLet (c : Nat) : Bool := [101, 107, 115, 118, 114, 102, 100, 108, 113, 98, 110, 99, 119, 116].contains c
theorem lets_ok (k : Nat) : ∀ c ∈ lets k, isLet c = true := by
  unfold lets
  rcases Nat.lt_or_ge k 17 with h | h
  · have : k = 0 ∨ k = 1 ∨ k = 2 ∨ k = 3 ∨ k = 4 ∨ k = 5 ∨ k = 6 ∨ k = 7 ∨ k = 8 ∨ k = 9 ∨ k = 10 ∨ k = 11 ∨ k = 12 ∨ k = 13 ∨ k = 14 ∨ k = 15 ∨ k = 16 := by omega
    rcases this with rfl | rfl | rfl | rfl | rfl | rfl | rfl | rfl | rfl | rfl | rfl | rfl | rfl | rfl | rfl | rfl | rfl <;> decide
  · rw [List.getD_eq_getElem?_getD, List.getElem?_eq_none (by simpa [fields] using h)]
    intro c hc; cases hc
/-- a frame within its numbers' sizes -/
structure Cmd.Ok (c : Cmd) : Prop where
  k : c.k < 256
  n : c.n < 256
  l : c.l < 256
  e : c.e < 4294967296
  q : c.q < 4294967296
structure Mem.Ok (m : Mem) : Prop where
  n : m.n < 256
  l : m.l < 256
structure Ent.Ok (x : Ent) : Prop where
  s : x.s < 4294967296
  n : x.n < 4294967296
  b : x.b < 256
  c : x.c.Ok
structure Lvs.Ok (l : Lvs) : Prop where
  l0 : l.l0 < 256
  l1 : l.l1 < 256
  l2 : l.l2 < 256
  l3 : l.l3 < 256
  l4 : l.l4 < 256
  l5 : l.l5 < 256
  l6 : l.l6 < 256
  l7 : l.l7 < 256
structure Fm.Ok (f : Fm) : Prop where
  kind : f.kind < 256
  frm : f.frm < 256
  to : f.to < 256
  ep : f.ep < 4294967296
  key : f.key < 256
  sn : f.sn < 4294967296
  sb : f.sb < 256
  sl : f.sl < 256
  x : f.x.length ≤ 1000000000
  dir : f.dir < 256
  life : f.life < 256
  req : f.req < 4294967296
  bn : f.bn < 4294967296
  bb : f.bb < 256
  slot : f.slot < 4294967296
  c : f.c.Ok
  ve : f.ve < 4294967296
  ms : f.ms.length ≤ 10
  mo : ∀ m ∈ f.ms, m.Ok
  lv : f.lv.Ok
  es : f.es.length ≤ 18
  eo : ∀ x ∈ f.es, x.Ok
end Go.Proofs.YtaepgceodcdnhaaDoor.Frm
/- Frames: plain, a frame in bytes. No program is named here. -/
namespace Go.Proofs.YtaepgceodcdnhaaDoor.Frm
open Oct (Part joinRes be getN takeL room)
/-- parts that are these bytes, none of them great -/
structure PB (ps : List Part) (b : List UInt8) : Prop where
  j : ∀ acc, joinRes ps acc = (acc ++ b, 0)
  n : ∀ p ∈ ps, p.n < 4294967296
  s : ∀ p ∈ ps, p.s.size ≤ 255
theorem PB.nil : PB [] [] := ⟨fun acc => by rw [List.append_nil]; rfl, (fun p h => by cases h), (fun p h => by cases h)⟩
theorem PB.app {ps qs : List Part} {a b : List UInt8} (h : PB ps a) (k : PB qs b) : PB (ps ++ qs) (a ++ b) where
  j := by
    have gen : ∀ (ps : List Part) (a acc : List UInt8), joinRes ps acc = (acc ++ a, 0) → joinRes (ps ++ qs) acc = joinRes qs (acc ++ a) := by
      intro ps
      induction ps with
      | nil =>
        intro a acc h
        have : acc = acc ++ a := congrArg Prod.fst h
        rw [← this]; rfl
      | cons p ps ih =>
        intro a acc h
        have h : (if p.bytes.2 ≠ 0 then ([], p.bytes.2) else joinRes ps (acc ++ p.bytes.1)) = (acc ++ a, 0) := h
        show (if p.bytes.2 ≠ 0 then ([], p.bytes.2) else joinRes (ps ++ qs) (acc ++ p.bytes.1)) = _
        by_cases e : p.bytes.2 ≠ 0
        · rw [if_pos e] at h
          exact absurd (congrArg Prod.snd h) e
        · rw [if_neg e] at h
          rw [if_neg e]
          have hx := joinRes_pre ps (acc ++ p.bytes.1)
          rw [h] at hx
          obtain ⟨t, ht⟩ := hx rfl
          have ht : acc ++ a = acc ++ p.bytes.1 ++ t := ht
          rw [ih t (acc ++ p.bytes.1) (by rw [h, ht]), ht]
    exact fun acc => by rw [gen ps a acc (h.j acc), k.j, List.append_assoc]
  n := fun p hp => (List.mem_append.1 hp).elim (h.n p) (k.n p)
  s := fun p hp => (List.mem_append.1 hp).elim (h.s p) (k.s p)
where
  joinRes_pre : ∀ (ps : List Part) (acc : List UInt8), (joinRes ps acc).2 = 0 → ∃ t, (joinRes ps acc).1 = acc ++ t
    | [], acc, _ => ⟨[], (List.append_nil acc).symm⟩
    | p :: ps, acc, h => by
      have h : (if p.bytes.2 ≠ 0 then ([], p.bytes.2) else joinRes ps (acc ++ p.bytes.1)).2 = 0 := h
      show ∃ t, (if p.bytes.2 ≠ 0 then ([], p.bytes.2) else joinRes ps (acc ++ p.bytes.1)).1 = acc ++ t
      by_cases e : p.bytes.2 ≠ 0
      · rw [if_pos e] at h; exact absurd h e
      · rw [if_neg e] at h ⊢
        obtain ⟨t, ht⟩ := joinRes_pre ps _ h
        exact ⟨p.bytes.1 ++ t, by rw [ht, List.append_assoc]⟩
theorem PB.one {p : Part} {b : List UInt8} (h : p.bytes = (b, 0)) (hn : p.n < 4294967296) (hs : p.s.size ≤ 255) : PB [p] b where
  j := fun acc => by
    show (if p.bytes.2 ≠ 0 then ([], p.bytes.2) else joinRes [] (acc ++ p.bytes.1)) = _
    rw [h]; rfl
  n := fun q hq => by rw [List.mem_singleton.1 hq]; exact hn
  s := fun q hq => by rw [List.mem_singleton.1 hq]; exact hs
theorem PB.cons {p : Part} {ps : List Part} {a b : List UInt8} (h : PB [p] a) (k : PB ps b) : PB (p :: ps) (a ++ b) := h.app k
theorem size_mk (x : List UInt8) : (⟨x.toArray⟩ : ByteArray).size = x.length := by show x.toArray.size = _; simp
theorem PB.num1 {n : Nat} (h : n < 256) : PB [num 1 n] (be 1 n) := PB.one (by
  unfold num Part.bytes
  rw [if_pos rfl]
  unfold Oct.numRes
  rw [if_pos ⟨(show (1 : Int) ≤ 1 by decide), (show (1 : Int) ≤ 8 by decide), by show n < 256 ^ 1; omega⟩]; rfl) (by show n < _; omega) (show (0 : Nat) ≤ 255 by decide)
theorem PB.num4 {n : Nat} (h : n < 4294967296) : PB [num 4 n] (be 4 n) := PB.one (by
  unfold num Part.bytes
  rw [if_pos rfl]
  unfold Oct.numRes
  rw [if_pos ⟨(show (1 : Int) ≤ 4 by decide), (show (4 : Int) ≤ 8 by decide), by show n < 256 ^ 4; omega⟩]; rfl) h (show (0 : Nat) ≤ 255 by decide)
theorem PB.txt {x : List UInt8} (h : x.length ≤ 255) : PB [text x] (UInt8.ofNat x.length :: x) := PB.one (by
  unfold text Part.bytes
  rw [if_neg (show ¬ (2 : Int) = 1 by decide), if_pos rfl, if_neg (by show ¬ 255 < (⟨x.toArray⟩ : ByteArray).size; rw [size_mk]; omega)]
  show (UInt8.ofNat (⟨x.toArray⟩ : ByteArray).size :: x, (0 : Int)) = _
  rw [size_mk]) (show (0 : Nat) < 4294967296 by decide) (by show (⟨x.toArray⟩ : ByteArray).size ≤ 255; rw [size_mk]; exact h)
theorem PB.rw {x : List UInt8} (h : x.length ≤ 255) : PB [raw x] x := PB.one (by
  unfold raw Part.bytes
  rw [if_neg (show ¬ (3 : Int) = 1 by decide), if_neg (show ¬ (3 : Int) = 2 by decide), if_pos rfl]) (show (0 : Nat) < 4294967296 by decide) (by show (⟨x.toArray⟩ : ByteArray).size ≤ 255; rw [size_mk]; exact h)
theorem one_lt (b : Bool) : one b < 256 := by cases b <;> decide
theorem Cmd.Ok.pb {c : Cmd} (h : c.Ok) : PB c.ps c.bs := (PB.num1 h.k).cons ((PB.num1 h.n).cons ((PB.num1 h.l).cons ((PB.num4 h.e).cons (PB.num4 h.q))))
theorem Mem.Ok.pb {m : Mem} (h : m.Ok) : PB m.ps m.bs := (PB.num1 h.n).cons ((PB.num1 h.l).cons (PB.num1 (one_lt _)))
theorem Ent.Ok.pb {x : Ent} (h : x.Ok) : PB x.ps x.bs := (PB.num4 h.s).cons ((PB.num4 h.n).cons ((PB.num1 h.b).cons h.c.pb))
theorem PB.flat {α : Type} {P : α → List Part} {B : α → List UInt8} : ∀ (l : List α), (∀ x ∈ l, PB (P x) (B x)) → PB (l.flatMap P) (l.flatMap B)
  | [], _ => PB.nil
  | x :: l, h => by rw [List.flatMap_cons, List.flatMap_cons]; exact (h x (by simp)).app (PB.flat l fun y hy => h y (by simp [hy]))
theorem Fm.Ok.pb {f : Fm} (h : f.Ok) (c : Nat) (hm : f.may c = true) : PB (f.ps c) (f.fb c) := by
  unfold Fm.ps Fm.fb
  by_cases h1 : c = 101
  · rw [if_pos h1, if_pos h1]; exact PB.num4 h.ep
  rw [if_neg h1, if_neg h1]
  by_cases h1 : c = 107
  · rw [if_pos h1, if_pos h1]; exact PB.num1 h.key
  rw [if_neg h1, if_neg h1]
  by_cases h1 : c = 115
  · rw [if_pos h1, if_pos h1]; exact (PB.num4 h.sn).cons ((PB.num1 h.sb).cons (PB.num1 h.sl))
  rw [if_neg h1, if_neg h1]
  by_cases h1 : c = 118
  · rw [if_pos h1, if_pos h1]
    subst h1
    have hm : valOk f.has f.x = true := hm
    unfold valOk at hm
    have : f.x.length ≤ 32 := by simp at hm; exact hm.1
    exact (PB.num1 (one_lt _)).cons (PB.txt (by omega))
  rw [if_neg h1, if_neg h1]
  by_cases h1 : c = 114
  · rw [if_pos h1, if_pos h1]; exact PB.num1 (one_lt _)
  rw [if_neg h1, if_neg h1]
  by_cases h1 : c = 102
  · rw [if_pos h1, if_pos h1]; exact PB.num1 (one_lt _)
  rw [if_neg h1, if_neg h1]
  by_cases h1 : c = 100
  · rw [if_pos h1, if_pos h1]; exact PB.num1 h.dir
  rw [if_neg h1, if_neg h1]
  by_cases h1 : c = 108
  · rw [if_pos h1, if_pos h1]; exact PB.num1 h.life
  rw [if_neg h1, if_neg h1]
  by_cases h1 : c = 113
  · rw [if_pos h1, if_pos h1]; exact PB.num4 h.req
  rw [if_neg h1, if_neg h1]
  by_cases h1 : c = 98
  · rw [if_pos h1, if_pos h1]; exact (PB.num4 h.bn).cons (PB.num1 h.bb)
  rw [if_neg h1, if_neg h1]
  by_cases h1 : c = 110
  · rw [if_pos h1, if_pos h1]; exact PB.num4 h.slot
  rw [if_neg h1, if_neg h1]
  by_cases h1 : c = 99
  · rw [if_pos h1, if_pos h1]; exact h.c.pb
  rw [if_neg h1, if_neg h1]
  by_cases h1 : c = 119
  · rw [if_pos h1, if_pos h1]
    exact (PB.num4 h.ve).cons ((PB.num1 (by have := h.ms; omega)).cons ((PB.flat f.ms fun m hm => (h.mo m hm).pb).app (PB.rw (by show (8 : Nat) ≤ 255; decide))))
  · rw [if_neg h1, if_neg h1]
    exact (PB.num1 (by have := h.es; omega)).cons (PB.flat f.es fun m hm => (h.eo m hm).pb)
/-- a frame's head, and all of it -/
def Fm.hps (f : Fm) : List Part := [num 1 f.kind, num 1 f.frm, num 1 f.to]
def Fm.hb (f : Fm) : List UInt8 := be 1 f.kind ++ (be 1 f.frm ++ be 1 f.to)
theorem Fm.Ok.hpb {f : Fm} (h : f.Ok) : PB f.hps f.hb := (PB.num1 h.kind).cons ((PB.num1 h.frm).cons (PB.num1 h.to))
def hasKind (k : Nat) : Bool := decide (1 ≤ k ∧ k < 17)
/-- may a frame be? -/
def Fm.good (f : Fm) : Bool := hasKind f.kind && (lets f.kind).all f.may
def Fm.bytes (f : Fm) : List UInt8 := f.hb ++ (lets f.kind).flatMap f.fb
/-- what Encode tells -/
def Fm.enc (f : Fm) : List UInt8 × Int := if f.good = true then (Crc.sealL f.bytes, 0) else ([], 4)
theorem Fm.Ok.all_pb {f : Fm} (h : f.Ok) (l : List Nat) (hl : ∀ c ∈ l, f.may c = true) : PB (f.hps ++ l.flatMap f.ps) (f.hb ++ l.flatMap f.fb) := h.hpb.app (PB.flat l fun c hc => h.pb c (hl c hc))
theorem be1_len (n : Nat) : (be 1 n).length = 1 := Oct.length_be 1 n
theorem be4_len (n : Nat) : (be 4 n).length = 4 := Oct.length_be 4 n
theorem flat_le {α β : Type} {f : α → List β} {k : Nat} : ∀ (l : List α), (∀ x ∈ l, (f x).length ≤ k) → (l.flatMap f).length ≤ l.length * k
  | [], _ => by simp
  | x :: l, h => by
    rw [List.flatMap_cons, List.length_append, List.length_cons, Nat.add_mul]
    have := h x (by simp)
    have := flat_le l fun y hy => h y (by simp [hy])
    omega
theorem Fm.Ok.ps_le {f : Fm} (h : f.Ok) (c : Nat) : (f.ps c).length ≤ 145 := by
  have hms := h.ms
  have hes := h.es
  have e1 : (f.ms.flatMap Mem.ps).length ≤ f.ms.length * 3 := flat_le f.ms fun _ _ => Nat.le_refl _
  have e2 : (f.es.flatMap Ent.ps).length ≤ f.es.length * 8 := flat_le f.es fun _ _ => Nat.le_refl _
  unfold Fm.ps
  by_cases g : c = 101
  · rw [if_pos g]; exact Nat.le_of_ble_eq_true rfl
  rw [if_neg g]
  clear g
  by_cases g : c = 107
  · rw [if_pos g]; exact Nat.le_of_ble_eq_true rfl
  rw [if_neg g]
  clear g
  by_cases g : c = 115
  · rw [if_pos g]; exact Nat.le_of_ble_eq_true rfl
  rw [if_neg g]
  clear g
  by_cases g : c = 118
  · rw [if_pos g]; exact Nat.le_of_ble_eq_true rfl
  rw [if_neg g]
  clear g
  by_cases g : c = 114
  · rw [if_pos g]; exact Nat.le_of_ble_eq_true rfl
  rw [if_neg g]
  clear g
  by_cases g : c = 102
  · rw [if_pos g]; exact Nat.le_of_ble_eq_true rfl
  rw [if_neg g]
  clear g
  by_cases g : c = 100
  · rw [if_pos g]; exact Nat.le_of_ble_eq_true rfl
  rw [if_neg g]
  clear g
  by_cases g : c = 108
  · rw [if_pos g]; exact Nat.le_of_ble_eq_true rfl
  rw [if_neg g]
  clear g
  by_cases g : c = 113
  · rw [if_pos g]; exact Nat.le_of_ble_eq_true rfl
  rw [if_neg g]
  clear g
  by_cases g : c = 98
  · rw [if_pos g]; exact Nat.le_of_ble_eq_true rfl
  rw [if_neg g]
  clear g
  by_cases g : c = 110
  · rw [if_pos g]; exact Nat.le_of_ble_eq_true rfl
  rw [if_neg g]
  clear g
  by_cases g : c = 99
  · rw [if_pos g]; exact Nat.le_of_ble_eq_true rfl
  rw [if_neg g]
  clear g
  by_cases g : c = 119
  · rw [if_pos g, List.length_cons, List.length_cons, List.length_append]; show _ + 1 + 1 + 1 ≤ _; omega
  · rw [if_neg g, List.length_cons]; omega
theorem lets_len (k : Nat) : (lets k).length ≤ 6 := by
  unfold lets
  rcases Nat.lt_or_ge k 17 with h | h
  · have : k = 0 ∨ k = 1 ∨ k = 2 ∨ k = 3 ∨ k = 4 ∨ k = 5 ∨ k = 6 ∨ k = 7 ∨ k = 8 ∨ k = 9 ∨ k = 10 ∨ k = 11 ∨ k = 12 ∨ k = 13 ∨ k = 14 ∨ k = 15 ∨ k = 16 := by omega
    rcases this with rfl | rfl | rfl | rfl | rfl | rfl | rfl | rfl | rfl | rfl | rfl | rfl | rfl | rfl | rfl | rfl | rfl <;> decide
  · rw [List.getD_eq_getElem?_getD, List.getElem?_eq_none (by simpa [fields] using h)]; exact Nat.zero_le _
theorem room_le : ∀ (ps : List Part), (∀ p ∈ ps, p.s.size ≤ 255) → room ps ≤ 264 * ps.length
  | [], _ => Nat.le_refl _
  | p :: ps, h => by
    have h1 := room_le ps fun q hq => h q (by simp [hq])
    have h2 := h p (by simp)
    have : room (p :: ps) = (p.s.size + 9) + room ps := by simp [room]
    rw [this, List.length_cons]; omega
theorem joined_le : ∀ (ps : List Part) (acc : List UInt8), (∀ p ∈ ps, p.s.size ≤ 255) → (joinRes ps acc).1.length ≤ acc.length + 264 * ps.length
  | [], acc, _ => Nat.le_refl _
  | p :: ps, acc, h => by
    show (if p.bytes.2 ≠ 0 then ([], p.bytes.2) else joinRes ps (acc ++ p.bytes.1)).1.length ≤ _
    by_cases e : p.bytes.2 ≠ 0
    · rw [if_pos e]; exact Nat.zero_le _
    · rw [if_neg e]
      have h1 := joined_le ps (acc ++ p.bytes.1) fun q hq => h q (by simp [hq])
      have h2 := Oct.bytes_le p
      have h3 := h p (by simp)
      rw [List.length_append] at h1
      rw [List.length_cons]
      omega
theorem bytes_len {ps : List Part} {b : List UInt8} (h : PB ps b) : b.length ≤ 264 * ps.length := by
  have := joined_le ps [] h.s
  rw [h.j [], List.nil_append] at this
  simpa using this
end Go.Proofs.YtaepgceodcdnhaaDoor.Frm
/- Frames by the engine: a frame's parts. -/
namespace Go.Proofs.YtaepgceodcdnhaaDoor.Vm
open Go Go.RowKit
set_option maxRecDepth 100000
namespace X6
open Frm (num text raw one Cmd Mem Ent Lvs)
open Oct (Part)
open X1 (partC parts)
theorem otext_any (x : List UInt8) (Q : T → Obs → Glb → Prop) (hQ : ∀ y, y = .agg (partC (text x)) → Q y [] none_) : TCalls Tryd.prog 61 [str x] [] none_ Q := by
  refine TCalls.of Tryd.func61 rfl (CanCall.of Tryd.func61 rfl (by decide)) [] fun Γ => ?_
  refine run_sound (⟨fun _ _ => .no, [], fun _ => none⟩) 400 (B := ∀ (b : Nat), (4 = nat_lit 4 ∧ List.all [int (2 : Int), int (0 : Int), u64 (0 : Int), T.v (Value.string (ByteArray.mk (List.toArray x)))] T.one = true) ∧ b = b ∧ 0 + nat_lit 4 ≤ 4 ∧ b = b ∧ Q (T.agg [int (2 : Int), int (0 : Int), u64 (0 : Int), T.v (Value.string (ByteArray.mk (List.toArray x)))]) [] fun x => none) (by kernel_rfl) ?_
  repeat' (first | exact rfl | exact Nat.le_of_ble_eq_true rfl | refine And.intro ?_ ?_ | intro _ | refine bsplit_mk (fun _ => ?_) (fun _ => ?_))
  exact hQ _ rfl
theorem oraw_any (x : List UInt8) (Q : T → Obs → Glb → Prop) (hQ : ∀ y, y = .agg (partC (raw x)) → Q y [] none_) : TCalls Tryd.prog 82 [str x] [] none_ Q := by
  refine TCalls.of Tryd.func82 rfl (CanCall.of Tryd.func82 rfl (by decide)) [] fun Γ => ?_
  refine run_sound (⟨fun _ _ => .no, [], fun _ => none⟩) 400 (B := ∀ (b : Nat), (4 = nat_lit 4 ∧ List.all [int (3 : Int), int (0 : Int), u64 (0 : Int), T.v (Value.string (ByteArray.mk (List.toArray x)))] T.one = true) ∧ b = b ∧ 0 + nat_lit 4 ≤ 4 ∧ b = b ∧ Q (T.agg [int (3 : Int), int (0 : Int), u64 (0 : Int), T.v (Value.string (ByteArray.mk (List.toArray x)))]) [] fun x => none) (by kernel_rfl) ?_
  repeat' (first | exact rfl | exact Nat.le_of_ble_eq_true rfl | refine And.intro ?_ ?_ | intro _ | refine bsplit_mk (fun _ => ?_) (fun _ => ?_))
  exact hQ _ rfl
theorem small_post (n : Nat) (hn : n < 256) : TCalls Tryd.prog 28 [u8 n] [] none_ (callPost (told (.agg (partC (num 1 n))) [] [])) := by
  have hw : T.v (.int .u64 (IntKind.wrap .u64 (n : Int))) = u64 n := congrArg u64 (IntWalk.u64_in _ (by omega))
  have hQ : callPost (told (.agg (partC (num 1 n))) [] []) (.agg (partC (num 1 n))) [] none_ := told_post rfl
  generalize callPost (told (.agg (partC (num 1 n))) [] []) = Q at *
  refine TCalls.of Tryd.func28 rfl (CanCall.of Tryd.func28 rfl (by decide)) [] fun Γ => ?_
  refine run_sound (⟨fun | 1, 1 => .res (u64 n) | 1, 2 => told (.agg (partC (num 1 n))) [] [] | _, _ => .no, [], fun  | _ => none⟩) 400 (B := ∀ (b : Nat), u64 (IntKind.wrap IntKind.u64 (↑n : Int)) = u64 n ∧ TCalls Tryd.prog 56 [u64 n, int 1] [] none_ (callPost (Hint.call false Unit (fun x => True) [] false (fun x => T.agg (partC (num (1 : Int) n))) (fun x => []) fun x => none_)) ∧ ∀ (a : Unit), True → (4 = nat_lit 4 ∧ List.all [int (Part.kind (num (1 : Int) n)), int (Part.size (num (1 : Int) n)), u64 (Part.n (num (1 : Int) n)), T.v (Value.string (Part.s (num (1 : Int) n)))] T.one = true) ∧ b = b ∧ 0 + nat_lit 4 ≤ 4 ∧ b = b ∧ Q (T.agg [int (Part.kind (num (1 : Int) n)), int (Part.size (num (1 : Int) n)), u64 (Part.n (num (1 : Int) n)), T.v (Value.string (Part.s (num (1 : Int) n)))]) [] fun x => none) (by kernel_rfl) ?_
  repeat' (first | exact rfl | exact Nat.le_of_ble_eq_true rfl | refine And.intro ?_ ?_ | intro _ | refine bsplit_mk (fun _ => ?_) (fun _ => ?_))
  all_goals first
    | exact hw
    | exact X2.onum_any n 1 _ (fun x hx => told_post hx)
    | exact hQ
    | trace_state
theorem wide_post (n : Nat) (hn : n < 4294967296) : TCalls Tryd.prog 58 [u32 n] [] none_ (callPost (told (.agg (partC (num 4 n))) [] [])) := by
  have hw : T.v (.int .u64 (IntKind.wrap .u64 (n : Int))) = u64 n := congrArg u64 (IntWalk.u64_in _ (by omega))
  have hQ : callPost (told (.agg (partC (num 4 n))) [] []) (.agg (partC (num 4 n))) [] none_ := told_post rfl
  generalize callPost (told (.agg (partC (num 4 n))) [] []) = Q at *
  refine TCalls.of Tryd.func58 rfl (CanCall.of Tryd.func58 rfl (by decide)) [] fun Γ => ?_
  refine run_sound (⟨fun | 1, 1 => .res (u64 n) | 1, 2 => told (.agg (partC (num 4 n))) [] [] | _, _ => .no, [], fun  | _ => none⟩) 400 (B := ∀ (b : Nat), u64 (IntKind.wrap IntKind.u64 (↑n : Int)) = u64 n ∧ TCalls Tryd.prog 56 [u64 n, int 4] [] none_ (callPost (Hint.call false Unit (fun x => True) [] false (fun x => T.agg (partC (num (4 : Int) n))) (fun x => []) fun x => none_)) ∧ ∀ (a : Unit), True → (4 = nat_lit 4 ∧ List.all [int (Part.kind (num (4 : Int) n)), int (Part.size (num (4 : Int) n)), u64 (Part.n (num (4 : Int) n)), T.v (Value.string (Part.s (num (4 : Int) n)))] T.one = true) ∧ b = b ∧ 0 + nat_lit 4 ≤ 4 ∧ b = b ∧ Q (T.agg [int (Part.kind (num (4 : Int) n)), int (Part.size (num (4 : Int) n)), u64 (Part.n (num (4 : Int) n)), T.v (Value.string (Part.s (num (4 : Int) n)))]) [] fun x => none) (by kernel_rfl) ?_
  repeat' (first | exact rfl | exact Nat.le_of_ble_eq_true rfl | refine And.intro ?_ ?_ | intro _ | refine bsplit_mk (fun _ => ?_) (fun _ => ?_))
  all_goals first
    | exact hw
    | exact X2.onum_any n 4 _ (fun x hx => told_post hx)
    | exact hQ
    | trace_state
theorem flag_post (b : Bool) : TCalls Tryd.prog 60 [bool b] [] none_ (callPost (told (.agg (partC (num 1 (one b)))) [] [])) := by
  have hQ : callPost (told (.agg (partC (num 1 (one b)))) [] []) (.agg (partC (num 1 (one b)))) [] none_ := told_post rfl
  generalize callPost (told (.agg (partC (num 1 (one b)))) [] []) = Q at *
  have s1 := small_post 1 (by decide)
  have s0 := small_post 0 (by decide)
  cases b with
  | true =>
    refine TCalls.of Tryd.func60 rfl (CanCall.of Tryd.func60 rfl (by decide)) [] fun Γ => ?_
    refine run_sound (⟨fun | 2, 0 => told (.agg (partC (num 1 1))) [] [] | _, _ => .no, [], fun  | _ => none⟩) 400 (B := ∀ (b : Nat), TCalls Tryd.prog 28 [u8 1] [] none_ (callPost (Hint.call false Unit (fun x => True) [] false (fun x => T.agg (partC (num (1 : Int) 1))) (fun x => []) fun x => none_)) ∧ ∀ (a : Unit), True → (4 = nat_lit 4 ∧ List.all [int (Part.kind (num (1 : Int) 1)), int (Part.size (num (1 : Int) 1)), u64 (Part.n (num (1 : Int) 1)), T.v (Value.string (Part.s (num (1 : Int) 1)))] T.one = true) ∧ b = b ∧ 0 + nat_lit 4 ≤ 4 ∧ b = b ∧ Q (T.agg [int (Part.kind (num (1 : Int) 1)), int (Part.size (num (1 : Int) 1)), u64 (Part.n (num (1 : Int) 1)), T.v (Value.string (Part.s (num (1 : Int) 1)))]) [] fun x => none) (by kernel_rfl) ?_
    repeat' (first | exact rfl | exact Nat.le_of_ble_eq_true rfl | refine And.intro ?_ ?_ | intro _ | refine bsplit_mk (fun _ => ?_) (fun _ => ?_))
    all_goals first
      | exact s1
      | exact hQ
      | trace_state
  | false =>
    refine TCalls.of Tryd.func60 rfl (CanCall.of Tryd.func60 rfl (by decide)) [] fun Γ => ?_
    refine run_sound (⟨fun | 3, 0 => told (.agg (partC (num 1 0))) [] [] | _, _ => .no, [], fun  | _ => none⟩) 400 (B := ∀ (b : Nat), TCalls Tryd.prog 28 [u8 0] [] none_ (callPost (Hint.call false Unit (fun x => True) [] false (fun x => T.agg (partC (num (1 : Int) 0))) (fun x => []) fun x => none_)) ∧ ∀ (a : Unit), True → (4 = nat_lit 4 ∧ List.all [int (Part.kind (num (1 : Int) 0)), int (Part.size (num (1 : Int) 0)), u64 (Part.n (num (1 : Int) 0)), T.v (Value.string (Part.s (num (1 : Int) 0)))] T.one = true) ∧ b = b ∧ 0 + nat_lit 4 ≤ 4 ∧ b = b ∧ Q (T.agg [int (Part.kind (num (1 : Int) 0)), int (Part.size (num (1 : Int) 0)), u64 (Part.n (num (1 : Int) 0)), T.v (Value.string (Part.s (num (1 : Int) 0)))]) [] fun x => none) (by kernel_rfl) ?_
    repeat' (first | exact rfl | exact Nat.le_of_ble_eq_true rfl | refine And.intro ?_ ?_ | intro _ | refine bsplit_mk (fun _ => ?_) (fun _ => ?_))
    all_goals first
      | exact s0
      | exact hQ
      | trace_state
def markC (n b : Nat) : List T := [u32 n, u8 b]
def cmdC (c : Cmd) : List T := [u8 c.k, u8 c.n, u8 c.l, u32 c.e, u32 c.q]
/-- a slice that may grow, as a call tells it -/
def slxH (l : List T) : Hint := .call false Value (fun _ => True) [] false (fun x => .slx 4 0 l x) (fun x => [(0, .room 4 109 l.length x)]) (fun _ => none_)
theorem marked_post (n b : Nat) (hn : n < 4294967296) (hb : b < 256) : TCalls Tryd.prog 59 [.agg (markC n b)] [] none_ (callPost (told (.sl 4 (parts [num 4 n, num 1 b])) [] [])) := by
  have s1 := wide_post n hn
  have s0 := small_post b hb
  have hQ : callPost (told (.sl 4 (parts [num 4 n, num 1 b])) [] []) (.sl 4 (parts [num 4 n, num 1 b])) [] none_ := told_post rfl
  generalize callPost (told (.sl 4 (parts [num 4 n, num 1 b])) [] []) = Q at *
  refine TCalls.of Tryd.func59 rfl (CanCall.of Tryd.func59 rfl (by decide)) [] fun Γ => ?_
  refine run_sound (⟨fun | 1, 2 => told (.agg (partC (num 4 n))) [] [] | 1, 5 => told (.agg (partC (num 1 b))) [] [] | _, _ => .no, [], fun | 1 => some ⟨[0], [5, 6], .take true [0,1,3,4] (.one 2 (.one 5 (.one 6 (.take false [7] .done))))⟩ | _ => none⟩) 400 (B := ∀ (b_1 : Nat), b_1 = b_1 ∧ b_1 = b_1 ∧ TCalls Tryd.prog 58 [u32 n] [] none_ (callPost (Hint.call false Unit (fun x => True) [] false (fun x => T.agg (partC (num (4 : Int) n))) (fun x => []) fun x => none_)) ∧ ∀ (a : Unit), True → TCalls Tryd.prog 28 [u8 b] [] none_ (callPost (Hint.call false Unit (fun x => True) [] false (fun x => T.agg (partC (num (1 : Int) b))) (fun x => []) fun x => none_)) ∧ ∀ (a : Unit), True → Q (T.sl 4 [T.agg [int (Part.kind (num (4 : Int) n)), int (Part.size (num (4 : Int) n)), u64 (Part.n (num (4 : Int) n)), T.v (Value.string (Part.s (num (4 : Int) n)))], T.agg [int (Part.kind (num (1 : Int) b)), int (Part.size (num (1 : Int) b)), u64 (Part.n (num (1 : Int) b)), T.v (Value.string (Part.s (num (1 : Int) b)))]]) [] fun x => none) (by kernel_rfl) ?_
  repeat' (first | exact rfl | exact Nat.le_of_ble_eq_true rfl | refine And.intro ?_ ?_ | intro _ | refine bsplit_mk (fun _ => ?_) (fun _ => ?_))
  all_goals first
    | exact s1
    | exact s0
    | exact hQ
    | trace_state
theorem commanded_post (c : Cmd) (hc : c.Ok) : TCalls Tryd.prog 62 [.agg (cmdC c)] [] none_ (callPost (told (.sl 4 (parts c.ps)) [] [])) := by
  have s1 := small_post c.k hc.k
  have s2 := small_post c.n hc.n
  have s3 := small_post c.l hc.l
  have s4 := wide_post c.e hc.e
  have s5 := wide_post c.q hc.q
  have hQ : callPost (told (.sl 4 (parts c.ps)) [] []) (.sl 4 (parts c.ps)) [] none_ := told_post rfl
  generalize callPost (told (.sl 4 (parts c.ps)) [] []) = Q at *
  refine TCalls.of Tryd.func62 rfl (CanCall.of Tryd.func62 rfl (by decide)) [] fun Γ => ?_
  refine run_sound (⟨fun | 1, 2 => told (.agg (partC (num 1 c.k))) [] [] | 1, 5 => told (.agg (partC (num 1 c.n))) [] [] | 1, 8 => told (.agg (partC (num 1 c.l))) [] [] | 1, 11 => told (.agg (partC (num 4 c.e))) [] [] | 1, 14 => told (.agg (partC (num 4 c.q))) [] [] | _, _ => .no, [], fun | 1 => some ⟨[0], [14, 15], .take true [0,1,3,4,6,7,9,10,12,13] (.one 2 (.one 5 (.one 8 (.one 11 (.one 14 (.one 15 (.take false [16] .done)))))))⟩ | _ => none⟩) 400 (B := ∀ (b : Nat), b = b ∧ b = b ∧ b = b ∧ b = b ∧ b = b ∧ TCalls Tryd.prog 28 [u8 (Cmd.k c)] [] none_ (callPost (Hint.call false Unit (fun x => True) [] false (fun x => T.agg (partC (num (1 : Int) (Cmd.k c)))) (fun x => []) fun x => none_)) ∧ ∀ (a : Unit), True → TCalls Tryd.prog 28 [u8 (Cmd.n c)] [] none_ (callPost (Hint.call false Unit (fun x => True) [] false (fun x => T.agg (partC (num (1 : Int) (Cmd.n c)))) (fun x => []) fun x => none_)) ∧ ∀ (a : Unit), True → TCalls Tryd.prog 28 [u8 (Cmd.l c)] [] none_ (callPost (Hint.call false Unit (fun x => True) [] false (fun x => T.agg (partC (num (1 : Int) (Cmd.l c)))) (fun x => []) fun x => none_)) ∧ ∀ (a : Unit), True → TCalls Tryd.prog 58 [u32 (Cmd.e c)] [] none_ (callPost (Hint.call false Unit (fun x => True) [] false (fun x => T.agg (partC (num (4 : Int) (Cmd.e c)))) (fun x => []) fun x => none_)) ∧ ∀ (a : Unit), True → TCalls Tryd.prog 58 [u32 (Cmd.q c)] [] none_ (callPost (Hint.call false Unit (fun x => True) [] false (fun x => T.agg (partC (num (4 : Int) (Cmd.q c)))) (fun x => []) fun x => none_)) ∧ ∀ (a : Unit), True → Q (T.sl 4 [T.agg [int (Part.kind (num (1 : Int) (Cmd.k c))), int (Part.size (num (1 : Int) (Cmd.k c))), u64 (Part.n (num (1 : Int) (Cmd.k c))), T.v (Value.string (Part.s (num (1 : Int) (Cmd.k c))))], T.agg [int (Part.kind (num (1 : Int) (Cmd.n c))), int (Part.size (num (1 : Int) (Cmd.n c))), u64 (Part.n (num (1 : Int) (Cmd.n c))), T.v (Value.string (Part.s (num (1 : Int) (Cmd.n c))))], T.agg [int (Part.kind (num (1 : Int) (Cmd.l c))), int (Part.size (num (1 : Int) (Cmd.l c))), u64 (Part.n (num (1 : Int) (Cmd.l c))), T.v (Value.string (Part.s (num (1 : Int) (Cmd.l c))))], T.agg [int (Part.kind (num (4 : Int) (Cmd.e c))), int (Part.size (num (4 : Int) (Cmd.e c))), u64 (Part.n (num (4 : Int) (Cmd.e c))), T.v (Value.string (Part.s (num (4 : Int) (Cmd.e c))))], T.agg [int (Part.kind (num (4 : Int) (Cmd.q c))), int (Part.size (num (4 : Int) (Cmd.q c))), u64 (Part.n (num (4 : Int) (Cmd.q c))), T.v (Value.string (Part.s (num (4 : Int) (Cmd.q c))))]]) [] fun x => none) (by kernel_rfl) ?_
  repeat' (first | exact rfl | exact Nat.le_of_ble_eq_true rfl | refine And.intro ?_ ?_ | intro _ | refine bsplit_mk (fun _ => ?_) (fun _ => ?_))
  all_goals first
    | exact s1
    | exact s2
    | exact s3
    | exact s4
    | exact s5
    | exact hQ
    | trace_state
end X6
end Go.Proofs.YtaepgceodcdnhaaDoor.Vm
/- Frames by the engine: views, entries, a field's parts. -/
namespace Go.Proofs.YtaepgceodcdnhaaDoor.Vm
open Go Go.RowKit
set_option maxRecDepth 100000
namespace X6
open Frm (num text raw one Cmd Mem Ent Lvs Fm)
open Oct (Part)
open X1 (partC parts parts_len)
theorem parts_app (a b : List Part) : parts (a ++ b) = parts a ++ parts b := by simp [parts]
theorem marked_slx (n b : Nat) (hn : n < 4294967296) (hb : b < 256) : TCalls Tryd.prog 59 [.agg (markC n b)] [] none_ (callPost (slxH (parts [num 4 n, num 1 b]))) := by
  have s1 := wide_post n hn
  have s0 := small_post b hb
  have hQ : ∀ x, callPost (slxH (parts [num 4 n, num 1 b])) (.slx 4 0 (parts [num 4 n, num 1 b]) x) [(0, .room 4 109 2 x)] none_ := fun x => ⟨x, trivial, rfl, rfl, Nat.zero_le _, fun h => by cases h⟩
  generalize callPost (slxH (parts [num 4 n, num 1 b])) = Q at *
  refine TCalls.of Tryd.func59 rfl (CanCall.of Tryd.func59 rfl (by decide)) [1] fun Γ => ?_
  refine run_sound (⟨fun | 1, 2 => told (.agg (partC (num 4 n))) [] [] | 1, 5 => told (.agg (partC (num 1 b))) [] [] | 1, 6 => .plain .no | _, _ => .no, [], fun | 1 => some ⟨[0], [5, 6], .take true [0,1,3,4] (.one 2 (.one 5 (.one 6 (.take false [7] .done))))⟩ | _ => none⟩) 400 (B := ∀ (b_1 : Nat), b_1 = b_1 ∧ b_1 = b_1 ∧ TCalls Tryd.prog 58 [u32 n] [] none_ (callPost (Hint.call false Unit (fun x => True) [] false (fun x => T.agg (partC (num (4 : Int) n))) (fun x => []) fun x => none_)) ∧ ∀ (a : Unit), True → TCalls Tryd.prog 28 [u8 b] [] none_ (callPost (Hint.call false Unit (fun x => True) [] false (fun x => T.agg (partC (num (1 : Int) b))) (fun x => []) fun x => none_)) ∧ ∀ (a : Unit), True → ∀ (x : Value), Q (T.slx 4 0 [T.agg [int (Part.kind (num (4 : Int) n)), int (Part.size (num (4 : Int) n)), u64 (Part.n (num (4 : Int) n)), T.v (Value.string (Part.s (num (4 : Int) n)))], T.agg [int (Part.kind (num (1 : Int) b)), int (Part.size (num (1 : Int) b)), u64 (Part.n (num (1 : Int) b)), T.v (Value.string (Part.s (num (1 : Int) b)))]] x) [(0, Ob.room 4 109 2 x)] fun x => none) (by kernel_rfl) ?_
  repeat' (first | exact rfl | exact Nat.le_of_ble_eq_true rfl | refine And.intro ?_ ?_ | intro _ | refine bsplit_mk (fun _ => ?_) (fun _ => ?_))
  all_goals first
    | exact s1
    | exact s0
    | exact hQ _
    | trace_state
def memC (m : Mem) : List T := [u8 m.n, u8 m.l, bool m.r]
def vwC (ve : Nat) (ms : List Mem) (lv : Lvs) : List T := [u32 ve, .sl 3 (Row.aggs memC ms), u8 lv.l0, u8 lv.l1, u8 lv.l2, u8 lv.l3, u8 lv.l4, u8 lv.l5, u8 lv.l6, u8 lv.l7]
def viewPs (ve : Nat) (ms : List Mem) (lv : Lvs) : List Part := num 4 ve :: num 1 ms.length :: (ms.flatMap Mem.ps ++ [raw lv.bs])
theorem mem_ps_len : ∀ d : List Mem, (d.flatMap Mem.ps).length = 3 * d.length
  | [] => rfl
  | m :: d => by rw [List.flatMap_cons, List.length_append, mem_ps_len d, List.length_cons]; show 3 + _ = _; omega
theorem lv_bytes {n : Nat} (h : n < 256) : T.v (.int .u8 ((UInt8.ofNat n).toNat : Nat)) = u8 n := congrArg u8 (by rw [UInt8.toNat_ofNat']; omega)
theorem lvs_bytes (lv : Lvs) (h : lv.Ok) : [u8 lv.l0, u8 lv.l1, u8 lv.l2, u8 lv.l3, u8 lv.l4, u8 lv.l5, u8 lv.l6, u8 lv.l7] = bytesL ⟨lv.bs.toArray⟩ := by
  rw [← lv_bytes h.l0, ← lv_bytes h.l1, ← lv_bytes h.l2, ← lv_bytes h.l3, ← lv_bytes h.l4, ← lv_bytes h.l5, ← lv_bytes h.l6, ← lv_bytes h.l7]; rfl
theorem viewed_loop (Γ : Ctx) (b0 ve : Nat) (ms : List Mem) (lv : Lvs) (hms : ms.length ≤ 10) (hmo : ∀ m ∈ ms, m.Ok) (hlv : lv.Ok) (Q : T → Obs → Glb → Prop) (hQ : ∀ x, x = .sl 4 (parts (viewPs ve ms lv)) → Q x [] none_) : ∀ (r d : List Mem) (hd : Value), ms = d ++ r →
    TWk Tryd.prog Γ (fin Tryd.prog Tryd.f63 [] Q) [.code (sub (bd Tryd.f63) [1, 1, 0, 1, 0]), .blk 0, .code (sub (bd Tryd.f63) [1, 1, 1])] ⟨frame 42 [(1, .ptr 0 b0 0), (3, .slx 4 1 (parts (num 4 ve :: num 1 ms.length :: d.flatMap Mem.ps)) hd), (16, .sl 3 (Row.aggs memC ms)), (17, int ms.length), (18, int d.length)], [(b0, .cells (vwC ve ms lv)), (0, .room 4 109 (parts (num 4 ve :: num 1 ms.length :: d.flatMap Mem.ps)).length hd)], none_⟩ := by
  intro r
  induction r with
  | nil =>
    intro d hd h1
    have e : d = ms := by rw [h1]; simp
    subst e
    have hl := mem_ps_len d
    have hpl : (parts (num 4 ve :: num 1 d.length :: d.flatMap Mem.ps)).length ≤ 100 := by rw [parts_len]; simp [hl]; omega
    have hps : parts (num 4 ve :: num 1 d.length :: d.flatMap Mem.ps) ++ [.agg (partC (raw lv.bs))] = parts (viewPs ve d lv) := by
      unfold viewPs
      rw [← List.cons_append, ← List.cons_append, parts_app]; rfl
    have hb := lvs_bytes lv hlv
    have hra := oraw_any lv.bs _ (fun _ h => told_post (sel := []) (ob := []) h)
    rw [← hps] at hQ
    generalize parts (num 4 ve :: num 1 d.length :: d.flatMap Mem.ps) = P at *
    generalize lv.bs = lb at *
    refine run_sound (⟨fun | 4, 0 => .res (.agg (memC ⟨0, 0, false⟩)) | 7, 3 => .res (str lb) | 7, 4 => told (.agg (partC (raw lb))) [] [] | _, _ => .no, [((2, 3), ([1, 3, 16, 17, 18], 2)), ((0, 4), ([1, 3, 16, 17, 18], 2))], fun | 1 => some ⟨[], [7, 8], .take true [0,1,3,4,5,6] (.one 2 (.one 7 (.one 8 (.take false [9] .done))))⟩ | 5 => some ⟨[], [9, 10, 11], .take false [0,1,4,7] (.take true [2,5,8] (.one 3 (.one 6 (.one 9 (.one 10 (.one 11 (.take false [12] .done)))))))⟩ | _ => none⟩) 400 (B := bsplit (decide ((↑(List.length d) : Int) < (↑(List.length d) : Int))) (TWk Tryd.prog Γ (fin Tryd.prog Tryd.f63 [] Q) [It.code (sub (bd Tryd.f63) [1, 1, 0, 1, 0, 0, 1, 1, 0, 0]), It.blk 1, It.code (sub (bd Tryd.f63) [1, 1, 0, 1, 0, 0, 1, 1, 1]), It.code (sub (bd Tryd.f63) [1, 1, 0, 1, 0]), It.blk 0, It.code (sub (bd Tryd.f63) [1, 1, 1])] { fr := frame 42 [(1, T.ptr 0 b0 0), (3, T.slx 4 1 P hd), (16, T.sl 3 (List.map (fun x => T.agg (memC x)) d)), (17, int (List.length d)), (18, int (List.length d))], ob := [(b0, Ob.cells [u32 ve, T.sl 3 (List.map (fun x => T.agg (memC x)) d), u8 (Lvs.l0 lv), u8 (Lvs.l1 lv), u8 (Lvs.l2 lv), u8 (Lvs.l3 lv), u8 (Lvs.l4 lv), u8 (Lvs.l5 lv), u8 (Lvs.l6 lv), u8 (Lvs.l7 lv)]), (0, Ob.room 4 109 (List.length P) hd)], gl := fun x => none }) (b0 = b0 ∧ 2 + 8 ≤ 10 ∧ [u8 (Lvs.l0 lv), u8 (Lvs.l1 lv), u8 (Lvs.l2 lv), u8 (Lvs.l3 lv), u8 (Lvs.l4 lv), u8 (Lvs.l5 lv), u8 (Lvs.l6 lv), u8 (Lvs.l7 lv)] = List.map (fun c => u8 (UInt8.toNat c)) (Array.toList (ByteArray.data (ByteArray.mk (List.toArray lb)))) ∧ TCalls Tryd.prog 82 [str lb] [] none_ (callPost (Hint.call false Unit (fun x => True) [] false (fun x => T.agg (partC (raw lb))) (fun x => []) fun x => none_)) ∧ ∀ (a : Unit), True → (hd = hd ∧ List.length P = List.length P) ∧ Fits (List.length P + 1) (nat_lit 40) ∧ ∀ (x : Value), Q (T.sl 4 (P ++ [T.agg [int (Part.kind (raw lb)), int (Part.size (raw lb)), u64 (Part.n (raw lb)), T.v (Value.string (Part.s (raw lb)))]])) [] fun x => none)) (by kernel_rfl) ?_
    repeat' (first | exact rfl | exact Nat.le_of_ble_eq_true rfl | refine And.intro ?_ ?_ | intro _ | refine bsplit_mk (fun _ => ?_) (fun _ => ?_))
    all_goals first
      | exact hb
      | exact hra
      | exact hQ _ rfl
      | (exfalso; simp only [decide_eq_true_eq] at *; omega)
      | (simp [maxLen]; omega)
      | trace_state
  | cons m r ih =>
    intro d hd h1
    have hlen : d.length < ms.length := by rw [h1]; simp
    have hx : (Row.aggs memC ms)[((d.length : Nat) : Int).toNat]? = some (.agg (memC m)) := Row.aggs_at (by rw [Int.toNat_natCast, h1]; simp)
    have hl := mem_ps_len d
    have hpl : (parts (num 4 ve :: num 1 ms.length :: d.flatMap Mem.ps)).length ≤ 100 := by rw [parts_len]; simp [hl]; omega
    have hm := hmo m (by rw [h1]; simp)
    have hps : parts (num 4 ve :: num 1 ms.length :: (d ++ [m]).flatMap Mem.ps) = parts (num 4 ve :: num 1 ms.length :: d.flatMap Mem.ps) ++ [.agg (partC (num 1 m.n)), .agg (partC (num 1 m.l)), .agg (partC (num 1 (one m.r)))] := by
      rw [List.flatMap_append, ← List.cons_append, ← List.cons_append, parts_app]
      congr 1
    have nx := fun hd => ih (d ++ [m]) hd (by simp [h1])
    rw [hps] at nx
    have s1 := small_post m.n hm.n
    have s2 := small_post m.l hm.l
    have s3 := flag_post m.r
    have hal : (Row.aggs memC ms).length = ms.length := Row.aggs_len ms
    have hw : T.v (.int .i64 (IntKind.wrap .i64 ((d.length : Int) + 1))) = int (d ++ [m]).length := congrArg int (by rw [wrap_i64 (by omega) (by omega)]; simp)
    generalize (d ++ [m]).length = d1 at *
    generalize parts (num 4 ve :: num 1 ms.length :: d.flatMap Mem.ps) = P at *
    clear ih hQ hps
    refine run_sound (⟨fun | 4, 0 => .res (.agg (memC m)) | 5, 3 => told (.agg (partC (num 1 m.n))) [] [] | 5, 6 => told (.agg (partC (num 1 m.l))) [] [] | 5, 9 => told (.agg (partC (num 1 (one m.r)))) [] [] | 6, 0 => .res (int d1) | _, _ => .no, [((2, 3), ([1, 3, 16, 17, 18], 2))], fun | 1 => some ⟨[], [7, 8], .take true [0,1,3,4,5,6] (.one 2 (.one 7 (.one 8 (.take false [9] .done))))⟩ | 5 => some ⟨[2], [9, 10, 11], .take false [0,1,4,7] (.take true [2,5,8] (.one 3 (.one 6 (.one 9 (.one 10 (.one 11 (.take false [12] .done)))))))⟩ | _ => none⟩) 400 (B := bsplit (decide ((↑(List.length d) : Int) < (↑(List.length ms) : Int))) ((0 : Int) ≤ (↑(List.length d) : Int) ∧ (List.map (fun x => T.agg (memC x)) ms)[Int.toNat (↑(List.length d) : Int)]? = some (T.agg [u8 (Mem.n m), u8 (Mem.l m), bool (Mem.r m)]) ∧ ∀ (b : Nat), (3 = nat_lit 3 ∧ List.all [u8 (Mem.n m), u8 (Mem.l m), bool (Mem.r m)] T.one = true) ∧ b = b ∧ 0 + nat_lit 3 ≤ 3 ∧ b = b ∧ b = b ∧ b = b ∧ TCalls Tryd.prog 28 [u8 (Mem.n m)] [] none_ (callPost (Hint.call false Unit (fun x => True) [] false (fun x => T.agg (partC (num (1 : Int) (Mem.n m)))) (fun x => []) fun x => none_)) ∧ ∀ (a : Unit), True → TCalls Tryd.prog 28 [u8 (Mem.l m)] [] none_ (callPost (Hint.call false Unit (fun x => True) [] false (fun x => T.agg (partC (num (1 : Int) (Mem.l m)))) (fun x => []) fun x => none_)) ∧ ∀ (a : Unit), True → TCalls Tryd.prog 60 [bool (Mem.r m)] [] none_ (callPost (Hint.call false Unit (fun x => True) [] false (fun x => T.agg (partC (num (1 : Int) (one (Mem.r m))))) (fun x => []) fun x => none_)) ∧ ∀ (a : Unit), True → (hd = hd ∧ List.length P = List.length P) ∧ Fits (List.length P + 3) (nat_lit 40) ∧ ∀ (x : Value), int (IntKind.wrap IntKind.i64 ((↑(List.length d) : Int) + (1 : Int))) = int d1 ∧ TWk Tryd.prog Γ (fin Tryd.prog Tryd.f63 [] Q) [It.code (sub (bd Tryd.f63) [1, 1, 0, 1, 0]), It.blk 0, It.code (sub (bd Tryd.f63) [1, 1, 1])] { fr := frame 42 [(1, T.ptr 0 b0 0), (3, T.slx 4 1 (P ++ [T.agg [int (Part.kind (num (1 : Int) (Mem.n m))), int (Part.size (num (1 : Int) (Mem.n m))), u64 (Part.n (num (1 : Int) (Mem.n m))), T.v (Value.string (Part.s (num (1 : Int) (Mem.n m))))], T.agg [int (Part.kind (num (1 : Int) (Mem.l m))), int (Part.size (num (1 : Int) (Mem.l m))), u64 (Part.n (num (1 : Int) (Mem.l m))), T.v (Value.string (Part.s (num (1 : Int) (Mem.l m))))], T.agg [int (Part.kind (num (1 : Int) (one (Mem.r m)))), int (Part.size (num (1 : Int) (one (Mem.r m)))), u64 (Part.n (num (1 : Int) (one (Mem.r m)))), T.v (Value.string (Part.s (num (1 : Int) (one (Mem.r m)))))]]) x), (16, T.sl 3 (List.map (fun x => T.agg (memC x)) ms)), (17, int (List.length ms)), (18, int d1)], ob := [(b0, Ob.cells [u32 ve, T.sl 3 (List.map (fun x => T.agg (memC x)) ms), u8 (Lvs.l0 lv), u8 (Lvs.l1 lv), u8 (Lvs.l2 lv), u8 (Lvs.l3 lv), u8 (Lvs.l4 lv), u8 (Lvs.l5 lv), u8 (Lvs.l6 lv), u8 (Lvs.l7 lv)]), (0, Ob.room 4 109 (List.length (P ++ [T.agg [int (Part.kind (num (1 : Int) (Mem.n m))), int (Part.size (num (1 : Int) (Mem.n m))), u64 (Part.n (num (1 : Int) (Mem.n m))), T.v (Value.string (Part.s (num (1 : Int) (Mem.n m))))], T.agg [int (Part.kind (num (1 : Int) (Mem.l m))), int (Part.size (num (1 : Int) (Mem.l m))), u64 (Part.n (num (1 : Int) (Mem.l m))), T.v (Value.string (Part.s (num (1 : Int) (Mem.l m))))], T.agg [int (Part.kind (num (1 : Int) (one (Mem.r m)))), int (Part.size (num (1 : Int) (one (Mem.r m)))), u64 (Part.n (num (1 : Int) (one (Mem.r m)))), T.v (Value.string (Part.s (num (1 : Int) (one (Mem.r m)))))]])) x)], gl := fun x => none }) (b0 = b0 ∧ 2 + 8 ≤ 10 ∧ False)) (by kernel_rfl) ?_
    repeat' (first | exact rfl | exact Nat.le_of_ble_eq_true rfl | refine And.intro ?_ ?_ | intro _ | refine bsplit_mk (fun _ => ?_) (fun _ => ?_))
    all_goals first
      | exact hx
      | exact hw
      | exact s1
      | exact s2
      | exact s3
      | exact nx _
      | exact Int.natCast_nonneg _
      | (exfalso; simp only [decide_eq_false_iff_not] at *; omega)
      | (simp [maxLen]; omega)
      | trace_state
theorem viewed_post (ve : Nat) (ms : List Mem) (lv : Lvs) (hve : ve < 4294967296) (hms : ms.length ≤ 10) (hmo : ∀ m ∈ ms, m.Ok) (hlv : lv.Ok) : TCalls Tryd.prog 63 [.agg (vwC ve ms lv)] [] none_ (callPost (told (.sl 4 (parts (viewPs ve ms lv))) [] [])) := by
  have lp := fun Γ b0 hd => viewed_loop Γ b0 ve ms lv hms hmo hlv (callPost (told (.sl 4 (parts (viewPs ve ms lv))) [] [])) (fun _ h => told_post h) ms [] hd rfl
  have s1 := wide_post ve hve
  have s2 := small_post ms.length (by omega)
  have hal : (Row.aggs memC ms).length = ms.length := Row.aggs_len ms
  have hw : T.v (.int .u8 (IntKind.wrap .u8 (ms.length : Int))) = u8 ms.length := congrArg u8 (IntWalk.u8_in _ (by omega))
  unfold vwC at *
  generalize Row.aggs memC ms = MS at *
  refine TCalls.of Tryd.func63 rfl (CanCall.of Tryd.func63 rfl (by decide)) [] fun Γ => ?_
  refine run_sound (⟨fun | 1, 2 => told (.agg (partC (num 4 ve))) [] [] | 1, 6 => .res (u8 ms.length) | 1, 7 => told (.agg (partC (num 1 ms.length))) [] [] | 1, 8 => .plain .no | _, _ => .no, [((2, 3), ([1, 3, 16, 17, 18], 2))], fun | 1 => some ⟨[0], [7, 8], .take true [0,1,3,4,5,6] (.one 2 (.one 7 (.one 8 (.take false [9] .done))))⟩ | 5 => some ⟨[], [9, 10, 11], .take false [0,1,4,7] (.take true [2,5,8] (.one 3 (.one 6 (.one 9 (.one 10 (.one 11 (.take false [12] .done)))))))⟩ | _ => none⟩) 400 (B := ∀ (b : Nat), b = b ∧ b = b ∧ u8 (IntKind.wrap IntKind.u8 (↑(List.length MS) : Int)) = u8 (List.length ms) ∧ TCalls Tryd.prog 58 [u32 ve] [] none_ (callPost (Hint.call false Unit (fun x => True) [] false (fun x => T.agg (partC (num (4 : Int) ve))) (fun x => []) fun x => none_)) ∧ ∀ (a : Unit), True → TCalls Tryd.prog 28 [u8 (List.length ms)] [] none_ (callPost (Hint.call false Unit (fun x => True) [] false (fun x => T.agg (partC (num (1 : Int) (List.length ms)))) (fun x => []) fun x => none_)) ∧ ∀ (a : Unit), True → ∀ (x : Value), b = b ∧ TWk Tryd.prog Γ (fin Tryd.prog Tryd.f63 [] (callPost (told (T.sl 4 (parts (viewPs ve ms lv))) [] []))) [It.code (sub (bd Tryd.f63) [1, 1, 0, 1, 0]), It.blk 0, It.code (sub (bd Tryd.f63) [1, 1, 1])] { fr := frame 42 [(1, T.ptr 0 b 0), (3, T.slx 4 1 [T.agg [int (Part.kind (num (4 : Int) ve)), int (Part.size (num (4 : Int) ve)), u64 (Part.n (num (4 : Int) ve)), T.v (Value.string (Part.s (num (4 : Int) ve)))], T.agg [int (Part.kind (num (1 : Int) (List.length ms))), int (Part.size (num (1 : Int) (List.length ms))), u64 (Part.n (num (1 : Int) (List.length ms))), T.v (Value.string (Part.s (num (1 : Int) (List.length ms))))]] x), (16, T.sl 3 MS), (17, int (List.length MS)), (18, int 0)], ob := [(b, Ob.cells [u32 ve, T.sl 3 MS, u8 (Lvs.l0 lv), u8 (Lvs.l1 lv), u8 (Lvs.l2 lv), u8 (Lvs.l3 lv), u8 (Lvs.l4 lv), u8 (Lvs.l5 lv), u8 (Lvs.l6 lv), u8 (Lvs.l7 lv)]), (0, Ob.room 4 109 2 x)], gl := fun x => none }) (by kernel_rfl) ?_
  rw [hal]
  repeat' (first | exact rfl | exact Nat.le_of_ble_eq_true rfl | refine And.intro ?_ ?_ | intro _ | refine bsplit_mk (fun _ => ?_) (fun _ => ?_))
  all_goals first
    | exact hw
    | exact s1
    | exact s2
    | exact lp _ _ _
    | trace_state
def entC (x : Ent) : List T := [u32 x.s, u32 x.n, u8 x.b, u8 x.c.k, u8 x.c.n, u8 x.c.l, u32 x.c.e, u32 x.c.q]
def entPs (es : List Ent) : List Part := num 1 es.length :: es.flatMap Ent.ps
theorem ent_ps_len : ∀ d : List Ent, (d.flatMap Ent.ps).length = 8 * d.length
  | [] => rfl
  | m :: d => by rw [List.flatMap_cons, List.length_append, ent_ps_len d, List.length_cons]; show 8 + _ = _; omega
theorem entered_loop (Γ : Ctx) (es : List Ent) (hes : es.length ≤ 18) (heo : ∀ x ∈ es, x.Ok) (Q : T → Obs → Glb → Prop) (hQ : ∀ x, x = .sl 4 (parts (entPs es)) → Q x [] none_) : ∀ (r d : List Ent) (hd : Value), es = d ++ r →
    TWk Tryd.prog Γ (fin Tryd.prog Tryd.f64 [] Q) [.code (sub (bd Tryd.f64) [1, 1, 0, 1, 0]), .blk 0, .code (sub (bd Tryd.f64) [1, 1, 1])] ⟨frame 34 [(3, .slx 4 0 (parts (num 1 es.length :: d.flatMap Ent.ps)) hd), (11, .sl 8 (Row.aggs entC es)), (12, int es.length), (13, int d.length)], [(0, .room 4 109 (parts (num 1 es.length :: d.flatMap Ent.ps)).length hd)], none_⟩ := by
  intro r
  induction r with
  | nil =>
    intro d hd h1
    have e : d = es := by rw [h1]; simp
    subst e
    unfold entPs at hQ
    generalize parts (num 1 d.length :: d.flatMap Ent.ps) = P at *
    refine run_sound (⟨fun | 4, 0 => .res (.agg (entC ⟨0, 0, 0, ⟨0, 0, 0, 0, 0⟩⟩)) | _, _ => .no, [((2, 3), ([3, 11, 12, 13], 1)), ((0, 4), ([3, 11, 12, 13], 1))], fun | 5 => some ⟨[], [13, 14], .take true [0,1,2,6,7,8,11,12] (.one 3 (.one 4 (.one 5 (.one 9 (.one 10 (.one 13 (.one 14 (.take false [15] .done))))))))⟩ | _ => none⟩) 400 (B := bsplit (decide ((↑(List.length d) : Int) < (↑(List.length d) : Int))) (TWk Tryd.prog Γ (fin Tryd.prog Tryd.f64 [] Q) [It.code (sub (bd Tryd.f64) [1, 1, 0, 1, 0, 0, 1, 1, 0, 0]), It.blk 1, It.code (sub (bd Tryd.f64) [1, 1, 0, 1, 0, 0, 1, 1, 1]), It.code (sub (bd Tryd.f64) [1, 1, 0, 1, 0]), It.blk 0, It.code (sub (bd Tryd.f64) [1, 1, 1])] { fr := frame 34 [(3, T.slx 4 0 P hd), (11, T.sl 8 (List.map (fun x => T.agg (entC x)) d)), (12, int (List.length d)), (13, int (List.length d))], ob := [(0, Ob.room 4 109 (List.length P) hd)], gl := fun x => none }) (Q (T.sl 4 P) [] fun x => none)) (by kernel_rfl) ?_
    repeat' (first | exact rfl | exact Nat.le_of_ble_eq_true rfl | refine And.intro ?_ ?_ | intro _ | refine bsplit_mk (fun _ => ?_) (fun _ => ?_))
    all_goals first
      | exact hQ _ rfl
      | (exfalso; simp only [decide_eq_true_eq] at *; omega)
      | trace_state
  | cons m r ih =>
    intro d hd h1
    have hlen : d.length < es.length := by rw [h1]; simp
    have hx : (Row.aggs entC es)[((d.length : Nat) : Int).toNat]? = some (.agg (entC m)) := Row.aggs_at (by rw [Int.toNat_natCast, h1]; simp)
    have hl := ent_ps_len d
    have hpl : (parts (num 1 es.length :: d.flatMap Ent.ps)).length ≤ 200 := by rw [parts_len]; simp [hl]; omega
    have hm := heo m (by rw [h1]; simp)
    have hps : parts (num 1 es.length :: (d ++ [m]).flatMap Ent.ps) = ((parts (num 1 es.length :: d.flatMap Ent.ps) ++ [.agg (partC (num 4 m.s))]) ++ parts [num 4 m.n, num 1 m.b]) ++ parts m.c.ps := by
      rw [List.flatMap_append, ← List.cons_append, parts_app, List.append_assoc, List.append_assoc]
      congr 1
    have nx := fun hd => ih (d ++ [m]) hd (by simp [h1])
    rw [hps] at nx
    have s1 := wide_post m.s hm.s
    have s2 := marked_post m.n m.b hm.n hm.b
    have s3 := commanded_post m.c hm.c
    have hal : (Row.aggs entC es).length = es.length := Row.aggs_len es
    have hw : T.v (.int .i64 (IntKind.wrap .i64 ((d.length : Int) + 1))) = int (d ++ [m]).length := congrArg int (by rw [wrap_i64 (by omega) (by omega)]; simp)
    have l2 : (parts [num 4 m.n, num 1 m.b]).length = 2 := rfl
    have l3 : (parts m.c.ps).length = 5 := rfl
    generalize (d ++ [m]).length = d1 at *
    generalize parts (num 1 es.length :: d.flatMap Ent.ps) = P at *
    clear ih hQ hps
    refine run_sound (⟨fun | 4, 0 => .res (.agg (entC m)) | 5, 3 => told (.agg (partC (num 4 m.s))) [] [] | 5, 9 => told (.sl 4 (parts [num 4 m.n, num 1 m.b])) [] [] | 5, 13 => told (.sl 4 (parts m.c.ps)) [] [] | 6, 0 => .res (int d1) | _, _ => .no, [((2, 3), ([3, 11, 12, 13], 1))], fun | 5 => some ⟨[1], [13, 14], .take true [0,1,2,6,7,8,11,12] (.one 3 (.one 4 (.one 5 (.one 9 (.one 10 (.one 13 (.one 14 (.take false [15] .done))))))))⟩ | _ => none⟩) 400 (B := bsplit (decide ((↑(List.length d) : Int) < (↑(List.length es) : Int))) ((0 : Int) ≤ (↑(List.length d) : Int) ∧ (List.map (fun x => T.agg (entC x)) es)[Int.toNat (↑(List.length d) : Int)]? = some (T.agg [u32 (Ent.s m), u32 (Ent.n m), u8 (Ent.b m), u8 (Cmd.k (Ent.c m)), u8 (Cmd.n (Ent.c m)), u8 (Cmd.l (Ent.c m)), u32 (Cmd.e (Ent.c m)), u32 (Cmd.q (Ent.c m))]) ∧ ∀ (b : Nat), (8 = nat_lit 8 ∧ List.all [u32 (Ent.s m), u32 (Ent.n m), u8 (Ent.b m), u8 (Cmd.k (Ent.c m)), u8 (Cmd.n (Ent.c m)), u8 (Cmd.l (Ent.c m)), u32 (Cmd.e (Ent.c m)), u32 (Cmd.q (Ent.c m))] T.one = true) ∧ b = b ∧ 0 + nat_lit 8 ≤ 8 ∧ b = b ∧ b = b ∧ b = b ∧ TCalls Tryd.prog 58 [u32 (Ent.s m)] [] none_ (callPost (Hint.call false Unit (fun x => True) [] false (fun x => T.agg (partC (num (4 : Int) (Ent.s m)))) (fun x => []) fun x => none_)) ∧ ∀ (a : Unit), True → (hd = hd ∧ List.length P = List.length P) ∧ Fits (List.length P + 1) (nat_lit 40) ∧ ∀ (x : Value), TCalls Tryd.prog 59 [T.agg [u32 (Ent.n m), u8 (Ent.b m)]] [] none_ (callPost (Hint.call false Unit (fun x => True) [] false (fun x => T.sl 4 (parts [num (4 : Int) (Ent.n m), num (1 : Int) (Ent.b m)])) (fun x => []) fun x => none_)) ∧ ∀ (a : Unit), True → (x = x ∧ List.length (P ++ [T.agg [int (Part.kind (num (4 : Int) (Ent.s m))), int (Part.size (num (4 : Int) (Ent.s m))), u64 (Part.n (num (4 : Int) (Ent.s m))), T.v (Value.string (Part.s (num (4 : Int) (Ent.s m))))]]) = List.length (P ++ [T.agg [int (Part.kind (num (4 : Int) (Ent.s m))), int (Part.size (num (4 : Int) (Ent.s m))), u64 (Part.n (num (4 : Int) (Ent.s m))), T.v (Value.string (Part.s (num (4 : Int) (Ent.s m))))]])) ∧ Fits (List.length (P ++ [T.agg [int (Part.kind (num (4 : Int) (Ent.s m))), int (Part.size (num (4 : Int) (Ent.s m))), u64 (Part.n (num (4 : Int) (Ent.s m))), T.v (Value.string (Part.s (num (4 : Int) (Ent.s m))))]]) + 2) (nat_lit 40) ∧ ∀ (x : Value), TCalls Tryd.prog 62 [T.agg [u8 (Cmd.k (Ent.c m)), u8 (Cmd.n (Ent.c m)), u8 (Cmd.l (Ent.c m)), u32 (Cmd.e (Ent.c m)), u32 (Cmd.q (Ent.c m))]] [] none_ (callPost (Hint.call false Unit (fun x => True) [] false (fun x => T.sl 4 (parts (Cmd.ps (Ent.c m)))) (fun x => []) fun x => none_)) ∧ ∀ (a : Unit), True → (x = x ∧ List.length (P ++ [T.agg [int (Part.kind (num (4 : Int) (Ent.s m))), int (Part.size (num (4 : Int) (Ent.s m))), u64 (Part.n (num (4 : Int) (Ent.s m))), T.v (Value.string (Part.s (num (4 : Int) (Ent.s m))))]] ++ [T.agg [int (Part.kind (num (4 : Int) (Ent.n m))), int (Part.size (num (4 : Int) (Ent.n m))), u64 (Part.n (num (4 : Int) (Ent.n m))), T.v (Value.string (Part.s (num (4 : Int) (Ent.n m))))], T.agg [int (Part.kind (num (1 : Int) (Ent.b m))), int (Part.size (num (1 : Int) (Ent.b m))), u64 (Part.n (num (1 : Int) (Ent.b m))), T.v (Value.string (Part.s (num (1 : Int) (Ent.b m))))]]) = List.length (P ++ [T.agg [int (Part.kind (num (4 : Int) (Ent.s m))), int (Part.size (num (4 : Int) (Ent.s m))), u64 (Part.n (num (4 : Int) (Ent.s m))), T.v (Value.string (Part.s (num (4 : Int) (Ent.s m))))]] ++ [T.agg [int (Part.kind (num (4 : Int) (Ent.n m))), int (Part.size (num (4 : Int) (Ent.n m))), u64 (Part.n (num (4 : Int) (Ent.n m))), T.v (Value.string (Part.s (num (4 : Int) (Ent.n m))))], T.agg [int (Part.kind (num (1 : Int) (Ent.b m))), int (Part.size (num (1 : Int) (Ent.b m))), u64 (Part.n (num (1 : Int) (Ent.b m))), T.v (Value.string (Part.s (num (1 : Int) (Ent.b m))))]])) ∧ Fits (List.length (P ++ [T.agg [int (Part.kind (num (4 : Int) (Ent.s m))), int (Part.size (num (4 : Int) (Ent.s m))), u64 (Part.n (num (4 : Int) (Ent.s m))), T.v (Value.string (Part.s (num (4 : Int) (Ent.s m))))]] ++ [T.agg [int (Part.kind (num (4 : Int) (Ent.n m))), int (Part.size (num (4 : Int) (Ent.n m))), u64 (Part.n (num (4 : Int) (Ent.n m))), T.v (Value.string (Part.s (num (4 : Int) (Ent.n m))))], T.agg [int (Part.kind (num (1 : Int) (Ent.b m))), int (Part.size (num (1 : Int) (Ent.b m))), u64 (Part.n (num (1 : Int) (Ent.b m))), T.v (Value.string (Part.s (num (1 : Int) (Ent.b m))))]]) + 5) (nat_lit 40) ∧ ∀ (x : Value), int (IntKind.wrap IntKind.i64 ((↑(List.length d) : Int) + (1 : Int))) = int d1 ∧ TWk Tryd.prog Γ (fin Tryd.prog Tryd.f64 [] Q) [It.code (sub (bd Tryd.f64) [1, 1, 0, 1, 0]), It.blk 0, It.code (sub (bd Tryd.f64) [1, 1, 1])] { fr := frame 34 [(3, T.slx 4 0 (P ++ [T.agg [int (Part.kind (num (4 : Int) (Ent.s m))), int (Part.size (num (4 : Int) (Ent.s m))), u64 (Part.n (num (4 : Int) (Ent.s m))), T.v (Value.string (Part.s (num (4 : Int) (Ent.s m))))]] ++ [T.agg [int (Part.kind (num (4 : Int) (Ent.n m))), int (Part.size (num (4 : Int) (Ent.n m))), u64 (Part.n (num (4 : Int) (Ent.n m))), T.v (Value.string (Part.s (num (4 : Int) (Ent.n m))))], T.agg [int (Part.kind (num (1 : Int) (Ent.b m))), int (Part.size (num (1 : Int) (Ent.b m))), u64 (Part.n (num (1 : Int) (Ent.b m))), T.v (Value.string (Part.s (num (1 : Int) (Ent.b m))))]] ++ [T.agg [int (Part.kind (num (1 : Int) (Cmd.k (Ent.c m)))), int (Part.size (num (1 : Int) (Cmd.k (Ent.c m)))), u64 (Part.n (num (1 : Int) (Cmd.k (Ent.c m)))), T.v (Value.string (Part.s (num (1 : Int) (Cmd.k (Ent.c m)))))], T.agg [int (Part.kind (num (1 : Int) (Cmd.n (Ent.c m)))), int (Part.size (num (1 : Int) (Cmd.n (Ent.c m)))), u64 (Part.n (num (1 : Int) (Cmd.n (Ent.c m)))), T.v (Value.string (Part.s (num (1 : Int) (Cmd.n (Ent.c m)))))], T.agg [int (Part.kind (num (1 : Int) (Cmd.l (Ent.c m)))), int (Part.size (num (1 : Int) (Cmd.l (Ent.c m)))), u64 (Part.n (num (1 : Int) (Cmd.l (Ent.c m)))), T.v (Value.string (Part.s (num (1 : Int) (Cmd.l (Ent.c m)))))], T.agg [int (Part.kind (num (4 : Int) (Cmd.e (Ent.c m)))), int (Part.size (num (4 : Int) (Cmd.e (Ent.c m)))), u64 (Part.n (num (4 : Int) (Cmd.e (Ent.c m)))), T.v (Value.string (Part.s (num (4 : Int) (Cmd.e (Ent.c m)))))], T.agg [int (Part.kind (num (4 : Int) (Cmd.q (Ent.c m)))), int (Part.size (num (4 : Int) (Cmd.q (Ent.c m)))), u64 (Part.n (num (4 : Int) (Cmd.q (Ent.c m)))), T.v (Value.string (Part.s (num (4 : Int) (Cmd.q (Ent.c m)))))]]) x), (11, T.sl 8 (List.map (fun x => T.agg (entC x)) es)), (12, int (List.length es)), (13, int d1)], ob := [(0, Ob.room 4 109 (List.length (P ++ [T.agg [int (Part.kind (num (4 : Int) (Ent.s m))), int (Part.size (num (4 : Int) (Ent.s m))), u64 (Part.n (num (4 : Int) (Ent.s m))), T.v (Value.string (Part.s (num (4 : Int) (Ent.s m))))]] ++ [T.agg [int (Part.kind (num (4 : Int) (Ent.n m))), int (Part.size (num (4 : Int) (Ent.n m))), u64 (Part.n (num (4 : Int) (Ent.n m))), T.v (Value.string (Part.s (num (4 : Int) (Ent.n m))))], T.agg [int (Part.kind (num (1 : Int) (Ent.b m))), int (Part.size (num (1 : Int) (Ent.b m))), u64 (Part.n (num (1 : Int) (Ent.b m))), T.v (Value.string (Part.s (num (1 : Int) (Ent.b m))))]] ++ [T.agg [int (Part.kind (num (1 : Int) (Cmd.k (Ent.c m)))), int (Part.size (num (1 : Int) (Cmd.k (Ent.c m)))), u64 (Part.n (num (1 : Int) (Cmd.k (Ent.c m)))), T.v (Value.string (Part.s (num (1 : Int) (Cmd.k (Ent.c m)))))], T.agg [int (Part.kind (num (1 : Int) (Cmd.n (Ent.c m)))), int (Part.size (num (1 : Int) (Cmd.n (Ent.c m)))), u64 (Part.n (num (1 : Int) (Cmd.n (Ent.c m)))), T.v (Value.string (Part.s (num (1 : Int) (Cmd.n (Ent.c m)))))], T.agg [int (Part.kind (num (1 : Int) (Cmd.l (Ent.c m)))), int (Part.size (num (1 : Int) (Cmd.l (Ent.c m)))), u64 (Part.n (num (1 : Int) (Cmd.l (Ent.c m)))), T.v (Value.string (Part.s (num (1 : Int) (Cmd.l (Ent.c m)))))], T.agg [int (Part.kind (num (4 : Int) (Cmd.e (Ent.c m)))), int (Part.size (num (4 : Int) (Cmd.e (Ent.c m)))), u64 (Part.n (num (4 : Int) (Cmd.e (Ent.c m)))), T.v (Value.string (Part.s (num (4 : Int) (Cmd.e (Ent.c m)))))], T.agg [int (Part.kind (num (4 : Int) (Cmd.q (Ent.c m)))), int (Part.size (num (4 : Int) (Cmd.q (Ent.c m)))), u64 (Part.n (num (4 : Int) (Cmd.q (Ent.c m)))), T.v (Value.string (Part.s (num (4 : Int) (Cmd.q (Ent.c m)))))]])) x)], gl := fun x => none }) (Q (T.sl 4 P) [] fun x => none)) (by kernel_rfl) ?_
    repeat' (first | exact rfl | exact Nat.le_of_ble_eq_true rfl | refine And.intro ?_ ?_ | intro _ | refine bsplit_mk (fun _ => ?_) (fun _ => ?_))
    all_goals first
      | exact hx
      | exact hw
      | exact s1
      | exact s2
      | exact s3
      | exact nx _
      | exact Int.natCast_nonneg _
      | (exfalso; simp only [decide_eq_false_iff_not] at *; omega)
      | (simp [maxLen]; omega)
      | trace_state
theorem entered_post (es : List Ent) (hes : es.length ≤ 18) (heo : ∀ x ∈ es, x.Ok) : TCalls Tryd.prog 64 [.sl 8 (Row.aggs entC es)] [] none_ (callPost (told (.sl 4 (parts (entPs es))) [] [])) := by
  have lp := fun Γ hd => entered_loop Γ es hes heo (callPost (told (.sl 4 (parts (entPs es))) [] [])) (fun _ h => told_post h) es [] hd rfl
  have s2 := small_post es.length (by omega)
  have hal : (Row.aggs entC es).length = es.length := Row.aggs_len es
  have hw : T.v (.int .u8 (IntKind.wrap .u8 (es.length : Int))) = u8 es.length := congrArg u8 (IntWalk.u8_in _ (by omega))
  generalize Row.aggs entC es = ES at *
  refine TCalls.of Tryd.func64 rfl (CanCall.of Tryd.func64 rfl (by decide)) [] fun Γ => ?_
  refine run_sound (⟨fun | 1, 2 => .res (u8 es.length) | 1, 3 => told (.agg (partC (num 1 es.length))) [] [] | 1, 4 => .plain .no | _, _ => .no, [((2, 3), ([3, 11, 12, 13], 1))], fun | 5 => some ⟨[], [13, 14], .take true [0,1,2,6,7,8,11,12] (.one 3 (.one 4 (.one 5 (.one 9 (.one 10 (.one 13 (.one 14 (.take false [15] .done))))))))⟩ | _ => none⟩) 400 (B := u8 (IntKind.wrap IntKind.u8 (↑(List.length ES) : Int)) = u8 (List.length es) ∧ TCalls Tryd.prog 28 [u8 (List.length es)] [] none_ (callPost (Hint.call false Unit (fun x => True) [] false (fun x => T.agg (partC (num (1 : Int) (List.length es)))) (fun x => []) fun x => none_)) ∧ ∀ (a : Unit), True → ∀ (x : Value), TWk Tryd.prog Γ (fin Tryd.prog Tryd.f64 [] (callPost (told (T.sl 4 (parts (entPs es))) [] []))) [It.code (sub (bd Tryd.f64) [1, 1, 0, 1, 0]), It.blk 0, It.code (sub (bd Tryd.f64) [1, 1, 1])] { fr := frame 34 [(3, T.slx 4 0 [T.agg [int (Part.kind (num (1 : Int) (List.length es))), int (Part.size (num (1 : Int) (List.length es))), u64 (Part.n (num (1 : Int) (List.length es))), T.v (Value.string (Part.s (num (1 : Int) (List.length es))))]] x), (11, T.sl 8 ES), (12, int (List.length ES)), (13, int 0)], ob := [(0, Ob.room 4 109 1 x)], gl := fun x => none }) (by kernel_rfl) ?_
  rw [hal]
  repeat' (first | exact rfl | exact Nat.le_of_ble_eq_true rfl | refine And.intro ?_ ?_ | intro _ | refine bsplit_mk (fun _ => ?_) (fun _ => ?_))
  all_goals first
    | exact hw
    | exact s2
    | exact lp _ _
    | trace_state
end X6
end Go.Proofs.YtaepgceodcdnhaaDoor.Vm
