/- The contracts of layer 1 (octet), on: a part's bytes, Join. -/
import Derived.Test.YtaepgceodcdnhaaDoorOct
import Derived.Lib.AppendStr
namespace Go.Proofs.YtaepgceodcdnhaaDoor
open Go.RowKit
namespace Oct

theorem number_any (n : Nat) (size : Int) (w : World) (hn : n < 256 ^ 8) :
    Calls Tryd.prog 83 #[.int .u64 n, .int .i64 size] w fun e w' => e = .returned (.tuple #[.string ⟨(numRes n size).1.toArray⟩, .int .i64 (numRes n size).2]) ∧ Below w.heap.size w w' := by
  by_cases h1 : size < 1 ∨ size > 8
  · have e : numRes n size = ([], 9) := by unfold numRes; rw [if_neg (by omega)]
    rw [e]; exact number_size n size w h1
  · obtain ⟨k, rfl⟩ : ∃ k : Nat, size = k := ⟨size.toNat, by omega⟩
    by_cases h2 : n < 256 ^ k
    · have e : numRes n k = (be k n, 0) := by unfold numRes; rw [if_pos ⟨by omega, by omega, by simpa using h2⟩]; rfl
      rw [e]; exact number_fits n k w (by omega) (by omega) (fun _ => (fits_iff n k).2 h2)
    · have h7 : k ≤ 7 := by
        rcases Nat.lt_or_ge k 8 with h | h
        · omega
        · have : k = 8 := by omega
          subst this; exact absurd hn h2
      have e : numRes n k = ([], 9) := by unfold numRes; rw [if_neg (by intro h; exact h2 (by simpa using h.2.2))]
      rw [e]
      refine number_great n k w (by omega) h7 ?_
      cases hb : ((n : Int) / 2 ^ (8 * k) != 0)
      · exact absurd ((fits_iff n k).1 hb) h2
      · rfl

set_option maxHeartbeats 400000 in
theorem bytes_num (n : Nat) (k : Int) (s : ByteArray) (w : World) (hn : Hid (n < 256 ^ 8)) :
    Calls Tryd.prog 65 #[.agg #[.int .i64 1, .int .i64 k, .int .u64 n, .string s]] w fun e' w' => e' = .returned (.tuple #[.string ⟨(numRes n k).1.toArray⟩, .int .i64 (numRes n k).2]) ∧ Below w.heap.size w w' := by
  go_enter Tryd.func65, Tryd.ntmps65
  go_wp2_with (go_at_call 83; refine (number_any _ _ _ hn.out).mono ?_; rintro e w1 ⟨rfl, hb⟩)
  go_ret2
  exact ⟨rfl, ((Below.refl _ _).alloc (Nat.le_refl _) _).trans (hb.mono (by simp))⟩
set_option maxRecDepth 100000 in
set_option maxHeartbeats 400000 in
theorem bytes_text (n : Int) (k : Int) (s : ByteArray) (w : World) (hs : s.size ≤ 255):
    Calls Tryd.prog 65 #[.agg #[.int .i64 2, .int .i64 k, .int .u64 n, .string s]] w fun e' w' => e' = .returned (.tuple #[.string ⟨(UInt8.ofNat s.size :: s.data.toList).toArray⟩, .int .i64 0]) ∧ Below w.heap.size w w' := by
  have hcv := fun o => run_string_one (P := Tryd.prog) 67 5 9 Tryd.underlying67 Tryd.underlying5 Tryd.underlying9 w s.size (by omega) o
  go_enter Tryd.func65, Tryd.ntmps65
  go_wp2
  go_ret2
  exact ⟨ret_si (bs_ext (by rw [bs_append]; simp)) rfl, ((Below.refl _ _).alloc (Nat.le_refl _) _).alloc (by simp) _⟩
theorem bytes_long (n : Int) (k : Int) (s : ByteArray) (w : World) (hs : ¬ (s.size ≤ 255)):
    Calls Tryd.prog 65 #[.agg #[.int .i64 2, .int .i64 k, .int .u64 n, .string s]] w fun e' w' => e' = .returned (.tuple #[.string ⟨#[]⟩, .int .i64 3]) ∧ Below w.heap.size w w' := by
  go_enter Tryd.func65, Tryd.ntmps65
  go_wp2
  go_ret2
  exact ⟨rfl, (Below.refl _ _).alloc (Nat.le_refl _) _⟩
theorem bytes_raw (n : Int) (k : Int) (s : ByteArray) (w : World) :
    Calls Tryd.prog 65 #[.agg #[.int .i64 3, .int .i64 k, .int .u64 n, .string s]] w fun e' w' => e' = .returned (.tuple #[.string s, .int .i64 0]) ∧ Below w.heap.size w w' := by
  go_enter Tryd.func65, Tryd.ntmps65
  go_wp2
  go_ret2
  exact ⟨rfl, (Below.refl _ _).alloc (Nat.le_refl _) _⟩
theorem bytes_none (d n : Int) (k : Int) (s : ByteArray) (w : World) (h1 : (d == 1) = false) (h2 : (d == 2) = false) (h3 : (d == 3) = false) :
    Calls Tryd.prog 65 #[.agg #[.int .i64 d, .int .i64 k, .int .u64 n, .string s]] w fun e' w' => e' = .returned (.tuple #[.string ⟨#[]⟩, .int .i64 1]) ∧ Below w.heap.size w w' := by
  go_enter Tryd.func65, Tryd.ntmps65
  go_wp2
  go_ret2
  exact ⟨rfl, (Below.refl _ _).alloc (Nat.le_refl _) _⟩
theorem bytes_any (p : Part) (w : World) (hn : p.n < 256 ^ 8) :
    Calls Tryd.prog 65 #[.agg #[.int .i64 p.kind, .int .i64 p.size, .int .u64 p.n, .string p.s]] w fun e' w' => e' = .returned (.tuple #[.string ⟨p.bytes.1.toArray⟩, .int .i64 p.bytes.2]) ∧ Below w.heap.size w w' := by
  obtain ⟨d, k, n, s⟩ := p
  show Calls Tryd.prog 65 #[.agg #[.int .i64 d, .int .i64 k, .int .u64 n, .string s]] w _
  by_cases h1 : d = 1
  · subst h1
    exact bytes_num n k s w hn
  by_cases h2 : d = 2
  · subst h2
    by_cases hs : s.size ≤ 255
    · have e : Part.bytes ⟨2, k, n, s⟩ = (UInt8.ofNat s.size :: s.data.toList, 0) := by
        show (if (2 : Int) = 1 then _ else if (2 : Int) = 2 then _ else _) = _
        rw [if_neg (by decide), if_pos rfl, if_neg (by show ¬ 255 < s.size; omega)]
      rw [e]; exact bytes_text n k s w hs
    · have e : Part.bytes ⟨2, k, n, s⟩ = ([], 3) := by
        show (if (2 : Int) = 1 then _ else if (2 : Int) = 2 then _ else _) = _
        rw [if_neg (by decide), if_pos rfl, if_pos (by show 255 < s.size; omega)]
      rw [e]; exact bytes_long n k s w hs
  by_cases h3 : d = 3
  · subst h3
    have e : Part.bytes ⟨3, k, n, s⟩ = (s.data.toList, 0) := by
      show (if (3 : Int) = 1 then _ else if (3 : Int) = 2 then _ else if (3 : Int) = 3 then _ else _) = _
      rw [if_neg (by decide), if_neg (by decide), if_pos rfl]
    rw [e, bs_self]; exact bytes_raw n k s w
  · have e : Part.bytes ⟨d, k, n, s⟩ = ([], 1) := by
      show (if d = 1 then _ else if d = 2 then _ else if d = 3 then _ else _) = _
      rw [if_neg h1, if_neg h2, if_neg h3]
    rw [e]; exact bytes_none d n k s w (beq_eq_false_iff_ne.2 h1) (beq_eq_false_iff_ne.2 h2) (beq_eq_false_iff_ne.2 h3)

/-- The parts lie in a slice. -/
def Parts (w : World) (A : Option Addr) (ps : List Part) : Prop := RowsAt w w.heap.size 4 A (ps.map Part.cells)

set_option maxRecDepth 100000 in
set_option maxHeartbeats 1000000 in
theorem Join_any (A : Option Addr) (c : Nat) (ps : List Part) (w : World) (hp : Parts w A ps) (hroom : room ps ≤ 140737488355328) (hn : ∀ p ∈ ps, p.n < 256 ^ 8) (hl : ps.length ≤ 9223372036854775807) :
    Calls Tryd.prog 31 #[.slice A ps.length c] w fun e w' => e = .returned (.tuple #[.string ⟨(joinRes ps []).1.toArray⟩, .int .i64 (joinRes ps []).2]) ∧ Below w.heap.size w w' := by
  have hP := Lib.hid hp
  have hN := Lib.hid hn
  have hR := Lib.hid hroom
  clear hp hn hroom
  go_enter Tryd.func31, Tryd.ntmps31
  go_wp2
  go_loopw [4, 11] (fun v i wr => ∃ (k : Nat) (acc : List UInt8), k ≤ ps.length ∧ i = .int .i64 k ∧ joinRes ps [] = joinRes (ps.drop k) acc ∧ acc.length ≤ room (ps.take k) ∧
      wr.ownsRow w.heap.size 5 1 v acc.length (acc.map fun b => Value.int .u8 b.toNat) ∧ Below w.heap.size w wr) (fun _ i _ => ps.length - (intOf i).toNat)
  case atStart => exact ⟨0, [], by omega, rfl, rfl, by simp, World.ownsRow_nil _ _ _ _, Below.refl _ _⟩
  case round =>
    obtain ⟨k, acc, hk, rfl, hj, hacc, hown, hbelow⟩ := hrel
    by_cases hlt : k < ps.length
    · obtain ⟨b, off, rfl, hb, hc⟩ := hP.out (by intro h; rw [List.map_eq_nil_iff] at h; subst h; simp at hlt)
      have hc := hc k ps[k].cells (by simp [hlt])
      have cell : ∀ j u, (ps[k].cells)[j]? = some u → wr.cell? ⟨b, off + k * 4 + j, none⟩ = some u := fun j u hu => (hbelow.cell hb).trans (hc j u hu)
      have c0 : wr.cell? ⟨b, off + k * 4, none⟩ = some (.int .i64 ps[k].kind) := cell 0 _ rfl
      have c1 := cell 1 _ rfl
      have c2 := cell 2 _ rfl
      have c3 := cell 3 _ rfl
      have HJ := Lib.hid hj
      have hpn := Lib.hid (hN.out ps[k] (by simp))
      obtain ⟨i0, hi, hz0, hz1, hz2⟩ := info_parts info_u8
      have hrk := room_take ps k hlt
      have hble := bytes_le ps[k]
      have hRk := Lib.hid (show acc.length + (⟨ps[k].bytes.1.toArray⟩ : ByteArray).size ≤ 140737488355328 by have := hR.out; show acc.length + ps[k].bytes.1.toArray.size ≤ _; rw [List.size_toArray]; omega)
      have hdrop : joinRes (ps.drop k) acc = if ps[k].bytes.2 ≠ 0 then ([], ps[k].bytes.2) else joinRes (ps.drop (k + 1)) (acc ++ ps[k].bytes.1) := by
        rw [List.drop_eq_getElem_cons hlt]; rfl
      clear cell hc hj
      by_cases he : ps[k].bytes.2 = 0
      · have he1 : (ps[k].bytes.2 != 0) = false := by rw [he]; rfl
        rw [if_neg (by simp [he])] at hdrop
        have HD := Lib.hid hdrop
        clear hdrop he
        go_wp2_with (first
          | (go_at_call 65; refine (bytes_any ps[k] _ hpn.out).mono ?_; rintro e w1 ⟨rfl, hb1⟩)
          | (at_builtin; refine Stop.out ?_))
        refine Stop.mk ?_
        have hown1 := ownsRow_below (hown.alloc (.cells #[.int .i64 ps[k].kind, .int .i64 ps[k].size, .int .u64 ps[k].n, .string ps[k].s] 109)) hb1 (Nat.le_refl _)
        have hbel1 := (hbelow.alloc hbelow.size _).trans (hb1.mono (by have := hbelow.size; simp; omega))
        refine Lib.wpList_append_own_string _ rfl (.tmp 23) (.tmp 24) 67 9 rfl w.heap.size 5 i0 Tryd.underlying67 Tryd.underlying9 hi hz0 hz1 hz2 u4 acc.length (acc.map fun b => Value.int .u8 (b.toNat : Int)) rfl hown1 ⟨ps[k].bytes.1.toArray⟩ rfl (by have := hRk.out; simp only [maxLen]; omega) hRk.out hbel1.size ?_
        intro v1 w2 hown2 hgr2 _
        rw [cells_of_strs, ← List.map_append] at hown2
        have hbel2 := hbel1.grown hgr2 hbel1.size (ownBlock_base hown1)
        have hsz : (⟨ps[k].bytes.1.toArray⟩ : ByteArray).size = ps[k].bytes.1.length := by show ps[k].bytes.1.toArray.size = _; simp
        have hsz' := Lib.hid hsz
        clear hsz hi hz0 hz1 hz2
        go_wp2
        go_roundw
        case rel => 
          refine ⟨k + 1, acc ++ ps[k].bytes.1, by omega, by go_num, by rw [HJ.out, HD.out], ?_, ?_, hbel2⟩
          · rw [List.length_append]; have := room_succ ps k hlt; omega
          · rw [List.length_append, ← hsz'.out]; exact hown2
        case measure => simp [intOf]; omega
      · have he1 : (ps[k].bytes.2 != 0) = true := by simp [he]
        rw [if_pos he] at hdrop
        have HD := Lib.hid hdrop
        clear hdrop he
        go_wp2_with (go_at_call 65; refine (bytes_any ps[k] _ hpn.out).mono ?_; rintro e w1 ⟨rfl, hb1⟩)
        go_ret2
        rw [HJ.out, HD.out]
        exact ⟨rfl, (hbelow.alloc hbelow.size _).trans (hb1.mono (by have := hbelow.size; simp; omega))⟩
    · obtain rfl : k = ps.length := by omega
      rw [List.drop_length] at hj
      have HJ := Lib.hid hj
      have hcv := run_string_own (P := Tryd.prog) 67 5 9 Tryd.underlying67 Tryd.underlying5 Tryd.underlying9 hown
      clear hj
      go_wp2
      go_ret2
      rw [HJ.out]
      exact ⟨rfl, hbelow⟩
end Oct
end Go.Proofs.YtaepgceodcdnhaaDoor
