/- OctetReads: the walk of the law's function, out of the reader's contracts. -/
import Derived.Test.YteafhmcpppeelaaOctLaw
import Derived.Deep.DeepCutAuto
namespace Go.Proofs.Yteafhmcpppeelaa
open Go.RowKit
namespace Oct

theorem addStep (N k : Nat) (c : UInt8) (hN : N < 256 ^ k) (hk : k < 8) : IntKind.u64.wrap (IntKind.u64.wrap (256 * (N : Int)) + IntKind.u64.wrap (c.toNat : Int)) = ((256 * N + c.toNat : Nat) : Int) := by
  have h8 : 256 ^ (k + 1) ≤ 18446744073709551616 := pow_le8 (k + 1) (by omega)
  have hc : c.toNat < 256 := c.toNat_lt
  rw [Nat.pow_succ] at h8
  rw [IntKind.wrap_u64, IntKind.wrap_u64, IntKind.wrap_u64]
  omega
set_option maxRecDepth 100000 in
set_option maxHeartbeats 400000 in
theorem Get_any (l : List UInt8) (w : World) (hl : l.length ≤ 8) :
    Calls Try.prog 39 #[.string ⟨l.toArray⟩] w fun e w' => e = .returned (.int .u64 (getN l)) ∧ w = w' := by
  go_enter Try.func39, Try.ntmps39
  go_wp2
  go_loop [3, 4] (fun n i => ∃ k : Nat, k ≤ l.length ∧ i = .int .i64 k ∧ n = .int .u64 (getN (l.take k))) (fun _ i => l.length - (intOf i).toNat)
  case atStart => exact ⟨0, by omega, rfl, rfl⟩
  case round =>
    obtain ⟨k, hk, rfl, rfl⟩ := hrel
    by_cases hlt : k < l.length
    · have hN := Lib.hid (getN_lt (l.take k))
      go_wp2
      go_round
      case rel => exact ⟨k + 1, by omega, by go_num, by
        rw [List.take_succ_eq_append_getElem hlt, getN_snoc]
        exact congrArg _ (addStep _ k _ (by have := hN.out; rw [List.length_take, Nat.min_eq_left hk] at this; exact this) (by omega))⟩
      case measure => simp [intOf]; omega
    · obtain rfl : k = l.length := by omega
      go_wp2
      go_ret
      exact ⟨rfl, rfl⟩

/-- what one act reads: what comes out, what is left, what is wrong -/
def readE (L : List UInt8) (B frm size e0 : Int) : List UInt8 × List UInt8 × Int :=
  if B ≠ 0 then ([], L, B) else if e0 ≠ 0 then ([], L, e0) else if size > L.length - frm then ([], L, 2)
  else ((L.take (frm + size).toNat).drop frm.toNat, L.drop (frm + size).toNat, 0)

theorem takeL_readE (L : List UInt8) (B frm size : Int) (h : ¬ size < 0) : takeL L B frm size = readE L B frm size 0 := by
  unfold takeL readE
  rw [if_neg h, if_neg (show ¬ (0 : Int) ≠ 0 by omega)]
theorem readE_bad (L : List UInt8) (B frm size e0 : Int) (h : B ≠ 0) : readE L B frm size e0 = ([], L, B) := by unfold readE; rw [if_pos h]
theorem readE_4 (L : List UInt8) (frm size : Int) : readE L 0 frm size 4 = ([], L, 4) := by unfold readE; rw [if_neg (by simp), if_pos (by decide)]
theorem RNum_E (g : Nat) (L : List UInt8) (B x : Int) (w : World) (h : Rd w g L B) (hl : L.length ≤ 9223372036854775807) (e0 : Int) (he : (x < 1 ∨ 8 < x) ∧ e0 = 4 ∨ ¬ (x < 1 ∨ 8 < x) ∧ e0 = 0) :
    Calls Try.prog 36 #[.pointer (some ⟨g, 0, none⟩), .int .i64 x] w fun e w' => e = .returned (.int .u64 (getN (readE L B 0 x e0).1)) ∧ Rd w' g (readE L B 0 x e0).2.1 (readE L B 0 x e0).2.2 ∧ Fr (· = g) w w' := by
  rcases he with ⟨hx, rfl⟩ | ⟨hx, rfl⟩
  · by_cases hB : B = 0
    · subst hB
      rw [readE_4]
      exact RNum_size0 g L x w h hx
    · rw [readE_bad _ _ _ _ _ hB]
      refine (RNum_size1 g L B x w h (by simp [hB]) hx).mono ?_
      rintro e w1 ⟨rfl, rfl⟩
      exact ⟨rfl, h, Fr.refl _ _⟩
  · rw [← takeL_readE L B 0 x (by omega)]
    exact RNum_go g L B x w h (by omega) (by omega) hl
def textSize : List UInt8 → Int | [] => 0 | c :: _ => c.toNat
theorem RText_E (g : Nat) (L : List UInt8) (B : Int) (w : World) (h : Rd w g L B) (hl : L.length ≤ 9223372036854775807) :
    Calls Try.prog 37 #[.pointer (some ⟨g, 0, none⟩)] w fun e w' => e = .returned (.string ⟨(readE L B 1 (textSize L) 0).1.toArray⟩) ∧ Rd w' g (readE L B 1 (textSize L) 0).2.1 (readE L B 1 (textSize L) 0).2.2 ∧ Fr (· = g) w w' := by
  cases L with
  | nil =>
    have e : takeL [] B 0 1 = readE [] B 1 (textSize []) 0 := by
      unfold takeL readE
      by_cases hB : B ≠ 0
      · rw [if_pos hB, if_pos hB]
      · rw [if_neg hB, if_neg hB]; rfl
    rw [← e]
    exact RText_empty g B w h
  | cons c l =>
    rw [← takeL_readE (c :: l) B 1 (textSize (c :: l)) (by simp [textSize])]
    exact RText_go g c l B w h hl
theorem RRaw_E (g : Nat) (L : List UInt8) (B n : Int) (w : World) (h : Rd w g L B) (hl : L.length ≤ 9223372036854775807) (e0 : Int) (he : n < 0 ∧ e0 = 4 ∨ ¬ n < 0 ∧ e0 = 0) :
    Calls Try.prog 38 #[.pointer (some ⟨g, 0, none⟩), .int .i64 n] w fun e w' => e = .returned (.string ⟨(readE L B 0 n e0).1.toArray⟩) ∧ Rd w' g (readE L B 0 n e0).2.1 (readE L B 0 n e0).2.2 ∧ Fr (· = g) w w' := by
  have e : takeL L B 0 n = readE L B 0 n e0 := by
    rcases he with ⟨hx, rfl⟩ | ⟨hx, rfl⟩
    · by_cases hB : B = 0
      · subst hB
        rw [readE_4]; unfold takeL; rw [if_neg (by simp), if_pos hx]
      · rw [readE_bad _ _ _ _ _ hB]; unfold takeL; rw [if_pos hB]
    · exact takeL_readE L B 0 n hx
  rw [← e]
  exact RRaw_any g L B n w h hl

/-- the act's kind, and what the law has of it -/
def ActIs (x : Int) (out : List UInt8) (N : Nat) (T : List UInt8) (frm size e0 : Int) : Prop :=
  0 ≤ frm ∧ frm ≤ 1 ∧ (e0 = 0 ∨ e0 = 4) ∧ (e0 = 0 → 0 ≤ size) ∧ ((x < 20 ∧ N = getN out ∧ T = [] ∧ frm = 0 ∧ (e0 = 0 → size ≤ 8)) ∨ (¬ x < 20 ∧ N = 0 ∧ T = out))
theorem ActIs.none_ {x : Int} {N : Nat} {T : List UInt8} {frm size e0 : Int} (h : ActIs x [] N T frm size e0) : N = 0 ∧ T = [] := by
  obtain ⟨_, _, _, _, ⟨_, rfl, rfl, _⟩ | ⟨_, rfl, rfl⟩⟩ := h
  · exact ⟨rfl, rfl⟩
  · exact ⟨rfl, rfl⟩
theorem readE_len (L : List UInt8) (B frm size e0 : Int) (h : L.length ≤ 100) : (readE L B frm size e0).2.1.length ≤ 100 := by
  unfold readE
  split
  · exact h
  · split
    · exact h
    · split
      · exact h
      · simp; omega

def ReadsInv (w : World) (g : Nat) (zs : List Int) (gk : Nat) (s6 s7 s8 : Value) (wr : World) : Prop :=
  ∃ (k : Nat) (L : List UInt8) (B : Int), k ≤ 20 ∧ k ≤ zs.length ∧ gk = 20 - k ∧ s8 = .int .i64 k ∧ s6 = .string ⟨L.toArray⟩ ∧ s7 = .int .i64 B ∧ L.length ≤ 100 ∧ Rd wr g L B ∧ Below w.heap.size w wr

def ReadsCut (w : World) (g : Nat) (x : Int) (L : List UInt8) (B : Int) (s10 s11 s14 s15 s16 : Value) (wc : World) : Prop :=
  ∃ (N : Nat) (T : List UInt8) (frm size e0 : Int), s10 = .int .u64 N ∧ s11 = .string ⟨T.toArray⟩ ∧ s14 = .int .i64 frm ∧ s15 = .int .i64 size ∧ s16 = .int .i64 e0 ∧
    ActIs x (readE L B frm size e0).1 N T frm size e0 ∧ Rd wc g (readE L B frm size e0).2.1 (readE L B frm size e0).2.2 ∧ Below w.heap.size w wc

set_option maxRecDepth 100000 in
set_option maxHeartbeats 4000000 in
theorem OctetReads_walk (s : List UInt8) (A : Option Addr) (c : Nat) (zs : List Int) (w : World) (hA : RowsAt w w.heap.size 1 A (zs.map fun z => [.int .i64 z])) (hz : ∀ z ∈ zs, -9223372036854775808 ≤ z ∧ z ≤ 9223372036854775807)
    (hs : s.length ≤ 9223372036854775807) (hl : zs.length ≤ 9223372036854775807) :
    Calls Try.prog 7 #[.string ⟨s.toArray⟩, .slice A zs.length c] w fun e w' => e = .returned (.bool true) ∧ Below w.heap.size w w' := by
  have HA := Lib.hid hA
  have HZ := Lib.hid hz
  clear hA hz
  go_enter Try.func7, Try.ntmps7
  go_wp2_with fail
  refine (speaks _).mono ?_; rintro e w1 ⟨rfl, hb1⟩
  go_upto_region 3 with fail
  go_cut [0] (fun s0 wx => ∃ L : List UInt8, s0 = .string ⟨L.toArray⟩ ∧ L.length ≤ 100 ∧ w1 = wx)
  case first =>
    go_wp2_with fail
    all_goals go_meet
    all_goals (refine ⟨_, by rw [extract_mk], ?_, rfl⟩; simp; omega)
  case rest =>
    obtain ⟨L0, rfl, hL0, rfl⟩ := hcut
    go_wp2_with fail
    refine (Read_any L0 _).mono ?_; rintro e w2 ⟨rfl, hr2, hb2, hz2⟩
    go_wp2_with fail
    go_loopg [6, 7, 8] 20 (fun gk s6 s7 s8 wr => ReadsInv w w1.heap.size zs gk s6 s7 s8 wr)
    case atStart => exact ⟨0, L0, 0, by omega, by omega, rfl, rfl, rfl, rfl, hL0, hr2, hb1.trans (hb2.mono hb1.size)⟩
    case round =>
      obtain ⟨k, L, B, hk, hkl, rfl, rfl, rfl, rfl, hL, hr, hb⟩ := hrel
      by_cases hlt : k < zs.length ∧ k < 20
      · obtain ⟨hlt1, hlt2⟩ := hlt
        obtain ⟨bA, oA, rfl, hbA, hcA⟩ := HA.out (by intro h; rw [List.map_eq_nil_iff] at h; subst h; simp at hlt1)
        have hc : wr.cell? ⟨bA, oA + k, none⟩ = some (.int .i64 zs[k]) := by
          have := hcA k [.int .i64 zs[k]] (by simp [hlt1]) 0 _ rfl
          rw [Nat.mul_one, Nat.add_zero] at this
          exact (hb.cell hbA).trans this
        have hzk := HZ.out zs[k] (by simp)
        generalize zs[k] = x at *
        have HR := Lib.hid hr
        have HL := Lib.hid hL
        have HB := Lib.hid hb
        clear hr hL hb hcA
        have hLm : L.length ≤ 9223372036854775807 := by have := HL.out; omega
        have hg : w.heap.size ≤ w1.heap.size := hb1.size
        go_upto_if 44 with fail
        go_cut [10, 11, 14, 15, 16] (fun s10 s11 s14 s15 s16 wc => ReadsCut w w1.heap.size x L B s10 s11 s14 s15 s16 wc)
        case first =>
          have hrest : ∀ wq, Fr (· = w1.heap.size) wr wq → Below w.heap.size w wq := fun wq hq => HB.out.trans ⟨hq.os, hq.tape, hq.output, hq.size, fun i hi => hq.block i (by have := HB.out.size; omega) (by omega)⟩
          have HQ := Lib.hid hrest
          clear hrest
          by_cases h20 : x < 20
          · by_cases h1 : x < 1
            · go_wp2_with (go_at_call 36; refine (RNum_E _ _ _ _ _ HR.out hLm 4 (.inl ⟨.inl h1, rfl⟩)).mono ?_; rintro e w3 ⟨rfl, hr3, hf3⟩)
              go_meet
              exact ⟨_, [], 0, x, 4, rfl, rfl, rfl, rfl, rfl, ⟨by omega, by omega, by omega, by omega, .inl ⟨h20, rfl, rfl, rfl, by omega⟩⟩, hr3, HQ.out _ hf3⟩
            · by_cases h8 : 8 < x
              · go_wp2_with (go_at_call 36; refine (RNum_E _ _ _ _ _ HR.out hLm 4 (.inl ⟨.inr h8, rfl⟩)).mono ?_; rintro e w3 ⟨rfl, hr3, hf3⟩)
                go_meet
                exact ⟨_, [], 0, x, 4, rfl, rfl, rfl, rfl, rfl, ⟨by omega, by omega, by omega, by omega, .inl ⟨h20, rfl, rfl, rfl, by omega⟩⟩, hr3, HQ.out _ hf3⟩
              · go_wp2_with (go_at_call 36; refine (RNum_E _ _ _ _ _ HR.out hLm 0 (.inr ⟨by omega, rfl⟩)).mono ?_; rintro e w3 ⟨rfl, hr3, hf3⟩)
                go_meet
                exact ⟨_, [], 0, x, 0, rfl, rfl, rfl, rfl, rfl, ⟨by omega, by omega, by omega, by omega, .inl ⟨h20, rfl, rfl, rfl, by omega⟩⟩, hr3, HQ.out _ hf3⟩
          · by_cases h21 : x = 20
            · subst h21
              cases L with
              | nil =>
                go_wp2_with (go_at_call 37; refine (RText_E _ _ _ _ HR.out hLm).mono ?_; rintro e w3 ⟨rfl, hr3, hf3⟩)
                go_meet
                exact ⟨0, _, 1, 0, 0, rfl, rfl, rfl, rfl, rfl, ⟨by omega, by omega, by omega, by omega, .inr ⟨by omega, rfl, rfl⟩⟩, hr3, HQ.out _ hf3⟩
              | cons c l =>
                go_wp2_with (go_at_call 37; refine (RText_E _ _ _ _ HR.out hLm).mono ?_; rintro e w3 ⟨rfl, hr3, hf3⟩)
                have e : ∀ h, wrap64 (((⟨(c :: l).toArray⟩ : ByteArray)[0]'h).toNat : Int) = (c.toNat : Int) := fun _ => wrap64_byte c
                go_meet
                exact ⟨0, _, 1, textSize (c :: l), 0, rfl, rfl, rfl, by rw [e]; rfl, rfl, ⟨by omega, by omega, by omega, by simp [textSize], .inr ⟨by omega, rfl, rfl⟩⟩, hr3, HQ.out _ hf3⟩
            · have h21' : (x == 20) = false := by simp [h21]
              by_cases h30 : x - 30 < 0
              · go_wp2_with (go_at_call 38; refine (RRaw_E _ _ _ _ _ HR.out hLm 4 (.inl ⟨by omega, rfl⟩)).mono ?_; rintro e w3 ⟨rfl, hr3, hf3⟩)
                go_meet
                exact ⟨0, _, 0, x - 30, 4, rfl, rfl, rfl, rfl, rfl, ⟨by omega, by omega, by omega, by omega, .inr ⟨by omega, rfl, rfl⟩⟩, hr3, HQ.out _ hf3⟩
              · go_wp2_with (go_at_call 38; refine (RRaw_E _ _ _ _ _ HR.out hLm 0 (.inr ⟨by omega, rfl⟩)).mono ?_; rintro e w3 ⟨rfl, hr3, hf3⟩)
                go_meet
                exact ⟨0, _, 0, x - 30, 0, rfl, rfl, rfl, rfl, rfl, ⟨by omega, by omega, by omega, by omega, .inr ⟨by omega, rfl, rfl⟩⟩, hr3, HQ.out _ hf3⟩
        case rest =>
          obtain ⟨N, T, frm, size, e0, rfl, rfl, rfl, rfl, rfl, hact, hrc, hbc⟩ := hcut
          have HBC := Lib.hid hbc
          have hlen := Lib.hid (readE_len L B frm size e0 HL.out)
          clear hbc
          obtain ⟨hf0, hf1, he, hsz, _⟩ := id hact
          by_cases hB : B = 0
          · subst hB
            rcases he with rfl | rfl
            · have hs0 := hsz rfl
              by_cases hsh : size > L.length - frm
              · have e : readE L 0 frm size 0 = ([], L, 2) := by unfold readE; rw [if_neg (by simp), if_neg (by simp), if_pos hsh]
                rw [e] at hact hrc hlen
                obtain ⟨rfl, rfl⟩ := hact.none_
                clear hact e hsz
                go_wp2_with (go_at_call 40; refine (RLeft_any _ _ _ _ hrc).mono ?_; rintro e w3 ⟨rfl, rfl⟩)
                go_roundg (20 - (k + 1))
                case measure => omega
                case rel => exact ⟨k + 1, L, 2, by omega, by omega, rfl, by go_num, rfl, rfl, hlen.out, hrc, HBC.out⟩
              · obtain ⟨f, rfl⟩ := Int.eq_ofNat_of_zero_le hf0
                obtain ⟨m, rfl⟩ := Int.eq_ofNat_of_zero_le hs0
                have e : readE L 0 (f : Int) (m : Int) 0 = ((L.take (f + m)).drop f, L.drop (f + m), 0) := by
                  unfold readE
                  rw [if_neg (by simp), if_neg (by simp), if_neg hsh, show ((f : Int) + (m : Int)).toNat = f + m from by omega, Int.toNat_natCast]
                rw [e] at hact hrc hlen
                have hfm : f + m ≤ L.length := by omega
                clear e
                obtain ⟨_, _, _, _, hact⟩ := hact
                rcases hact with ⟨hx, rfl, rfl, hfz, hm8⟩ | ⟨hx, rfl, rfl⟩
                · have hfz' : f = 0 := by omega
                  subst hfz'
                  have hm8 := hm8 rfl
                  have x1 := extract_mk L 0 m
                  have x2 := extract_mk L m L.length
                  rw [List.drop_zero] at x1 hrc
                  rw [List.take_length] at x2
                  rw [Nat.zero_add] at hrc hlen hfm
                  have hgl : (L.take m).length ≤ 8 := by rw [List.length_take]; omega
                  clear hsz
                  go_wp2_with (first
                    | (go_at_call 39; refine (Get_any _ _ hgl).mono ?_; rintro e w3 ⟨rfl, rfl⟩)
                    | (go_at_call 40; refine (RLeft_any _ _ _ _ hrc).mono ?_; rintro e w3 ⟨rfl, rfl⟩))
                  go_roundg (20 - (k + 1))
                  case measure => omega
                  case rel => exact ⟨k + 1, L.drop m, 0, by omega, by omega, rfl, by go_num, rfl, rfl, hlen.out, hrc, HBC.out⟩
                · have x1 := extract_mk L f (f + m)
                  have x2 := extract_mk L (f + m) L.length
                  rw [List.take_length] at x2
                  clear hsz
                  go_wp2_with (go_at_call 40; refine (RLeft_any _ _ _ _ hrc).mono ?_; rintro e w3 ⟨rfl, rfl⟩)
                  go_roundg (20 - (k + 1))
                  case measure => omega
                  case rel => exact ⟨k + 1, L.drop (f + m), 0, by omega, by omega, rfl, by go_num, rfl, rfl, hlen.out, hrc, HBC.out⟩
            · rw [readE_4] at hact hrc hlen
              obtain ⟨rfl, rfl⟩ := hact.none_
              clear hact hsz
              go_wp2_with (go_at_call 40; refine (RLeft_any _ _ _ _ hrc).mono ?_; rintro e w3 ⟨rfl, rfl⟩)
              go_roundg (20 - (k + 1))
              case measure => omega
              case rel => exact ⟨k + 1, L, 4, by omega, by omega, rfl, by go_num, rfl, rfl, hlen.out, hrc, HBC.out⟩
          · rw [readE_bad _ _ _ _ _ hB] at hact hrc hlen
            obtain ⟨rfl, rfl⟩ := hact.none_
            have hB' : (B == 0) = false := by simp [hB]
            clear hact hsz hB
            go_wp2_with (go_at_call 40; refine (RLeft_any _ _ _ _ hrc).mono ?_; rintro e w3 ⟨rfl, rfl⟩)
            go_roundg (20 - (k + 1))
            case measure => omega
            case rel => exact ⟨k + 1, L, B, by omega, by omega, rfl, by go_num, rfl, rfl, hlen.out, hrc, HBC.out⟩
      · have HL := Lib.hid hL
        have HB := Lib.hid hb
        clear hL hb
        have hd : ¬ (k < zs.length) ∨ k < zs.length ∧ ¬ k < 20 := by omega
        rcases hd with hd | ⟨hd, hd'⟩
        all_goals
          have he : (B = 0 ∧ L = []) ∨ (∃ c l, B = 0 ∧ L = c :: l) ∨ ((B == 0) = false ∧ B ≠ 0) := by
            by_cases hB : B = 0
            · cases L with
              | nil => exact .inl ⟨hB, rfl⟩
              | cons c l => exact .inr (.inl ⟨c, l, hB, rfl⟩)
            · exact .inr (.inr ⟨by simp [hB], hB⟩)
          rcases he with ⟨rfl, rfl⟩ | ⟨c0, l0, rfl, rfl⟩ | ⟨hB, hB'⟩
          all_goals
            go_wp2_with fail
            refine (REnd_any _ _ _ _ hr).mono ?_; rintro e w3 ⟨rfl, rfl⟩
          · rw [show endL [] 0 = 0 from rfl]
            go_wp2_with fail
            refine (RNum_nil _ _).mono ?_; rintro e w3 ⟨rfl, rfl⟩
            go_wp2_with fail
            refine (RText_nil _).mono ?_; rintro e w3 ⟨rfl, rfl⟩
            go_wp2_with fail
            refine (RRaw_nil _ _).mono ?_; rintro e w3 ⟨rfl, rfl⟩
            go_wp2_with fail
            refine (RLeft_nil _).mono ?_; rintro e w3 ⟨rfl, rfl⟩
            go_wp2_with fail
            refine (REnd_nil _).mono ?_; rintro e w3 ⟨rfl, rfl⟩
            go_wp2_with fail
            go_ret
            exact ⟨rfl, HB.out⟩
          · rw [show endL (c0 :: l0) 0 = 3 from rfl]
            go_wp2_with fail
            refine (RNum_nil _ _).mono ?_; rintro e w3 ⟨rfl, rfl⟩
            go_wp2_with fail
            refine (RText_nil _).mono ?_; rintro e w3 ⟨rfl, rfl⟩
            go_wp2_with fail
            refine (RRaw_nil _ _).mono ?_; rintro e w3 ⟨rfl, rfl⟩
            go_wp2_with fail
            refine (RLeft_nil _).mono ?_; rintro e w3 ⟨rfl, rfl⟩
            go_wp2_with fail
            refine (REnd_nil _).mono ?_; rintro e w3 ⟨rfl, rfl⟩
            go_wp2_with fail
            go_ret
            exact ⟨rfl, HB.out⟩
          · rw [show endL L B = B from by unfold endL; rw [if_pos hB']]
            clear hB'
            go_wp2_with fail
            refine (RNum_nil _ _).mono ?_; rintro e w3 ⟨rfl, rfl⟩
            go_wp2_with fail
            refine (RText_nil _).mono ?_; rintro e w3 ⟨rfl, rfl⟩
            go_wp2_with fail
            refine (RRaw_nil _ _).mono ?_; rintro e w3 ⟨rfl, rfl⟩
            go_wp2_with fail
            refine (RLeft_nil _).mono ?_; rintro e w3 ⟨rfl, rfl⟩
            go_wp2_with fail
            refine (REnd_nil _).mono ?_; rintro e w3 ⟨rfl, rfl⟩
            go_wp2_with fail
            go_ret
            exact ⟨rfl, HB.out⟩
end Oct
end Go.Proofs.Yteafhmcpppeelaa
