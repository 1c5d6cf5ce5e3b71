/- The contracts of layer 5 (view), on: First. -/
import Derived.Test.YtidhblpcaccchaaView2
namespace Go.Proofs.Ytidhblpcaccchaa
open Go.RowKit
namespace View

def mems (n : Nat) : List Mem := (List.range n).map fun i => ⟨i + 1, 1, true⟩
def lives (n : Nat) : Nat → Nat := fun i => if i < n then 1 else 0
def firstV (n : Nat) : VS := ⟨1, mems n, lives n⟩
theorem mems_succ (n : Nat) : mems (n + 1) = mems n ++ [⟨n + 1, 1, true⟩] := by simp [mems, List.range_succ]
theorem mems_len (n : Nat) : (mems n).length = n := by simp [mems]
theorem lives_succ (n : Nat) : upd (lives n) n 1 = lives (n + 1) := by
  funext i; unfold upd lives
  by_cases h : i = n
  · simp [h]
  · simp only [if_neg h]
    by_cases h2 : i < n
    · rw [if_pos h2, if_pos (by omega)]
    · rw [if_neg h2, if_neg (by omega)]
abbrev VW (e : Int) (v : Value) (L : Nat → Nat) : Array Value := #[.int .u32 e, v, .int .u8 (L 0), .int .u8 (L 1), .int .u8 (L 2), .int .u8 (L 3), .int .u8 (L 4), .int .u8 (L 5), .int .u8 (L 6), .int .u8 (L 7)]
theorem vw_get (e : Int) (v : Value) (L : Nat → Nat) {k : Nat} (hk : k < 8) : (VW e v L)[2 + k]? = some (.int .u8 (L k)) := by
  match k, hk with
  | 0, _ => rfl
  | 1, _ => rfl
  | 2, _ => rfl
  | 3, _ => rfl
  | 4, _ => rfl
  | 5, _ => rfl
  | 6, _ => rfl
  | 7, _ => rfl
theorem vw_set (e : Int) (v : Value) (L : Nat → Nat) {k : Nat} (hk : k < 8) (x : Nat) : (VW e v L).setIfInBounds (2 + k) (.int .u8 x) = VW e v (upd L k x) := by
  match k, hk with
  | 0, _ => rfl
  | 1, _ => rfl
  | 2, _ => rfl
  | 3, _ => rfl
  | 4, _ => rfl
  | 5, _ => rfl
  | 6, _ => rfl
  | 7, _ => rfl
theorem vw_set1 (e : Int) (v v' : Value) (L : Nat → Nat) : (VW e v L).setIfInBounds 1 v' = VW e v' L := by simp

set_option maxHeartbeats 1000000 in
theorem First_bad (n : Int) (w : World) (h : n < 1 ∨ 8 < n) :
    Calls Try.prog 15 #[.int .i64 n] w fun e w' => e = .returned (.tuple #[VV 0 none 0 0 (fun _ => 0), .int .i64 1]) ∧ Below w.heap.size w w' := by
  rcases h with h | h
  · go_enter Try.func15, Try.ntmps15
    go_wp2_with fail
    exact bodyPost_ret (v := .tuple #[VV 0 none 0 0 (fun _ => 0), .int .i64 1]) (by simp [results, Try.results15, go_sem]) rfl ⟨rfl, bl_alloc (Below.refl _ _) _⟩
  · have h' : ¬ n < 1 := by omega
    go_enter Try.func15, Try.ntmps15
    go_wp2_with fail
    exact bodyPost_ret (v := .tuple #[VV 0 none 0 0 (fun _ => 0), .int .i64 1]) (by simp [results, Try.results15, go_sem]) rfl ⟨rfl, bl_alloc (Below.refl _ _) _⟩

set_option maxRecDepth 100000 in
set_option maxHeartbeats 2000000 in
theorem First_ok (n : Nat) (w : World) (h1 : 1 ≤ n) (h8 : n ≤ 8) :
    Calls Try.prog 15 #[.int .i64 n] w fun e w' => (∃ x, e = .returned (.tuple #[x, .int .i64 0]) ∧ ViewV w' (firstV n) x) ∧ Below w.heap.size w w' := by
  obtain ⟨i0, hi, hz0, hz1, hz2⟩ := info_parts infoMem
  go_enter Try.func15, Try.ntmps15
  go_upto_region 4 with (fail)
  have B0 := bl_alloc (bl_alloc (Below.refl w.heap.size w) (.cells (VW 0 (.slice none 0 0) (fun _ => 0)) 28)) (.cells (VW 1 (.slice none 0 0) (fun _ => 0)) 28)
  have G0 := Blk.new1 w (.cells (VW 0 (.slice none 0 0) (fun _ => 0)) 28) 28 (VW 1 (.slice none 0 0) (fun _ => 0))
  have R0 := (Blk.new w 28 (VW 0 (.slice none 0 0) (fun _ => 0))).alloc (.cells (VW 1 (.slice none 0 0) (fun _ => 0)) 28)
  have t1 : decide ((n : Int) < 1) = false := by simp; omega
  have t2 : decide ((8 : Int) < (n : Int)) = false := by simp; omega
  have hL0 : lives 0 = fun _ => 0 := by funext i; simp [lives]
  have HB0 := Lib.hid B0
  have HG0 := Lib.hid G0
  have HR0 := Lib.hid R0
  have HL0 := Lib.hid hL0
  clear B0 G0 R0 hL0
  go_wp2_with fail
  go_loopg [15] n (fun gk s15 wr => ∃ (k : Nat) (v : Value), k ≤ n ∧ gk = n - k ∧ s15 = .int .i64 k ∧ Blk wr (w.heap.size + 1) 28 (VW 1 v (lives k)) ∧ wr.ownsRow w.heap.size 38 3 v k ((mems k).flatMap Mem.cells) ∧
    Blk wr w.heap.size 28 (VW 0 (.slice none 0 0) (fun _ => 0)) ∧ w.heap.size ≤ wr.heap.size ∧ Below w.heap.size w wr)
  case atStart => exact ⟨0, .slice none 0 0, by omega, rfl, rfl, by rw [HL0.out]; exact HG0.out, World.ownsRow_nil _ _ _ _, HR0.out, HB0.out.size, HB0.out⟩
  case round =>
    obtain ⟨k, v, hk, rfl, rfl, hg, ho, hr, hz, hb⟩ := hrel
    have HG := Lib.hid hg
    have HO := Lib.hid ho
    have HR := Lib.hid hr
    have HB := Lib.hid hb
    clear hg ho hr hb HB0 HG0 HR0
    have lg := HG.out.lt
    by_cases hlt : k < n
    · have hk8 : k < 8 := by omega
      have g1 := HG.out.cell 1
      simp at g1
      have e8 : ((k : Int) + 1) % 256 = (k : Int) + 1 := by omega
      go_upto_region 8 with (at_builtin; refine wpList_append_lies _ rfl (.tmp 19) (.tmp 24) _ rfl w.heap.size 38 i0 _ 3 3 Try.underlying25 hi hz0 hz1 hz2 rfl (by omega) v k ((mems k).flatMap Mem.cells) rfl (HO.out.alloc _) ⟨wr.heap.size, 0, none⟩ 1 1 [.int .u8 ((k : Int) + 1), .int .u8 1, .bool true] rfl rfl (World.news_of_block (cs := #[.int .u8 ((k : Int) + 1), .int .u8 1, .bool true]) (t := 38) (fr := (0, 0)) (Blk.new wr _ _)) (by simp [Value.oneCell']) (by omega) (by unfold maxLen; omega) (by omega) (by simp; omega) _ rfl ?_; intro g2 c2 w1 hown1 hg1 _ _; have HO1 := Lib.hid hown1; have HG1 := Lib.hid (Blk.grownFar hg1 (HG.out.alloc _) (HO.out.alloc _) (by decide)); have HR1 := Lib.hid (Blk.grownFar hg1 (HR.out.alloc _) (HO.out.alloc _) (by decide)); have HB1 := Lib.hid (below_grown (B := w.heap.size) (bl_alloc HB.out _) (by simp; omega) hg1 (fun q hq => (HO.out.lt q hq).1) (by simp; omega)); obtain ⟨p0, p1, p2, p3, p4, p5, p6, p7, p8, p9⟩ := HG1.out.ten; have pf := HG1.out.frozen; clear hown1 hg1)
      have hf := own_far HO1.out HG1.out (by decide)
      have HO2 := Lib.hid (own_setCell HO1.out hf 1 (.slice (some ⟨g2, 0, none⟩) (k + 1) c2))
      have hg2 := HG1.out.set_ 1 (.slice (some ⟨g2, 0, none⟩) (k + 1) c2)
      rw [vw_set1] at hg2
      have HG2 := Lib.hid hg2
      have HR2 := Lib.hid (HR1.out.far (p := ⟨w.heap.size + 1, 1, none⟩) (show w.heap.size ≠ w.heap.size + 1 by omega) (.slice (some ⟨g2, 0, none⟩) (k + 1) c2))
      have HB2 := Lib.hid (below_set HB1.out 1 (show w.heap.size ≤ w.heap.size + 1 by omega) (.slice (some ⟨g2, 0, none⟩) (k + 1) c2))
      have hz2 : w.heap.size ≤ (w1.setCell ⟨w.heap.size + 1, 1, none⟩ (.slice (some ⟨g2, 0, none⟩) (k + 1) c2)).heap.size := HB2.out.size
      clear hf hg2 p0 p1 p2 p3 p4 p5 p6 p7 p8 p9 pf g1
      generalize w1.setCell ⟨w.heap.size + 1, 1, none⟩ (.slice (some ⟨g2, 0, none⟩) (k + 1) c2) = w2 at *
      have pk := (HG2.out.cell (2 + k)).trans (vw_get _ _ _ hk8)
      have pf := HG2.out.frozen (2 + k)
      have hkk : (0 : Int) ≤ (k : Int) := by omega
      have hk8i : (k : Int) < 8 := by omega
      have hf2 := own_far HO2.out HG2.out (by decide)
      have HO3 := Lib.hid (own_setCell HO2.out hf2 (2 + k) (.int .u8 1))
      have hg3 := HG2.out.set_ (2 + k) (.int .u8 (1 : Nat))
      rw [vw_set _ _ _ hk8, lives_succ] at hg3
      have HG3 := Lib.hid hg3
      have HR3 := Lib.hid (HR2.out.far (p := ⟨w.heap.size + 1, 2 + k, none⟩) (show w.heap.size ≠ w.heap.size + 1 by omega) (.int .u8 1))
      have HB3 := Lib.hid (below_set HB2.out (2 + k) (show w.heap.size ≤ w.heap.size + 1 by omega) (.int .u8 1))
      clear hf2 hg3
      go_wp2_with fail
      go_roundg (n - (k + 1))
      case measure => omega
      case rel => exact ⟨k + 1, .slice (some ⟨g2, 0, none⟩) (k + 1) c2, by omega, rfl, by go_num, HG3.out, by rw [mems_succ, List.flatMap_append]; simpa [Mem.cells] using HO3.out, HR3.out, HB3.out.size, HB3.out⟩
    · obtain rfl : k = n := by omega
      obtain ⟨A, c, hv, hcl, hrow⟩ := rows_of_own (f := Mem.cells) (l := mems k) Mem.cells_len (by decide) HO.out
      rw [mems_len] at hv hcl
      subst hv
      have hm : c ≤ 9223372036854775807 := by
        rcases HO.out.2 with ⟨h, _⟩ | ⟨g', cap, cur, h, _, _, _, hm, _⟩
        · injection h with _ _ h3; omega
        · injection h with _ _ h3; subst h3; exact hm
      have hcl' : (firstV k).ms.length ≤ c := by show (mems k).length ≤ c; rw [mems_len]; exact hcl
      have hAg : ∀ b off, A = some ⟨b, off, none⟩ → b ≠ w.heap.size := fun b off h e => by
        subst h
        exact own_far HO.out HR.out (by decide) (by rw [← e]; rfl)
      have HAG := Lib.hid hAg
      have HROW := Lib.hid hrow
      have HCL := Lib.hid hcl'
      obtain ⟨p0, p1, p2, p3, p4, p5, p6, p7, p8, p9⟩ := HG.out.ten
      obtain ⟨z0, z1, z2, z3, z4, z5, z6, z7, z8, z9⟩ := HR.out.ten
      have zf := HR.out.frozen
      clear hAg hrow hcl hcl'
      go_wp2_with fail
      refine bodyPost_ret (v := .tuple #[VV 1 A k c (lives k), .int .i64 0]) ?_ rfl ?_
      · simp [results, Try.results15, go_sem, z0, z1, z2, z3, z4, z5, z6, z7, z8, z9]
      · refine ⟨⟨_, rfl, A, c, by rw [show (firstV k).ms.length = k from mems_len k]; rfl, HCL.out, hm, ?_⟩, below_set10 HB.out (Nat.le_refl _) _ _ _ _ _ _ _ _ _ _⟩
        intro hne
        obtain ⟨b, off, rfl, hb, hc⟩ := HROW.out hne
        exact rows_set10 HROW.out hb (HAG.out b off rfl) _ _ _ _ _ _ _ _ _ _ hne
end View
end Go.Proofs.Ytidhblpcaccchaa
