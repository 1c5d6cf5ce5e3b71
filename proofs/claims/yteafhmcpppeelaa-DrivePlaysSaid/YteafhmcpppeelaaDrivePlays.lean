/- DrivePlays: the walk of the law's function. -/
import Derived.Test.YteafhmcpppeelaaDrive
import Derived.Deep.CutBlock
import Derived.Laws.CopyOwn
namespace Go.Proofs.Yteafhmcpppeelaa
open Go.RowKit
namespace Drive

theorem word_any (n : Nat) (w : World) : Calls Try.prog 11 #[.int .u32 n] w fun e w' => e = .returned (.agg #[.int .u32 n, .int .u8 2, .int .u8 1, .bool false, .string ⟨#[]⟩, .bool (bits BinOp.and .u32 n 1 == 1)]) ∧ Below w.heap.size w w' := by
  go_enter Try.func11, Try.ntmps11
  go_wp2
  exact bodyPost_ret (v := .agg #[.int .u32 n, .int .u8 2, .int .u8 1, .bool false, .string ⟨#[]⟩, .bool (bits BinOp.and .u32 n 1 == 1)]) (by simp [results, Try.results11, go_sem]) rfl ⟨rfl, (Below.refl _ _).alloc (Nat.le_refl _) _⟩

set_option maxRecDepth 100000 in
set_option maxHeartbeats 4000000 in
theorem speaks (w : World) : Calls Try.prog 9 #[] w fun e w' => e = .returned (.bool true) ∧ Below w.heap.size w w' := by
  go_enter Try.func9, Try.ntmps9
  go_wp2_with fail
  refine (word_any 3 _).mono ?_; rintro e w1 ⟨rfl, b1⟩
  go_wp2_with fail
  refine (New_any _ _ _ _ _ _ _ _).mono ?_; rintro e w2 ⟨rfl, d2, b2, z2⟩
  go_wp2_with fail
  refine (Ack_any 2 false d2).mono ?_; rintro e w3 ⟨rfl, d3, f3⟩
  have hA : ∀ u : World, RowsAt (u.alloc (.cells #[.int .u8 2, .int .u8 3] 5)) (u.alloc (.cells #[.int .u8 2, .int .u8 3] 5)).heap.size 1 (some ⟨u.heap.size, 0, none⟩) ([2, 3].map fun x : Nat => [.int .u8 (x : Int)]) := fun u => by
    have := RowsAt.new u 1 5 #[.int .u8 2, .int .u8 3] ([2, 3].map fun x : Nat => [.int .u8 (x : Int)]) (by
      intro k row hk j v hj
      match k, hk with
      | 0, hk => simp at hk; subst hk; match j, hj with | 0, hj => simpa using hj
      | 1, hk => simp at hk; subst hk; match j, hj with | 0, hj => simpa using hj)
    simpa using this
  have HA := Lib.hid hA
  clear hA
  go_wp2_with fail
  have d3' := d3.keep (w' := w3.alloc (.cells #[.int .u8 2, .int .u8 3] 5)) (Below.heap_alloc _ _ _ d3.2.1.lt) (Below.heap_alloc _ _ _ d3.2.2.lt)
  refine (Done_any (some ⟨w3.heap.size, 0, none⟩) 2 [2, 3] d3' (HA.out w3) (by decide)).mono ?_; rintro e w4 ⟨rfl, n4, rfl⟩
  go_wp2_with fail
  refine (Ack_any 3 true (d3'.keep (w' := (w3.alloc (.cells #[.int .u8 2, .int .u8 3] 5)).drewN n4) rfl rfl)).mono ?_; rintro e w5 ⟨rfl, d5, f5⟩
  go_wp2_with fail
  have d5' := d5.keep (w' := w5.alloc (.cells #[.int .u8 2, .int .u8 3] 5)) (Below.heap_alloc _ _ _ d5.2.1.lt) (Below.heap_alloc _ _ _ d5.2.2.lt)
  refine (Done_any (some ⟨w5.heap.size, 0, none⟩) 2 [2, 3] d5' (HA.out w5) (by decide)).mono ?_; rintro e w6 ⟨rfl, n6, rfl⟩
  have d6 := d5'.keep (w' := (w5.alloc (.cells #[.int .u8 2, .int .u8 3] 5)).drewN n6) rfl rfl
  clear d3 d3' d5 d5' d2
  go_wp2_with fail
  refine (Own_any d6).mono ?_; rintro e w7 ⟨rfl, rfl⟩
  go_wp2_with fail
  refine (Word_any d6).mono ?_; rintro e w7 ⟨rfl, b7⟩
  have d7 := d6.keep (w' := w7) (b7.block _ d6.2.1.lt) (b7.block _ d6.2.2.lt)
  go_wp2_with fail
  refine (word_any 3 _).mono ?_; rintro e w8 ⟨rfl, b8⟩
  have d8 := d7.keep (w' := w8) (b8.block _ d7.2.1.lt) (b8.block _ d7.2.2.lt)
  clear d6 d7
  go_wp2_with fail
  refine (Tick_any 2 d8 (by decide) (by decide)).mono ?_; rintro e w9 ⟨rfl, d9, f9⟩
  go_wp2_with fail
  refine (Tick_any 2 d9 (by decide) (by decide)).mono ?_; rintro e w10 ⟨rfl, d10, f10⟩
  go_wp2_with fail
  go_ret
  refine ⟨rfl, ?_⟩
  have h1 := b1.size
  have B2 := bl_next b1 b2
  have B3 := bl_alloc (bl_fr B2 f3 (by omega)) (.cells #[.int .u8 2, .int .u8 3] 5)
  have B5 := bl_alloc (bl_fr (below_drewN B3 n4) f5 (by omega)) (.cells #[.int .u8 2, .int .u8 3] 5)
  have B8 := bl_next (bl_next (below_drewN B5 n6) b7) b8
  exact bl_fr (bl_fr B8 f9 (by omega)) f10 (by omega)

/-- the law's own array: who has acked -/
def arr (acked : Nat → Bool) : Array Value := ((List.range 256).map fun z => Value.bool (acked z)).toArray
theorem zeroArr (w : World) : (zeroValue 36).run Try.prog w = .ok (.agg (arr fun _ => false)) w := by kernel_rfl

/-- an act, as it lies in memory -/
structure Act where
  what : Nat
  node : Nat
  cov : Bool
  every : Int
  A : Option Addr
  c : Nat
  others : List Nat
def Act.cells (x : Act) : List Value := [.int .u8 x.what, .int .u8 x.node, .bool x.cov, .int .i64 x.every, .slice x.A x.others.length x.c]

theorem arr_size (f : Nat → Bool) : (arr f).size = 256 := by simp [arr]
theorem arr_get (f : Nat → Bool) (y : Nat) (h : y < 256) : (arr f)[y]? = some (.bool (f y)) := by simp [arr, h]
theorem arr_set (f : Nat → Bool) (y : Nat) : (arr f).setIfInBounds y (.bool true) = arr (fun k => k == y || f k) := by
  apply Array.ext
  · simp [arr_size]
  · intro i h1 h2
    have hi : i < 256 := by simpa [arr_size] using h2
    rw [Array.getElem_setIfInBounds (by simpa [arr_size] using hi)]
    by_cases hy : y = i
    · subst hy; simp [arr]
    · have : (i == y) = false := by simp; omega
      simp [arr, hy, this]
theorem builtArr : (Try.prog.built 36 []).getD #[] = arr fun _ => false := by kernel_rfl
theorem infoArr : (Try.prog.info? 36).map (·.size) = some 256 := by kernel_rfl
theorem arr_one (f : Nat → Bool) : (arr f).all (·.oneCell') = true := by
  rw [Array.all_eq_true]
  intro i hi
  simp [arr, Value.oneCell']
def Cut (w : World) (g ga : Nat) (n : Nat) (own : Bool) (k : Nat) (s9 s10 : Value) (wr : World) : Prop :=
  ∃ (acked : Nat → Bool) (covered : Bool) (ticks : Int) (r : Nat), s9 = .bool covered ∧ s10 = .int .i64 ticks ∧ 0 ≤ ticks ∧ ticks ≤ k + 1 ∧
    Drv wr g r (.int .u32 n) (.int .u8 2) (.int .u8 1) (.bool false) (.string ⟨#[]⟩) (.bool (bits BinOp.and .u32 n 1 == 1)) own acked covered ticks ∧ Blk wr ga 36 (arr acked) ∧ r ≠ ga ∧ w.heap.size ≤ r ∧ Below w.heap.size w wr
theorem Cut.mk_ {w wr : World} {g ga n k : Nat} {own : Bool} {acked : Nat → Bool} {covered : Bool} {ticks : Int} {r : Nat} (h0 : 0 ≤ ticks) (h1 : ticks ≤ k + 1)
    (hd : Drv wr g r (.int .u32 n) (.int .u8 2) (.int .u8 1) (.bool false) (.string ⟨#[]⟩) (.bool (bits BinOp.and .u32 n 1 == 1)) own acked covered ticks) (ha : Blk wr ga 36 (arr acked)) (hr : r ≠ ga) (hB : w.heap.size ≤ r) (hb : Below w.heap.size w wr) :
    Cut w g ga n own k (.bool covered) (.int .i64 ticks) wr := ⟨acked, covered, ticks, r, rfl, rfl, h0, h1, hd, ha, hr, hB, hb⟩

def Inv (w : World) (g ga : Nat) (n : Nat) (own : Bool) (len : Nat) (gk : Nat) (s9 s10 s11 : Value) (wr : World) : Prop :=
  ∃ (k : Nat) (acked : Nat → Bool) (covered : Bool) (ticks : Int) (r : Nat), k ≤ 60 ∧ k ≤ len ∧ gk = 60 - k ∧ s11 = .int .i64 k ∧ s9 = .bool covered ∧ s10 = .int .i64 ticks ∧ 0 ≤ ticks ∧ ticks ≤ k ∧
    Drv wr g r (.int .u32 n) (.int .u8 2) (.int .u8 1) (.bool false) (.string ⟨#[]⟩) (.bool (bits BinOp.and .u32 n 1 == 1)) own acked covered ticks ∧ Blk wr ga 36 (arr acked) ∧ r ≠ ga ∧ w.heap.size ≤ r ∧ Below w.heap.size w wr
set_option maxRecDepth 100000 in
set_option maxHeartbeats 4000000 in
theorem DrivePlays_walk (n : Nat) (own : Bool) (A : Option Addr) (c : Nat) (l : List Act) (w : World) (hA : RowsAt w w.heap.size 5 A (l.map Act.cells)) (hO : ∀ x ∈ l, RowsAt w w.heap.size 1 x.A (x.others.map fun y : Nat => [.int .u8 (y : Int)]))
    (hb : ∀ x ∈ l, x.what < 256 ∧ x.node < 256 ∧ (∀ y ∈ x.others, y < 256) ∧ x.others.length ≤ 9223372036854775807 ∧ x.others.length ≤ x.c) (hl : l.length ≤ 9223372036854775807) :
    Calls Try.prog 3 #[.int .u32 n, .bool own, .slice A l.length c] w fun e w' => e = .returned (.bool true) ∧ Below w.heap.size w w' := by
  have HA := Lib.hid hA
  have HO := Lib.hid hO
  have HB := Lib.hid hb
  clear hA hO hb
  have hzero := zeroArr
  go_enter Try.func3, Try.ntmps3
  go_wp2_with fail
  refine (speaks _).mono ?_; rintro e w1 ⟨rfl, b1⟩
  go_wp2_with fail
  refine (word_any _ _).mono ?_; rintro e w2 ⟨rfl, b2⟩
  go_wp2_with fail
  refine (New_any _ _ _ _ _ _ _ _).mono ?_; rintro e w3 ⟨rfl, d3, b3, z3⟩
  have B2 := bl_next b1 b2
  have B3 := bl_next B2 b3
  have hs2 := B2.size
  obtain ⟨g, hg⟩ : ∃ g, g = w2.heap.size + 2 := ⟨_, rfl⟩
  rw [← hg] at d3 ⊢
  have hgB : w.heap.size ≤ g := by omega
  have hgl := d3.2.1.lt
  have hrl := d3.2.2.lt
  clear hg
  go_wp2_with fail
  clear hzero
  have hba : Blk (w3.alloc (.cells (arr fun _ => false) 36)) (w2.heap.size + 3) 36 (arr fun _ => false) := Blk.new_ z3.symm
  have d4 := d3.keep (w' := w3.alloc (.cells (arr fun _ => false) 36)) (Below.heap_alloc _ _ _ hgl) (Below.heap_alloc _ _ _ hrl)
  have B4 := bl_alloc B3 (.cells (arr fun _ => false) 36)
  obtain ⟨ga, hga⟩ : ∃ ga, ga = w2.heap.size + 3 := ⟨_, rfl⟩
  rw [← hga] at hba ⊢
  have hgaB : w.heap.size ≤ ga := by omega
  have hgga : g ≠ ga := by omega
  have hrga : w2.heap.size + 1 ≠ ga := by omega
  generalize w3.alloc (.cells (arr fun _ => false) 36) = w4 at *
  clear hga z3 d3 b3 B3 b2 B2 b1 hgl hrl
  go_loopg [9, 10, 11] 60 (fun gk s9 s10 s11 wr => Inv w g ga n own l.length gk s9 s10 s11 wr)
  case atStart => exact ⟨0, _, false, 0, _, by omega, by omega, rfl, rfl, rfl, rfl, by omega, by omega, d4, hba, hrga, by omega, B4⟩
  case round =>
    obtain ⟨k, acked, covered, ticks, r, hk, hkl, rfl, rfl, rfl, rfl, ht0, htk, hd, hba, hrga, hrB, hB⟩ := hrel
    by_cases hlt : k < l.length ∧ k < 60
    · obtain ⟨hlt1, hlt2⟩ := hlt
      obtain ⟨bA, oA, rfl, hbA, hcA⟩ := HA.out (by intro h; rw [List.map_eq_nil_iff] at h; subst h; simp at hlt1)
      have hcA := hcA k l[k].cells (by simp [hlt1])
      have cell : ∀ j u, (l[k].cells)[j]? = some u → wr.cell? ⟨bA, oA + k * 5 + j, none⟩ = some u := fun j u hu => (hB.cell hbA).trans (hcA j u hu)
      have xO := HO.out l[k] (by simp)
      obtain ⟨xb1, xb2, xb3, xb4, xb5⟩ := HB.out l[k] (by simp)
      generalize l[k] = x at *
      obtain ⟨what, node, cov, every, AO, cO, others⟩ := x
      simp only [Act.cells] at cell
      have x0 : wr.cell? ⟨bA, oA + k * 5, none⟩ = some (.int .u8 what) := cell 0 _ rfl
      have x1 := cell 1 _ rfl
      have x2 := cell 2 _ rfl
      have x3 := cell 3 _ rfl
      have x4 := cell 4 _ rfl
      have XO := Lib.hid xO
      have HD := Lib.hid hd
      have HBA := Lib.hid hba
      have HBB := Lib.hid hB
      have xb1' : what < 256 := xb1
      have xb2' : node < 256 := xb2
      have XB3 := Lib.hid xb3
      have xb4' : others.length ≤ 9223372036854775807 := xb4
      have xb5' : others.length ≤ cO := xb5
      clear cell hcA xO hd hba hB xb1 xb2 xb3 xb4 xb5
      go_upto_block 2 with (fail)
      go_cut [9, 10] (fun s9 s10 wc => Cut w g ga n own k s9 s10 wc)
      case first =>
        have hw6 : what % 6 = 3 ∨ what % 6 = 4 ∨ what % 6 = 5 ∨ (what % 6 ≠ 3 ∧ what % 6 ≠ 4 ∧ what % 6 ≠ 5) := by omega
        have d5 := HD.out.keep (w' := wr.alloc (.cells #[.int .u8 what, .int .u8 node, .bool cov, .int .i64 every, .slice AO others.length cO] 39)) (Below.heap_alloc _ _ _ HD.out.2.1.lt) (Below.heap_alloc _ _ _ HD.out.2.2.lt)
        have ba5 := HBA.out.alloc (.cells #[.int .u8 what, .int .u8 node, .bool cov, .int .i64 every, .slice AO others.length cO] 39)
        have B5 := bl_alloc HBB.out (.cells #[.int .u8 what, .int .u8 node, .bool cov, .int .i64 every, .slice AO others.length cO] 39)
        have bx := Blk.new wr 39 #[.int .u8 what, .int .u8 node, .bool cov, .int .i64 every, .slice AO others.length cO]
        have D5 := Lib.hid d5
        have BA5 := Lib.hid ba5
        have BB5 := Lib.hid B5
        have BX := Lib.hid bx
        clear d5 ba5 B5 bx
        rcases hw6 with hw | hw | hw | ⟨hw1, hw2, hw3⟩
        · have t3 : ((what : Int) % 6 == 3) = true := by simp; omega
          clear hw
          go_wp2_with fail
          refine (Again_any D5.out).mono ?_; rintro e w5 ⟨rfl, r', hr1, hr2, d6, f6⟩
          have ba6 := f6.blk BA5.out (fun h => hgga h.symm)
          have D6 := Lib.hid d6
          have BA6 := Lib.hid ba6
          have BB6 := Lib.hid (bl_fr BB5.out f6 (by omega))
          clear d6 ba6
          go_upto_region 15 with (fail)
          apply wp_region_lit
          refine wpList_build rfl 36 #[] rfl (by kernel_rfl) ?_
          rw [show ∀ f : Nat × Operand → Nat × Value, (Try.prog.built 36 ((#[] : Array (Nat × Operand)).map f).toList).getD #[] = arr (fun _ => false) from fun f => by simpa using builtArr]
          refine wpList_store_row rfl 36 (.tmp 8) (.tmp 62) rfl ga (arr fun _ => false) rfl rfl 36 (arr acked) BA6.out (by rw [infoArr, arr_size]) (by rw [arr_size, arr_size]) (arr_one _) ?_
          have c6 := BA6.out
          have d7 := D6.out.keep (w' := w5.setRow ga (arr fun _ => false)) (setRow_other _ _ _ _ hgga) (setRow_other _ _ _ _ (by have := BA5.out.lt; omega))
          have ba7 : Blk (w5.setRow ga (arr fun _ => false)) ga 36 (arr fun _ => false) := setRow_heap _ _ _ _ _ _ BA6.out
          have B7 : Below w.heap.size w (w5.setRow ga (arr fun _ => false)) := below_setRow BB6.out hgaB _
          have D7 := Lib.hid (Cut.mk_ (k := k) (by omega) (by omega) d7 ba7 (by have := BA5.out.lt; omega) (by have := BB5.out.size; omega) B7)
          clear c6 d7 ba7 B7
          go_wp2_with fail
          go_meet
          exact D7.out
        · have t3 : ((what : Int) % 6 == 3) = false := by simp; omega
          have t4 : ((what : Int) % 6 == 4) = true := by simp; omega
          have xe := BX.out.cell 3
          simp at xe
          clear hw
          by_cases hev : every ≤ ticks + 1
          · have htk := Tick_any every D5.out (by omega) (by omega)
            rw [if_pos hev, decide_eq_true hev] at htk
            have HT := Lib.hid htk
            clear htk
            go_wp2_with fail
            refine HT.out.mono ?_; rintro e w5 ⟨rfl, d6, f6⟩
            have D7 := Lib.hid (Cut.mk_ (k := k) (by omega) (by omega) d6 (f6.blk BA5.out (fun h => hgga h.symm)) hrga hrB (bl_fr BB5.out f6 (by omega)))
            clear d6
            go_wp2_with fail
            go_meet
            exact D7.out
          · have htk := Tick_any every D5.out (by omega) (by omega)
            rw [if_neg hev, decide_eq_false hev] at htk
            have HT := Lib.hid htk
            clear htk
            go_wp2_with fail
            refine HT.out.mono ?_; rintro e w5 ⟨rfl, d6, f6⟩
            have D7 := Lib.hid (Cut.mk_ (k := k) (by omega) (by omega) d6 (f6.blk BA5.out (fun h => hgga h.symm)) hrga hrB (bl_fr BB5.out f6 (by omega)))
            clear d6
            go_wp2_with fail
            go_meet
            exact D7.out
        · have t3 : ((what : Int) % 6 == 3) = false := by simp; omega
          have t4 : ((what : Int) % 6 == 4) = false := by simp; omega
          have t5 : ((what : Int) % 6 == 5) = true := by simp; omega
          clear hw
          go_wp2_with fail
          generalize wr.alloc (.cells #[.int .u8 what, .int .u8 node, .bool cov, .int .i64 every, .slice AO others.length cO] 39) = W1 at *
          have y4 := BX.out.cell 4
          simp at y4
          go_loopg [14, 15] 9 (fun gj s14 s15 wq => W1 = wq ∧ ∃ j : Nat, j ≤ 9 ∧ j ≤ others.length ∧ gj = 9 - j ∧ s15 = .int .i64 j ∧ s14 = .bool ((others.take j).all acked))
          case atStart => exact ⟨rfl, 0, by omega, by omega, rfl, rfl, rfl⟩
          case round =>
            obtain ⟨rfl, j, hj, hjl, rfl, rfl, rfl⟩ := hrel
            by_cases hlj : j < others.length ∧ j < 9
            · obtain ⟨hlj1, hlj2⟩ := hlj
              obtain ⟨bO, oO, hAO, hbO, hcO⟩ := XO.out.one (k := j) hlj1
              subst hAO
              have z1 := (BB5.out.cell (p := ⟨bO, oO + j, none⟩) hbO).trans hcO
              have hy := XB3.out others[j] (by simp)
              have z2 := BA5.out.cell others[j]
              rw [arr_get _ _ hy] at z2
              have hyi : (others[j] : Int) < 256 := by omega
              have hsn := Lib.hid (show (others.take (j + 1)).all acked = ((others.take j).all acked && acked others[j]) by rw [List.take_succ_eq_append_getElem hlj1, List.all_append]; simp)
              generalize others[j] = y at *
              generalize hal : (others.take j).all acked = al at *
              have HAL := Lib.hid hal
              clear hal hcO
              cases al
              all_goals
                go_wp2_with fail
                go_roundg (9 - (j + 1))
                case measure => omega
                case rel => exact ⟨rfl, j + 1, by omega, by omega, rfl, by go_num, by rw [hsn.out]; simp⟩
            · have hd1 : ¬ (j < others.length) ∨ j < others.length ∧ ¬ j < 9 := by omega
              have XO2 := XO.out.below (w' := W1) ⟨BB5.out.os, BB5.out.tape, BB5.out.output, BB5.out.size, BB5.out.block⟩
              have XO3 := XO2.more BB5.out.size
              rcases hd1 with hd1 | ⟨hd1, hd2⟩
              · obtain rfl : j = others.length := by omega
                have hm : ¬ (9 : Int) < (others.length : Int) := by omega
                simp only [List.take_length]
                have HDN := Lib.hid (Done_any AO cO others D5.out XO3 xb4')
                clear XO2 XO3
                go_wp2_with fail
                refine HDN.out.mono ?_; rintro e w5 ⟨rfl, n5, rfl⟩
                have D7 := Lib.hid (Cut.mk_ (k := k) (wr := W1.drewN n5) (by omega) (by omega) D5.out BA5.out hrga hrB (below_drewN BB5.out n5))
                generalize others.all acked = al at *
                cases al
                all_goals cases covered
                all_goals
                  go_wp2_with fail
                  go_meet
                  exact D7.out
              · obtain rfl : j = 9 := by omega
                have hm : (9 : Int) ≤ (others.length : Int) := by omega
                have hm2 : (9 : Int) ≤ (cO : Int) := by omega
                have hlen9 : (others.take 9).length = 9 := by rw [List.length_take]; omega
                have hdn := Done_any AO cO (others.take 9) D5.out (by rw [List.map_take]; exact XO3.take 9) (by omega)
                rw [hlen9] at hdn
                have HDN := Lib.hid hdn
                clear XO2 XO3 hdn hlen9
                go_wp2_with fail
                refine HDN.out.mono ?_; rintro e w5 ⟨rfl, n5, rfl⟩
                have D7 := Lib.hid (Cut.mk_ (k := k) (wr := W1.drewN n5) (by omega) (by omega) D5.out BA5.out hrga hrB (below_drewN BB5.out n5))
                generalize (others.take 9).all acked = al at *
                cases al
                all_goals cases covered
                all_goals
                  go_wp2_with fail
                  go_meet
                  exact D7.out
        · have t3 : ((what : Int) % 6 == 3) = false := by simp; omega
          have t4 : ((what : Int) % 6 == 4) = false := by simp; omega
          have t5 : ((what : Int) % 6 == 5) = false := by simp; omega
          clear hw1 hw2 hw3
          go_wp2_with fail
          refine (Ack_any node cov D5.out).mono ?_; rintro e w5 ⟨rfl, d6, f6⟩
          have hgx : wr.heap.size ≠ g ∧ wr.heap.size ≠ r := by have := HD.out.2.1.lt; have := HD.out.2.2.lt; omega
          have bx6 := f6.blk BX.out (by omega)
          have ba6 := f6.blk BA5.out (by omega)
          have B6 := bl_fr BB5.out f6 (by omega)
          have y1 := bx6.cell 1
          have y2 := bx6.cell 2
          have y3 := ba6.cell node
          have y4 := ba6.frozen node
          rw [arr_get _ _ xb2'] at y3
          simp at y1 y2
          have hxa : wr.heap.size ≠ ga := by have := HBA.out.lt; omega
          have hxi : (node : Int) < 256 := by omega
          have D6 := Lib.hid d6
          have BA6 := Lib.hid ba6
          have BB6 := Lib.hid B6
          clear d6 ba6 B6 bx6
          cases covered
          all_goals
            go_wp2_with fail
            go_region
            all_goals
              have d7 := D6.out.keep (w' := (w5.setCell ⟨ga, node, none⟩ (.bool true)).drew) (Below.heap_setCell _ _ _ _ hgga) (Below.heap_setCell _ _ _ _ hrga)
              have ba7 : Blk (w5.setCell ⟨ga, node, none⟩ (.bool true)).drew ga 36 (arr fun z => z == node || acked z) := by rw [← arr_set]; exact (BA6.out.set_ node _).drew
              have D7 := Lib.hid (Cut.mk_ (k := k) (by omega) (by omega) d7 ba7 hrga hrB (BB6.out.setCell hgaB _).drew)
              clear d7 ba7
              go_wp2_with fail
              go_meet
              exact D7.out
      case rest =>
        clear XO HD HBA HBB XB3
        obtain ⟨acked2, covered2, ticks2, r2, rfl, rfl, ht0', ht1', hd2, hba2, hrga2, hrB2, hB2⟩ := hcut
        have D2 := Lib.hid hd2
        have BA2 := Lib.hid hba2
        have BB2 := Lib.hid hB2
        clear hd2 hba2 hB2
        go_wp2_with fail
        refine (Own_any D2.out).mono ?_; rintro e w5 ⟨rfl, rfl⟩
        go_wp2_with fail
        refine (Word_any D2.out).mono ?_; rintro e w6 ⟨rfl, b6⟩
        have D3 := Lib.hid (D2.out.keep (w' := w6) (b6.block _ D2.out.2.1.lt) (b6.block _ D2.out.2.2.lt))
        have BA3 := Lib.hid (BA2.out.below b6 BA2.out.lt)
        have BB3 := Lib.hid (bl_next BB2.out b6)
        go_wp2_with fail
        refine (word_any _ _).mono ?_; rintro e w7 ⟨rfl, b7⟩
        have D4 := Lib.hid (D3.out.keep (w' := w7) (b7.block _ D3.out.2.1.lt) (b7.block _ D3.out.2.2.lt))
        have BA4 := Lib.hid (BA3.out.below b7 BA3.out.lt)
        have BB4 := Lib.hid (bl_next BB3.out b7)
        clear D2 D3 BA2 BA3 BB2 BB3
        go_wp2_with fail
        go_roundg (60 - (k + 1))
        case measure => omega
        case rel => exact ⟨k + 1, acked2, covered2, ticks2, r2, by omega, by omega, rfl, by go_num, rfl, rfl, ht0', by omega, D4.out, BA4.out, hrga2, hrB2, BB4.out⟩
    · have hd1 : ¬ (k < l.length) ∨ k < l.length ∧ ¬ k < 60 := by omega
      have BB4 := Lib.hid hB
      clear hd hba hB
      rcases hd1 with hd1 | ⟨hd1, hd2⟩
      all_goals
        go_wp2_with fail
        refine (none_Ack _ _ _).mono ?_; rintro e w5 ⟨rfl, rfl⟩
        go_wp2_with fail
        refine (none_Again _).mono ?_; rintro e w5 ⟨rfl, rfl⟩
        go_wp2_with fail
        refine (none_Done _ _ _ _).mono ?_; rintro e w5 ⟨rfl, rfl⟩
        go_wp2_with fail
        refine (none_Own _).mono ?_; rintro e w5 ⟨rfl, rfl⟩
        go_wp2_with fail
        refine (none_Word _).mono ?_; rintro e w5 ⟨rfl, b5⟩
        go_wp2_with fail
        refine (none_Tick _ _).mono ?_; rintro e w6 ⟨rfl, rfl⟩
        go_wp2_with fail
        go_ret
        exact ⟨rfl, bl_next BB4.out b5⟩
end Drive
end Go.Proofs.Yteafhmcpppeelaa
