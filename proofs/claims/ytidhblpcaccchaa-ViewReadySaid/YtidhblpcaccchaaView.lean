/- The contracts of layer 5 (view). -/
import Derived.Test.YtidhblpcaccchaaProg
import Derived.Test.YtidhblpcaccchaaView0
import Derived.Deep.RegionHeld3
import Derived.Deep.CutBlock
import Derived.Deep.DeepCutAuto
import Derived.Deep.QuietTactic
import Derived.BigQuiet
namespace Go.Proofs.Ytidhblpcaccchaa
open Go.RowKit
namespace View

def ViewV (w : World) (v : VS) (x : Value) : Prop := ∃ A c, x = VV v.e A v.ms.length c v.L ∧ v.ms.length ≤ c ∧ c ≤ 9223372036854775807 ∧ RowsAt w w.heap.size 3 A (v.ms.map Mem.cells)
theorem ViewV.below {w w' : World} {v : VS} {x : Value} (h : ViewV w v x) (hb : Below w.heap.size w w') : ViewV w' v x := by
  obtain ⟨A, c, e, h1, h2, h3⟩ := h
  exact ⟨A, c, e, h1, h2, (h3.below hb).more hb.size⟩

theorem mem_cells {w : World} {B : Nat} {A : Option Addr} {ms : List Mem} (h : RowsAt w B 3 A (ms.map Mem.cells)) {k : Nat} (hk : k < ms.length) :
    ∃ b off, A = some ⟨b, off, none⟩ ∧ b < B ∧ w.cell? ⟨b, off + k * 3, none⟩ = some (.int .u8 ms[k].node) ∧ w.cell? ⟨b, off + k * 3 + 1, none⟩ = some (.int .u8 ms[k].life) ∧ w.cell? ⟨b, off + k * 3 + 2, none⟩ = some (.bool ms[k].ready) := by
  obtain ⟨b, off, e, hb, hc⟩ := h (by intro h; rw [List.map_eq_nil_iff] at h; subst h; simp at hk)
  have hc := hc k ms[k].cells (by simp [hk])
  exact ⟨b, off, e, hb, hc 0 _ rfl, hc 1 _ rfl, hc 2 _ rfl⟩

set_option maxHeartbeats 400000 in
theorem at1 (n l : Nat) (r : Bool) (x g : Nat) (w : World) (h : w.cell? ⟨g, 0, none⟩ = some (.int .u8 x)) :
    Calls Try.prog 101 #[.agg #[.int .u8 n, .int .u8 l, .bool r], .pointer (some ⟨g, 0, none⟩)] w fun e w' => e = .returned (.bool ((n : Int) == (x : Int))) ∧ Below w.heap.size w w' := by
  have hg : g < w.heap.size := World.block_lt_of_cell? w _ h
  have hne : g ≠ w.heap.size := by omega
  go_enter Try.func101, Try.ntmps101
  go_wp2
  go_ret
  exact ⟨rfl, (Below.refl _ _).alloc (Nat.le_refl _) _⟩

set_option maxRecDepth 100000 in
set_option maxHeartbeats 1000000 in
theorem IndexFunc_any (A : Option Addr) (c x g : Nat) (ms : List Mem) (w : World) (hA : RowsAt w w.heap.size 3 A (ms.map Mem.cells)) (hl : ms.length ≤ 9223372036854775807) (h : w.cell? ⟨g, 0, none⟩ = some (.int .u8 x)) :
    Calls Try.prog 100 #[.slice A ms.length c, .func (.func 101) #[] #[.pointer (some ⟨g, 0, none⟩)]] w fun e w' => e = .returned (.int .i64 (atI ms x)) ∧ Below w.heap.size w w' := by
  have HA := Lib.hid hA
  have hg : g < w.heap.size := World.block_lt_of_cell? w _ h
  have H := Lib.hid h
  clear hA h
  go_enter Try.func100, Try.ntmps100
  go_wp2_with fail
  go_loopg [8] ms.length (fun gk s8 wr => ∃ k : Nat, k ≤ ms.length ∧ gk = ms.length - k ∧ s8 = .int .i64 k ∧ (∀ j (hj : j < ms.length), j < k → ms[j].node ≠ x) ∧ Below w.heap.size w wr)
  case atStart => exact ⟨0, by omega, rfl, rfl, fun _ _ h => by omega, Below.refl _ _⟩
  case round =>
    obtain ⟨k, hk, rfl, rfl, hno, hb⟩ := hrel
    have HNO := Lib.hid hno
    have HB := Lib.hid hb
    have hx : wr.cell? ⟨g, 0, none⟩ = some (.int .u8 x) := (hb.cell (p := ⟨g, 0, none⟩) hg).trans H.out
    clear hno hb
    by_cases hlt : k < ms.length
    · obtain ⟨b, off, rfl, hbb, c0, c1, c2⟩ := mem_cells HA.out hlt
      have c0 := (HB.out.cell (p := ⟨b, off + k * 3, none⟩) hbb).trans c0
      have c1 := (HB.out.cell (p := ⟨b, off + k * 3 + 1, none⟩) hbb).trans c1
      have c2 := (HB.out.cell (p := ⟨b, off + k * 3 + 2, none⟩) hbb).trans c2
      go_wp2_with fail
      (with_reducible refine (at1 _ _ _ _ _ _ hx).mono ?_); rintro e w1 ⟨rfl, hb1⟩
      have HB1 := Lib.hid (bl_next HB.out hb1)
      clear hb1 c0 c1 c2 hx
      by_cases he : ms[k].node = x
      · have t : (((ms[k].node : Nat) : Int) == (x : Int)) = true := by simp [he]
        have hat := Lib.hid (atI_of hlt he (fun j hj => HNO.out j (by omega) hj))
        clear he
        go_wp2_with fail
        go_ret
        exact ⟨ret_int hat.out.symm, HB1.out⟩
      · have t : (((ms[k].node : Nat) : Int) == (x : Int)) = false := by simp; omega
        have HE := Lib.hid he
        clear he
        go_wp2_with fail
        go_roundg (ms.length - (k + 1))
        case measure => omega
        case rel => exact ⟨k + 1, by omega, rfl, by go_num, fun j hj hjk => by
          rcases Nat.lt_or_ge j k with h | h
          · exact HNO.out j hj h
          · obtain rfl : j = k := by omega
            exact HE.out, HB1.out⟩
    · have hat := Lib.hid (atI_none (fun j hj => HNO.out j hj (by omega)))
      go_wp2_with fail
      go_ret
      exact ⟨ret_int hat.out.symm, HB.out⟩

set_option maxRecDepth 100000 in
set_option maxHeartbeats 1000000 in
theorem at_any (e : Int) (A : Option Addr) (c x : Nat) (ms : List Mem) (L : Nat → Nat) (w : World) (hA : RowsAt w w.heap.size 3 A (ms.map Mem.cells)) (hl : ms.length ≤ 9223372036854775807) :
    Calls Try.prog 66 #[VV e A ms.length c L, .int .u8 x] w fun e w' => e = .returned (.int .i64 (atI ms x)) ∧ Below w.heap.size w w' := by
  have HA := Lib.hid hA
  clear hA
  go_enter Try.func66, Try.ntmps66
  go_wp2_with fail
  have hb2 := bl_alloc (bl_alloc (Below.refl w.heap.size w) (.cells #[.int .u32 e, .slice A ms.length c, .int .u8 (L 0), .int .u8 (L 1), .int .u8 (L 2), .int .u8 (L 3), .int .u8 (L 4), .int .u8 (L 5), .int .u8 (L 6), .int .u8 (L 7)] 28)) (.cells #[.int .u8 x] 5)
  have hx := (Blk.new (w.alloc (.cells #[.int .u32 e, .slice A ms.length c, .int .u8 (L 0), .int .u8 (L 1), .int .u8 (L 2), .int .u8 (L 3), .int .u8 (L 4), .int .u8 (L 5), .int .u8 (L 6), .int .u8 (L 7)] 28)) 5 #[.int .u8 x]).cell 0
  rw [World.size_alloc] at hx
  refine (IndexFunc_any A c x (w.heap.size + 1) ms _ ((HA.out.below hb2).more hb2.size) hl hx).mono ?_
  rintro e1 w1 ⟨rfl, hb1⟩
  have HB1 := Lib.hid (bl_next hb2 hb1)
  clear hb1 hb2 hx
  go_wp2_with fail
  go_ret
  exact ⟨rfl, HB1.out⟩

def findM (ms : List Mem) (x : Nat) : Mem × Bool := match atN ms x with | some k => (ms.getD k ⟨0, 0, false⟩, true) | none => (⟨0, 0, false⟩, false)

set_option maxRecDepth 100000 in
set_option maxHeartbeats 1000000 in
theorem Find_any (e : Int) (A : Option Addr) (c x : Nat) (ms : List Mem) (L : Nat → Nat) (w : World) (hA : RowsAt w w.heap.size 3 A (ms.map Mem.cells)) (hl : ms.length ≤ 9223372036854775807) :
    Calls Try.prog 22 #[VV e A ms.length c L, .int .u8 x] w fun e w' => e = .returned (.tuple #[.agg #[.int .u8 (findM ms x).1.node, .int .u8 (findM ms x).1.life, .bool (findM ms x).1.ready], .bool (findM ms x).2]) ∧ Below w.heap.size w w' := by
  have HA := Lib.hid hA
  clear hA
  go_enter Try.func22, Try.ntmps22
  go_wp2_with fail
  have hlt := atI_lt ms x
  (with_reducible refine (at_any e A c x ms L _ ((HA.out.up _).up _) hl).mono ?_); rintro e1 w1 ⟨rfl, hb1⟩
  have hz := hb1.size
  simp at hz
  obtain ⟨hc, hf⟩ := bcell hb1
  have HB1 := Lib.hid (bl_next (bl_alloc (bl_alloc (Below.refl w.heap.size w) _) _) hb1)
  have HA1 := Lib.hid ((((HA.out.up _).up _).below hb1).more hb1.size)
  clear hb1
  cases hat : atN ms x with
  | none =>
    have HF : Hid (findM ms x = (⟨0, 0, false⟩, false)) := Lib.hid (by simp [findM, hat])
    have hi : atI ms x = -1 := by simp [atI, hat]
    rw [hi]
    clear hi hat hlt
    go_wp2_with fail
    exact bodyPost_ret (v := .tuple #[.agg #[.int .u8 0, .int .u8 0, .bool false], .bool false]) (by simp [results, Try.results22, go_sem, hc]) rfl ⟨by rw [HF.out]; rfl, below_set3 HB1.out (by omega) _ _ _⟩
  | some k =>
    have hi : atI ms x = k := by simp [atI, hat]
    obtain ⟨hk, -, -⟩ := atN_some hat
    obtain ⟨b, off, rfl, hbb, c0, c1, c2⟩ := mem_cells HA1.out hk
    have HF : Hid (findM ms x = (ms[k], true)) := Lib.hid (by simp [findM, hat, hk])
    rw [hi]
    clear hi hat hlt
    generalize ms[k] = m at *
    go_wp2_with fail
    exact bodyPost_ret (v := .tuple #[.agg #[.int .u8 m.node, .int .u8 m.life, .bool m.ready], .bool true]) (by simp [results, Try.results22, go_sem, hc]) rfl ⟨by rw [HF.out], below_set3 HB1.out (by omega) _ _ _⟩
def hasB (ms : List Mem) (x l : Nat) : Bool := (findM ms x).2 && (findM ms x).1.life == l
set_option maxRecDepth 100000 in
set_option maxHeartbeats 1000000 in
theorem Has_any (e : Int) (A : Option Addr) (c x l : Nat) (ms : List Mem) (L : Nat → Nat) (w : World) (hA : RowsAt w w.heap.size 3 A (ms.map Mem.cells)) (hl : ms.length ≤ 9223372036854775807) :
    Calls Try.prog 19 #[VV e A ms.length c L, .int .u8 x, .int .u8 l] w fun e w' => e = .returned (.bool (hasB ms x l)) ∧ Below w.heap.size w w' := by
  have HA := Lib.hid hA
  clear hA
  go_enter Try.func19, Try.ntmps19
  go_wp2_with fail
  (with_reducible refine (Find_any e A c x ms L _ (HA.out.up _) hl).mono ?_); rintro e1 w1 ⟨rfl, hb1⟩
  have HB1 := Lib.hid (bl_next (bl_alloc (Below.refl w.heap.size w) _) hb1)
  have HF : Hid (hasB ms x l = ((findM ms x).2 && (findM ms x).1.life == l)) := Lib.hid rfl
  clear hb1
  generalize findM ms x = r at *
  obtain ⟨m, ok⟩ := r
  have HG := Lib.hid (bl_alloc HB1.out (.cells #[.int .u8 m.node, .int .u8 m.life, .bool m.ready] 38))
  cases ok with
  | false =>
    go_wp2_with fail
    go_ret
    exact ⟨ret_bool (by rw [HF.out]; rfl), HG.out⟩
  | true =>
    go_wp2_with fail
    go_ret
    exact ⟨ret_bool (by rw [HF.out, Bool.true_and, Bool.eq_iff_iff, beq_iff_eq, beq_iff_eq]; omega), HG.out⟩

set_option maxRecDepth 100000 in
set_option maxHeartbeats 1000000 in
theorem Ready_any (e : Int) (A : Option Addr) (c : Nat) (ms : List Mem) (L : Nat → Nat) (w : World) (hA : RowsAt w w.heap.size 3 A (ms.map Mem.cells)) (hl : ms.length ≤ 9223372036854775807) :
    Calls Try.prog 20 #[VV e A ms.length c L] w fun e w' => e = .returned (.int .i64 (ready ms)) ∧ Below w.heap.size w w' := by
  have HA := Lib.hid hA
  clear hA
  go_enter Try.func20, Try.ntmps20
  go_wp2_with fail
  go_loopg [3, 9] ms.length (fun gk s3 s9 wr => ∃ k : Nat, k ≤ ms.length ∧ gk = ms.length - k ∧ s9 = .int .i64 k ∧ s3 = .int .i64 (ready (ms.take k)) ∧ Below w.heap.size w wr)
  case atStart => exact ⟨0, by omega, rfl, rfl, rfl, bl_alloc (Below.refl _ _) _⟩
  case round =>
    obtain ⟨k, hk, rfl, rfl, rfl, hb⟩ := hrel
    have HB := Lib.hid hb
    clear hb
    by_cases hlt : k < ms.length
    · obtain ⟨b, off, rfl, hbb, c0, c1, c2⟩ := mem_cells HA.out hlt
      have c0 := (HB.out.cell (p := ⟨b, off + k * 3, none⟩) hbb).trans c0
      have c1 := (HB.out.cell (p := ⟨b, off + k * 3 + 1, none⟩) hbb).trans c1
      have c2 := (HB.out.cell (p := ⟨b, off + k * 3 + 2, none⟩) hbb).trans c2
      have HR := Lib.hid (ready_take hlt)
      have hle := ready_le (ms.take k)
      have hle2 : (ms.take k).length ≤ k := List.length_take_le _ _
      generalize ms[k] = m at *
      generalize ready (ms.take k) = r at *
      have HG := Lib.hid (bl_alloc HB.out (.cells #[.int .u8 m.node, .int .u8 m.life, .bool m.ready] 38))
      cases hr : m.ready
      all_goals
        rw [hr] at c2 HG HR
        clear hr
        go_wp2_with fail
        go_roundg (ms.length - (k + 1))
        case measure => omega
        case rel => exact ⟨k + 1, by omega, rfl, by go_num, by rw [HR.out]; simp, HG.out⟩
    · have HR : Hid (ready ms = ready (ms.take k)) := Lib.hid (by rw [List.take_of_length_le (by omega)])
      go_wp2_with fail
      go_ret
      exact ⟨ret_int (by rw [HR.out]), HB.out⟩
def others (ms : List Mem) (x : Nat) : List Nat := (ms.filter (·.node != x)).map (·.node)
theorem others_take {ms : List Mem} {k : Nat} (x : Nat) (h : k < ms.length) : others (ms.take (k + 1)) x = others (ms.take k) x ++ if ms[k].node = x then [] else [ms[k].node] := by
  unfold others
  rw [List.take_succ_eq_append_getElem h, List.filter_append, List.map_append]
  by_cases hx : ms[k].node = x <;> simp [hx]
theorem others_le (ms : List Mem) (x : Nat) : (others ms x).length ≤ ms.length := by
  unfold others; rw [List.length_map]; exact List.length_filter_le _ _
theorem infoU8 : (Try.prog.info? 5).map (fun i => (i.zero, i.size, i.bytes)) = some (some (.int .u8 0), 1, 1) := by kernel_rfl
def u8c (y : Nat) : List Value := [.int .u8 (y : Int)]

set_option maxRecDepth 100000 in
set_option maxHeartbeats 1000000 in
theorem Others_any (e : Int) (A : Option Addr) (c x : Nat) (ms : List Mem) (L : Nat → Nat) (w : World) (hA : RowsAt w w.heap.size 3 A (ms.map Mem.cells)) (hl : ms.length ≤ 1000000) :
    Calls Try.prog 18 #[VV e A ms.length c L, .int .u8 x] w fun e w' => (∃ A' c', e = .returned (.slice A' (others ms x).length c') ∧ (others ms x).length ≤ c' ∧ RowsAt w' w'.heap.size 1 A' ((others ms x).map u8c)) ∧ Below w.heap.size w w' := by
  have HA := Lib.hid hA
  clear hA
  obtain ⟨i0, hi, hz0, hz1, hz2⟩ := info_parts infoU8
  go_enter Try.func18, Try.ntmps18
  go_wp2_with fail
  go_loopg [5, 11] ms.length (fun gk s5 s11 wr => ∃ k : Nat, k ≤ ms.length ∧ gk = ms.length - k ∧ s11 = .int .i64 k ∧ wr.ownsRow w.heap.size 5 1 s5 (others (ms.take k) x).length ((others (ms.take k) x).flatMap u8c) ∧ Below w.heap.size w wr)
  case atStart => exact ⟨0, by omega, rfl, rfl, World.ownsRow_nil _ _ _ _, bl_alloc (Below.refl _ _) _⟩
  case round =>
    obtain ⟨k, hk, rfl, rfl, hown, hb⟩ := hrel
    have HB := Lib.hid hb
    have HO := Lib.hid hown
    have hwz := hb.size
    clear hb hown
    by_cases hlt : k < ms.length
    · obtain ⟨b, off, rfl, hbb, c0, c1, c2⟩ := mem_cells HA.out hlt
      have c0 := (HB.out.cell (p := ⟨b, off + k * 3, none⟩) hbb).trans c0
      have c1 := (HB.out.cell (p := ⟨b, off + k * 3 + 1, none⟩) hbb).trans c1
      have c2 := (HB.out.cell (p := ⟨b, off + k * 3 + 2, none⟩) hbb).trans c2
      have HT := Lib.hid (others_take x hlt)
      have hle := others_le (ms.take k) x
      have hle2 : (ms.take k).length ≤ k := List.length_take_le _ _
      generalize ms[k] = m at *
      generalize others (ms.take k) x = l at *
      have HG := Lib.hid (bl_alloc HB.out (.cells #[.int .u8 m.node, .int .u8 m.life, .bool m.ready] 38))
      have HO1 := Lib.hid (HO.out.alloc (.cells #[.int .u8 m.node, .int .u8 m.life, .bool m.ready] 38))
      by_cases he : m.node = x
      · have t : ((m.node : Int) != (x : Int)) = false := by simp [he]
        have HE : Hid (others (ms.take (k + 1)) x = l) := Lib.hid (by rw [HT.out, if_pos he, List.append_nil])
        clear he
        go_wp2_with fail
        go_roundg (ms.length - (k + 1))
        case measure => omega
        case rel => exact ⟨k + 1, by omega, rfl, by go_num, by rw [HE.out]; exact HO1.out, HG.out⟩
      · have t : ((m.node : Int) != (x : Int)) = true := by simp; omega
        have HE : Hid (others (ms.take (k + 1)) x = l ++ [m.node]) := Lib.hid (by rw [HT.out, if_neg he])
        clear he
        go_wp2_with (at_builtin; refine wpList_append_own _ rfl (.tmp 19) (.tmp 22) _ rfl w.heap.size 5 i0 _ 1 1 Try.underlying41 hi hz0 hz1 hz2 rfl (by omega) u5 l.length (l.flatMap u8c) rfl (HO1.out.alloc _) ⟨wr.heap.size + 1, 0, none⟩ 1 1 (u8c m.node) rfl rfl (World.news_of_block (cs := #[.int .u8 m.node]) (t := 5) (fr := (0, 0)) (Blk.new_ (by simp))) (by simp [u8c, Value.oneCell']) (by unfold maxLen; omega) (by omega) (by simp; omega) ?_; intro v1 w1 hown1 hg1 _)
        have HO2 := Lib.hid hown1
        have HG2 := Lib.hid (below_grown (bl_alloc HG.out (.cells #[.int .u8 m.node] 5)) (by simp; omega) hg1 (fun k hk => (HO.out.lt k hk).1) (by simp; omega))
        clear hown1 hg1
        go_wp2_with fail
        go_roundg (ms.length - (k + 1))
        case measure => omega
        case rel => exact ⟨k + 1, by omega, rfl, by go_num, by rw [HE.out, List.length_append, List.flatMap_append]; simpa using HO2.out, HG2.out⟩
    · have HT : Hid (ms.take k = ms) := Lib.hid (List.take_of_length_le (by omega))
      obtain ⟨A1, cA, rfl, hcA, hrA⟩ := rows_of_own (f := u8c) (fun _ => rfl) (by decide) HO.out
      have HR := Lib.hid hrA
      have HC := Lib.hid hcA
      clear hrA hcA
      go_wp2_with fail
      go_ret
      exact ⟨⟨A1, cA, by rw [HT.out]; rfl, by have := HC.out; rwa [HT.out] at this, by have := HR.out; rwa [HT.out] at this⟩, HB.out⟩

set_option maxRecDepth 100000 in
set_option maxHeartbeats 400000 in
theorem next_max (e' : Int) (A : Option Addr) (c : Nat) (n : Nat) (L : Nat → Nat) (A' : Option Addr) (n' c' : Nat) (w : World) (t : (e' == 4294967295) = true) :
    Calls Try.prog 102 #[VV e' A n c L, .slice A' n' c'] w fun e w' => e = .returned (.tuple #[VV e' A n c L, .bool false]) ∧ Below w.heap.size w w' := by
  go_enter Try.func102, Try.ntmps102
  go_wp2_with fail
  exact bodyPost_ret (v := .tuple #[VV e' A n c L, .bool false]) (by simp [results, Try.results102, go_sem]) rfl ⟨rfl, bl_alloc (bl_alloc (Below.refl _ _) _) _⟩
set_option maxRecDepth 100000 in
set_option maxHeartbeats 400000 in
theorem next_go (e' : Int) (A : Option Addr) (c : Nat) (n : Nat) (L : Nat → Nat) (A' : Option Addr) (n' c' : Nat) (w : World) (h0 : 0 ≤ e') (he : e' < 4294967295) :
    Calls Try.prog 102 #[VV e' A n c L, .slice A' n' c'] w fun e w' => e = .returned (.tuple #[VV (e' + 1) A' n' c' L, .bool true]) ∧ Below w.heap.size w w' := by
  have t : (e' == 4294967295) = false := by simp; omega
  go_enter Try.func102, Try.ntmps102
  go_wp2_with fail
  exact bodyPost_ret (v := .tuple #[VV (e' + 1) A' n' c' L, .bool true]) (by simp [results, Try.results102, go_sem]) rfl ⟨rfl, bl_alloc (bl_alloc (Below.refl _ _) _) _⟩

def Ends.ahead (ms : List Mem) (x : Nat) : Nat := match atN ms x with | some (k + 1) => (ms.getD k ⟨0, 0, false⟩).node | _ => 0
def Ends.behind (ms : List Mem) (x : Nat) : Nat := match atN ms x with | some k => (ms.getD (k + 1) ⟨0, 0, false⟩).node | none => 0
set_option maxRecDepth 100000 in
set_option maxHeartbeats 1000000 in
theorem Ends_any (e : Int) (A : Option Addr) (c x : Nat) (ms : List Mem) (L : Nat → Nat) (w : World) (hA : RowsAt w w.heap.size 3 A (ms.map Mem.cells)) (hl : ms.length ≤ 1000000) :
    Calls Try.prog 17 #[VV e A ms.length c L, .int .u8 x] w fun e w' => e = .returned (.tuple #[.int .u8 (Ends.ahead ms x), .int .u8 (Ends.behind ms x)]) ∧ Below w.heap.size w w' := by
  have HA := Lib.hid hA
  clear hA
  go_enter Try.func17, Try.ntmps17
  go_wp2_with fail
  have hlt := atI_lt ms x
  (with_reducible refine (at_any e A c x ms L _ (HA.out.up _) (by omega)).mono ?_); rintro e1 w1 ⟨rfl, hb1⟩
  have hz := hb1.size
  simp at hz
  obtain ⟨hc, hf⟩ := bcell hb1
  have HB1 := Lib.hid (bl_next (bl_alloc (Below.refl w.heap.size w) _) hb1)
  have HA1 := Lib.hid (((HA.out.up _).below hb1).more hb1.size)
  clear hb1
  cases hat : atN ms x with
  | none =>
    have hi : atI ms x = -1 := by simp [atI, hat]
    have H1 : Hid (Ends.ahead ms x = 0) := Lib.hid (by simp [Ends.ahead, hat])
    have H2 : Hid (Ends.behind ms x = 0) := Lib.hid (by simp [Ends.behind, hat])
    rw [hi]
    clear hi hat hlt
    go_wp2_with fail
    go_ret2
    exact ⟨by rw [H1.out, H2.out]; rfl, HB1.out⟩
  | some k =>
    have hi : atI ms x = k := by simp [atI, hat]
    obtain ⟨hk, -, -⟩ := atN_some hat
    rw [hi]
    clear hi hlt
    have hk1 : (k : Int) + 1 < (ms.length : Int) ∨ (k : Int) + 1 = (ms.length : Int) := by omega
    cases k with
    | zero =>
      have H1 : Hid (Ends.ahead ms x = 0) := Lib.hid (by simp [Ends.ahead, hat])
      have H2 : Hid (Ends.behind ms x = (ms.getD 1 ⟨0, 0, false⟩).node) := Lib.hid (by simp [Ends.behind, hat])
      rcases hk1 with hk1 | hk1
      · obtain ⟨b, off, rfl, hbb, c0, c1, c2⟩ := mem_cells HA1.out (k := 1) (by omega)
        have H2 : Hid (Ends.behind ms x = (ms[1]'(by omega)).node) := Lib.hid (by rw [H2.out]; simp [show 1 < ms.length by omega])
        generalize ms[1]'(by omega) = m at *
        clear hat
        go_wp2_with fail
        go_ret2
        exact ⟨by rw [H1.out, H2.out]; rfl, HB1.out⟩
      · have hn : ¬ ((0 : Int) + 1 < (ms.length : Int)) := by omega
        have H2 : Hid (Ends.behind ms x = 0) := Lib.hid (by rw [H2.out]; simp [show ¬ 1 < ms.length by omega])
        clear hat hk1
        go_wp2_with fail
        go_ret2
        exact ⟨by rw [H1.out, H2.out]; rfl, HB1.out⟩
    | succ k =>
      obtain ⟨b, off, rfl, hbb, c0, c1, c2⟩ := mem_cells HA1.out (k := k) (by omega)
      have H1 : Hid (Ends.ahead ms x = (ms[k]'(by omega)).node) := Lib.hid (by simp [Ends.ahead, hat, show k < ms.length by omega])
      have H2 : Hid (Ends.behind ms x = (ms.getD (k + 1 + 1) ⟨0, 0, false⟩).node) := Lib.hid (by simp [Ends.behind, hat])
      have ek : ((k : Int) + 1) - 1 = k := by omega
      rcases hk1 with hk1 | hk1
      · obtain ⟨b', off', he, hbb', d0, d1, d2⟩ := mem_cells HA1.out (k := k + 1 + 1) (by omega)
        injection he with he
        injection he with he1 he2
        subst he1 he2
        have H2 : Hid (Ends.behind ms x = (ms[k + 1 + 1]'(by omega)).node) := Lib.hid (by rw [H2.out]; simp [show k + 1 + 1 < ms.length by omega])
        generalize ms[k + 1 + 1]'(by omega) = m2 at *
        generalize ms[k]'(by omega) = m at *
        clear hat
        go_wp2_with fail
        go_ret2
        exact ⟨by rw [H1.out, H2.out]; rfl, HB1.out⟩
      · have H2 : Hid (Ends.behind ms x = 0) := Lib.hid (by rw [H2.out]; simp [show ¬ k + 1 + 1 < ms.length by omega])
        generalize ms[k]'(by omega) = m at *
        have hn : ¬ ((k : Int) + 1 + 1 < (ms.length : Int)) := by omega
        clear hat hk1
        go_wp2_with fail
        go_ret2
        exact ⟨by rw [H1.out, H2.out]; rfl, HB1.out⟩
end View
end Go.Proofs.Ytidhblpcaccchaa
