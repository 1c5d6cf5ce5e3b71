/- The contracts of layer 5 (view), on: slices.Clone, slices.Delete, slices.Equal at members. -/
import Derived.Test.YtidhblpcaccchaaView
import Derived.Deep.RegionLaw
import Derived.Lib.SliceRun
namespace Go.Proofs.Ytidhblpcaccchaa
open Go.RowKit
namespace View

theorem infoMem : (Try.prog.info? 38).map (fun i => (i.zero, i.size, i.bytes)) = some (some (.agg #[.int .u8 0, .int .u8 0, .bool false]), 3, 3) := by kernel_rfl
theorem flat_inv {α : Type} {f : α → List Value} {size : Nat} (hf : ∀ a, (f a).length = size) : ∀ (l : List α) (j : Nat) (u : Value), (l.flatMap f)[j]? = some u → ∃ k a i, l[k]? = some a ∧ (f a)[i]? = some u ∧ j = k * size + i
  | [], _, _, h => by simp at h
  | a :: l, j, u, h => by
    rw [List.flatMap_cons, List.getElem?_append] at h
    split at h
    · exact ⟨0, a, j, rfl, h, by omega⟩
    · rename_i hge
      rw [hf] at h hge
      obtain ⟨k, b, i, h1, h2, h3⟩ := flat_inv hf l _ _ h
      exact ⟨k + 1, b, i, by simpa using h1, h2, by rw [Nat.add_mul]; omega⟩
theorem RowsAt.news {α : Type} {f : α → List Value} {size : Nat} (hf : ∀ a, (f a).length = size) {w : World} {B : Nat} {ad : Addr} {l : List α} (h : RowsAt w B size (some ad) (l.map f)) : ∀ j u, (l.flatMap f)[j]? = some u → w.cell? (ad.add j) = some u := fun j u hu => by
  obtain ⟨k, a, i, h1, h2, rfl⟩ := flat_inv hf l j u hu
  obtain ⟨b, off, e, hb, hc⟩ := h (by intro h0; rw [List.map_eq_nil_iff] at h0; subst h0; simp at h1)
  injection e with e
  subst e
  have := hc k (f a) (by simp [h1]) i u h2
  rw [← this]
  unfold Addr.add
  split
  · rename_i h0; rw [show off + k * size + i = off by omega]
  · rw [Nat.add_assoc]
theorem flat_len {α : Type} {f : α → List Value} {size : Nat} (hf : ∀ a, (f a).length = size) : ∀ (l : List α), (l.flatMap f).length = l.length * size
  | [] => by simp
  | a :: l => by rw [List.flatMap_cons, List.length_append, flat_len hf l, hf, List.length_cons, Nat.add_mul]; omega
theorem cells_one (l : List Mem) : ∀ u ∈ l.flatMap Mem.cells, u.oneCell' = true := by
  intro u hu
  obtain ⟨m, _, hm⟩ := List.mem_flatMap.1 hu
  simp [Mem.cells] at hm
  rcases hm with rfl | rfl | rfl <;> rfl

set_option maxRecDepth 100000 in
set_option maxHeartbeats 1000000 in
theorem Clone_any (A : Option Addr) (c : Nat) (ms : List Mem) (w : World) (hA : RowsAt w w.heap.size 3 A (ms.map Mem.cells)) (hl : ms.length ≤ 1000000) :
    Calls Try.prog 69 #[.slice A ms.length c] w fun e w' => (∃ v, e = .returned v ∧ w'.ownsRow w.heap.size 38 3 v ms.length (ms.flatMap Mem.cells)) ∧ Below w.heap.size w w' := by
  cases A with
  | none =>
    have : ms = [] := by
      rcases ms with _ | ⟨m, ms⟩
      · rfl
      · obtain ⟨b, off, e, _⟩ := hA (by simp)
        cases e
    subst this
    clear hA
    go_enter Try.func69, Try.ntmps69
    have hq := fun (w : World) => Lib.run_eql_slice_nil (P := Try.prog) w 25 38 none 0 c 0 0 Try.underlying25
    go_wp2_with fail
    go_ret
    exact ⟨⟨_, rfl, World.ownsRow_nil _ _ _ _⟩, Below.refl _ _⟩
  | some a =>
    obtain ⟨i0, hi, hz0, hz1, hz2⟩ := info_parts infoMem
    have HN := Lib.hid (RowsAt.news (f := Mem.cells) Mem.cells_len hA)
    have hq := fun (w : World) => Lib.run_eql_slice_nil (P := Try.prog) w 25 38 (some a) ms.length c 0 0 Try.underlying25
    have ha : a.block < w.heap.size ∨ ms = [] := by
      rcases ms with _ | ⟨m, ms⟩
      · exact .inr rfl
      · obtain ⟨b, off, e, hb, _⟩ := hA (by simp)
        injection e with e
        subst e
        exact .inl hb
    have HNA : Hid (∀ (o : Obj) (j : Nat) (u : Value), (ms.flatMap Mem.cells)[j]? = some u → (w.alloc o).cell? (a.add j) = some u) := Lib.hid (fun o j u hu => by
      rcases ha with ha | rfl
      · have hb : (a.add j).block < w.heap.size := by unfold Addr.add; split <;> exact ha
        rw [World.cell?_alloc_lt w o _ hb]; exact HN.out j u hu
      · simp at hu)
    clear hA ha HN
    go_enter Try.func69, Try.ntmps69
    go_wp2_with (at_builtin; refine Stop.out ?_)
    refine Stop.mk ?_
    refine wpList_append_own _ rfl (.tmp 5) (.tmp 6) _ rfl w.heap.size 38 i0 _ 3 3 Try.underlying25 hi hz0 hz1 hz2 rfl (by omega) (.slice (some ⟨w.heap.size, 0, none⟩) 0 0) 0 [] rfl ⟨rfl, .inr ⟨w.heap.size, 0, #[], rfl, Nat.le_refl _, Blk.new w _ _, Nat.le_refl _, by decide, rfl, rfl⟩⟩ a ms.length c (ms.flatMap Mem.cells) rfl (flat_len Mem.cells_len ms) (HNA.out _) (cells_one ms) (by unfold maxLen; omega) (by omega) (by simp) ?_
    intro v1 w1 hown hg _
    have HB := Lib.hid (below_grown (bl_alloc (Below.refl w.heap.size w) (.cells #[] 38)) (by simp) hg (fun k hk => by simp [Value.ownBlock] at hk; omega) (by simp))
    have HO := Lib.hid hown
    clear hown hg
    go_wp2_with fail
    go_ret
    exact ⟨⟨_, rfl, by simpa using HO.out⟩, HB.out⟩

theorem mem_eq (m m' : Mem) : decide (m = m') = (((m.node : Int) == (m'.node : Int)) && ((m.life : Int) == (m'.life : Int)) && (m.ready == m'.ready)) := by
  obtain ⟨a, b, c⟩ := m
  obtain ⟨a', b', c'⟩ := m'
  rw [Bool.eq_iff_iff]
  simp only [decide_eq_true_eq, Bool.and_eq_true, beq_iff_eq, Mem.mk.injEq]
  constructor
  · rintro ⟨rfl, rfl, rfl⟩; exact ⟨⟨rfl, rfl⟩, rfl⟩
  · rintro ⟨⟨h1, h2⟩, h3⟩; exact ⟨by omega, by omega, h3⟩
theorem neqMem (w : World) (m m' : Mem) : (binOp .neq 38 (.agg #[.int .u8 m.node, .int .u8 m.life, .bool m.ready]) (.agg #[.int .u8 m'.node, .int .u8 m'.life, .bool m'.ready])).run Try.prog w = .ok (.bool (!decide (m = m'))) w := by
  have ht : Try.prog.underlying 38 = some (.struct (Try.prog.fieldsOf 38)) := by kernel_rfl
  rw [mem_eq]
  cases h1 : (m.node : Int) == (m'.node : Int) <;> cases h2 : (m.life : Int) == (m'.life : Int) <;> cases h3 : m.ready == m'.ready <;> simp [go_sem, binOp, Op.equal, Op.maxDepth, h1, h2, h3]
theorem setCells_fr {g : Nat} : ∀ (vs : List Value) (o : Nat) (w : World), Fr (· = g) w (w.setCells g o vs)
  | [], _, w => Fr.refl _ w
  | v :: vs, o, w => ((Fr.refl (· = g) w).own o v).trans (setCells_fr vs (o + 1) _)

theorem setCells_size {g : Nat} : ∀ (vs : List Value) (o : Nat) (w : World), (w.setCells g o vs).heap.size = w.heap.size
  | [], _, _ => rfl
  | v :: vs, o, w => (setCells_size vs (o + 1) _).trans (by simp [World.setCell])
theorem zeroMem (w : World) : (zeroValue 38).run Try.prog w = .ok (.agg #[.int .u8 0, .int .u8 0, .bool false]) w := by kernel_rfl
theorem run_clear_one (w : World) (ty : TypeId) (g o c : Nat) (hc : ∀ j, j < 3 → (w.cell? ⟨g, o + j, none⟩).isSome = true) (hf : ∀ j, j < 3 → w.frozen? ⟨g, o + j, none⟩ = false) :
    (Builtin.clear_ #[25] ty #[.slice (some ⟨g, o, none⟩) 1 c]).run Try.prog w = .ok (.tuple #[]) (w.setCells g o [.int .u8 0, .int .u8 0, .bool false]) := by
  have hst := run_storeCells_cells (P := Try.prog) g o [.int .u8 0, .int .u8 0, .bool false] 0 w (by simpa using hc) (by simpa using hf) (by intro v hv; simp at hv; rcases hv with rfl | rfl | rfl <;> rfl)
  simp only [Nat.add_zero] at hst
  have hz : (Builtin.zeroCells (Value.agg #[.int .u8 0, .int .u8 0, .bool false]).cells 1).toList = [.int .u8 0, .int .u8 0, .bool false] := by kernel_rfl
  have hv := zeroMem
  simp [Builtin.clear_, run_underlying Try.underlying25, hv, hz, hst]

set_option maxRecDepth 100000 in
set_option maxHeartbeats 1000000 in
theorem Delete_any (g cap i : Nat) (ms : List Mem) (w : World) (hA : RowsAt w w.heap.size 3 (some ⟨g, 0, none⟩) (ms.map Mem.cells)) (hF : ∀ j, w.frozen? ⟨g, j, none⟩ = false) (hi : i < ms.length) (hl : ms.length ≤ 1000000) (hcap : ms.length ≤ cap) (_ : cap ≤ 9223372036854775807) :
    Calls Try.prog 103 #[.slice (some ⟨g, 0, none⟩) ms.length cap, .int .i64 i, .int .i64 ((i : Int) + 1)] w fun e w' => (e = .returned (.slice (some ⟨g, 0, none⟩) (ms.length - 1) cap) ∧ RowsAt w' w'.heap.size 3 (some ⟨g, 0, none⟩) ((ms.eraseIdx i).map Mem.cells)) ∧ Fr (· = g) w w' := by
  obtain ⟨b, off, e, hb, hc⟩ := hA (by intro h0; rw [List.map_eq_nil_iff] at h0; subst h0; simp at hi)
  injection e with e
  injection e with e1 e2
  subst e1 e2
  have hcell : ∀ k (hk : k < ms.length) (j : Nat) (u : Value), ms[k].cells[j]? = some u → w.cell? ⟨g, k * 3 + j, none⟩ = some u := fun k hk j u hu => by
    have := hc k ms[k].cells (by simp [hk]) j u hu
    rwa [Nat.zero_add] at this
  have hsome : ∀ q, q < ms.length * 3 → (w.cell? ⟨g, q, none⟩).isSome = true := fun q hq => by
    have hk : q / 3 < ms.length := by omega
    have h3 : q % 3 < ms[q / 3].cells.length := by rw [Mem.cells_len]; omega
    have := hcell (q / 3) hk (q % 3) (ms[q / 3].cells[q % 3]) (by simp)
    rw [show q / 3 * 3 + q % 3 = q by omega] at this
    rw [this]; rfl
  clear hc hA
  obtain ⟨news, hnews⟩ : ∃ news, news = (ms.drop (i + 1)).flatMap Mem.cells := ⟨_, rfl⟩
  have hnl : news.length = (ms.length - (i + 1)) * 3 := by rw [hnews, flat_len Mem.cells_len, List.length_drop]
  have hnc : ∀ t u, news[t]? = some u → w.cell? ⟨g, (i + 1) * 3 + t, none⟩ = some u := fun t u hu => by
    rw [hnews] at hu
    obtain ⟨k, a, j, h1, h2, rfl⟩ := flat_inv Mem.cells_len _ t u hu
    rw [List.getElem?_drop] at h1
    obtain ⟨hk, rfl⟩ := List.getElem?_eq_some_iff.1 h1
    have := hcell _ hk j u h2
    rwa [show (i + 1 + k) * 3 + j = (i + 1) * 3 + (k * 3 + j) by omega] at this
  obtain ⟨W1, hW1⟩ : ∃ W1, W1 = w.drew.setCells g (i * 3) news := ⟨_, rfl⟩
  obtain ⟨W2, hW2⟩ : ∃ W2, W2 = W1.setCells g ((ms.length - 1) * 3) [.int .u8 0, .int .u8 0, .bool false] := ⟨_, rfl⟩
  have hin1 : ∀ t (ht : t < news.length), W1.cell? ⟨g, i * 3 + t, none⟩ = some news[t] := fun t ht => by
    rw [hW1]; exact World.cell?_setCells_in g news (i * 3) w.drew (fun j hj => by rw [World.cell?_drew]; exact hsome _ (by omega)) t ht
  have hout1 : ∀ q, q < i * 3 ∨ i * 3 + news.length ≤ q → W1.cell? ⟨g, q, none⟩ = w.cell? ⟨g, q, none⟩ := fun q hq => by
    rw [hW1, World.cell?_setCells_out g news (i * 3) w.drew ⟨g, q, none⟩ (fun _ _ => hq), World.cell?_drew]
  have hsome1 : ∀ q, q < ms.length * 3 → (W1.cell? ⟨g, q, none⟩).isSome = true := fun q hq => by
    by_cases h : q < i * 3 ∨ i * 3 + news.length ≤ q
    · rw [hout1 q h]; exact hsome q hq
    · have := hin1 (q - i * 3) (by omega)
      rw [show i * 3 + (q - i * 3) = q by omega] at this
      rw [this]; rfl
  have hrows : RowsAt W2 W2.heap.size 3 (some ⟨g, 0, none⟩) ((ms.eraseIdx i).map Mem.cells) := fun _ => by
    have hsz : W2.heap.size = w.heap.size := by rw [hW2, hW1, setCells_size, setCells_size]; rfl
    refine ⟨g, 0, rfl, by omega, fun k row hk j u hu => ?_⟩
    rw [List.getElem?_map] at hk
    obtain ⟨m, hm, rfl⟩ := Option.map_eq_some_iff.1 hk
    have hj : j < 3 := by have := (List.getElem?_eq_some_iff.1 hu).1; rwa [Mem.cells_len] at this
    have hkl : k < ms.length - 1 := by have := (List.getElem?_eq_some_iff.1 hm).1; rwa [List.length_eraseIdx_of_lt hi] at this
    rw [Nat.zero_add, hW2, World.cell?_setCells_out g _ _ W1 ⟨g, k * 3 + j, none⟩ (fun _ _ => .inl (by show k * 3 + j < _; omega))]
    rw [List.getElem?_eraseIdx] at hm
    split at hm
    · rw [hout1 _ (.inl (by omega))]
      obtain ⟨hk', rfl⟩ := List.getElem?_eq_some_iff.1 hm
      exact hcell k hk' j u hu
    · obtain ⟨hk', rfl⟩ := List.getElem?_eq_some_iff.1 hm
      have hx : news[(k - i) * 3 + j]? = some u := by
        rw [hnews]
        exact flat_get Mem.cells_len (ms.drop (i + 1)) (k - i) ms[k + 1] (by rw [List.getElem?_drop, show i + 1 + (k - i) = k + 1 by omega]; simp [hk']) j u hu
      obtain ⟨hx1, hx2⟩ := List.getElem?_eq_some_iff.1 hx
      have := hin1 _ hx1
      rw [hx2, show i * 3 + ((k - i) * 3 + j) = k * 3 + j by omega] at this
      exact this
  have hfr : Fr (· = g) w W2 := by
    rw [hW2, hW1]
    exact (Fr.refl (· = g) w).drew.trans ((setCells_fr _ _ _).trans (setCells_fr _ _ _))
  have hclr : ∀ ty c', (Builtin.clear_ #[25] ty #[.slice (some ⟨g, (ms.length - 1) * 3, none⟩) 1 c']).run Try.prog W1 = .ok (.tuple #[]) W2 := fun ty c' => by
    rw [hW2]
    exact run_clear_one W1 ty g _ c' (fun j hj => hsome1 _ (by omega)) (fun j hj => by rw [hW1, World.frozen?_setCells, World.frozen?_drew]; exact hF _)
  obtain ⟨A, hA, hsrc⟩ : ∃ A : Addr, (if cap = i + 1 then some (⟨g, 0, none⟩ : Addr) else some ⟨g, (i + 1) * 3, none⟩) = some A ∧ ∀ t u, news[t]? = some u → w.drew.cell? (A.add t) = some u := by
    by_cases h : cap = i + 1
    · refine ⟨⟨g, 0, none⟩, by rw [if_pos h], fun t u hu => ?_⟩
      have h0 : news.length = 0 := by rw [hnl]; omega
      rw [List.length_eq_zero_iff.1 h0] at hu
      simp at hu
    · refine ⟨⟨g, (i + 1) * 3, none⟩, by rw [if_neg h], fun t u hu => ?_⟩
      rw [Addr.add_lit, World.cell?_drew]
      exact hnc t u hu
  have hspare : ∀ j, j < news.length → (w.drew.cell? ⟨g, 0 + i * 3 + j, none⟩).isSome = true ∧ w.drew.frozen? ⟨g, 0 + i * 3 + j, none⟩ = false := fun j hj => by
    rw [Nat.zero_add, World.cell?_drew, World.frozen?_drew]
    exact ⟨hsome _ (by omega), hF _⟩
  have hone : ∀ u ∈ news, u.oneCell' = true := by rw [hnews]; exact cells_one _
  obtain ⟨i0, hi0, -, hz1, -⟩ := info_parts infoMem
  have HSRC := Lib.hid hsrc
  have HSP := Lib.hid hspare
  have HONE := Lib.hid hone
  have HNL := Lib.hid hnl
  have HW1 := Lib.hid hW1
  have HR := Lib.hid (And.intro hrows hfr)
  have hic : i ≤ cap := by omega
  have hlo : ms.length - (ms.length - 1) = 1 := by omega
  have hi1 : (0 : Int) ≤ (i : Int) + 1 := by omega
  have hi2 : (i : Int) + 1 ≤ (ms.length : Int) := by omega
  have hjc : i + 1 ≤ cap := by omega
  have hlast : i + (ms.length - (i + 1)) = ms.length - 1 := by omega
  clear hsrc hspare hone hnl hW1 hrows hfr hcell hsome hnc hnews hin1 hout1 hsome1 hW2 hF
  go_enter Try.func103, Try.ntmps103
  go_wp2_with fail
  go_region_law (refine step_append_room rfl (.tmp 22) (.tmp 25) _ rfl 38 i0 3 Try.underlying25 hi0 hz1 g 0 i cap (by simp [Act.eval, Act.put]) A (ms.length - (i + 1)) (cap - (i + 1)) news (by simp [Act.eval, Act.put]) HNL.out HSRC.out HONE.out (by omega) HSP.out ?_; rw [Nat.zero_add, ← HW1.out])
  go_wp2_with fail
  go_ret
  exact ⟨⟨rfl, HR.out.1⟩, HR.out.2⟩

set_option maxRecDepth 100000 in
set_option maxHeartbeats 1000000 in
theorem Equal_any (A B : Option Addr) (c d : Nat) (ms ns : List Mem) (w : World) (hA : RowsAt w w.heap.size 3 A (ms.map Mem.cells)) (hB : RowsAt w w.heap.size 3 B (ns.map Mem.cells)) (hl : ms.length ≤ 1000000) (hl' : ns.length ≤ 1000000) :
    Calls Try.prog 70 #[.slice A ms.length c, .slice B ns.length d] w fun e w' => e = .returned (.bool (decide (ms = ns))) ∧ Below w.heap.size w w' := by
  have HA := Lib.hid hA
  have HB := Lib.hid hB
  clear hA hB
  by_cases hlen : ms.length = ns.length
  · have t : ((ms.length : Int) != (ns.length : Int)) = false := by simp [hlen]
    have HL := Lib.hid hlen
    have hle : ms.length ≤ ns.length := by omega
    clear hlen
    go_enter Try.func70, Try.ntmps70
    go_wp2_with fail
    go_loopg [13] ms.length (fun gk s13 wr => ∃ k : Nat, k ≤ ms.length ∧ gk = ms.length - k ∧ s13 = .int .i64 k ∧ ms.take k = ns.take k ∧ Below w.heap.size w wr)
    case atStart => exact ⟨0, by omega, rfl, rfl, rfl, Below.refl _ _⟩
    case round =>
      obtain ⟨k, hk, rfl, rfl, htk, hb⟩ := hrel
      have HT := Lib.hid htk
      have HBL := Lib.hid hb
      clear htk hb
      by_cases hlt : k < ms.length
      · obtain ⟨b, off, rfl, hbb, c0, c1, c2⟩ := mem_cells HA.out hlt
        have c0 := (HBL.out.cell (p := ⟨b, off + k * 3, none⟩) hbb).trans c0
        have c1 := (HBL.out.cell (p := ⟨b, off + k * 3 + 1, none⟩) hbb).trans c1
        have c2 := (HBL.out.cell (p := ⟨b, off + k * 3 + 2, none⟩) hbb).trans c2
        obtain ⟨b', off', rfl, hbb', d0, d1, d2⟩ := mem_cells HB.out (k := k) (by omega)
        have d0 := (HBL.out.cell (p := ⟨b', off' + k * 3, none⟩) hbb').trans d0
        have d1 := (HBL.out.cell (p := ⟨b', off' + k * 3 + 1, none⟩) hbb').trans d1
        have d2 := (HBL.out.cell (p := ⟨b', off' + k * 3 + 2, none⟩) hbb').trans d2
        have hk0 : (0 : Int) ≤ (k : Int) := by omega
        have hk1 : (k : Int) < (ms.length : Int) := by omega
        have hk2 : (k : Int) < (ns.length : Int) := by omega
        have hT1 : Hid (ms.take (k + 1) = ms.take k ++ [ms[k]]) := Lib.hid (List.take_succ_eq_append_getElem hlt)
        have hT2 : Hid (ns.take (k + 1) = ns.take k ++ [ns[k]'(by omega)]) := Lib.hid (List.take_succ_eq_append_getElem (by omega))
        have hne : Hid (ms[k] ≠ ns[k]'(by omega) → ms ≠ ns) := Lib.hid (fun h e => h (by subst e; rfl))
        generalize ms[k] = m at *
        generalize ns[k]'(by omega) = m' at *
        have hq := fun w => neqMem w m m'
        by_cases hmm : m = m'
        · have t : decide (m = m') = true := by simp [hmm]
          have HM := Lib.hid hmm
          clear hmm
          go_wp2_with fail
          go_quiet (fail)
          go_wp2_with fail
          go_roundg (ms.length - (k + 1))
          case measure => omega
          case rel => exact ⟨k + 1, by omega, rfl, by go_num, by rw [hT1.out, hT2.out, HT.out, HM.out], below_drewN HBL.out _⟩
        · have t : decide (m = m') = false := by simp [hmm]
          have HE := Lib.hid (decide_eq_false (hne.out hmm))
          clear hmm
          go_wp2_with fail
          go_quiet (fail)
          go_wp2_with fail
          go_ret
          exact ⟨ret_bool HE.out.symm, below_drewN HBL.out _⟩
      · have htt : ms = ns := by
          have := HT.out
          rwa [List.take_of_length_le (by omega), List.take_of_length_le (by have := HL.out; omega)] at this
        have HE := Lib.hid (decide_eq_true htt)
        clear htt
        go_wp2_with fail
        go_ret
        exact ⟨ret_bool HE.out.symm, HBL.out⟩
  · have t : ((ms.length : Int) != (ns.length : Int)) = true := by simp; omega
    have HE := Lib.hid (decide_eq_false (p := ms = ns) (fun e => hlen (by rw [e])))
    clear hlen
    go_enter Try.func70, Try.ntmps70
    go_wp2_with fail
    go_ret
    exact ⟨ret_bool HE.out.symm, Below.refl _ _⟩
end View
end Go.Proofs.Ytidhblpcaccchaa
