/- Trees: append. No program is named here. -/
import Derived.Test.YtafcbipmmjegcaaVm5
namespace Go.Proofs.Ytafcbipmmjegcaa.Vm
open Go Go.RowKit

section
variable {P : Program} {M : Pm} {w : World}
theorem run_append_row (t tx ty e tr : TypeId) (i : TypeInfo) (ht : P.underlying t = some (.slice e)) (hi : P.info? e = some i) (g n cap : Nat) (C : Array Value) (hg : Hc w g C tr) (x : Value) (m : Nat) (news : List Value) (hs : Src P i.size tx x m news w)
    (hroom : n + m ≤ cap) (hfit : n * i.size + news.length ≤ C.size) :
    (Builtin.append_ #[t, tx] ty #[.slice (some ⟨g, 0, none⟩) n cap, x]).run P w = .ok (.slice (some ⟨g, 0, none⟩) (n + m) cap) (w.setRow g (C.toList.take (n * i.size) ++ news ++ C.toList.drop (n * i.size + news.length)).toArray) := by
  have hst := run_storeCells_z P g (n * i.size) tr news 0 C w hg (by simpa using hfit) hs.one
  simp only [Nat.add_zero] at hst
  rcases hs.kind with ⟨e', hk⟩ | hk <;> simp [Builtin.append_, run_underlying ht, run_underlying hk, sizeOf, typeInfo, hi, hs.len, hroom, hs.cells, Addr.add_lit, hst]

theorem relL_flat_bytes : ∀ (l : List UInt8), RelL M ((l.map fun c => T.v (.int .u8 c.toNat)).flatMap elCells) (l.map fun b => Value.int .u8 b.toNat)
  | [] => by simp only [List.map_nil, List.flatMap_nil, RelL]
  | c :: l => by
    simp only [List.map_cons, List.flatMap_cons, elCells, List.cons_append, List.nil_append, RelL]
    exact ⟨_, _, rfl, by simp only [Rel], relL_flat_bytes l⟩
theorem src_of {ob : Obs} {gl : Glb} {t : TypeId} {y : T} {v : Value} {k : Nat} {ys : List T} (hr : HRel M ob gl w) (hsrc : srcT P t y = true) (hsl : slOf k y = some ys) (r : Rel M y v) :
    El elCells k ys ∧ ∃ news, Src P k t v ys.length news w ∧ RelL M (ys.flatMap elCells) news := by
  have slice : ∀ (es : List T) (A : Option Addr) (cap : Nat), (∃ e', P.underlying t = some (.slice e')) → Hdr A es.length cap → El elCells k es → (∀ b o, A = some ⟨b, o, none⟩ → RelE M k b es o) → v = .slice A es.length cap →
      El elCells k es ∧ ∃ news, Src P k t v es.length news w ∧ RelL M (es.flatMap elCells) news := by
    rintro es A cap ⟨e', hu⟩ ⟨d1, d2, d3, d4⟩ hl hre rfl
    refine ⟨hl, ?_⟩
    cases A with
    | none =>
      have hn : es = [] := List.eq_nil_of_length_eq_zero (d3 rfl).1
      subst hn
      exact ⟨[], Src.ofNil w hu _, by simp only [List.flatMap_nil, RelL]⟩
    | some a =>
      rcases Nat.eq_zero_or_pos cap with hc | hc
      · have hn : es = [] := List.eq_nil_of_length_eq_zero (by omega)
        subst hn
        exact ⟨[], Src.ofSlice w hu _ _ _ [] (by simp) (by simp) (by simp), by simp only [List.flatMap_nil, RelL]⟩
      have := d4 a rfl hc
      obtain ⟨b, o, sp⟩ := a
      simp only at this
      subst this
      obtain ⟨us, h1, h2, h3⟩ := relE_list hl (hre b o rfl)
      exact ⟨us, Src.ofSlice w hu _ _ _ _ h2 (fun j u hu' => by rw [Addr.add_mid]; exact (hr.promise _ _ _ (h3 j u hu')).1) (fun u hu' => by
        obtain ⟨j, hj⟩ := List.getElem?_of_mem hu'
        exact (hr.promise _ _ _ (h3 j u hj)).2), h1⟩
  have hsl' : (∀ z, y ≠ .v (.string z)) → ∃ e', P.underlying t = some (.slice e') := fun hne => by
    unfold srcT at hsrc
    split at hsrc
    · exact absurd rfl (hne _)
    · cases hsrc
    · exact ⟨_, by assumption⟩
    · cases hsrc
  unfold slOf at hsl
  split at hsl
  · split at hsl
    · rename_i k' es hk
      injection hsl with hsl
      subst hsl hk
      simp only [Rel] at r
      obtain ⟨A, cap, e1, hd, hl, hr'⟩ := r
      exact slice _ A cap (hsl' (fun z e => by cases e)) hd hl hr' e1
    · cases hsl
  · split at hsl
    · rename_i k' i es x hk
      injection hsl with hsl
      subst hsl hk
      simp only [Rel] at r
      obtain ⟨e0, A, cap, e1, hd, hl, hr'⟩ := r
      exact slice _ A cap (hsl' (fun z e => by cases e)) hd hl hr' (e0.trans e1)
    · cases hsl
  · injection hsl with hsl
    subst hsl
    simp only [Rel] at r
    exact slice [] none 0 (hsl' (fun z e => by cases e)) ⟨Nat.le_refl _, by omega, fun _ => ⟨rfl, rfl⟩, fun a e => by cases e⟩ (fun e he => by simp at he) (fun b o e => by cases e) r
  · split at hsl
    · rename_i z hk
      injection hsl with hsl
      subst hsl hk
      simp only [Rel] at r
      subst r
      have hu : P.underlying t = some .string := by
        unfold srcT at hsrc
        split at hsrc
        · assumption
        · cases hsrc
        · rename_i h1 _ _; rename_i h2; exact absurd rfl (h2 _)
        · cases hsrc
      refine ⟨fun e he => by
        obtain ⟨c, _, rfl⟩ := List.mem_map.1 he
        rfl, byteCells z, ?_, relL_flat_bytes _⟩
      have := Src.ofString (P := P) w hu z
      rwa [show (z.data.toList.map fun c => T.v (.int .u8 c.toNat)).length = z.size from by simp]
    · cases hsl
  · cases hsl

/-- what an append leaves -/
structure Out (M : Pm) (w : World) (k : Nat) (e : TypeId) (i : Nat) (es : List T) (x x' : Value) (w' : World) (M' : Pm) : Prop where
  le : M.le M'
  rel : Rel M' (.slx k i es x') x'
  ob : ObRel M' w' (0, .room k e es.length x')
  hp : ∀ b o v, M' b o = some v → w'.cell? ⟨b, o, none⟩ = some v ∧ v.oneCell' = true
  hk : ∀ b, b < w.heap.size → x.ownBlock ≠ some b → w'.heap[b]? = w.heap[b]?
  hm : ∀ b, b < w.heap.size → x.ownBlock ≠ some b → ∀ o, M' b o = M b o
  hb : ∀ b, x'.ownBlock = some b → x.ownBlock = some b ∨ w.heap.size ≤ b
  os : w'.os = w.os
  tape : w'.tape = w.tape
  out : w'.output = w.output
  size : w.heap.size ≤ w'.heap.size
theorem append_run {ob : Obs} {gl : Glb} {t tx ty e : TypeId} {i : TypeInfo} {z : Value} {k n : Nat} {es ys : List T} {x v : Value} {news : List Value} (hr : HRel M ob gl w) (j : Nat)
    (ht : P.underlying t = some (.slice e)) (hi : P.info? e = some i) (hz : i.zero = some z) (hs : i.size = k) (hzk : z.cells.size = k) (hk : 0 < k)
    (hx : Rel M (.slx k j es x) x) (ho : ObRel M w (0, .room k e n x)) (hn : n = es.length) (hsrc : Src P k tx v ys.length news w) (hl : El elCells k ys) (hrel : RelL M (ys.flatMap elCells) news) (hf : Fits (es.length + ys.length) i.bytes) :
    ∃ x' w' M', (Builtin.append_ #[t, tx] ty #[x, v]).run P w = .ok x' w' ∧ Out M w k e j (es ++ ys) x x' w' M' := by
  subst hs hn
  obtain ⟨hf1, hf2⟩ := hf
  simp only [Rel] at hx
  obtain ⟨-, A, cap, ex, ⟨d1, d2, d3, d4⟩, hle, hre⟩ := hx
  have hnl := hsrc.newsLen
  have hone := hsrc.one
  have hlen : (es ++ ys).length = es.length + ys.length := List.length_append
  have hel : El elCells i.size (es ++ ys) := fun e he => by exact (List.mem_append.1 he).elim (hle e) (hl e)
  -- a new row
  have grown : ∀ (olds : List Value) (base : Option Addr), x = .slice base es.length cap → cap < es.length + ys.length → olds.length = es.length * i.size → RelL M (es.flatMap elCells) olds → (∀ u ∈ olds, u.oneCell' = true) →
      ((Builtin.firstCells i.size es.length (.slice base es.length cap)).run P w.drew = .ok olds.toArray w.drew) →
      ∃ x' w' M', (Builtin.append_ #[t, tx] ty #[x, v]).run P w = .ok x' w' ∧ Out M w i.size e j (es ++ ys) x x' w' M' := by
    intro olds base e0 hc hol hor ho1 hold
    have hmax : es.length + ys.length ≤ 9223372036854775807 := by unfold maxLen at hf2; omega
    have hrun := run_append_grow_src (P := P) w t tx ty e i z ht hi hz base es.length cap olds hold v ys.length news hsrc hc (by omega) (growslice_fits hc hf1)
    rw [← e0] at hrun
    have hge := grownCap_ge w (es.length + ys.length) cap e
    have hcm : grownCap w (es.length + ys.length) cap e ≤ maxLen := grownCap_le_maxLen w (es.length + ys.length) cap e hf2
    generalize grownCap w (es.length + ys.length) cap e = nc at *
    generalize hC : (olds ++ news).toArray ++ Builtin.zeroCells z.cells (nc - (es.length + ys.length)) = C at hrun
    have hCs : C.size = nc * i.size := by
      rw [← hC]
      simp only [Array.size_append, List.size_toArray, List.length_append, size_zeroCells, hzk, hol, hnl, ← Nat.add_mul]
      congr 1
      omega
    have hCg : ∀ (q : Nat) (u : Value), (olds ++ news)[q]? = some u → C[q]? = some u := fun q u hu => by
      have hq : q < (olds ++ news).length := (List.getElem?_eq_some_iff.1 hu).1
      rw [← hC, Array.getElem?_append_left (by simpa using hq)]
      simpa using hu
    have hlt : (olds ++ news).length = (es.length + ys.length) * i.size := by rw [List.length_append, hol, hnl, Nat.add_mul]
    have hsz : w.drew.heap.size = w.heap.size := rfl
    have hnew : Hc (w.drew.alloc (.cells C e)) w.heap.size C e := .of (heap_alloc_new w.drew _)
    have hold' : ∀ b, b < w.heap.size → (w.drew.alloc (.cells C e)).heap[b]? = w.heap[b]? := fun b hb => heap_new w.drew _ hb
    have hM : (M).le (fun b o => if b = w.heap.size then (olds ++ news)[o]? else M b o) := fun b o u hu => by
      have hb : b ≠ w.heap.size := fun e => by rw [e, no_promise hr.promise (Nat.le_refl _)] at hu; cases hu
      dsimp only; rw [if_neg hb]; exact hu
    refine ⟨_, _, fun b o => if b = w.heap.size then (olds ++ news)[o]? else M b o, hrun, ⟨hM, ?_, ?_, ?_, ?_, ?_, ?_, rfl, rfl, rfl, by simp⟩⟩
    · simp only [Rel]
      refine ⟨trivial, some ⟨w.heap.size, 0, none⟩, nc, by rw [hlen], ⟨by rw [hlen]; exact hge, hcm, (fun e => by cases e), fun a e _ => by injection e with e; rw [← e]⟩, hel, fun b o e => ?_⟩
      injection e with e
      injection e with e1 e2
      subst e1 e2
      refine relE_of_list hel (us := olds ++ news) ?_ (fun q u hu => by simp only [if_pos, Nat.zero_add]; exact hu)
      rw [List.flatMap_append]
      exact (hor.mono hM _ _).append (hrel.mono hM _ _)
    · refine .inr ⟨w.heap.size, nc, C, e, by rw [hlen], hnew, by rw [hlen]; exact hge, hcm, hCs, fun q hq => ?_⟩
      dsimp only
      rw [if_pos rfl]
      rw [hlen, ← hlt] at hq
      exact List.getElem?_eq_none hq
    · intro b o u hu
      by_cases hb : b = w.heap.size
      · subst hb
        rw [if_pos rfl] at hu
        refine ⟨by rw [hnew.cell]; exact hCg o u hu, ?_⟩
        rcases List.mem_append.1 (List.mem_of_getElem? hu) with h | h
        · exact ho1 u h
        · exact hone u h
      · rw [if_neg hb] at hu
        have h1 := hr.promise b o u hu
        exact ⟨(cell_of_heap (hold' b (by have := World.block_lt_of_cell? w _ h1.1; exact this)) o).trans h1.1, h1.2⟩
    · exact fun b hb _ => hold' b hb
    · exact fun b hb _ o => if_neg (by omega)
    · exact fun b hb => by simp only [Value.ownBlock, Option.some.injEq] at hb; right; omega
  rcases ho with ⟨rfl, h0⟩ | ⟨g, cap', C, tr, e1, hg, g1, g2, g3, g4⟩
  · -- nil
    injection ex with a1 a2 a3
    subst a1 a3
    have hes : es = [] := List.eq_nil_of_length_eq_zero h0
    subst hes
    by_cases hm : ys.length = 0
    · have hys : ys = [] := List.eq_nil_of_length_eq_zero hm
      subst hys
      have hnn : news = [] := List.eq_nil_of_length_eq_zero (by simpa using hnl)
      subst hnn
      refine ⟨_, w, M, run_append_nothing w t tx ty e i ht hi none 0 0 (Nat.le_refl _) v hsrc, ⟨Pm.le_refl _, ?_, .inl ⟨rfl, rfl⟩, hr.promise, fun _ _ _ => rfl, fun _ _ _ _ => rfl, fun b hb => by simp [Value.ownBlock] at hb, rfl, rfl, rfl, Nat.le_refl _⟩⟩
      simp only [Rel]
      exact ⟨trivial, none, 0, rfl, ⟨Nat.le_refl _, by omega, fun _ => ⟨rfl, rfl⟩, fun a e => by cases e⟩, fun e he => by simp at he, fun b o e => by cases e⟩
    · exact grown [] none rfl (by simp; omega) (by simp) (by simp only [List.flatMap_nil, RelL]) (by simp) (by simp [run_firstCells_none])
  · -- a row
    have e2 := ex.symm.trans e1
    injection e2 with a1 a2 a3
    subst a1 a3
    obtain ⟨olds, b1, b2, b3⟩ := relE_list hle (hre g 0 rfl)
    simp only [Nat.zero_add] at b3
    have bc : ∀ (q : Nat) (u : Value), olds[q]? = some u → C[q]? = some u := fun q u hu => by
      have := (hr.promise _ _ _ (b3 q u hu)).1
      rwa [hg.cell] at this
    have b1' : ∀ u ∈ olds, u.oneCell' = true := fun u hu => by
      obtain ⟨q, hq⟩ := List.getElem?_of_mem hu
      exact (hr.promise _ _ _ (b3 q u hq)).2
    by_cases hroom : es.length + ys.length ≤ cap
    · have hfit : es.length * i.size + news.length ≤ C.size := by
        rw [hnl, g3, ← Nat.add_mul]
        exact Nat.mul_le_mul_right _ hroom
      have hrun := run_append_row (P := P) t tx ty e tr i ht hi g es.length cap C hg v ys.length news hsrc hroom hfit
      rw [← e1] at hrun
      generalize hC' : C.toList.take (es.length * i.size) ++ news ++ C.toList.drop (es.length * i.size + news.length) = L at hrun
      have hgl : g < w.heap.size := hg.lt
      have hoth : ∀ b, b ≠ g → (w.setRow g L.toArray).heap[b]? = w.heap[b]? := fun b hb => setRow_other w g b L.toArray hb
      have htl : (C.toList.take (es.length * i.size)).length = es.length * i.size := by simp; omega
      have hL1 : ∀ q, q < es.length * i.size → L[q]? = C[q]? := fun q hq => by
        rw [← hC', List.append_assoc, List.getElem?_append_left (by omega), List.getElem?_take, if_pos hq, Array.getElem?_toList]
      have hL2 : ∀ (q : Nat) (u : Value), news[q]? = some u → L[es.length * i.size + q]? = some u := fun q u hu => by
        have hq : q < news.length := (List.getElem?_eq_some_iff.1 hu).1
        rw [← hC', List.append_assoc, List.getElem?_append_right (by omega), htl, Nat.add_sub_cancel_left, List.getElem?_append_left hq]
        exact hu
      have hLs : L.length = C.size := by rw [← hC']; simp; omega
      have hnew : Hc (w.setRow g L.toArray) g L.toArray tr := hg.setRow (by simpa using hLs)
      have hM : M.le (fun b o => if b = g ∧ es.length * i.size ≤ o then news[o - es.length * i.size]? else M b o) := fun b o u hu => by
        by_cases hc : b = g ∧ es.length * i.size ≤ o
        · rw [hc.1, g4 o hc.2] at hu; cases hu
        · dsimp only; rw [if_neg hc]; exact hu
      refine ⟨_, _, fun b o => if b = g ∧ es.length * i.size ≤ o then news[o - es.length * i.size]? else M b o, hrun, ⟨hM, ?_, ?_, ?_, ?_, ?_, ?_, rfl, rfl, rfl, by simp [World.setRow]⟩⟩
      · simp only [Rel]
        refine ⟨trivial, some ⟨g, 0, none⟩, cap, by rw [hlen], ⟨by rw [hlen]; exact hroom, d2, (fun e => by cases e), fun a e _ => by injection e with e; rw [← e]⟩, hel, fun b o e => ?_⟩
        injection e with e
        injection e with e1 e2
        subst e1 e2
        refine relE_append (RelE.mono hM _ _ _ _ (hre g 0 rfl)) ?_
        refine relE_of_list hl (us := news) (hrel.mono hM _ _) fun q u hu => ?_
        simp only [Nat.zero_add]
        rw [if_pos ⟨trivial, by omega⟩, Nat.add_sub_cancel_left]
        exact hu
      · refine .inr ⟨g, cap, L.toArray, tr, by rw [hlen], hnew, by rw [hlen]; exact hroom, g2, by simp [hLs, g3], fun q hq => ?_⟩
        have h1 : es.length * i.size + ys.length * i.size ≤ q := by rw [← Nat.add_mul, ← hlen]; exact hq
        dsimp only
        rw [if_pos ⟨rfl, by omega⟩]
        exact List.getElem?_eq_none (by omega)
      · intro b o u hu
        by_cases hc : b = g ∧ es.length * i.size ≤ o
        · rw [if_pos hc] at hu
          obtain ⟨rfl, hc⟩ := hc
          refine ⟨?_, hone u (List.mem_of_getElem? hu)⟩
          rw [hnew.cell]
          have := hL2 _ u hu
          rw [show es.length * i.size + (o - es.length * i.size) = o from by omega] at this
          simpa using this
        · rw [if_neg hc] at hu
          have h1 := hr.promise b o u hu
          refine ⟨?_, h1.2⟩
          by_cases hb : b = g
          · subst hb
            have ho : o < es.length * i.size := by omega
            have h2 := h1.1
            rw [hg.cell] at h2
            rw [hnew.cell]
            have := hL1 o ho
            rw [h2] at this
            simpa using this
          · exact (cell_of_heap (hoth b hb) o).trans h1.1
      · exact fun b _ hne => hoth b (fun e => hne (by rw [e1, e]; rfl))
      · exact fun b _ hne o => if_neg (fun h => hne (by rw [e1, h.1]; rfl))
      · exact fun b hb => .inl (by rw [e1]; exact hb)
    · exact grown olds (some ⟨g, 0, none⟩) e1 (by omega) b2 b1 b1' (run_firstCells_some (P := P) w.drew i.size es.length ⟨g, 0, none⟩ es.length cap olds b2 (fun q u hu => by rw [Addr.add_mid]; exact (hr.promise _ _ _ (by simpa using b3 q u hu)).1))
end
end Go.Proofs.Ytafcbipmmjegcaa.Vm
