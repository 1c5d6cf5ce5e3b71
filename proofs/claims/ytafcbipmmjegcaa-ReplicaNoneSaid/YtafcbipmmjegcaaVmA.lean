/- Trees: arrays that may be written (append, clear); freezing. No program is named here. -/
import Derived.Test.YtafcbipmmjegcaaVm8
namespace Go.Proofs.Ytafcbipmmjegcaa.Vm
open Go Go.RowKit

section
variable {P : Program} {Γ : Ctx} {s : S} {a : Act} {w : World} {o : Oper} {h : Hint} {M : Pm} {K : S → Prop} {Q : Exit → Act → World → Prop}
theorem srcM_src {k : Nat} {t : TypeId} {y : T} {v : Value} {K : Nat → List T → Prop} (hr : HRel M s.ob s.gl w) (hsrc : srcT P t y = true) (H : srcM s k y K) (r : Rel M y v) :
    ∃ m us news, K m us ∧ Src P k t v m news w ∧ RelL M us news ∧ us.length = m * k := by
  have hsl : (∀ z, y ≠ .v (.string z)) → ∃ e', P.underlying t = some (.slice e') := fun hne => by
    unfold srcT at hsrc
    split at hsrc
    · exact absurd rfl (hne _)
    · cases hsrc
    · exact ⟨_, by assumption⟩
    · cases hsrc
  unfold srcM at H
  split at H
  · rename_i j b off n cap
    obtain ⟨e', hu⟩ := hsl (fun z e => by cases e)
    simp only [Rel] at r
    obtain ⟨rfl, hn, hc⟩ := r
    split at H
    rotate_left
    · exact H.elim
    rename_i b' cs hob
    obtain ⟨rfl, ⟨hlen, hone⟩, H⟩ := H
    obtain ⟨C, ty, hh, hC, hM⟩ := hr.objs _ _ hob
    have hus := (hC.drop off).take (n * k)
    have hl : ((C.toList.drop off).take (n * k)).length = n * k := by
      have := hC.len
      rw [List.length_take, List.length_drop, this]; omega
    refine ⟨_, _, (C.toList.drop off).take (n * k), H, Src.ofSlice w hu _ _ _ _ hl (fun q u hu' => ?_) (relL_one hone hus), hus, hus.len.symm.trans hl⟩
    rw [Addr.add_mid, hh.cell]
    rw [List.getElem?_take] at hu'
    split at hu'
    · rw [List.getElem?_drop] at hu'
      simpa using hu'
    · cases hu'
  · obtain ⟨e', hu⟩ := hsl (fun z e => by cases e)
    simp only [Rel] at r
    obtain ⟨A, rfl⟩ := r
    refine ⟨_, _, [], H, ?_, by simp only [RelL], by simp⟩
    cases A with
    | none => exact Src.ofNil w hu 0
    | some ad => exact Src.ofSlice w hu _ _ _ [] (by simp) (by simp) (by simp)
  · split at H
    rotate_left
    · exact H.elim
    rename_i ys hys
    obtain ⟨hl, news, hS, hrel⟩ := src_of hr hsrc hys r
    exact ⟨_, _, news, H, hS, hrel, by rw [← hrel.len]; exact hS.newsLen⟩
theorem run_append_at (t tx ty e : TypeId) (i : TypeInfo) (ht : P.underlying t = some (.slice e)) (hi : P.info? e = some i) (g off n cap : Nat) (C : Array Value) (et : TypeId) (hg : Hc w g C et) (x : Value) (m : Nat) (news : List Value) (hs : Src P i.size tx x m news w)
    (hroom : n + m ≤ cap) (hfit : off + n * i.size + news.length ≤ C.size) :
    (Builtin.append_ #[t, tx] ty #[.slice (some ⟨g, off, none⟩) n cap, x]).run P w = .ok (.slice (some ⟨g, off, none⟩) (n + m) cap) (w.setRow g (C.toList.take (off + n * i.size) ++ news ++ C.toList.drop (off + n * i.size + news.length)).toArray) := by
  have hst := run_storeCells_z P g (off + n * i.size) et news 0 C w hg (by simpa using hfit) hs.one
  simp only [Nat.add_zero] at hst
  rcases hs.kind with ⟨e', hk⟩ | hk <;> simp [Builtin.append_, run_underlying ht, run_underlying hk, sizeOf, typeInfo, hi, hs.len, hroom, hs.cells, Addr.add_mid, hst]
theorem relL_und (n : Nat) : ∀ (ys : List Value), ys.length = n → RelL M (List.replicate n .und) ys := fun ys hl => RelL.of_get (by simp [hl]) fun i t y h1 _ => by
  rw [List.getElem?_replicate] at h1
  split at h1
  · injection h1 with h1; subst h1; simp only [Rel]
  · cases h1
theorem St.drew (hs : St Γ M s a w) : St Γ M s a w.drew := ⟨hs.df, hs.fr, hs.hp.still fun _ _ => rfl, ⟨hs.gr.more, hs.gr.only, hs.gr.fr.drew, hs.gr.own⟩⟩
theorem newArr_sound {t tx ty e : TypeId} {i : TypeInfo} {z : Value} {k n cap m : Nat} {os us : List T} {x v : Value} {olds news : List Value} {A : Option Addr} {d : Option Tmp} (hs : St Γ M s a w)
    (ht : P.underlying t = some (.slice e)) (hi : P.info? e = some i) (hz : i.zero = some z) (hsz : i.size = k) (hzk : z.cells.size = k) (hx : x = .slice A n cap) (hold : (Builtin.firstCells i.size n (.slice A n cap)).run P w.drew = .ok olds.toArray w.drew) (horel : RelL M os olds)
    (hsrc : Src P k tx v m news w) (hrel : RelL M us news) (hm : cap < n + m) (hf : Fits (n + m) i.bytes) (H : newArr s d k (n + m) (os ++ us) K) :
    ∃ x' w', (Builtin.append_ #[t, tx] ty #[x, v]).run P w = .ok x' w' ∧ Post Γ K (a.put d x') w' := by
  subst hx hsz
  obtain ⟨hf1, hf2⟩ := hf
  have hmax : n + m ≤ 9223372036854775807 := by unfold maxLen at hf2; omega
  have hrun := run_append_grow_src (P := P) w t tx ty e i z ht hi hz A n cap olds hold v m news hsrc hm (by omega) (growslice_fits hm hf1)
  have hge := grownCap_ge w (n + m) cap e
  have hcm : grownCap w (n + m) cap e ≤ maxLen := grownCap_le_maxLen w (n + m) cap e (by omega)
  generalize grownCap w (n + m) cap e = nc at *
  have hC : RelL M (os ++ us ++ List.replicate ((nc - (n + m)) * i.size) .und) ((olds ++ news).toArray ++ Builtin.zeroCells z.cells (nc - (n + m))).toList := by
    rw [Array.toList_append]
    exact (horel.append hrel).append (relL_und _ _ (by rw [Array.length_toList, size_zeroCells, hzk]))
  have hnew := hs.drew.newOb ((olds ++ news).toArray ++ Builtin.zeroCells z.cells (nc - (n + m))) e hC d (u := .sa s.ob.length w.heap.size 0 (n + m) nc) (v := .slice (some ⟨w.heap.size, 0, none⟩) (n + m) nc) (by simp only [Rel]; exact ⟨trivial, hge, by unfold maxLen at hcm; omega⟩)
  exact ⟨_, _, hrun, _, M, H w.heap.size nc hge (by unfold maxLen at hcm; omega), hnew⟩
theorem hold0 (A : Option Addr) (k : Nat) : (Builtin.firstCells k 0 (.slice A 0 0)).run P w.drew = .ok ([] : List Value).toArray w.drew := by
  cases A with
  | none => exact run_firstCells_none w.drew _ 0 0 0
  | some ad => exact run_firstCells_some w.drew k 0 ad 0 0 [] (by simp) (by simp)
theorem sAppendM {c : Call} (ho : o.op = .call c) (hc : c.callee = .builtin .append) (H : eAppendM P s o.dst h (c.args.toList.map s.eval) c.argTypes.toList K) (hs : St Γ M s a w) : o.wp P a w (Post Γ K) Q := by
  obtain ⟨callee, ⟨args⟩, ⟨tys⟩⟩ := c
  simp only at hc H
  subst hc
  unfold eAppendM at H
  split at H
  rotate_left
  · exact H.elim
  rename_i ta ty t t' hargs
  match args, hargs with
  | [x, y], hargs =>
  simp only [List.map_cons, List.map_nil, List.cons.injEq, and_true] at hargs
  obtain ⟨rfl, rfl⟩ := hargs
  split at H
  rotate_left
  · exact H.elim
  rename_i e hel
  split at H
  rotate_left
  · exact H.elim
  rename_i k bytes z hk hby hz
  split at H
  rotate_left
  · exact H.elim
  rename_i hcnd
  obtain ⟨hsrc, hk0, hzl⟩ := hcnd
  have hu : P.underlying t = some (.slice e) := by
    unfold elemOfT at hel
    split at hel
    · injection hel with hel; injection hel with h1 h2; cases h1
    · rename_i hu; injection hel with hel; injection hel with h1 h2; subst h2; exact hu
    · cases hel
  unfold sizeT at hk
  unfold bytesT at hby
  simp only [Option.map_eq_some_iff] at hk hby
  obtain ⟨ti, hi, hsz⟩ := hk
  obtain ⟨ti', hi', hby⟩ := hby
  rw [hi] at hi'
  injection hi' with hi'
  subst hi'
  unfold zeroT at hz
  simp only [hi, Option.bind_some, Option.map_eq_some_iff] at hz
  obtain ⟨zv, hzv, rfl⟩ := hz
  have hzk : zv.cells.size = k := by simpa using hzl
  have run : ∀ {x' : Value} {w' : World}, (Builtin.append_ #[t, t'] o.type #[a.eval x, a.eval y]).run P w = .ok x' w' → (execOp a.eval o).run P w = .ok (.value x') w' := fun {x' w'} hrun => by
    unfold execOp
    rw [ho]
    simp [resolve, invoke, builtin, hrun]
  obtain ⟨m, us, news, H, hS, hrel, hlen⟩ : ∃ m us news, toArr s o.dst h (s.eval x) k bytes m us K ∧ Src P k t' (a.eval y) m news w ∧ RelL M us news ∧ us.length = m * k := by
    exact srcM_src (P := P) hs.hp hsrc H (eval_rel hs.fr y)
  have hr := eval_rel hs.fr x
  unfold toArr at H
  split at H
  · rename_i ii b off n cap hx
    rw [hx] at hr
    simp only [Rel] at hr
    obtain ⟨hr, hn, hc⟩ := hr
    split at H
    rotate_left
    · exact H.elim
    rename_i b' cs hob
    obtain ⟨rfl, H1, H2⟩ := H
    obtain ⟨C, et, hh, hC, hM⟩ := hs.hp.objs _ _ hob
    rcases Nat.lt_or_ge cap (n + m) with hroom | hroom
    · obtain ⟨⟨hfit, hone⟩, hf, H⟩ := H2 hroom
      have hus := (hC.drop off).take (n * k)
      have hl : ((C.toList.drop off).take (n * k)).length = n * k := by
        have := hC.len
        rw [List.length_take, List.length_drop, this]; omega
      have hold : (Builtin.firstCells ti.size n (.slice (some ⟨b', off, none⟩) n cap)).run P w.drew = .ok ((C.toList.drop off).take (n * k)).toArray w.drew := run_firstCells_some w.drew ti.size n _ n cap _ (by rw [hl, hsz]) (fun q u hu' => by
        rw [Addr.add_mid]
        have : w.drew.cell? ⟨b', off + q, none⟩ = C[off + q]? := hh.cell _
        rw [this]
        rw [List.getElem?_take] at hu'
        split at hu'
        · rw [List.getElem?_drop] at hu'
          simpa using hu'
        · cases hu')
      obtain ⟨x', w', hrun, hp⟩ := newArr_sound (ty := o.type) hs hu hi hzv hsz hzk hr hold hus hS hrel hroom (by rw [hby]; exact hf) H
      exact wp_of_run (run hrun) hp
    obtain ⟨hfit, H⟩ := H1 hroom
    have H := claimL_some H
    have hnl : news.length = m * k := by rw [← hlen, hrel.len]
    have hcl := hC.len
    have hrun := run_append_at (w := w) (P := P) t t' o.type e ti hu hi b' off n cap C et hh (a.eval y) m news (by rw [hsz]; exact hS) hroom (by rw [hsz, hnl]; simp at hcl; omega)
    rw [hsz] at hrun
    have hset : RelL M (setCells cs (off + n * k) us) (C.toList.take (off + n * k) ++ news ++ C.toList.drop (off + n * k + news.length)) := relL_setCells hC hrel _ _ (by rw [hlen, hnl])
    have hfr : Go.Proofs.Ytafcbipmmjegcaa.Fr (· = b') w (w.setRow b' (C.toList.take (off + n * k) ++ news ++ C.toList.drop (off + n * k + news.length)).toArray) := Fr.setRow (S := (· = b')) (Fr.refl _ _) (.inr rfl) _
    have hst := hs.turned hob (b := b') rfl hM hfr (y := (b', .cells (setCells cs (off + n * k) us))) ⟨_, et, hh.setRow (by have := hnl; simp only [List.size_toArray, List.length_append, List.length_take, List.length_drop, Array.length_toList]; simp at hcl; omega), by simpa using hset, hM⟩ rfl
    refine wp_of_run (run (by rw [hr]; exact hrun)) ⟨_, M, H, hst.put o.dst ?_⟩
    simp only [Rel]
    exact ⟨trivial, hroom, hc⟩
  · rename_i hx
    rw [hx] at hr
    simp only [Rel] at hr
    obtain ⟨A, hr⟩ := hr
    by_cases hm : m = 0
    · have hn0 : news = [] := List.eq_nil_of_length_eq_zero (by rw [hS.newsLen, hm, Nat.zero_mul])
      subst hm hn0
      have hrun := run_append_nothing w t t' o.type e ti hu hi A 0 0 (Nat.le_refl _) (a.eval y) (by rw [hsz]; exact hS)
      exact wp_of_run (run (by rw [hr]; exact hrun)) ⟨_, M, H.1 rfl, hs.put o.dst (by simp only [Rel]; exact ⟨A, rfl⟩)⟩
    · obtain ⟨hf, H⟩ := H.2 hm
      obtain ⟨x', w', hrun, hp⟩ := newArr_sound (os := []) (n := 0) (cap := 0) (ty := o.type) hs hu hi hzv hsz hzk hr (hold0 A _) (by simp only [RelL]) hS hrel (by omega) (by rw [hby, Nat.zero_add]; exact hf) (by rw [Nat.zero_add]; exact H)
      exact wp_of_run (run hrun) hp
  · rename_i hx
    rw [hx] at hr
    simp only [Rel] at hr
    by_cases hm : m = 0
    · have hn0 : news = [] := List.eq_nil_of_length_eq_zero (by rw [hS.newsLen, hm, Nat.zero_mul])
      subst hm hn0
      have hrun := run_append_nothing w t t' o.type e ti hu hi none 0 0 (Nat.le_refl _) (a.eval y) (by rw [hsz]; exact hS)
      have hK := H.1 rfl
      rw [hx] at hK
      exact wp_of_run (run (by rw [hr]; exact hrun)) ⟨_, M, hK, hs.put o.dst (by simp only [Rel])⟩
    · obtain ⟨hf, H⟩ := H.2 hm
      obtain ⟨x', w', hrun, hp⟩ := newArr_sound (os := []) (n := 0) (cap := 0) (ty := o.type) hs hu hi hzv hsz hzk hr (hold0 none _) (by simp only [RelL]) hS hrel (by omega) (by rw [hby, Nat.zero_add]; exact hf) (by rw [Nat.zero_add]; exact H)
      exact wp_of_run (run hrun) hp
  · exact H.elim
theorem zeroCells_rel {z : Value} (n k : Nat) (hk : z.cells.size = k) : RelL M ((List.range (n * k)).map fun j => (z.cells.toList.map T.v).getD (j % k) .und) (Builtin.zeroCells z.cells n).toList := by
  refine RelL.of_get (by simp [size_zeroCells, hk]) fun i t y h1 h2 => ?_
  rw [List.getElem?_map, Option.map_eq_some_iff] at h1
  obtain ⟨j, hj, rfl⟩ := h1
  have hi : i < n * k := by have := (List.getElem?_eq_some_iff.1 hj).1; simpa using this
  rw [List.getElem?_range hi] at hj
  injection hj with hj
  subst hj
  have hk0 : 0 < k := (Nat.eq_zero_or_pos k).elim (fun h => by rw [h] at hi; omega) id
  have hm : i % k < z.cells.size := by rw [hk]; exact Nat.mod_lt _ hk0
  unfold Builtin.zeroCells at h2
  rw [Array.getElem?_toList, Array.getElem?_map, Option.map_eq_some_iff] at h2
  obtain ⟨q, hq, rfl⟩ := h2
  rw [hk] at hq
  have hq' : q = i := by
    have := Array.getElem?_eq_some_iff.1 hq
    obtain ⟨_, h3⟩ := this
    simpa using h3.symm
  subst hq'
  rw [hk]
  have e1 : (z.cells.toList.map T.v).getD (q % k) .und = .v (z.cells[q % k]!) := by
    rw [List.getD_eq_getElem?_getD, List.getElem?_map, Array.getElem?_toList, Array.getElem?_eq_getElem hm]
    simp [hm]
  rw [e1]
  simp only [Rel]
theorem sClearM {c : Call} (ho : o.op = .call c) (hc : c.callee = .builtin .clear) (H : eClearM P s h (c.args.toList.map s.eval) c.argTypes.toList (fun s' => K (s'.put o.dst (.tup [])))) (hs : St Γ M s a w) : o.wp P a w (Post Γ K) Q := by
  obtain ⟨callee, ⟨args⟩, ⟨tys⟩⟩ := c
  simp only at hc H
  subst hc
  unfold eClearM at H
  split at H
  rotate_left
  · exact H.elim
  rename_i i b off n cap t hargs
  have hal : args.length = 1 := by have := congrArg List.length hargs; simpa using this
  match args, hal with
  | [x], _ =>
  simp only [List.map_cons, List.map_nil, List.cons.injEq, and_true] at hargs
  have hr := eval_rel hs.fr x
  rw [hargs] at hr
  simp only [Rel] at hr
  split at H
  rotate_left
  · exact H.elim
  rename_i e hel
  split at H
  rotate_left
  · exact H.elim
  rename_i k z b' cs hk hz hob
  split at H
  rotate_left
  · exact H.elim
  rename_i hzl
  obtain ⟨hzl, hz1⟩ := hzl
  obtain ⟨rfl, hfit, H⟩ := H
  have H := claimL_some H
  have hu : P.underlying t = some (.slice e) := by
    unfold elemOfT at hel
    split at hel
    · injection hel with hel; injection hel with h1 h2; cases h1
    · rename_i hu; injection hel with hel; injection hel with h1 h2; subst h2; exact hu
    · cases hel
  obtain ⟨zv, hzr, _, rfl⟩ := zeroT_run (M := M) hz
  have hzk : zv.cells.size = k := by simpa using hzl
  obtain ⟨C, et, hh, hC, hM⟩ := hs.hp.objs _ _ hob
  have hzc := zeroCells_rel (M := M) n k hzk
  have hzlen : (Builtin.zeroCells zv.cells n).toList.length = n * k := by rw [Array.length_toList, size_zeroCells, hzk]
  have hcl : C.size = cs.length := by have := hC.len; simpa using this
  have hset : RelL M (setCells cs off ((List.range (n * k)).map fun j => (zv.cells.toList.map T.v).getD (j % k) .und)) (C.toList.take off ++ (Builtin.zeroCells zv.cells n).toList ++ C.toList.drop (off + n * k)) := relL_setCells hC hzc _ _ (by simp)
  have hone : ∀ v ∈ (Builtin.zeroCells zv.cells n).toList, v.oneCell' = true := relL_one (by
    rw [List.all_eq_true] at hz1 ⊢
    intro x hx
    obtain ⟨j, hj, rfl⟩ := List.mem_map.1 hx
    have hj' : j < n * k := by simpa using hj
    have hk0 : 0 < k := (Nat.eq_zero_or_pos k).elim (fun h => by rw [h] at hj'; omega) id
    refine hz1 _ ?_
    have hlt : j % k < (zv.cells.toList.map T.v).length := by rw [hzl]; exact Nat.mod_lt _ hk0
    rw [List.getD_eq_getElem?_getD, List.getElem?_eq_getElem hlt]
    exact List.getElem_mem _) hzc
  have hst := run_storeCells_z P b' off et (Builtin.zeroCells zv.cells n).toList 0 C w hh (by rw [hzlen]; omega) hone
  simp only [Nat.add_zero, hzlen] at hst
  have hfr : Go.Proofs.Ytafcbipmmjegcaa.Fr (· = b') w (w.setRow b' (C.toList.take off ++ (Builtin.zeroCells zv.cells n).toList ++ C.toList.drop (off + n * k)).toArray) := Fr.setRow (S := (· = b')) (Fr.refl _ _) (.inr rfl) _
  have hst2 := hs.turned hob (b := b') rfl hM hfr (y := (b', .cells (setCells cs off ((List.range (n * k)).map fun j => (zv.cells.toList.map T.v).getD (j % k) .und)))) ⟨_, et, hh.setRow (by simp only [List.size_toArray, List.length_append, List.length_take, List.length_drop, hzlen]; rw [Array.length_toList]; omega), hset, hM⟩ rfl
  have hrun : (Builtin.clear_ #[t] o.type #[a.eval x]).run P w = .ok (.tuple #[]) (w.setRow b' (C.toList.take off ++ (Builtin.zeroCells zv.cells n).toList ++ C.toList.drop (off + n * k)).toArray) := by
    rw [hr.1]
    rcases Nat.eq_zero_or_pos n with hn | hn
    · have e0 : (Builtin.zeroCells zv.cells n).toList = [] := List.eq_nil_of_length_eq_zero (by rw [hzlen, hn, Nat.zero_mul])
      have e1 : (C.toList.take off ++ (Builtin.zeroCells zv.cells n).toList ++ C.toList.drop (off + n * k)).toArray = C := by rw [e0, hn, Nat.zero_mul, Nat.add_zero, List.append_nil, List.take_append_drop, Array.toArray_toList]
      rw [e1, hh.self, hn]
      simp [Builtin.clear_, run_underlying hu]
    · obtain ⟨n', rfl⟩ : ∃ n', n = n' + 1 := ⟨n - 1, by omega⟩
      simp [Builtin.clear_, run_underlying hu, hzr, hst]
  unfold Oper.wp execOp
  rw [ho]
  simp only [resolve, invoke, builtin, Sem.run_bind, Sem.run_pure, Result.andThen_ok, List.map_toArray, List.map_cons, List.map_nil, hrun]
  exact ⟨_, M, H, hst2.put o.dst (by simp only [Rel, RelL]; exact ⟨_, rfl, rfl⟩)⟩
end
end Go.Proofs.Ytafcbipmmjegcaa.Vm
