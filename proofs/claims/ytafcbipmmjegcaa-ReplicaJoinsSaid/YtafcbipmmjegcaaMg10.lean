/- Texts of this claim: VmA, VmS. -/
import Derived.Test.YtafcbipmmjegcaaMg9
import Derived.Laws.IdiomStrings
import Derived.Laws.MakeOwn
namespace Go.Proofs.Ytafcbipmmjegcaa.Vm
open Go Go.RowKit
section
variable {P : Program} {Γ : Ctx} {s : S} {a : Act} {w : World} {o : Oper} {h : Hint} {M : Pm} {K : S → Prop} {Q : Exit → Act → World → Prop}
theorem srcM_src {k : Nat} {t : TypeId} {y : T} {v : Value} {K : Nat → List T → Prop} (hr : HRel M s.ob s.gl w) (hsrc : srcT P t y = true) (H : srcM s k y K) (r : Rel M y v) :
  ∃ m us news, K m us ∧ Src P k t v m news w ∧ RelL M us news ∧ us.length = m * k := by
 have hsl : (∀ z, y ≠ .v (.string z)) → ∃ e', P.underlying t = some (.slice e') := fun hne => by
  unfold srcT at hsrc
  split at hsrc
  ·exact absurd rfl (hne _)
  ·cases hsrc
  ·exact ⟨_, by assumption⟩
  ·cases hsrc
 unfold srcM at H
 split at H
 ·rename_i j b off n cap
  obtain ⟨e', hu⟩ := hsl (fun z e => by cases e)
  simp only [Rel] at r
  obtain ⟨rfl, hn, hc⟩ := r
  split at H
  rotate_left
  ·exact H.elim
  rename_i b' cs hob
  obtain ⟨rfl, ⟨hlen, hone⟩, H⟩ := H
  obtain ⟨C, ty, hh, hC, hM⟩ := hr.objs _ _ hob
  have hus := (hC.drop off).take (n * k)
  have hl : ((C.toList.drop off).take (n * k)).length = n * k := by
   have := hC.len
   rw [List.length_take, List.length_drop, this]; omega
  refine ⟨_, _, (C.toList.drop off).take (n * k), H, Src.ofSlice w hu _ _ _ _ hl (fun q u hu' => ?_) (relL_one hone hus), hus, hus.len.symm.trans hl⟩
  rw [Addr.add_mid, hh.cell]
  rw [List.getElem?_take] at hu'
  split at hu'
  ·rw [List.getElem?_drop] at hu'
   simpa using hu'
  ·cases hu'
 ·obtain ⟨e', hu⟩ := hsl (fun z e => by cases e)
  simp only [Rel] at r
  obtain ⟨A, rfl⟩ := r
  refine ⟨_, _, [], H, ?_, by simp only [RelL], by simp⟩
  cases A with
  | none => exact Src.ofNil w hu 0
  | some ad => exact Src.ofSlice w hu _ _ _ [] (by simp) (by simp) (by simp)
 ·split at H
  rotate_left
  ·exact H.elim
  rename_i ys hys
  obtain ⟨hl, news, hS, hrel⟩ := src_of hr hsrc hys r
  exact ⟨_, _, news, H, hS, hrel, by rw [← hrel.len]; exact hS.newsLen⟩
theorem run_append_at (t tx ty e : TypeId) (i : TypeInfo) (ht : P.underlying t = some (.slice e)) (hi : P.info? e = some i) (g off n cap : Nat) (C : Array Value) (et : TypeId) (hg : Hc w g C et) (x : Value) (m : Nat) (news : List Value) (hs : Src P i.size tx x m news w)
  (hroom : n + m ≤ cap) (hfit : off + n * i.size + news.length ≤ C.size) :
  (Builtin.append_ #[t, tx] ty #[.slice (some ⟨g, off, none⟩) n cap, x]).run P w = .ok (.slice (some ⟨g, off, none⟩) (n + m) cap) (w.setRow g (C.toList.take (off + n * i.size) ++ news ++ C.toList.drop (off + n * i.size + news.length)).toArray) := by
 have hst := run_storeCells_z P g (off + n * i.size) et news 0 C w hg (by simpa using hfit) hs.one
 simp only [Nat.add_zero] at hst
 rcases hs.kind with ⟨e', hk⟩ | hk <;> simp [Builtin.append_, run_underlying ht, run_underlying hk, sizeOf, typeInfo, hi, hs.len, hroom, hs.cells, Addr.add_mid, hst]
theorem relL_und (n : Nat) : ∀ (ys : List Value), ys.length = n → RelL M (List.replicate n .und) ys := fun ys hl => RelL.of_get (by simp [hl]) fun i t y h1 _ => by
 rw [List.getElem?_replicate] at h1
 split at h1
 ·injection h1 with h1; subst h1; simp only [Rel]
 ·cases h1
theorem St.drew (hs : St Γ M s a w) : St Γ M s a w.drew := ⟨hs.df, hs.fr, hs.hp.still fun _ _ => rfl, ⟨hs.gr.more, hs.gr.only, hs.gr.fr.drew, hs.gr.own⟩⟩
theorem newArr_sound {t tx ty e : TypeId} {i : TypeInfo} {z : Value} {k n cap m : Nat} {os us : List T} {x v : Value} {olds news : List Value} {A : Option Addr} {d : Option Tmp} (hs : St Γ M s a w)
  (ht : P.underlying t = some (.slice e)) (hi : P.info? e = some i) (hz : i.zero = some z) (hsz : i.size = k) (hzk : z.cells.size = k) (hx : x = .slice A n cap) (hold : (Builtin.firstCells i.size n (.slice A n cap)).run P w.drew = .ok olds.toArray w.drew) (horel : RelL M os olds)
  (hsrc : Src P k tx v m news w) (hrel : RelL M us news) (hm : cap < n + m) (hf : Fits (n + m) i.bytes) (H : newArr s d k (n + m) (os ++ us) K) :
  ∃ x' w', (Builtin.append_ #[t, tx] ty #[x, v]).run P w = .ok x' w' ∧ Post Γ K (a.put d x') w' := by
 subst hx hsz
 obtain ⟨hf1, hf2⟩ := hf
 have hmax : n + m ≤ 9223372036854775807 := by unfold maxLen at hf2; omega
 have hrun := run_append_grow_src (P := P) w t tx ty e i z ht hi hz A n cap olds hold v m news hsrc hm (by omega) (growslice_fits hm hf1)
 have hge := grownCap_ge w (n + m) cap e
 have hcm : grownCap w (n + m) cap e ≤ maxLen := grownCap_le_maxLen w (n + m) cap e (by omega)
 generalize grownCap w (n + m) cap e = nc at *
 have hC : RelL M (os ++ us ++ List.replicate ((nc - (n + m)) * i.size) .und) ((olds ++ news).toArray ++ Builtin.zeroCells z.cells (nc - (n + m))).toList := by
  rw [Array.toList_append]
  exact (horel.append hrel).append (relL_und _ _ (by rw [Array.length_toList, size_zeroCells, hzk]))
 have hnew := hs.drew.newOb ((olds ++ news).toArray ++ Builtin.zeroCells z.cells (nc - (n + m))) e hC d (u := .sa s.ob.length w.heap.size 0 (n + m) nc) (v := .slice (some ⟨w.heap.size, 0, none⟩) (n + m) nc) (by simp only [Rel]; exact ⟨trivial, hge, by unfold maxLen at hcm; omega⟩)
 exact ⟨_, _, hrun, _, M, H w.heap.size nc hge (by unfold maxLen at hcm; omega), hnew⟩
theorem hold0 (A : Option Addr) (k : Nat) : (Builtin.firstCells k 0 (.slice A 0 0)).run P w.drew = .ok ([] : List Value).toArray w.drew := by
 cases A with
 | none => exact run_firstCells_none w.drew _ 0 0 0
 | some ad => exact run_firstCells_some w.drew k 0 ad 0 0 [] (by simp) (by simp)
theorem sAppendM {c : Call} (ho : o.op = .call c) (hc : c.callee = .builtin .append) (H : eAppendM P s o.dst h (c.args.toList.map s.eval) c.argTypes.toList K) (hs : St Γ M s a w) : o.wp P a w (Post Γ K) Q := by
 obtain ⟨callee, ⟨args⟩, ⟨tys⟩⟩ := c
 simp only at hc H
 subst hc
 unfold eAppendM at H
 split at H
 rotate_left
 ·exact H.elim
 rename_i ta ty t t' hargs
 match args, hargs with
 | [x, y], hargs =>
 simp only [List.map_cons, List.map_nil, List.cons.injEq, and_true] at hargs
 obtain ⟨rfl, rfl⟩ := hargs
 split at H
 rotate_left
 ·exact H.elim
 rename_i e hel
 split at H
 rotate_left
 ·exact H.elim
 rename_i k bytes z hk hby hz
 split at H
 rotate_left
 ·exact H.elim
 rename_i hcnd
 obtain ⟨hsrc, hk0, hzl⟩ := hcnd
 have hu : P.underlying t = some (.slice e) := by
  unfold elemOfT at hel
  split at hel
  ·injection hel with hel; injection hel with h1 h2; cases h1
  ·rename_i hu; injection hel with hel; injection hel with h1 h2; subst h2; exact hu
  ·cases hel
 unfold sizeT at hk
 unfold bytesT at hby
 simp only [Option.map_eq_some_iff] at hk hby
 obtain ⟨ti, hi, hsz⟩ := hk
 obtain ⟨ti', hi', hby⟩ := hby
 rw [hi] at hi'
 injection hi' with hi'
 subst hi'
 unfold zeroT at hz
 simp only [hi, Option.bind_some, Option.map_eq_some_iff] at hz
 obtain ⟨zv, hzv, rfl⟩ := hz
 have hzk : zv.cells.size = k := by simpa using hzl
 have run : ∀ {x' : Value} {w' : World}, (Builtin.append_ #[t, t'] o.type #[a.eval x, a.eval y]).run P w = .ok x' w' → (execOp a.eval o).run P w = .ok (.value x') w' := fun {x' w'} hrun => by
  unfold execOp
  rw [ho]
  simp [resolve, invoke, builtin, hrun]
 obtain ⟨m, us, news, H, hS, hrel, hlen⟩ : ∃ m us news, toArr s o.dst h (s.eval x) k bytes m us K ∧ Src P k t' (a.eval y) m news w ∧ RelL M us news ∧ us.length = m * k := by
  exact srcM_src (P := P) hs.hp hsrc H (eval_rel hs.fr y)
 have hr := eval_rel hs.fr x
 unfold toArr at H
 split at H
 ·rename_i ii b off n cap hx
  rw [hx] at hr
  simp only [Rel] at hr
  obtain ⟨hr, hn, hc⟩ := hr
  split at H
  rotate_left
  ·exact H.elim
  rename_i b' cs hob
  obtain ⟨rfl, H1, H2⟩ := H
  obtain ⟨C, et, hh, hC, hM⟩ := hs.hp.objs _ _ hob
  rcases Nat.lt_or_ge cap (n + m) with hroom | hroom
  ·obtain ⟨⟨hfit, hone⟩, hf, H⟩ := H2 hroom
   have hus := (hC.drop off).take (n * k)
   have hl : ((C.toList.drop off).take (n * k)).length = n * k := by
    have := hC.len
    rw [List.length_take, List.length_drop, this]; omega
   have hold : (Builtin.firstCells ti.size n (.slice (some ⟨b', off, none⟩) n cap)).run P w.drew = .ok ((C.toList.drop off).take (n * k)).toArray w.drew := run_firstCells_some w.drew ti.size n _ n cap _ (by rw [hl, hsz]) (fun q u hu' => by
    rw [Addr.add_mid]
    have : w.drew.cell? ⟨b', off + q, none⟩ = C[off + q]? := hh.cell _
    rw [this]
    rw [List.getElem?_take] at hu'
    split at hu'
    ·rw [List.getElem?_drop] at hu'
     simpa using hu'
    ·cases hu')
   obtain ⟨x', w', hrun, hp⟩ := newArr_sound (ty := o.type) hs hu hi hzv hsz hzk hr hold hus hS hrel hroom (by rw [hby]; exact hf) H
   exact wp_of_run (run hrun) hp
  obtain ⟨hfit, H⟩ := H1 hroom
  have H := claimL_some H
  have hnl : news.length = m * k := by rw [← hlen, hrel.len]
  have hcl := hC.len
  have hrun := run_append_at (w := w) (P := P) t t' o.type e ti hu hi b' off n cap C et hh (a.eval y) m news (by rw [hsz]; exact hS) hroom (by rw [hsz, hnl]; simp at hcl; omega)
  rw [hsz] at hrun
  have hset : RelL M (setCells cs (off + n * k) us) (C.toList.take (off + n * k) ++ news ++ C.toList.drop (off + n * k + news.length)) := relL_setCells hC hrel _ _ (by rw [hlen, hnl])
  have hfr : Go.Proofs.Ytafcbipmmjegcaa.Fr (· = b') w (w.setRow b' (C.toList.take (off + n * k) ++ news ++ C.toList.drop (off + n * k + news.length)).toArray) := Fr.setRow (S := (· = b')) (Fr.refl _ _) (.inr rfl) _
  have hst := hs.turned hob (b := b') rfl hM hfr (y := (b', .cells (setCells cs (off + n * k) us))) ⟨_, et, hh.setRow (by have := hnl; simp only [List.size_toArray, List.length_append, List.length_take, List.length_drop, Array.length_toList]; simp at hcl; omega), by simpa using hset, hM⟩ rfl
  refine wp_of_run (run (by rw [hr]; exact hrun)) ⟨_, M, H, hst.put o.dst ?_⟩
  simp only [Rel]
  exact ⟨trivial, hroom, hc⟩
 ·rename_i hx
  rw [hx] at hr
  simp only [Rel] at hr
  obtain ⟨A, hr⟩ := hr
  by_cases hm : m = 0
  ·have hn0 : news = [] := List.eq_nil_of_length_eq_zero (by rw [hS.newsLen, hm, Nat.zero_mul])
   subst hm hn0
   have hrun := run_append_nothing w t t' o.type e ti hu hi A 0 0 (Nat.le_refl _) (a.eval y) (by rw [hsz]; exact hS)
   exact wp_of_run (run (by rw [hr]; exact hrun)) ⟨_, M, H.1 rfl, hs.put o.dst (by simp only [Rel]; exact ⟨A, rfl⟩)⟩
  ·obtain ⟨hf, H⟩ := H.2 hm
   obtain ⟨x', w', hrun, hp⟩ := newArr_sound (os := []) (n := 0) (cap := 0) (ty := o.type) hs hu hi hzv hsz hzk hr (hold0 A _) (by simp only [RelL]) hS hrel (by omega) (by rw [hby, Nat.zero_add]; exact hf) (by rw [Nat.zero_add]; exact H)
   exact wp_of_run (run hrun) hp
 ·rename_i hx
  rw [hx] at hr
  simp only [Rel] at hr
  by_cases hm : m = 0
  ·have hn0 : news = [] := List.eq_nil_of_length_eq_zero (by rw [hS.newsLen, hm, Nat.zero_mul])
   subst hm hn0
   have hrun := run_append_nothing w t t' o.type e ti hu hi none 0 0 (Nat.le_refl _) (a.eval y) (by rw [hsz]; exact hS)
   have hK := H.1 rfl
   rw [hx] at hK
   exact wp_of_run (run (by rw [hr]; exact hrun)) ⟨_, M, hK, hs.put o.dst (by simp only [Rel])⟩
  ·obtain ⟨hf, H⟩ := H.2 hm
   obtain ⟨x', w', hrun, hp⟩ := newArr_sound (os := []) (n := 0) (cap := 0) (ty := o.type) hs hu hi hzv hsz hzk hr (hold0 none _) (by simp only [RelL]) hS hrel (by omega) (by rw [hby, Nat.zero_add]; exact hf) (by rw [Nat.zero_add]; exact H)
   exact wp_of_run (run hrun) hp
 ·exact H.elim
theorem zeroCells_rel {z : Value} (n k : Nat) (hk : z.cells.size = k) : RelL M ((List.range (n * k)).map fun j => (z.cells.toList.map T.v).getD (j % k) .und) (Builtin.zeroCells z.cells n).toList := by
 refine RelL.of_get (by simp [size_zeroCells, hk]) fun i t y h1 h2 => ?_
 rw [List.getElem?_map, Option.map_eq_some_iff] at h1
 obtain ⟨j, hj, rfl⟩ := h1
 have hi : i < n * k := by have := (List.getElem?_eq_some_iff.1 hj).1; simpa using this
 rw [List.getElem?_range hi] at hj
 injection hj with hj
 subst hj
 have hk0 : 0 < k := (Nat.eq_zero_or_pos k).elim (fun h => by rw [h] at hi; omega) id
 have hm : i % k < z.cells.size := by rw [hk]; exact Nat.mod_lt _ hk0
 unfold Builtin.zeroCells at h2
 rw [Array.getElem?_toList, Array.getElem?_map, Option.map_eq_some_iff] at h2
 obtain ⟨q, hq, rfl⟩ := h2
 rw [hk] at hq
 have hq' : q = i := by
  have := Array.getElem?_eq_some_iff.1 hq
  obtain ⟨_, h3⟩ := this
  simpa using h3.symm
 subst hq'
 rw [hk]
 have e1 : (z.cells.toList.map T.v).getD (q % k) .und = .v (z.cells[q % k]!) := by
  rw [List.getD_eq_getElem?_getD, List.getElem?_map, Array.getElem?_toList, Array.getElem?_eq_getElem hm]
  simp [hm]
 rw [e1]
 simp only [Rel]
theorem sClearM {c : Call} (ho : o.op = .call c) (hc : c.callee = .builtin .clear) (H : eClearM P s h (c.args.toList.map s.eval) c.argTypes.toList (fun s' => K (s'.put o.dst (.tup [])))) (hs : St Γ M s a w) : o.wp P a w (Post Γ K) Q := by
 obtain ⟨callee, ⟨args⟩, ⟨tys⟩⟩ := c
 simp only at hc H
 subst hc
 unfold eClearM at H
 split at H
 rotate_left
 ·exact H.elim
 rename_i i b off n cap t hargs
 have hal : args.length = 1 := by have := congrArg List.length hargs; simpa using this
 match args, hal with
 | [x], _ =>
 simp only [List.map_cons, List.map_nil, List.cons.injEq, and_true] at hargs
 have hr := eval_rel hs.fr x
 rw [hargs] at hr
 simp only [Rel] at hr
 split at H
 rotate_left
 ·exact H.elim
 rename_i e hel
 split at H
 rotate_left
 ·exact H.elim
 rename_i k z b' cs hk hz hob
 split at H
 rotate_left
 ·exact H.elim
 rename_i hzl
 obtain ⟨hzl, hz1⟩ := hzl
 obtain ⟨rfl, hfit, H⟩ := H
 have H := claimL_some H
 have hu : P.underlying t = some (.slice e) := by
  unfold elemOfT at hel
  split at hel
  ·injection hel with hel; injection hel with h1 h2; cases h1
  ·rename_i hu; injection hel with hel; injection hel with h1 h2; subst h2; exact hu
  ·cases hel
 obtain ⟨zv, hzr, _, rfl⟩ := zeroT_run (M := M) hz
 have hzk : zv.cells.size = k := by simpa using hzl
 obtain ⟨C, et, hh, hC, hM⟩ := hs.hp.objs _ _ hob
 have hzc := zeroCells_rel (M := M) n k hzk
 have hzlen : (Builtin.zeroCells zv.cells n).toList.length = n * k := by rw [Array.length_toList, size_zeroCells, hzk]
 have hcl : C.size = cs.length := by have := hC.len; simpa using this
 have hset : RelL M (setCells cs off ((List.range (n * k)).map fun j => (zv.cells.toList.map T.v).getD (j % k) .und)) (C.toList.take off ++ (Builtin.zeroCells zv.cells n).toList ++ C.toList.drop (off + n * k)) := relL_setCells hC hzc _ _ (by simp)
 have hone : ∀ v ∈ (Builtin.zeroCells zv.cells n).toList, v.oneCell' = true := relL_one (by
  rw [List.all_eq_true] at hz1 ⊢
  intro x hx
  obtain ⟨j, hj, rfl⟩ := List.mem_map.1 hx
  have hj' : j < n * k := by simpa using hj
  have hk0 : 0 < k := (Nat.eq_zero_or_pos k).elim (fun h => by rw [h] at hj'; omega) id
  refine hz1 _ ?_
  have hlt : j % k < (zv.cells.toList.map T.v).length := by rw [hzl]; exact Nat.mod_lt _ hk0
  rw [List.getD_eq_getElem?_getD, List.getElem?_eq_getElem hlt]
  exact List.getElem_mem _) hzc
 have hst := run_storeCells_z P b' off et (Builtin.zeroCells zv.cells n).toList 0 C w hh (by rw [hzlen]; omega) hone
 simp only [Nat.add_zero, hzlen] at hst
 have hfr : Go.Proofs.Ytafcbipmmjegcaa.Fr (· = b') w (w.setRow b' (C.toList.take off ++ (Builtin.zeroCells zv.cells n).toList ++ C.toList.drop (off + n * k)).toArray) := Fr.setRow (S := (· = b')) (Fr.refl _ _) (.inr rfl) _
 have hst2 := hs.turned hob (b := b') rfl hM hfr (y := (b', .cells (setCells cs off ((List.range (n * k)).map fun j => (zv.cells.toList.map T.v).getD (j % k) .und)))) ⟨_, et, hh.setRow (by simp only [List.size_toArray, List.length_append, List.length_take, List.length_drop, hzlen]; rw [Array.length_toList]; omega), hset, hM⟩ rfl
 have hrun : (Builtin.clear_ #[t] o.type #[a.eval x]).run P w = .ok (.tuple #[]) (w.setRow b' (C.toList.take off ++ (Builtin.zeroCells zv.cells n).toList ++ C.toList.drop (off + n * k)).toArray) := by
  rw [hr.1]
  rcases Nat.eq_zero_or_pos n with hn | hn
  ·have e0 : (Builtin.zeroCells zv.cells n).toList = [] := List.eq_nil_of_length_eq_zero (by rw [hzlen, hn, Nat.zero_mul])
   have e1 : (C.toList.take off ++ (Builtin.zeroCells zv.cells n).toList ++ C.toList.drop (off + n * k)).toArray = C := by rw [e0, hn, Nat.zero_mul, Nat.add_zero, List.append_nil, List.take_append_drop, Array.toArray_toList]
   rw [e1, hh.self, hn]
   simp [Builtin.clear_, run_underlying hu]
  ·obtain ⟨n', rfl⟩ : ∃ n', n = n' + 1 := ⟨n - 1, by omega⟩
   simp [Builtin.clear_, run_underlying hu, hzr, hst]
 unfold Oper.wp execOp
 rw [ho]
 simp only [resolve, invoke, builtin, Sem.run_bind, Sem.run_pure, Result.andThen_ok, List.map_toArray, List.map_cons, List.map_nil, hrun]
 exact ⟨_, M, H, hst2.put o.dst (by simp only [Rel, RelL]; exact ⟨_, rfl, rfl⟩)⟩
end
end Go.Proofs.Ytafcbipmmjegcaa.Vm
namespace Go.Proofs.Ytafcbipmmjegcaa.Vm
open Go Go.RowKit
section
variable {P : Program} {Γ : Ctx} {s : S} {a : Act} {w : World} {o : Oper} {h : Hint} {M : Pm} {K : S → Prop} {Q : Exit → Act → World → Prop}
theorem convT_one {t u : TypeId} (hc : convT P t u = 1) : ∃ e, P.underlying t = some (.slice e) ∧ P.underlying e = some (.int .u8) ∧ P.underlying u = some .string := by
 unfold convT at hc
 split at hc
 ·rename_i e h1 h2
  split at hc
  ·rename_i h3; exact ⟨e, h1, h3, h2⟩
  ·cases hc
 ·split at hc <;> cases hc
 ·cases hc
theorem convT_two {t u : TypeId} (hc : convT P t u = 2) : ∃ e, P.underlying t = some .string ∧ P.underlying u = some (.slice e) ∧ P.underlying e = some (.int .u8) := by
 unfold convT at hc
 split at hc
 ·split at hc <;> cases hc
 ·rename_i e h1 h2
  split at hc
  ·rename_i h3; exact ⟨e, h1, h2, h3⟩
  ·cases hc
 ·cases hc
def ints (xs : List Int) : List T := xs.map fun n => T.v (.int .u8 n)
theorem bytesL_ints (z : ByteArray) : bytesL z = ints (z.data.toList.map fun c => (c.toNat : Int)) := by unfold bytesL ints; rw [List.map_map]; rfl
theorem str_ints (z : ByteArray) : strOfNums (z.data.toList.map fun c => (c.toNat : Int)) = z := by
 unfold strOfNums
 rw [List.map_map]
 have : ((fun n : Int => UInt8.ofNat n.toNat) ∘ fun c : UInt8 => (c.toNat : Int)) = id := funext fun c => by simp
 rw [this, List.map_id]
theorem strT_ints : ∀ {es : List T} {l : List UInt8}, strT es = some l → ∃ xs, es = ints xs ∧ (⟨l.toArray⟩ : ByteArray) = strOfNums xs
 | [], l, h => by simp only [strT, Option.some.injEq] at h; subst h; exact ⟨[], rfl, rfl⟩
 | t :: ts, l, h => by
  unfold strT at h
  split at h
  ·rename_i h0; cases h0
  ·rename_i n ts' h0
   injection h0 with h1 h2
   subst h1 h2
   simp only [Option.map_eq_some_iff] at h
   obtain ⟨l', h3, rfl⟩ := h
   obtain ⟨xs, rfl, e⟩ := strT_ints h3
   refine ⟨n :: xs, rfl, ?_⟩
   have : l' = xs.map fun n => UInt8.ofNat n.toNat := by
    have := congrArg (fun b : ByteArray => b.data.toList) e
    simpa [strOfNums] using this
   rw [this]; rfl
  ·cases h
theorem ints_rel : ∀ {xs : List Int} {us : List Value}, RelL M (ints xs) us → us = xs.map (Value.int .u8)
 | [], us, r => by simp only [ints, List.map_nil, RelL] at r; exact r
 | x :: xs, us, r => by
  simp only [ints, List.map_cons, RelL] at r
  obtain ⟨u, us', rfl, r1, r2⟩ := r
  simp only [Rel] at r1
  rw [r1, ints_rel (xs := xs) r2]; rfl
theorem ints_flat : ∀ (xs : List Int), (ints xs).flatMap elCells = ints xs
 | [] => rfl
 | x :: xs => by
  have := ints_flat xs
  unfold ints at *
  rw [List.map_cons, List.flatMap_cons, this]; rfl
theorem bytesOfT_sound {t : T} {v : Value} {k : List T → Prop} (hr : HRel M s.ob s.gl w) (H : bytesOfT s t k) (r : Rel M t v) :
  ∃ es, k es ∧ ((es = [] ∧ ∃ A c, v = .slice A 0 c) ∨ ∃ b o c us, v = .slice (some ⟨b, o, none⟩) es.length c ∧ RelL M (es.flatMap elCells) us ∧ (∀ xs, es = ints xs → ∀ i u, us[i]? = some u → w.cell? ⟨b, o + i, none⟩ = some u)) := by
 have sl : ∀ (es : List T) (A : Option Addr) (cap : Nat), Hdr A es.length cap → El elCells 1 es → (∀ b o, A = some ⟨b, o, none⟩ → RelE M 1 b es o) → v = .slice A es.length cap → k es →
   ∃ es, k es ∧ ((es = [] ∧ ∃ A c, v = .slice A 0 c) ∨ ∃ b o c us, v = .slice (some ⟨b, o, none⟩) es.length c ∧ RelL M (es.flatMap elCells) us ∧ (∀ xs, es = ints xs → ∀ i u, us[i]? = some u → w.cell? ⟨b, o + i, none⟩ = some u)) := by
  rintro es A cap ⟨d1, d2, d3, d4⟩ hl hre e hk
  refine ⟨es, hk, ?_⟩
  cases A with
  | none =>
   have hn : es = [] := List.eq_nil_of_length_eq_zero (d3 rfl).1
   subst hn
   exact .inl ⟨rfl, _, _, e⟩
  | some ad =>
   rcases Nat.eq_zero_or_pos cap with hc | hc
   ·have hn : es = [] := List.eq_nil_of_length_eq_zero (by omega)
    subst hn
    exact .inl ⟨rfl, _, _, e⟩
   have h4 := d4 ad rfl hc
   obtain ⟨b, o, sp⟩ := ad
   simp only at h4
   subst h4
   obtain ⟨us, h1, h2, h3⟩ := relE_list hl (hre b o rfl)
   exact .inr ⟨b, o, cap, us, e, h1, fun xs _ i u hu => (hr.promise _ _ _ (h3 i u hu)).1⟩
 unfold bytesOfT at H
 split at H
 ·split at H
  ·rename_i kk es hk
   subst hk
   simp only [Rel] at r
   obtain ⟨A, cap, e, hd, hl, hre⟩ := r
   exact sl es A cap hd hl hre e H
  ·exact H.elim
 ·split at H
  ·rename_i kk i es x hk
   subst hk
   simp only [Rel] at r
   obtain ⟨e0, A, cap, e, hd, hl, hre⟩ := r
   exact sl es A cap hd hl hre (e0.trans e) H
  ·exact H.elim
 ·simp only [Rel] at r
  obtain ⟨A, rfl⟩ := r
  exact ⟨[], H, .inl ⟨rfl, A, 0, rfl⟩⟩
 ·simp only [Rel] at r
  exact ⟨[], H, .inl ⟨rfl, none, 0, r⟩⟩
 ·rename_i j b o n cap
  simp only [Rel] at r
  obtain ⟨rfl, hn, hc⟩ := r
  split at H
  rotate_left
  ·exact H.elim
  rename_i b' cs hob
  obtain ⟨rfl, hlen, H⟩ := H
  obtain ⟨C, ty, hh, hC, hM⟩ := hr.objs _ _ hob
  have hus := (hC.drop o).take n
  have hl : ((cs.drop o).take n).length = n := by rw [List.length_take, List.length_drop]; omega
  by_cases hx : ∃ xs, (cs.drop o).take n = ints xs
  ·obtain ⟨xs, hx⟩ := hx
   refine ⟨_, H, .inr ⟨b', o, cap, (C.toList.drop o).take n, by rw [hl], by rw [hx, ints_flat, ← hx]; exact hus, fun _ _ i u hu => ?_⟩⟩
   rw [hh.cell]
   rw [List.getElem?_take] at hu
   split at hu
   ·rw [List.getElem?_drop] at hu
    simpa using hu
   ·cases hu
  ·obtain ⟨us, hus2⟩ : ∃ us, RelL M (((cs.drop o).take n).flatMap elCells) us := by
    have hx2 := hus
    generalize (C.toList.drop o).take n = ys at hx2
    generalize (cs.drop o).take n = ts at hx2
    clear hx hl hus H
    induction ts generalizing ys with
    | nil => exact ⟨[], by simp only [List.flatMap_nil, RelL]⟩
    | cons t ts ih =>
     simp only [RelL] at hx2
     obtain ⟨u, us, rfl, r1, r2⟩ := hx2
     obtain ⟨vs, hv⟩ := ih _ r2
     have one : ∃ ws, RelL M (elCells t) ws := by
      cases t with
      | agg cs => simp only [Rel] at r1; obtain ⟨ys, _, r1⟩ := r1; exact ⟨_, r1⟩
      | _ => exact ⟨[u], by simp only [elCells, RelL]; exact ⟨u, [], rfl, r1, rfl⟩⟩
     obtain ⟨ws, hw⟩ := one
     exact ⟨ws ++ vs, by rw [List.flatMap_cons]; exact hw.append hv⟩
   exact ⟨_, H, .inr ⟨b', o, cap, us, by rw [hl], hus2, fun xs e => absurd ⟨xs, e⟩ hx⟩⟩
 ·exact H.elim
theorem toStr_run {t u e : TypeId} {v : Value} {xs : List Int} (hs : P.underlying t = some (.slice e)) (he : P.underlying e = some (.int .u8)) (hd : P.underlying u = some .string)
  (hv : (ints xs = [] ∧ ∃ A c, v = .slice A 0 c) ∨ ∃ b o c us, v = .slice (some ⟨b, o, none⟩) (ints xs).length c ∧ RelL M ((ints xs).flatMap elCells) us ∧ (∀ ys, ints xs = ints ys → ∀ i u, us[i]? = some u → w.cell? ⟨b, o + i, none⟩ = some u)) :
  (convert t u v).run P w = .ok (.string (strOfNums xs)) w := by
 rcases hv with ⟨h0, A, c, rfl⟩ | ⟨b, o, c, us, rfl, h1, h2⟩
 ·have hx : xs = [] := by cases xs with | nil => rfl | cons x xs => simp [ints] at h0
  subst hx
  cases A with
  | none => exact run_convert_bytes_nil w t e hs he 0 c u hd
  | some ad =>
   rw [run_convert_bytes_string w t u e _ 0 c hs he hd]
   have hl := run_loadCells_list (P := P) w ad [] (by simp)
   simp only [List.length_nil] at hl
   rw [run_bytesToString w ad 0 c [] (by simpa using hl)]
   rfl
 ·rw [ints_flat] at h1
  have hus := ints_rel h1
  have hlen : (ints xs).length = xs.length := by simp [ints]
  rw [hlen]
  refine run_convert_bytes_arg w t e hs he b o xs.length c xs rfl (fun i hi => ?_) u hd
  exact h2 xs rfl i _ (by rw [hus]; simp [hi])
theorem sToStr {t u : TypeId} {x : Operand} (ho : o.op = .convert t u x) (hc : convT P t u = 1) (H : eToStr s h x (fun t => K (s.put o.dst t))) (hs : St Γ M s a w) : o.wp P a w (Post Γ K) Q := by
 obtain ⟨e, h1, h2, h3⟩ := convT_one hc
 unfold eToStr at H
 obtain ⟨es, hk, hv⟩ := bytesOfT_sound hs.hp H (eval_rel hs.fr x)
 have fin : ∀ xs, es = ints xs → K (s.put o.dst (.v (.string (strOfNums xs)))) → o.wp P a w (Post Γ K) Q := fun xs hx hK => by
  subst hx
  have hrun := toStr_run (P := P) (w := w) (M := M) h1 h2 h3 hv
  refine wp_of_run (v := .string (strOfNums xs)) (w' := w) ?_ ⟨_, M, hK, hs.put o.dst (by simp only [Rel])⟩
  unfold execOp
  rw [ho]
  exact run_valueW hrun
 split at hk
 ·obtain ⟨rfl, hK⟩ := hk
  refine fin _ (bytesL_ints _) ?_
  rw [str_ints]; exact hK
 ·split at hk
  ·rename_i l hl
   obtain ⟨xs, hx, hx2⟩ := strT_ints hl
   exact fin xs hx (by rw [← hx2]; exact hk)
  ·exact hk.elim
theorem bytesL_rel (z : ByteArray) : RelL M (bytesL z) (z.data.toList.map fun b => Value.int .u8 b.toNat) := by
 unfold bytesL
 generalize z.data.toList = l
 induction l with
 | nil => simp only [List.map_nil, RelL]
 | cons c l ih => simp only [List.map_cons, RelL]; exact ⟨_, _, rfl, by simp only [Rel], ih⟩
theorem bytesRow_rel (z : ByteArray) (cap : Nat) : RelL M (bytesL z ++ List.replicate ((cap - z.size) * 1) .und) (bytesRow z cap).toList := by
 unfold bytesRow
 rw [Array.toList_append, Array.toList_map]
 exact (bytesL_rel z).append (relL_und _ _ (by simp))
theorem bytesRow_size (z : ByteArray) (cap : Nat) (h : z.size ≤ cap) : (bytesRow z cap).size = cap := by
 unfold bytesRow
 simp
 omega
theorem bytesRow_one (z : ByteArray) (cap q : Nat) (u : Value) (hu : (bytesRow z cap)[q]? = some u) : u.oneCell' = true := by
 unfold bytesRow at hu
 have := Array.mem_of_getElem? hu
 simp only [Array.mem_append, Array.mem_map, Array.mem_replicate] at this
 rcases this with ⟨c, _, rfl⟩ | ⟨_, rfl⟩ <;> rfl
theorem bytesRow_get (z : ByteArray) (cap q : Nat) (u : Value) (hu : (z.data.toList.map fun b => Value.int .u8 b.toNat)[q]? = some u) : (bytesRow z cap)[q]? = some u := by
 have hq : q < z.size := by have := (List.getElem?_eq_some_iff.1 hu).1; simpa using this
 unfold bytesRow
 rw [Array.getElem?_append_left (by simpa using hq), ← hu, ← Array.getElem?_toList, Array.toList_map]
theorem sToBytes {t u : TypeId} {x : Operand} (ho : o.op = .convert t u x) (hc : convT P t u = 2) (H : eToBytes P s o.dst h u x K) (hs : St Γ M s a w) : o.wp P a w (Post Γ K) Q := by
 obtain ⟨e, h1, h2, h3⟩ := convT_two hc
 unfold eToBytes at H
 have hr := eval_rel hs.fr x
 split at H
 rotate_left
 ·exact H.elim
 rename_i z hz
 rw [hz] at hr
 simp only [Rel] at hr
 have hge := grownCap_ge w z.size 0 e
 have hrun := run_bytes_of_string (P := P) w t u e z h1 h2 h3
 have hrun' : ∀ {y : Value} {w' : World}, (convert t u (.string z)).run P w = .ok y w' → (execOp a.eval o).run P w = .ok (.value y) w' := fun {y w'} hh => by
  unfold execOp
  rw [ho]
  refine run_valueW ?_
  rw [hr]; exact hh
 obtain ⟨hzs, H⟩ := H
 have hcm := grownCap_le_maxLen w z.size 0 e (by unfold maxLen; omega)
 generalize grownCap w z.size 0 e = cap at *
 split at H
 ·have hnew := hs.drew.newObF (bytesRow z cap) e ((bytesRow z cap).size, (bytesRow z cap).size + 1) (.inr (Nat.le_refl _)) (bytesRow_rel z cap) o.dst (u := .sa s.ob.length w.heap.size 0 z.size cap) (v := .slice (some ⟨w.heap.size, 0, none⟩) z.size cap) (by simp only [Rel]; exact ⟨trivial, hge, by unfold maxLen at hcm; omega⟩)
  exact wp_of_run (hrun' hrun) ⟨_, M, H w.heap.size cap hge (by unfold maxLen at hcm; omega), hnew⟩
 ·split at H
  rotate_left
  ·exact H.elim
  rename_i e' hel
  have he' : e' = e := by
   unfold elemOfT at hel
   rw [h2] at hel
   injection hel with hel; injection hel with _ h5; exact h5.symm
  subst he'
  refine wp_of_run (hrun' hrun) (hs.grown (x := .slice none 0 0) (M' := fun b q => if b = w.heap.size ∧ q < z.size then (bytesRow z cap)[q]? else M b q) (x' := .slice (some ⟨w.heap.size, 0, none⟩) z.size cap) ?_ (.inl ⟨rfl, rfl⟩) H)
  have hnd := no_promise hs.hp.promise (Nat.le_refl w.heap.size)
  have hM : M.le (fun b q => if b = w.heap.size ∧ q < z.size then (bytesRow z cap)[q]? else M b q) := fun b q u hu => by
   have hb : ¬ (b = w.heap.size ∧ q < z.size) := fun e => by rw [e.1, hnd] at hu; cases hu
   dsimp only; rw [if_neg hb]; exact hu
  have hnew : Hc (w.drew.alloc (.cells (bytesRow z cap) e' ((bytesRow z cap).size, (bytesRow z cap).size + 1))) w.heap.size (bytesRow z cap) e' := ⟨_, heap_alloc_new w.drew _, .inr (Nat.le_refl _)⟩
  have hbl : (bytesL z).length = z.size := by simp [bytesL]
  refine ⟨hM, ?_, ?_, fun b q u hu => ?_, fun b hb _ => heap_new w.drew _ hb, fun b hb _ q => if_neg (by omega), fun b hb => .inr ?_, rfl, rfl, rfl, by simp⟩
  ·have hel : El elCells 1 (bytesL z) := fun e he => by
    obtain ⟨c, _, rfl⟩ := List.mem_map.1 he
    rfl
   simp only [Rel]
   refine ⟨trivial, some ⟨w.heap.size, 0, none⟩, cap, by rw [hbl], ⟨by rw [hbl]; exact hge, by unfold maxLen at hcm; omega, (fun e => by cases e), fun a e _ => by injection e with e; rw [← e]⟩, hel, fun b q e => ?_⟩
   injection e with e
   injection e with e1 e2
   subst e1 e2
   refine relE_of_list hel (us := z.data.toList.map fun b => Value.int .u8 b.toNat) ?_ fun q u hu => ?_
   ·rw [bytesL_ints, ints_flat, ← bytesL_ints]; exact bytesL_rel z
   ·have hq : q < z.size := by have := (List.getElem?_eq_some_iff.1 hu).1; simpa using this
    rw [if_pos ⟨rfl, by omega⟩, Nat.zero_add]
    exact bytesRow_get z cap q u hu
  ·refine .inr ⟨w.heap.size, 0, cap, bytesRow z cap, e', by rw [hbl], hnew, by rw [hbl]; exact hge, hcm, by rw [bytesRow_size z cap hge]; omega, fun q hq => ?_⟩
   dsimp only
   rw [if_neg (by rw [hbl] at hq; omega)]
   exact hnd q
  ·by_cases hc : b = w.heap.size ∧ q < z.size
   ·rw [if_pos hc] at hu
    obtain ⟨rfl, _⟩ := hc
    exact ⟨by rw [hnew.cell]; exact hu, bytesRow_one z cap q u hu⟩
   ·rw [if_neg hc] at hu
    have h3 := hs.hp.promise b q u hu
    exact ⟨(cell_of_heap (heap_new w.drew _ (by have := World.block_lt_of_cell? w _ h3.1; exact this)) q).trans h3.1, h3.2⟩
  ·simp only [Value.ownBlock, Option.some.injEq] at hb; omega
 ·have hnd := no_promise hs.hp.promise (Nat.le_refl w.heap.size)
  generalize hC : bytesRow z cap = C at *
  have hone : ∀ (q : Nat) (u : Value), C[q]? = some u → u.oneCell' = true := fun q u hu => bytesRow_one z cap q u (by rw [hC]; exact hu)
  have hnew : Hc (w.drew.alloc (.cells C e (C.size, C.size + 1))) w.heap.size C e := ⟨_, heap_alloc_new w.drew _, .inr (Nat.le_refl _)⟩
  have hM : M.le (fun b q => if b = w.heap.size then C[q]? else M b q) := fun b q u hu => by
   have hb : b ≠ w.heap.size := fun e => by rw [e, hnd] at hu; cases hu
   dsimp only; rw [if_neg hb]; exact hu
  refine wp_of_run (hrun' hrun) ⟨_, fun b q => if b = w.heap.size then C[q]? else M b q, H, St.put ⟨hs.df, hs.fr.mono hM _ _, ?_, ?_⟩ o.dst ?_⟩
  ·refine ⟨fun b q u hu => ?_, fun i x hx => ?_, hs.hp.apart, fun b x hx => ?_, hs.hp.sep⟩
   ·by_cases hb : b = w.heap.size
    ·subst hb
     rw [if_pos rfl] at hu
     exact ⟨by rw [hnew.cell]; exact hu, hone q u hu⟩
    ·rw [if_neg hb] at hu
     have h3 := hs.hp.promise b q u hu
     exact ⟨(cell_of_heap (heap_new w.drew _ (by have := World.block_lt_of_cell? w _ h3.1; exact this)) q).trans h3.1, h3.2⟩
   ·have h3 := hs.hp.objs i x hx
    exact h3.keep (fun b hb => heap_new w.drew _ (h3.lt hb)) (fun b hb q => if_neg (by have := h3.lt hb; omega)) hM
   ·have h3 := hs.hp.glob b x hx
    exact ⟨h3.1, h3.2.keep (fun c hc => heap_new w.drew _ (h3.2.lt hc)) (fun c hc q => if_neg (by have := h3.2.lt hc; omega)) hM⟩
  ·refine ⟨Pm.le_trans hs.gr.more hM, fun b q u hu => ?_, hs.gr.fr.drew.alloc _, hs.gr.own⟩
   by_cases hb : b = w.heap.size
   ·subst hb; exact .inr (.inr hs.gr.fr.size)
   ·rw [if_neg hb] at hu
    exact hs.gr.only b q u hu
  ·have hbl : (bytesL z).length = z.size := by simp [bytesL]
   have hel : El elCells 1 (bytesL z) := fun e he => by
    obtain ⟨c, _, rfl⟩ := List.mem_map.1 he
    rfl
   simp only [Rel]
   refine ⟨some ⟨w.heap.size, 0, none⟩, cap, by rw [hbl], ⟨by rw [hbl]; exact hge, by unfold maxLen at hcm; omega, (fun e => by cases e), fun a e _ => by injection e with e; rw [← e]⟩, hel, fun b q e => ?_⟩
   injection e with e
   injection e with e1 e2
   subst e1 e2
   refine relE_of_list hel (us := z.data.toList.map fun b => Value.int .u8 b.toNat) ?_ fun q u hu => ?_
   ·rw [bytesL_ints, ints_flat, ← bytesL_ints]; exact bytesL_rel z
   ·rw [if_pos rfl, Nat.zero_add, ← hC]
    exact bytesRow_get z cap q u hu
theorem sBuildSlx {t : TypeId} {len : Nat} {parts : Array (Nat × Operand)} (ho : o.op = .buildSlice t len parts) (H : eBuildSlx P s o.dst t len parts K) (hs : St Γ M s a w) : o.wp P a w (Post Γ K) Q := by
 unfold eBuildSlx at H
 split at H
 rotate_left
 ·exact H.elim
 rename_i e hel
 split at H
 rotate_left
 ·exact H.elim
 rename_i k ag z hk hag hz
 split at H
 rotate_left
 ·exact H.elim
 rename_i hc
 obtain ⟨hlen, hk0, hagk⟩ := hc
 split at H
 rotate_left
 ·exact H.elim
 rename_i cs hf
 split at H
 rotate_left
 ·exact H.elim
 rename_i hall
 have hu : P.underlying t = some (.slice e) := by
  unfold elemOfT at hel
  split at hel
  ·injection hel with hel; injection hel with h1 h2; cases h1
  ·rename_i hu; injection hel with hel; injection hel with h1 h2; subst h2; exact hu
  ·cases hel
 obtain ⟨y, hy, -, -⟩ := zeroT_run (M := M) hz
 have zl : RelL M (List.replicate (len * k) T.und) (((Array.range (len * k)).map fun i => y.cells[i % y.cells.size]!)).toList := RelL.of_get (by simp) fun i t' y' h1 _ => by
  rw [List.getElem?_replicate] at h1
  split at h1
  ·injection h1 with h1; subst h1; simp only [Rel]
  ·cases h1
 obtain ⟨C, h1, h2⟩ := fillT_rel (ps := parts.toList.map fun p => (p.1, a.eval p.2)) (by simp [List.map_map, Function.comp_def]) (parts_rel hs.fr parts.toList) zl hf
 have e0 : (parts.map fun (i, x) => (i, a.eval x)).toList = parts.toList.map fun p => (p.1, a.eval p.2) := by rw [Array.toList_map]
 have hone := relL_one hall h2
 have hcl : cs.length = len * k := by
  have : ∀ (l : List (Nat × T)) (c c' : List T), fillT (fun i => some (i * k, k)) c l = some c' → c'.length = c.length := by
   intro l
   induction l with
   | nil => intro c c' h; simp only [fillT, Option.some.injEq] at h; rw [h]
   | cons p l ih =>
    intro c c' h
    obtain ⟨i, t⟩ := p
    simp only [fillT] at h
    split at h
    ·cases h
    ·rw [ih _ _ h]
     unfold setRange
     have fl : ∀ (l : List (T × Nat)) (c : List T), (l.foldl (fun cs (x : T × Nat) => cs.set (i * k + x.2) x.1) c).length = c.length := by
      intro l
      induction l with
      | nil => intro c; rfl
      | cons x l ih => intro c; rw [List.foldl_cons, ih]; simp
     exact fl _ _
  rw [this _ _ _ hf, List.length_replicate]
 have hCs : C.size = len * k := by rw [← hcl, ← h2.len]; simp
 have hnd := no_promise hs.hp.promise (Nat.le_refl w.heap.size)
 have hnew : Hc (w.alloc (.cells C e)) w.heap.size C e := .of (heap_alloc_new w _)
 have hM : M.le (fun b q => if b = w.heap.size then C[q]? else M b q) := fun b q u hu => by
  have hb : b ≠ w.heap.size := fun e => by rw [e, hnd] at hu; cases hu
  dsimp only; rw [if_neg hb]; exact hu
 have hA : RelA (fun b q => if b = w.heap.size then C[q]? else M b q) w.heap.size cs 0 := RelA.of_get fun i t' ht => by
  obtain ⟨u, h3, h4⟩ := h2.get ht
  refine ⟨u, ?_, h4.mono hM _ _⟩
  rw [if_pos rfl, Nat.zero_add]
  simpa using h3
 obtain ⟨c1, c2⟩ := chunk_rel (ag := ag.isSome) (fun e => hagk (by cases ag <;> first | rfl | cases e)) len cs 0 hcl hall hA
 have hrun : (execOp a.eval o).run P w = .ok (.value (.slice (some ⟨w.heap.size, 0, none⟩) len len)) (w.alloc (.cells C e)) := by
  unfold execOp
  rw [ho]
  refine run_valueW ?_
  have hbig : ¬ (16777216 < len * k) := by omega
  have hfill : Instr.fill (fun i => some (i * k, k)) ((Array.range (len * k)).map fun i => (if len * k = 0 then #[] else y.cells)[i % (if len * k = 0 then #[] else y.cells).size]!) (parts.toList.map fun p => (p.1, a.eval p.2)) = some C := by
   by_cases h0 : len * k = 0
   ·rw [if_pos h0]
    have : ((Array.range (len * k)).map fun i => (#[] : Array Value)[i % (#[] : Array Value).size]!) = ((Array.range (len * k)).map fun i => y.cells[i % y.cells.size]!) := by rw [h0]; simp
    rw [this]; exact h1
   ·rw [if_neg h0]; exact h1
  by_cases h0 : len * k = 0
  ·simp only [Instr.buildSlice, Sem.run_bind, run_underlying hu, run_sizeOf hk, Result.andThen_ok]
   rw [if_neg (by omega), if_pos h0]
   rw [if_pos h0] at hfill
   simp only [Sem.run_bind, Sem.run_pure, Result.andThen_ok]
   rw [e0, hfill]
   simp [newRow]
  ·simp only [Instr.buildSlice, Sem.run_bind, run_underlying hu, run_sizeOf hk, Result.andThen_ok]
   rw [if_neg (by omega), if_neg h0]
   rw [if_neg h0] at hfill
   simp only [Sem.run_bind, hy, Sem.run_pure, Result.andThen_ok]
   rw [e0, hfill]
   simp [newRow]
 have hll : len ≤ len * k := Nat.le_mul_of_pos_right _ hk0
 refine wp_of_run hrun (hs.grown (x := .slice none 0 0) (M' := fun b q => if b = w.heap.size then C[q]? else M b q) (x' := .slice (some ⟨w.heap.size, 0, none⟩) len len) ?_ (.inl ⟨rfl, rfl⟩) H)
 refine ⟨hM, ?_, ?_, fun b q u hu => ?_, fun b hb _ => heap_new w _ hb, fun b hb _ q => if_neg (by omega), fun b hb => .inr ?_, rfl, rfl, rfl, by simp⟩
 ·simp only [Rel, chunk_len]
  refine ⟨trivial, some ⟨w.heap.size, 0, none⟩, len, rfl, ⟨Nat.le_refl _, by omega, (fun e => by cases e), fun a e _ => by injection e with e; rw [← e]⟩, c2, fun b q e => ?_⟩
  injection e with e
  injection e with e1 e2
  subst e1 e2
  exact c1
 ·refine .inr ⟨w.heap.size, 0, len, C, e, by rw [chunk_len], hnew, by rw [chunk_len]; exact Nat.le_refl _, by unfold maxLen; omega, by omega, fun q hq => ?_⟩
  rw [chunk_len, ← hCs, Nat.zero_add] at hq
  dsimp only
  rw [if_pos rfl]
  exact Array.getElem?_eq_none hq
 ·by_cases hb : b = w.heap.size
  ·subst hb
   rw [if_pos rfl] at hu
   exact ⟨by rw [hnew.cell]; exact hu, hone u (by
    rw [← Array.getElem?_toList] at hu
    exact List.mem_of_getElem? hu)⟩
  ·rw [if_neg hb] at hu
   have h3 := hs.hp.promise b q u hu
   exact ⟨(cell_of_heap (heap_new w _ (by have := World.block_lt_of_cell? w _ h3.1; exact this)) q).trans h3.1, h3.2⟩
 ·simp only [Value.ownBlock, Option.some.injEq] at hb; omega
theorem sMake {t : TypeId} {x y : Operand} (ho : o.op = .makeSlice t x y) (H : eMake P s o.dst h t x y K) (hs : St Γ M s a w) : o.wp P a w (Post Γ K) Q := by
 unfold eMake at H
 split at H
 rotate_left
 ·exact H.elim
 rename_i e hel
 split at H
 rotate_left
 ·exact H.elim
 rename_i k bytes z kn n kc c hk hby hz hn hc
 obtain ⟨⟨h0, hnc, hb, hm, hzl⟩, H⟩ := H
 have H := claimL_some H
 have hu : P.underlying t = some (.slice e) := by
  unfold elemOfT at hel
  split at hel
  ·injection hel with hel; injection hel with h1 h2; cases h1
  ·rename_i hu; injection hel with hel; injection hel with h1 h2; subst h2; exact hu
  ·cases hel
 unfold sizeT at hk
 unfold bytesT at hby
 simp only [Option.map_eq_some_iff] at hk hby
 obtain ⟨ti, hi, hsz⟩ := hk
 obtain ⟨ti', hi', hby⟩ := hby
 rw [hi] at hi'
 injection hi' with hi'
 subst hi'
 unfold zeroT at hz
 simp only [hi, Option.bind_some, Option.map_eq_some_iff] at hz
 obtain ⟨zv, hzv, rfl⟩ := hz
 have hzk : zv.cells.size = k := by simpa using hzl
 have hx := intT_rel hn (eval_rel hs.fr x)
 have hy := intT_rel hc (eval_rel hs.fr y)
 have hrun := run_make (P := P) w t e ti zv hu hi hzv kn kc n c h0 hnc (by rw [hby, Int.mul_comm]; omega) hm
 have hrel : RelL M ((List.range (c.toNat * k)).map fun j => (zv.cells.toList.map T.v).getD (j % k) .und) (madeCells zv.cells (c.toNat * ti.size)).toList := by
  have := zeroCells_rel (M := M) c.toNat k hzk
  have e1 : madeCells zv.cells (c.toNat * ti.size) = Builtin.zeroCells zv.cells c.toNat := by
   unfold madeCells Builtin.zeroCells
   rw [hsz, hzk]
  rw [e1]; exact this
 have hnew := hs.newOb (madeCells zv.cells (c.toNat * ti.size)) e hrel o.dst (u := .sa s.ob.length w.heap.size 0 n.toNat c.toNat) (v := .slice (some ⟨w.heap.size, 0, none⟩) n.toNat c.toNat) (by simp only [Rel]; exact ⟨trivial, by omega, by omega⟩)
 refine wp_of_run (v := .slice (some ⟨w.heap.size, 0, none⟩) n.toNat c.toNat) (w' := w.alloc (.cells (madeCells zv.cells (c.toNat * ti.size)) e)) ?_ ⟨_, M, H w.heap.size, hnew⟩
 unfold execOp
 rw [ho]
 refine run_valueW ?_
 rw [hx, hy]; exact hrun
end
end Go.Proofs.Ytafcbipmmjegcaa.Vm
