/- Texts of this claim: VmK, VmC. -/
import Derived.Test.YtafcbipmmjegcaaMg9
import Derived.Test.YtafcbipmmjegcaaMg10
namespace Go.Proofs.Ytafcbipmmjegcaa.Vm
open Go Go.RowKit
section
variable {P : Program} {Γ : Ctx} {M : Pm} {s : S} {a : Act} {w : World} {o : Oper} {h : Hint} {K : S → Prop} {Q : Exit → Act → World → Prop}
theorem findAsk_spec {kt : TypeId} {G : Value → Prop} (hk : KeyOk P kt G) {k : Value} (hG : G k) : ∀ (l : List MapEntry) (i : Nat), (∀ x ∈ l, G x.key) →
  ((∀ w, (Instr.findAsking kt k l i).run P w = .ok none w) ∧ ∀ x ∈ l, x.key ≠ k) ∨ ∃ (j : Nat) (e : MapEntry), (∀ w, (Instr.findAsking kt k l i).run P w = .ok (some (i + j, e.val)) w) ∧ l[j]? = some e ∧ e.key = k
 | [], i, _ => .inl ⟨fun w => rfl, fun x hx => by cases hx⟩
 | e :: l, i, hl => by
  obtain ⟨q, h1, h2⟩ := hk.eq k e.key hG (hl e (by simp))
  have hr : ∀ w, (Op.equal kt k e.key).run P w = .ok q w := fun w => eqV_run 8 9992 kt k e.key q h1 w
  by_cases hq : k = e.key
  ·have hqt := h2.2 hq
   subst hqt
   refine .inr ⟨0, e, fun w => ?_, rfl, hq.symm⟩
   simp [Instr.findAsking, hr]
  ·have hqf : q = false := by cases q with | false => rfl | true => exact absurd (h2.1 rfl) hq
   subst hqf
   rcases findAsk_spec hk hG l (i + 1) (fun x hx => hl x (by simp [hx])) with ⟨h3, h4⟩ | ⟨j, e', h3, h4, h5⟩
   ·refine .inl ⟨fun w => ?_, fun x hx => ?_⟩
    ·simp [Instr.findAsking, hr, h3 w]
    ·rcases List.mem_cons.1 hx with rfl | hx
     ·exact fun e => hq e.symm
     ·exact h4 x hx
   ·refine .inr ⟨j + 1, e', fun w => ?_, h4, h5⟩
    simp [Instr.findAsking, hr, h3 w]
    omega
theorem findNow_comp {d : TypeDesc} (hd : compD d = true) (k : Value) : ∀ (l : List MapEntry) (i : Nat), Instr.findNow d k l i = if l.isEmpty then some none else none
 | [], _ => rfl
 | e :: l, i => by
  have : Instr.sameNow d k e.key = none := by cases d <;> first | rfl | simp [compD] at hd
  unfold Instr.findNow
  rw [this]; rfl
theorem findKeyV_spec {kt : TypeId} {G : Value → Prop} (hk : KeyOk P kt G) {k : Value} (hG : G k) (l : List MapEntry) (hl : ∀ x ∈ l, G x.key) :
  ((∀ w, (Instr.findKey kt k l).run P w = .ok none w) ∧ ∀ x ∈ l, x.key ≠ k) ∨ ∃ (j : Nat) (e : MapEntry), (∀ w, (Instr.findKey kt k l).run P w = .ok (some (j, e.val)) w) ∧ l[j]? = some e ∧ e.key = k := by
 obtain ⟨d, hd, hc⟩ := hk.td
 cases l with
 | nil =>
  refine .inl ⟨fun w => ?_, fun x hx => by cases hx⟩
  simp [Instr.findKey, run_underlying hd, findNow_comp hc]
 | cons e l =>
  have hrun : ∀ w, (Instr.findKey kt k (e :: l)).run P w = (Instr.findAsking kt k (e :: l)).run P w := fun w => by
   simp [Instr.findKey, run_underlying hd, findNow_comp hc]
  rcases findAsk_spec hk hG (e :: l) 0 hl with ⟨h3, h4⟩ | ⟨j, e', h3, h4, h5⟩
  ·exact .inl ⟨fun w => (hrun w).trans (h3 w), h4⟩
  ·exact .inr ⟨j, e', fun w => by rw [hrun w, h3 w, Nat.zero_add], h4, h5⟩
theorem sMakeV {t : TypeId} {G : Value → Prop} (ho : o.op = .makeMap t none) (H : eMakeV P s o.dst t G K) (hs : St Γ M s a w) : o.wp P a w (Post Γ K) Q := by
 unfold eMakeV at H
 split at H
 rotate_left
 ·exact H.elim
 rename_i kt et hu
 have hk := H w.heap.size
 refine wp_of_run (v := .map (some w.heap.size)) (w' := w.alloc (.map #[] 0)) ?_ ⟨_, M, hk, St.put (s := { s with ob := s.ob ++ [(w.heap.size, .kv kt G (fun _ => none))] }) ⟨hs.df, hs.fr, ?_, ?_⟩ o.dst (by simp only [Rel])⟩
 ·unfold execOp
  rw [ho]
  refine run_valueW ?_
  simp [Instr.makeMap]
 ·refine (hs.hp.still fun b hb => heap_new w _ hb).more ⟨⟨#[], 0, fun _ => none, heap_alloc_new w _, ⟨MapKept.stamped_empty 0, by simp, by simp⟩, fun z t h => (by cases h), fun _ _ => rfl⟩, fun o => no_promise hs.hp.promise (Nat.le_refl _) o⟩ fun b hb => ?_
  simp only [obBlk, Option.some.injEq] at hb
  subst hb
  exact no_dom hs
 ·refine ⟨hs.gr.more, hs.gr.only, hs.gr.fr.alloc _, fun b hb => ?_⟩
  rcases hb with ⟨i, x, h1, h2⟩ | h1
  ·simp only at h1
   rw [List.getElem?_append] at h1
   split at h1
   ·exact hs.gr.own b (.inl ⟨i, x, h1, h2⟩)
   ·rw [List.getElem?_singleton] at h1
    split at h1
    ·injection h1 with h1
     subst h1
     simp only [obBlk, Option.some.injEq] at h2
     subst h2
     exact .inr hs.gr.fr.size
    ·cases h1
  ·exact hs.gr.own b (.inr h1)
theorem sLookupV {t : TypeId} {x ix : Operand} {ok : Bool} (ho : o.op = .lookup t x ix ok) (H : vLookupV P s h t x ix ok (fun t => K (s.put o.dst t))) (hs : St Γ M s a w) : o.wp P a w (Post Γ K) Q := by
 unfold vLookupV at H
 have hr := eval_rel hs.fr x
 split at H
 rotate_left
 ·exact H.elim
 rename_i i b hx
 rw [hx] at hr
 simp only [Rel] at hr
 split at H
 rotate_left
 ·exact H.elim
 rename_i b' kt G f kt' e z hob hu hz
 split at H
 rotate_left
 ·exact H.elim
 rename_i zt hzt
 split at H
 rotate_left
 ·exact H.elim
 rename_i hkt
 subst hkt
 obtain ⟨⟨rfl, hok, hG⟩, H⟩ := H
 have hix := flat_rel hz (eval_rel hs.fr ix)
 obtain ⟨u, hu', hk⟩ := claim_some H
 injection hu' with hu'
 obtain ⟨y, hy, hry⟩ := zeroVal_run (M := M) hzt
 obtain ⟨⟨es, ck, fv, hh, ⟨hs1, hs2, hs3⟩, hF1, hF2⟩, -⟩ := hs.hp.objs _ _ hob
 have hrel : Rel M ((f z).getD zt) ((fv z).getD y) ∧ (f z).isSome = (fv z).isSome := by
  cases hfz : f z with
  | none => rw [hF2 z hfz]; exact ⟨hry, rfl⟩
  | some t' =>
   obtain ⟨v, h1, h2⟩ := hF1 z t' hfz
   rw [h1]
   exact ⟨h2, rfl⟩
 have hfind : (∃ (j : Nat) (v : Value), fv z = some v ∧ ∀ w, (Instr.findKey kt' z es.toList).run P w = .ok (some (j, v)) w) ∨ (fv z = none ∧ ∀ w, (Instr.findKey kt' z es.toList).run P w = .ok none w) := by
  rcases findKeyV_spec hok hG es.toList hs2 with ⟨h3, h4⟩ | ⟨j, e', h3, h4, h5⟩
  ·refine .inr ⟨?_, h3⟩
   cases hfz : fv z with
   | none => rfl
   | some v =>
    obtain ⟨x, hx, hkx, _⟩ := (hs3 z v).1 hfz
    exact absurd hkx (h4 x hx)
  ·exact .inl ⟨j, e'.val, (hs3 z e'.val).2 ⟨e', List.mem_of_getElem? h4, h5, rfl⟩, h3⟩
 have hrun : (Instr.lookup t (.map (some b')) z ok).run P w = .ok (if ok then .tuple #[(fv z).getD y, .bool (fv z).isSome] else (fv z).getD y) w := by
  rcases hfind with ⟨j, v, h1, h2⟩ | ⟨h1, h2⟩
  ·rw [h1]
   simp [Instr.lookup, run_underlying hu, MapKept.run_getObj_map hh, hok.ck z hG, h2, Result.andThen]
  ·rw [h1]
   simp [Instr.lookup, run_underlying hu, MapKept.run_getObj_map hh, hok.ck z hG, h2, hy, Result.andThen]
 cases ok with
 | true =>
  refine wp_of_run (v := .tuple #[(fv z).getD y, .bool (fv z).isSome]) (w' := w) ?_ ⟨_, M, hk, hs.put o.dst ?_⟩
  ·unfold execOp
   rw [ho]
   refine run_value ?_
   rw [hr, hix]
   exact hrun
  ·rw [← hu']
   simp only [if_pos, Rel, RelL]
   exact ⟨_, rfl, _, _, rfl, hrel.1, _, _, rfl, by rw [hrel.2], rfl⟩
 | false =>
  refine wp_of_run (v := (fv z).getD y) (w' := w) ?_ ⟨_, M, hk, hs.put o.dst ?_⟩
  ·unfold execOp
   rw [ho]
   refine run_value ?_
   rw [hr, hix]
   exact hrun
  ·rw [← hu']; exact hrel.1
theorem run_keyStays {k : Value} (h : Instr.sameBits 10000 k k = true) (w : World) : (Instr.keyThatStays k k).run P w = .ok k w := by
 unfold Instr.keyThatStays
 rw [if_pos h]; rfl
theorem sUpdateV {t : TypeId} {x ix y : Operand} (ho : o.op = .mapUpdate t x ix y) (H : eUpdateV P s h t x ix y (fun s' => K (s'.put o.dst (.v undef)))) (hs : St Γ M s a w) : o.wp P a w (Post Γ K) Q := by
 unfold eUpdateV at H
 have hr := eval_rel hs.fr x
 split at H
 rotate_left
 ·exact H.elim
 rename_i i b hx
 rw [hx] at hr
 simp only [Rel] at hr
 split at H
 rotate_left
 ·exact H.elim
 rename_i b' kt G f kt' e z g hob hu hz
 split at H
 rotate_left
 ·exact H.elim
 rename_i hkt
 subst hkt
 obtain ⟨⟨rfl, hok, hG, hg1, hg2⟩, H⟩ := H
 have hix := flat_rel hz (eval_rel hs.fr ix)
 obtain ⟨⟨es, ck, fv, hh, ⟨hs1, hs2, hs3⟩, hF1, hF2⟩, hM⟩ := hs.hp.objs _ _ hob
 have hx' := hs.hp.objs _ _ hob
 have key : ∃ w' es' ck' fv', (Instr.mapUpdate t (.map (some b')) z (a.eval y)).run P w = .ok () w' ∧ w'.heap[b']? = some (.map es' ck') ∧ MapV es' ck' G fv' ∧ fv' z = some (a.eval y) ∧ (∀ q, q ≠ z → fv' q = fv q) ∧ Fr (· = b') w w' := by
  have hupd : ∃ fv' : Value → Option Value, fv' z = some (a.eval y) ∧ ∀ q, q ≠ z → fv' q = fv q := by
   classical
   exact ⟨fun q => if q = z then some (a.eval y) else fv q, if_pos rfl, fun q hq => if_neg hq⟩
  obtain ⟨fv', u1, u2⟩ := hupd
  rcases findKeyV_spec hok hG es.toList hs2 with ⟨h3, h4⟩ | ⟨j, e', h3, h4, h5⟩
  ·refine ⟨{ w with heap := w.heap.setIfInBounds b' (.map (es.push { key := z, val := a.eval y, born := ck }) (ck + 1)) }, _, _, fv', ?_, (MapKept.heap_set hh).1, ⟨MapKept.stamped_push hs1 h4, ?_, ?_⟩, u1, u2, fr_set hh⟩
   ·simp [Instr.mapUpdate, run_underlying hu, MapKept.run_getObj_map hh, hok.ck z hG, h3, MapKept.run_setObj_map _ hh, Result.andThen]
   ·intro x hx
    simp only [Array.toList_push, List.mem_append, List.mem_singleton] at hx
    rcases hx with hx | rfl
    ·exact hs2 x hx
    ·exact hG
   ·intro q v
    simp only [Array.toList_push, List.mem_append, List.mem_singleton]
    by_cases hq : q = z
    ·subst hq
     rw [u1]
     constructor
     ·intro e; injection e with e; exact ⟨_, .inr rfl, rfl, e⟩
     ·rintro ⟨x, hx | rfl, h6, h7⟩
      ·exact absurd h6 (h4 x hx)
      ·exact congrArg some h7
    ·rw [u2 q hq, hs3 q v]
     constructor
     ·rintro ⟨x, hx, h6, h7⟩; exact ⟨x, .inl hx, h6, h7⟩
     ·rintro ⟨x, hx | rfl, h6, h7⟩
      ·exact ⟨x, hx, h6, h7⟩
      ·exact absurd h6.symm hq
  ·have hj : es[j]? = some e' := by simpa using h4
   have hjl : j < es.size := (Array.getElem?_eq_some_iff.1 hj).1
   have hkey : ∀ e1, es[j]? = some e1 → ({ e1 with key := z, val := a.eval y } : MapEntry).key = e1.key := fun e1 he1 => by rw [hj] at he1; cases he1; exact h5.symm
   have get : ∀ m, (es.modify j fun e => { e with key := z, val := a.eval y })[m]? = if j = m then (es[m]?).map (fun e => { e with key := z, val := a.eval y }) else es[m]? := fun m => Array.getElem?_modify
   have mem : ∀ x : MapEntry, x ∈ (es.modify j fun e => { e with key := z, val := a.eval y }).toList ↔ (∃ m, m ≠ j ∧ es[m]? = some x) ∨ x = { e' with key := z, val := a.eval y } := fun x => by
    rw [List.mem_iff_getElem?]
    constructor
    ·rintro ⟨m, hm⟩
     rw [Array.getElem?_toList, get m] at hm
     by_cases e : j = m
     ·rw [if_pos e, ← e, hj] at hm
      injection hm with hm
      exact .inr hm.symm
     ·rw [if_neg e] at hm
      exact .inl ⟨m, fun h => e h.symm, hm⟩
    ·rintro (⟨m, hm, hx⟩ | rfl)
     ·exact ⟨m, by rw [Array.getElem?_toList, get m, if_neg (fun h => hm h.symm)]; exact hx⟩
     ·exact ⟨j, by rw [Array.getElem?_toList, get j, if_pos rfl, hj]; rfl⟩
   refine ⟨{ w with heap := w.heap.setIfInBounds b' (.map (es.modify j fun e => { e with key := z, val := a.eval y }) ck) }, _, _, fv', ?_, (MapKept.heap_set hh).1, ⟨MapKept.stamped_modify hs1 _ _ (fun _ _ => rfl) (fun e1 _ he1 => hkey e1 he1), ?_, ?_⟩, u1, u2, fr_set hh⟩
   ·simp [Instr.mapUpdate, run_underlying hu, MapKept.run_getObj_map hh, hok.ck z hG, h3, hj, h5, run_keyStays (hok.same z hG), MapKept.run_setObj_map _ hh, Result.andThen]
   ·intro x hx
    rcases (mem x).1 hx with ⟨m, _, hm⟩ | rfl
    ·exact hs2 x (List.mem_of_getElem? (i := m) (by rw [Array.getElem?_toList]; exact hm))
    ·exact hG
   ·intro q v
    have uniq : ∀ m x, m ≠ j → es[m]? = some x → x.key ≠ z := fun m x hm hx hk => by
     have hml : m < es.size := (Array.getElem?_eq_some_iff.1 hx).1
     have hnd : (es.toList.map (·.key)).Nodup := hs1.2.2
     have g1 : (es.toList.map (·.key))[m]? = some z := by rw [List.getElem?_map, Array.getElem?_toList, hx]; exact congrArg some hk
     have g2 : (es.toList.map (·.key))[j]? = some z := by rw [List.getElem?_map, Array.getElem?_toList, hj]; exact congrArg some h5
     obtain ⟨l1, e1⟩ := List.getElem?_eq_some_iff.1 g1
     obtain ⟨l2, e2⟩ := List.getElem?_eq_some_iff.1 g2
     exact hm ((List.getElem_inj hnd).1 (e1.trans e2.symm))
    by_cases hq : q = z
    ·subst hq
     rw [u1]
     constructor
     ·intro e; injection e with e; exact ⟨_, (mem _).2 (.inr rfl), rfl, e⟩
     ·rintro ⟨x, hx, h6, h7⟩
      rcases (mem x).1 hx with ⟨m, hm, hxm⟩ | rfl
      ·exact absurd h6 (uniq m x hm hxm)
      ·exact congrArg some h7
    ·rw [u2 q hq, hs3 q v]
     constructor
     ·rintro ⟨x, hx, h6, h7⟩
      obtain ⟨m, hm⟩ := List.mem_iff_getElem?.1 hx
      rw [Array.getElem?_toList] at hm
      refine ⟨x, (mem x).2 (.inl ⟨m, fun e => ?_, hm⟩), h6, h7⟩
      rw [e, hj] at hm
      injection hm with hm
      exact hq (h6.symm.trans (by rw [← hm]; exact h5))
     ·rintro ⟨x, hx, h6, h7⟩
      rcases (mem x).1 hx with ⟨m, hm, hxm⟩ | rfl
      ·exact ⟨x, List.mem_of_getElem? (i := m) (by rw [Array.getElem?_toList]; exact hxm), h6, h7⟩
      ·exact absurd h6.symm hq
 obtain ⟨w', es', ck', fv', hrun, h1, h2, u1, u2, hfr⟩ := key
 have hgr : FRelV M g fv' := by
  refine ⟨fun q u hq => ?_, fun q hq => ?_⟩
  ·by_cases e : q = z
   ·subst e
    rw [hg1] at hq
    injection hq with hq
    subst hq
    exact ⟨_, u1, eval_rel hs.fr y⟩
   ·rw [hg2 q e] at hq
    rw [u2 q e]
    exact hF1 q u hq
  ·by_cases e : q = z
   ·subst e; rw [hg1] at hq; cases hq
   ·rw [hg2 q e] at hq
    rw [u2 q e]
    exact hF2 q hq
 have hpost : Post Γ K (a.put o.dst undef) w' := ⟨_, M, H, St.put (s := { s with ob := s.ob.set i (b', .kv kt' G g) }) (hs.turned hob rfl hx'.2 hfr ⟨⟨es', ck', fv', h1, h2, hgr⟩, hx'.2⟩ rfl) o.dst (by simp only [Rel])⟩
 unfold Oper.wp execOp
 rw [ho]
 simp only [Sem.run_bind, hr, hix, hrun, Result.andThen_ok]
 exact hpost
theorem sRangeS {t : TypeId} {x : Operand} (ho : o.op = .range t x) (H : eRangeS P s o.dst t x K) (hs : St Γ M s a w) : o.wp P a w (Post Γ K) Q := by
 unfold eRangeS at H
 have hr := eval_rel hs.fr x
 split at H
 rotate_left
 ·exact H.elim
 rename_i z hx
 rw [hx] at hr
 simp only [Rel] at hr
 split at H
 rotate_left
 ·exact H.elim
 rename_i hu
 have hk := H w.heap.size
 refine wp_of_run (v := .pointer (some ⟨w.heap.size, 0, none⟩)) (w' := w.alloc (.stringIter z 0)) ?_ ⟨_, M, hk, St.put (s := { s with ob := s.ob ++ [(w.heap.size, .siter z 0)] }) ⟨hs.df, hs.fr, ?_, ?_⟩ o.dst (by simp only [Rel])⟩
 ·unfold execOp
  rw [ho]
  refine run_valueW ?_
  rw [hr]
  simp [Instr.range, run_underlying hu]
 ·refine (hs.hp.still fun b hb => heap_new w _ hb).more ⟨heap_alloc_new w _, fun o => no_promise hs.hp.promise (Nat.le_refl _) o⟩ fun b hb => ?_
  simp only [obBlk, Option.some.injEq] at hb
  subst hb
  exact no_dom hs
 ·refine ⟨hs.gr.more, hs.gr.only, hs.gr.fr.alloc _, fun b hb => ?_⟩
  rcases hb with ⟨i, x, h1, h2⟩ | h1
  ·simp only at h1
   rw [List.getElem?_append] at h1
   split at h1
   ·exact hs.gr.own b (.inl ⟨i, x, h1, h2⟩)
   ·rw [List.getElem?_singleton] at h1
    split at h1
    ·injection h1 with h1
     subst h1
     simp only [obBlk, Option.some.injEq] at h2
     subst h2
     exact .inr hs.gr.fr.size
    ·cases h1
  ·exact hs.gr.own b (.inr h1)
theorem run_getObj_s {b : Nat} {z : ByteArray} {pos : Nat} (hb : w.heap[b]? = some (.stringIter z pos)) : (getObj b).run P w = .ok (.stringIter z pos) w := by simp [getObj, Sem.run, hb]
theorem run_setObj_s {b : Nat} {z : ByteArray} {pos : Nat} (y : Obj) (hb : w.heap[b]? = some (.stringIter z pos)) : (setObj b y).run P w = .ok () { w with heap := w.heap.setIfInBounds b y } := by
 simp [setObj, Sem.run, hb]
theorem fr_setO {b : Nat} {y : Obj} : Fr (· = b) w { w with heap := w.heap.setIfInBounds b y } :=
 ⟨rfl, rfl, rfl, (by simp), fun k _ hn => by simp only [Array.getElem?_setIfInBounds]; rw [if_neg (fun e => hn e.symm)]⟩
theorem sNextS {x : Operand} (ho : o.op = .next x true) (H : eNextS s o.dst x K) (hs : St Γ M s a w) : o.wp P a w (Post Γ K) Q := by
 unfold eNextS at H
 have hr := eval_rel hs.fr x
 split at H
 rotate_left
 ·exact H.elim
 rename_i j c hx
 rw [hx] at hr
 simp only [Rel] at hr
 split at H
 rotate_left
 ·exact H.elim
 rename_i c' z pos hj
 obtain ⟨rfl, H⟩ := H
 have hob := hs.hp.objs _ _ hj
 obtain ⟨hh, hM⟩ := hob
 have wpr : ∀ {v : Value} {w' : World}, (Instr.next (.pointer (some ⟨c', 0, none⟩)) true o.type).run P w = .ok v w' → (execOp a.eval o).run P w = .ok (.value v) w' := fun {v w'} hrun => by
  unfold execOp
  rw [ho]
  refine run_valueW ?_
  rw [hr]
  exact hrun
 obtain ⟨H1, H2⟩ := H
 rcases Nat.lt_or_ge pos z.size with hlt | hge
 ·obtain ⟨⟨r, hr1⟩, H⟩ := H1 hlt
  have hK := H r hr1
  obtain ⟨_, hr2, hr3⟩ := hr1
  have hd : Utf8.decode z pos = (r, 1) := by
   unfold Utf8.decode
   have h0 : (z.get! (pos + 0)).toNat = r := hr2
   simp only [h0]
   rw [if_pos hr3]
  refine wp_of_run (v := .tuple #[.bool true, .int .i64 pos, .int .i32 r]) (w' := { w with heap := w.heap.setIfInBounds c' (.stringIter z (pos + 1)) }) (wpr ?_) ⟨_, M, hK, St.put (s := { s with ob := s.ob.set j (c', .siter z (pos + 1)) }) (hs.turned hj rfl hM fr_setO ⟨?_, hM⟩ rfl) o.dst ?_⟩
  ·simp [Instr.next, run_getObj_s hh, hlt, hd, run_setObj_s _ hh, goInt]
  ·have := (Array.getElem?_eq_some_iff.1 hh).1
   simp [this]
  ·simp only [Rel, RelL]
   exact ⟨_, rfl, _, _, rfl, rfl, _, _, rfl, rfl, _, _, rfl, rfl, rfl⟩
 ·refine wp_of_run (v := .tuple #[.bool false]) (w' := w) (wpr ?_) ⟨_, M, H2 hge, hs.put o.dst ?_⟩
  ·simp [Instr.next, run_getObj_s hh, Nat.not_lt.2 hge]
  ·simp only [Rel, RelL]
   exact ⟨_, rfl, _, _, rfl, rfl, rfl⟩
end
end Go.Proofs.Ytafcbipmmjegcaa.Vm
namespace Go.Proofs.Ytafcbipmmjegcaa.Vm
open Go Go.RowKit
section
variable {P : Program} {Γ : Ctx} {M : Pm} {s : S} {a : Act} {w : World} {o : Oper} {h : Hint} {K : S → Prop} {Q : Exit → Act → World → Prop}
def bytesV (z : ByteArray) : List Value := z.data.toList.map fun b => Value.int .u8 b.toNat
theorem bytesV_rel (z : ByteArray) : RelL M (bytesL z) (bytesV z) := by
 have : bytesL z = (bytesV z).map T.v := by unfold bytesL bytesV; rw [List.map_map]; rfl
 rw [this]; exact RelL.vs _
theorem bytesV_len (z : ByteArray) : (bytesV z).length = z.size := by unfold bytesV; rw [List.length_map, Array.length_toList]; rfl
theorem bytesV_run (z : ByteArray) : ((z.extract 0 z.size).data.map fun b => Value.int .u8 b.toNat).toList = bytesV z := by
 have : z.extract 0 z.size = z := by
  apply ByteArray.ext
  rw [ByteArray.data_extract]
  show z.data.extract 0 z.data.size = z.data
  simp
 rw [this, Array.toList_map]; rfl
theorem sCopy {c : Call} (ho : o.op = .call c) (hc : c.callee = .builtin .copy) (H : eCopy P s o.dst h (c.args.toList.map s.eval) c.argTypes.toList K) (hs : St Γ M s a w) : o.wp P a w (Post Γ K) Q := by
 obtain ⟨callee, ⟨args⟩, ⟨tys⟩⟩ := c
 simp only at hc H
 subst hc
 unfold eCopy at H
 split at H
 rotate_left
 ·exact H.elim
 rename_i i b off n cap z t t2 hargs
 have hal : args.length = 2 := by have := congrArg List.length hargs; simpa using this
 match args, hal with
 | [x, y], _ =>
 simp only [List.map_cons, List.map_nil, List.cons.injEq, and_true] at hargs
 have hr := eval_rel hs.fr x
 rw [hargs.1] at hr
 simp only [Rel] at hr
 have hry := eval_rel hs.fr y
 rw [hargs.2] at hry
 simp only [Rel] at hry
 split at H
 rotate_left
 ·exact H.elim
 rename_i e hel
 split at H
 rotate_left
 ·exact H.elim
 rename_i b' cs hk hob
 obtain ⟨rfl, ⟨hzn, hfit⟩, H⟩ := H
 have H := claimL_some H
 have hu : P.underlying t = some (.slice e) := by
  unfold elemOfT at hel
  split at hel
  ·injection hel with hel; injection hel with h1 h2; cases h1
  ·rename_i hu; injection hel with hel; injection hel with h1 h2; subst h2; exact hu
  ·cases hel
 obtain ⟨C, et, hh, hC, hM⟩ := hs.hp.objs _ _ hob
 have hcl : C.size = cs.length := by have := hC.len; simpa using this
 have hlen := bytesV_len z
 have hset : RelL M (setCells cs off (bytesL z)) (C.toList.take off ++ bytesV z ++ C.toList.drop (off + z.size)) := relL_setCells hC (bytesV_rel z) _ _ (by unfold bytesL; rw [List.length_map, Array.length_toList]; rfl)
 have hone : ∀ v ∈ bytesV z, v.oneCell' = true := fun v hv => by
  obtain ⟨u, _, rfl⟩ := List.mem_map.1 hv
  rfl
 have hst := run_storeCells_z P b' off et (bytesV z) 0 C w hh (by rw [hlen]; omega) hone
 simp only [Nat.add_zero, hlen] at hst
 have hfr : Go.Proofs.Ytafcbipmmjegcaa.Fr (· = b') w (w.setRow b' (C.toList.take off ++ bytesV z ++ C.toList.drop (off + z.size)).toArray) := Fr.setRow (S := (· = b')) (Fr.refl _ _) (.inr rfl) _
 have hst2 := hs.turned hob (b := b') rfl hM hfr (y := (b', .cells (setCells cs off (bytesL z)))) ⟨_, et, hh.setRow (by simp only [List.size_toArray, List.length_append, List.length_take, List.length_drop, hlen]; rw [Array.length_toList]; omega), hset, hM⟩ rfl
 have hrun : (Builtin.copy_ #[t, t2] o.type #[a.eval x, a.eval y]).run P w = .ok (.int .i64 z.size) (w.setRow b' (C.toList.take off ++ bytesV z ++ C.toList.drop (off + z.size)).toArray) := by
  rw [hr.1, hry]
  have e1 : min z.size n = z.size := by omega
  have e3 : ((z.extract 0 z.size).data.map fun b => Value.int .u8 b.toNat).toList = bytesV z := bytesV_run z
  simp only [Builtin.copy_, Builtin.lenOf, Builtin.firstCells]
  simp [run_underlying hu, run_sizeOf hk, e1, goInt]
  have e4 : List.take z.size (bytesV z) = bytesV z := List.take_of_length_le (by omega)
  simp at e3 hst
  first | rw [e4, hst] | rw [e3, e4, hst] | rw [e3, hst]
  rfl
 have hpost : Post Γ K (a.put o.dst (.int .i64 z.size)) (w.setRow b' (C.toList.take off ++ bytesV z ++ C.toList.drop (off + z.size)).toArray) := ⟨_, M, H, St.put hst2 o.dst (by simp only [Rel])⟩
 unfold Oper.wp execOp
 rw [ho]
 simp only [resolve, invoke, builtin, Sem.run_bind, Sem.run_pure, Result.andThen_ok, List.map_toArray, List.map_cons, List.map_nil, hrun]
 exact hpost
end
end Go.Proofs.Ytafcbipmmjegcaa.Vm
