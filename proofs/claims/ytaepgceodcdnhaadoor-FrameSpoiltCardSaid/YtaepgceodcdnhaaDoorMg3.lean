/- Texts of this claim, one behind the other: VmK, VmA, VmC, VmS, Vm9, Vm10, Frame, Open, Opn, OctPure. -/
import Derived.Test.YtaepgceodcdnhaaDoorMg2
import Derived.Laws.IdiomStrings
import Derived.Laws.MakeOwn
import Derived.Test.YtaepgceodcdnhaaDoorMg1
import Derived.ProofKit
import Derived.OpenShut
import Derived.Deep.Slices
import Derived.Deep.Fields
/- Trees: maps by their keys' values. No program is named here. -/
namespace Go.Proofs.YtaepgceodcdnhaaDoor.Vm
open Go Go.RowKit
section
variable {P : Program} {Γ : Ctx} {M : Pm} {s : S} {a : Act} {w : World} {o : Oper} {h : Hint} {K : S → Prop} {Q : Exit → Act → World → Prop}
theorem findAsk_spec {kt : TypeId} {G : Value → Prop} (hk : KeyOk P kt G) {k : Value} (hG : G k) : ∀ (l : List MapEntry) (i : Nat), (∀ x ∈ l, G x.key) →
    ((∀ w, (Instr.findAsking kt k l i).run P w = .ok none w) ∧ ∀ x ∈ l, x.key ≠ k) ∨ ∃ (j : Nat) (e : MapEntry), (∀ w, (Instr.findAsking kt k l i).run P w = .ok (some (i + j, e.val)) w) ∧ l[j]? = some e ∧ e.key = k
  | [], i, _ => .inl ⟨fun w => rfl, fun x hx => by cases hx⟩
  | e :: l, i, hl => by
    obtain ⟨q, h1, h2⟩ := hk.eq k e.key hG (hl e (by simp))
    have hr : ∀ w, (Op.equal kt k e.key).run P w = .ok q w := fun w => eqV_run 8 9992 kt k e.key q h1 w
    by_cases hq : k = e.key
    · have hqt := h2.2 hq
      subst hqt
      refine .inr ⟨0, e, fun w => ?_, rfl, hq.symm⟩
      simp [Instr.findAsking, hr]
    · have hqf : q = false := by cases q with | false => rfl | true => exact absurd (h2.1 rfl) hq
      subst hqf
      rcases findAsk_spec hk hG l (i + 1) (fun x hx => hl x (by simp [hx])) with ⟨h3, h4⟩ | ⟨j, e', h3, h4, h5⟩
      · refine .inl ⟨fun w => ?_, fun x hx => ?_⟩
        · simp [Instr.findAsking, hr, h3 w]
        · rcases List.mem_cons.1 hx with rfl | hx
          · exact fun e => hq e.symm
          · exact h4 x hx
      · refine .inr ⟨j + 1, e', fun w => ?_, h4, h5⟩
        simp [Instr.findAsking, hr, h3 w]
        omega
theorem findNow_comp {d : TypeDesc} (hd : compD d = true) (k : Value) : ∀ (l : List MapEntry) (i : Nat), Instr.findNow d k l i = if l.isEmpty then some none else none
  | [], _ => rfl
  | e :: l, i => by
    have : Instr.sameNow d k e.key = none := by cases d <;> first | rfl | simp [compD] at hd
    unfold Instr.findNow
    rw [this]; rfl
theorem findKeyV_spec {kt : TypeId} {G : Value → Prop} (hk : KeyOk P kt G) {k : Value} (hG : G k) (l : List MapEntry) (hl : ∀ x ∈ l, G x.key) :
    ((∀ w, (Instr.findKey kt k l).run P w = .ok none w) ∧ ∀ x ∈ l, x.key ≠ k) ∨ ∃ (j : Nat) (e : MapEntry), (∀ w, (Instr.findKey kt k l).run P w = .ok (some (j, e.val)) w) ∧ l[j]? = some e ∧ e.key = k := by
  obtain ⟨d, hd, hc⟩ := hk.td
  cases l with
  | nil =>
    refine .inl ⟨fun w => ?_, fun x hx => by cases hx⟩
    simp [Instr.findKey, run_underlying hd, findNow_comp hc]
  | cons e l =>
    have hrun : ∀ w, (Instr.findKey kt k (e :: l)).run P w = (Instr.findAsking kt k (e :: l)).run P w := fun w => by
      simp [Instr.findKey, run_underlying hd, findNow_comp hc]
    rcases findAsk_spec hk hG (e :: l) 0 hl with ⟨h3, h4⟩ | ⟨j, e', h3, h4, h5⟩
    · exact .inl ⟨fun w => (hrun w).trans (h3 w), h4⟩
    · exact .inr ⟨j, e', fun w => by rw [hrun w, h3 w, Nat.zero_add], h4, h5⟩
theorem run_sub {α : Type} {x : Sem α} {w w' : World} {v : α} (h : x.run P w = .ok v w') : x.run P w = .ok v w' := h
theorem sMakeV {t : TypeId} {G : Value → Prop} (ho : o.op = .makeMap t none) (H : eMakeV P s o.dst t G K) (hs : St Γ M s a w) : o.wp P a w (Post Γ K) Q := by
  unfold eMakeV at H
  split at H
  rotate_left
  · exact H.elim
  rename_i kt et hu
  have hk := H w.heap.size
  refine wp_of_run (v := .map (some w.heap.size)) (w' := w.alloc (.map #[] 0)) ?_ ⟨_, M, hk, St.put (s := { s with ob := s.ob ++ [(w.heap.size, .kv kt G (fun _ => none))] }) ⟨hs.df, hs.fr, ?_, ?_⟩ o.dst (by simp only [Rel])⟩
  · unfold execOp
    rw [ho]
    refine run_valueW ?_
    simp [Instr.makeMap]
  · refine (hs.hp.still fun b hb => heap_new w _ hb).more ⟨⟨#[], 0, fun _ => none, heap_alloc_new w _, ⟨MapKept.stamped_empty 0, by simp, by simp⟩, fun z t h => (by cases h), fun _ _ => rfl⟩, fun o => no_promise hs.hp.promise (Nat.le_refl _) o⟩ fun b hb => ?_
    simp only [obBlk, Option.some.injEq] at hb
    subst hb
    exact no_dom hs
  · refine ⟨hs.gr.more, hs.gr.only, hs.gr.fr.alloc _, fun b hb => ?_⟩
    rcases hb with ⟨i, x, h1, h2⟩ | h1
    · simp only at h1
      rw [List.getElem?_append] at h1
      split at h1
      · exact hs.gr.own b (.inl ⟨i, x, h1, h2⟩)
      · rw [List.getElem?_singleton] at h1
        split at h1
        · injection h1 with h1
          subst h1
          simp only [obBlk, Option.some.injEq] at h2
          subst h2
          exact .inr hs.gr.fr.size
        · cases h1
    · exact hs.gr.own b (.inr h1)
theorem sLookupV {t : TypeId} {x ix : Operand} {ok : Bool} (ho : o.op = .lookup t x ix ok) (H : vLookupV P s h t x ix ok (fun t => K (s.put o.dst t))) (hs : St Γ M s a w) : o.wp P a w (Post Γ K) Q := by
  unfold vLookupV at H
  have hr := eval_rel hs.fr x
  split at H
  rotate_left
  · exact H.elim
  rename_i i b hx
  rw [hx] at hr
  simp only [Rel] at hr
  split at H
  rotate_left
  · exact H.elim
  rename_i b' kt G f kt' e z hob hu hz
  split at H
  rotate_left
  · exact H.elim
  rename_i zt hzt
  split at H
  rotate_left
  · exact H.elim
  rename_i hkt
  subst hkt
  obtain ⟨⟨rfl, hok, hG⟩, H⟩ := H
  have hix := flat_rel hz (eval_rel hs.fr ix)
  obtain ⟨u, hu', hk⟩ := claim_some H
  injection hu' with hu'
  obtain ⟨y, hy, hry⟩ := zeroVal_run (M := M) hzt
  obtain ⟨⟨es, ck, fv, hh, ⟨hs1, hs2, hs3⟩, hF1, hF2⟩, -⟩ := hs.hp.objs _ _ hob
  have hrel : Rel M ((f z).getD zt) ((fv z).getD y) ∧ (f z).isSome = (fv z).isSome := by
    cases hfz : f z with
    | none => rw [hF2 z hfz]; exact ⟨hry, rfl⟩
    | some t' =>
      obtain ⟨v, h1, h2⟩ := hF1 z t' hfz
      rw [h1]
      exact ⟨h2, rfl⟩
  have hfind : (∃ (j : Nat) (v : Value), fv z = some v ∧ ∀ w, (Instr.findKey kt' z es.toList).run P w = .ok (some (j, v)) w) ∨ (fv z = none ∧ ∀ w, (Instr.findKey kt' z es.toList).run P w = .ok none w) := by
    rcases findKeyV_spec hok hG es.toList hs2 with ⟨h3, h4⟩ | ⟨j, e', h3, h4, h5⟩
    · refine .inr ⟨?_, h3⟩
      cases hfz : fv z with
      | none => rfl
      | some v =>
        obtain ⟨x, hx, hkx, _⟩ := (hs3 z v).1 hfz
        exact absurd hkx (h4 x hx)
    · exact .inl ⟨j, e'.val, (hs3 z e'.val).2 ⟨e', List.mem_of_getElem? h4, h5, rfl⟩, h3⟩
  have hrun : (Instr.lookup t (.map (some b')) z ok).run P w = .ok (if ok then .tuple #[(fv z).getD y, .bool (fv z).isSome] else (fv z).getD y) w := by
    rcases hfind with ⟨j, v, h1, h2⟩ | ⟨h1, h2⟩
    · rw [h1]
      simp [Instr.lookup, run_underlying hu, MapKept.run_getObj_map hh, hok.ck z hG, h2, Result.andThen]
    · rw [h1]
      simp [Instr.lookup, run_underlying hu, MapKept.run_getObj_map hh, hok.ck z hG, h2, hy, Result.andThen]
  cases ok with
  | true =>
    refine wp_of_run (v := .tuple #[(fv z).getD y, .bool (fv z).isSome]) (w' := w) ?_ ⟨_, M, hk, hs.put o.dst ?_⟩
    · unfold execOp
      rw [ho]
      refine run_value ?_
      rw [hr, hix]
      exact hrun
    · rw [← hu']
      simp only [if_pos, Rel, RelL]
      exact ⟨_, rfl, _, _, rfl, hrel.1, _, _, rfl, by rw [hrel.2], rfl⟩
  | false =>
    refine wp_of_run (v := (fv z).getD y) (w' := w) ?_ ⟨_, M, hk, hs.put o.dst ?_⟩
    · unfold execOp
      rw [ho]
      refine run_value ?_
      rw [hr, hix]
      exact hrun
    · rw [← hu']; exact hrel.1
theorem run_keyStays {k : Value} (h : Instr.sameBits 10000 k k = true) (w : World) : (Instr.keyThatStays k k).run P w = .ok k w := by
  unfold Instr.keyThatStays
  rw [if_pos h]; rfl
theorem sUpdateV {t : TypeId} {x ix y : Operand} (ho : o.op = .mapUpdate t x ix y) (H : eUpdateV P s h t x ix y (fun s' => K (s'.put o.dst (.v undef)))) (hs : St Γ M s a w) : o.wp P a w (Post Γ K) Q := by
  unfold eUpdateV at H
  have hr := eval_rel hs.fr x
  split at H
  rotate_left
  · exact H.elim
  rename_i i b hx
  rw [hx] at hr
  simp only [Rel] at hr
  split at H
  rotate_left
  · exact H.elim
  rename_i b' kt G f kt' e z g hob hu hz
  split at H
  rotate_left
  · exact H.elim
  rename_i hkt
  subst hkt
  obtain ⟨⟨rfl, hok, hG, hg1, hg2⟩, H⟩ := H
  have hix := flat_rel hz (eval_rel hs.fr ix)
  obtain ⟨⟨es, ck, fv, hh, ⟨hs1, hs2, hs3⟩, hF1, hF2⟩, hM⟩ := hs.hp.objs _ _ hob
  have hx' := hs.hp.objs _ _ hob
  have key : ∃ w' es' ck' fv', (Instr.mapUpdate t (.map (some b')) z (a.eval y)).run P w = .ok () w' ∧ w'.heap[b']? = some (.map es' ck') ∧ MapV es' ck' G fv' ∧ fv' z = some (a.eval y) ∧ (∀ q, q ≠ z → fv' q = fv q) ∧ Fr (· = b') w w' := by
    have hupd : ∃ fv' : Value → Option Value, fv' z = some (a.eval y) ∧ ∀ q, q ≠ z → fv' q = fv q := by
      classical
      exact ⟨fun q => if q = z then some (a.eval y) else fv q, if_pos rfl, fun q hq => if_neg hq⟩
    obtain ⟨fv', u1, u2⟩ := hupd
    rcases findKeyV_spec hok hG es.toList hs2 with ⟨h3, h4⟩ | ⟨j, e', h3, h4, h5⟩
    · refine ⟨{ w with heap := w.heap.setIfInBounds b' (.map (es.push { key := z, val := a.eval y, born := ck }) (ck + 1)) }, _, _, fv', ?_, (MapKept.heap_set hh).1, ⟨MapKept.stamped_push hs1 h4, ?_, ?_⟩, u1, u2, fr_set hh⟩
      · simp [Instr.mapUpdate, run_underlying hu, MapKept.run_getObj_map hh, hok.ck z hG, h3, MapKept.run_setObj_map _ hh, Result.andThen]
      · intro x hx
        simp only [Array.toList_push, List.mem_append, List.mem_singleton] at hx
        rcases hx with hx | rfl
        · exact hs2 x hx
        · exact hG
      · intro q v
        simp only [Array.toList_push, List.mem_append, List.mem_singleton]
        by_cases hq : q = z
        · subst hq
          rw [u1]
          constructor
          · intro e; injection e with e; exact ⟨_, .inr rfl, rfl, e⟩
          · rintro ⟨x, hx | rfl, h6, h7⟩
            · exact absurd h6 (h4 x hx)
            · exact congrArg some h7
        · rw [u2 q hq, hs3 q v]
          constructor
          · rintro ⟨x, hx, h6, h7⟩; exact ⟨x, .inl hx, h6, h7⟩
          · rintro ⟨x, hx | rfl, h6, h7⟩
            · exact ⟨x, hx, h6, h7⟩
            · exact absurd h6.symm hq
    · have hj : es[j]? = some e' := by simpa using h4
      have hjl : j < es.size := (Array.getElem?_eq_some_iff.1 hj).1
      have hkey : ∀ e1, es[j]? = some e1 → ({ e1 with key := z, val := a.eval y } : MapEntry).key = e1.key := fun e1 he1 => by rw [hj] at he1; cases he1; exact h5.symm
      have get : ∀ m, (es.modify j fun e => { e with key := z, val := a.eval y })[m]? = if j = m then (es[m]?).map (fun e => { e with key := z, val := a.eval y }) else es[m]? := fun m => Array.getElem?_modify
      have mem : ∀ x : MapEntry, x ∈ (es.modify j fun e => { e with key := z, val := a.eval y }).toList ↔ (∃ m, m ≠ j ∧ es[m]? = some x) ∨ x = { e' with key := z, val := a.eval y } := fun x => by
        rw [List.mem_iff_getElem?]
        constructor
        · rintro ⟨m, hm⟩
          rw [Array.getElem?_toList, get m] at hm
          by_cases e : j = m
          · rw [if_pos e, ← e, hj] at hm
            injection hm with hm
            exact .inr hm.symm
          · rw [if_neg e] at hm
            exact .inl ⟨m, fun h => e h.symm, hm⟩
        · rintro (⟨m, hm, hx⟩ | rfl)
          · exact ⟨m, by rw [Array.getElem?_toList, get m, if_neg (fun h => hm h.symm)]; exact hx⟩
          · exact ⟨j, by rw [Array.getElem?_toList, get j, if_pos rfl, hj]; rfl⟩
      refine ⟨{ w with heap := w.heap.setIfInBounds b' (.map (es.modify j fun e => { e with key := z, val := a.eval y }) ck) }, _, _, fv', ?_, (MapKept.heap_set hh).1, ⟨MapKept.stamped_modify hs1 _ _ (fun _ _ => rfl) (fun e1 _ he1 => hkey e1 he1), ?_, ?_⟩, u1, u2, fr_set hh⟩
      · simp [Instr.mapUpdate, run_underlying hu, MapKept.run_getObj_map hh, hok.ck z hG, h3, hj, h5, run_keyStays (hok.same z hG), MapKept.run_setObj_map _ hh, Result.andThen]
      · intro x hx
        rcases (mem x).1 hx with ⟨m, _, hm⟩ | rfl
        · exact hs2 x (List.mem_of_getElem? (i := m) (by rw [Array.getElem?_toList]; exact hm))
        · exact hG
      · intro q v
        have uniq : ∀ m x, m ≠ j → es[m]? = some x → x.key ≠ z := fun m x hm hx hk => by
          have hml : m < es.size := (Array.getElem?_eq_some_iff.1 hx).1
          have hnd : (es.toList.map (·.key)).Nodup := hs1.2.2
          have g1 : (es.toList.map (·.key))[m]? = some z := by rw [List.getElem?_map, Array.getElem?_toList, hx]; exact congrArg some hk
          have g2 : (es.toList.map (·.key))[j]? = some z := by rw [List.getElem?_map, Array.getElem?_toList, hj]; exact congrArg some h5
          obtain ⟨l1, e1⟩ := List.getElem?_eq_some_iff.1 g1
          obtain ⟨l2, e2⟩ := List.getElem?_eq_some_iff.1 g2
          exact hm ((List.getElem_inj hnd).1 (e1.trans e2.symm))
        by_cases hq : q = z
        · subst hq
          rw [u1]
          constructor
          · intro e; injection e with e; exact ⟨_, (mem _).2 (.inr rfl), rfl, e⟩
          · rintro ⟨x, hx, h6, h7⟩
            rcases (mem x).1 hx with ⟨m, hm, hxm⟩ | rfl
            · exact absurd h6 (uniq m x hm hxm)
            · exact congrArg some h7
        · rw [u2 q hq, hs3 q v]
          constructor
          · rintro ⟨x, hx, h6, h7⟩
            obtain ⟨m, hm⟩ := List.mem_iff_getElem?.1 hx
            rw [Array.getElem?_toList] at hm
            refine ⟨x, (mem x).2 (.inl ⟨m, fun e => ?_, hm⟩), h6, h7⟩
            rw [e, hj] at hm
            injection hm with hm
            exact hq (h6.symm.trans (by rw [← hm]; exact h5))
          · rintro ⟨x, hx, h6, h7⟩
            rcases (mem x).1 hx with ⟨m, hm, hxm⟩ | rfl
            · exact ⟨x, List.mem_of_getElem? (i := m) (by rw [Array.getElem?_toList]; exact hxm), h6, h7⟩
            · exact absurd h6.symm hq
  obtain ⟨w', es', ck', fv', hrun, h1, h2, u1, u2, hfr⟩ := key
  have hgr : FRelV M g fv' := by
    refine ⟨fun q u hq => ?_, fun q hq => ?_⟩
    · by_cases e : q = z
      · subst e
        rw [hg1] at hq
        injection hq with hq
        subst hq
        exact ⟨_, u1, eval_rel hs.fr y⟩
      · rw [hg2 q e] at hq
        rw [u2 q e]
        exact hF1 q u hq
    · by_cases e : q = z
      · subst e; rw [hg1] at hq; cases hq
      · rw [hg2 q e] at hq
        rw [u2 q e]
        exact hF2 q hq
  have hpost : Post Γ K (a.put o.dst undef) w' := ⟨_, M, H, St.put (s := { s with ob := s.ob.set i (b', .kv kt' G g) }) (hs.turned hob rfl hx'.2 hfr ⟨⟨es', ck', fv', h1, h2, hgr⟩, hx'.2⟩ rfl) o.dst (by simp only [Rel])⟩
  unfold Oper.wp execOp
  rw [ho]
  simp only [Sem.run_bind, hr, hix, hrun, Result.andThen_ok]
  exact hpost
theorem sRangeS {t : TypeId} {x : Operand} (ho : o.op = .range t x) (H : eRangeS P s o.dst t x K) (hs : St Γ M s a w) : o.wp P a w (Post Γ K) Q := by
  unfold eRangeS at H
  have hr := eval_rel hs.fr x
  split at H
  rotate_left
  · exact H.elim
  rename_i z hx
  rw [hx] at hr
  simp only [Rel] at hr
  split at H
  rotate_left
  · exact H.elim
  rename_i hu
  have hk := H w.heap.size
  refine wp_of_run (v := .pointer (some ⟨w.heap.size, 0, none⟩)) (w' := w.alloc (.stringIter z 0)) ?_ ⟨_, M, hk, St.put (s := { s with ob := s.ob ++ [(w.heap.size, .siter z 0)] }) ⟨hs.df, hs.fr, ?_, ?_⟩ o.dst (by simp only [Rel])⟩
  · unfold execOp
    rw [ho]
    refine run_valueW ?_
    rw [hr]
    simp [Instr.range, run_underlying hu]
  · refine (hs.hp.still fun b hb => heap_new w _ hb).more ⟨heap_alloc_new w _, fun o => no_promise hs.hp.promise (Nat.le_refl _) o⟩ fun b hb => ?_
    simp only [obBlk, Option.some.injEq] at hb
    subst hb
    exact no_dom hs
  · refine ⟨hs.gr.more, hs.gr.only, hs.gr.fr.alloc _, fun b hb => ?_⟩
    rcases hb with ⟨i, x, h1, h2⟩ | h1
    · simp only at h1
      rw [List.getElem?_append] at h1
      split at h1
      · exact hs.gr.own b (.inl ⟨i, x, h1, h2⟩)
      · rw [List.getElem?_singleton] at h1
        split at h1
        · injection h1 with h1
          subst h1
          simp only [obBlk, Option.some.injEq] at h2
          subst h2
          exact .inr hs.gr.fr.size
        · cases h1
    · exact hs.gr.own b (.inr h1)
theorem run_getObj_s {b : Nat} {z : ByteArray} {pos : Nat} (hb : w.heap[b]? = some (.stringIter z pos)) : (getObj b).run P w = .ok (.stringIter z pos) w := by simp [getObj, Sem.run, hb]
theorem run_setObj_s {b : Nat} {z : ByteArray} {pos : Nat} (y : Obj) (hb : w.heap[b]? = some (.stringIter z pos)) : (setObj b y).run P w = .ok () { w with heap := w.heap.setIfInBounds b y } := by
  simp [setObj, Sem.run, hb]
theorem fr_setO {b : Nat} {y : Obj} : Fr (· = b) w { w with heap := w.heap.setIfInBounds b y } :=
  ⟨rfl, rfl, rfl, (by simp), fun k _ hn => by simp only [Array.getElem?_setIfInBounds]; rw [if_neg (fun e => hn e.symm)]⟩
theorem sNextS {x : Operand} (ho : o.op = .next x true) (H : eNextS s o.dst x K) (hs : St Γ M s a w) : o.wp P a w (Post Γ K) Q := by
  unfold eNextS at H
  have hr := eval_rel hs.fr x
  split at H
  rotate_left
  · exact H.elim
  rename_i j c hx
  rw [hx] at hr
  simp only [Rel] at hr
  split at H
  rotate_left
  · exact H.elim
  rename_i c' z pos hj
  obtain ⟨rfl, H⟩ := H
  have hob := hs.hp.objs _ _ hj
  obtain ⟨hh, hM⟩ := hob
  have wpr : ∀ {v : Value} {w' : World}, (Instr.next (.pointer (some ⟨c', 0, none⟩)) true o.type).run P w = .ok v w' → (execOp a.eval o).run P w = .ok (.value v) w' := fun {v w'} hrun => by
    unfold execOp
    rw [ho]
    refine run_valueW ?_
    rw [hr]
    exact hrun
  obtain ⟨H1, H2⟩ := H
  rcases Nat.lt_or_ge pos z.size with hlt | hge
  · obtain ⟨⟨r, hr1⟩, H⟩ := H1 hlt
    have hK := H r hr1
    obtain ⟨_, hr2, hr3⟩ := hr1
    have hd : Utf8.decode z pos = (r, 1) := by
      unfold Utf8.decode
      have h0 : (z.get! (pos + 0)).toNat = r := hr2
      simp only [h0]
      rw [if_pos hr3]
    refine wp_of_run (v := .tuple #[.bool true, .int .i64 pos, .int .i32 r]) (w' := { w with heap := w.heap.setIfInBounds c' (.stringIter z (pos + 1)) }) (wpr ?_) ⟨_, M, hK, St.put (s := { s with ob := s.ob.set j (c', .siter z (pos + 1)) }) (hs.turned hj rfl hM fr_setO ⟨?_, hM⟩ rfl) o.dst ?_⟩
    · simp [Instr.next, run_getObj_s hh, hlt, hd, run_setObj_s _ hh, goInt]
    · have := (Array.getElem?_eq_some_iff.1 hh).1
      simp [this]
    · simp only [Rel, RelL]
      exact ⟨_, rfl, _, _, rfl, rfl, _, _, rfl, rfl, _, _, rfl, rfl, rfl⟩
  · refine wp_of_run (v := .tuple #[.bool false]) (w' := w) (wpr ?_) ⟨_, M, H2 hge, hs.put o.dst ?_⟩
    · simp [Instr.next, run_getObj_s hh, Nat.not_lt.2 hge]
    · simp only [Rel, RelL]
      exact ⟨_, rfl, _, _, rfl, rfl, rfl⟩
end
end Go.Proofs.YtaepgceodcdnhaaDoor.Vm
/- Trees: arrays that may be written (append, clear); freezing. No program is named here. -/
namespace Go.Proofs.YtaepgceodcdnhaaDoor.Vm
open Go Go.RowKit

section
variable {P : Program} {Γ : Ctx} {s : S} {a : Act} {w : World} {o : Oper} {h : Hint} {M : Pm} {K : S → Prop} {Q : Exit → Act → World → Prop}
theorem srcM_src {k : Nat} {t : TypeId} {y : T} {v : Value} {K : Nat → List T → Prop} (hr : HRel M s.ob s.gl w) (hsrc : srcT P t y = true) (H : srcM s k y K) (r : Rel M y v) :
    ∃ m us news, K m us ∧ Src P k t v m news w ∧ RelL M us news ∧ us.length = m * k := by
  have hsl : (∀ z, y ≠ .v (.string z)) → ∃ e', P.underlying t = some (.slice e') := fun hne => by
    unfold srcT at hsrc
    split at hsrc
    · exact absurd rfl (hne _)
    · cases hsrc
    · exact ⟨_, by assumption⟩
    · cases hsrc
  unfold srcM at H
  split at H
  · rename_i j b off n cap
    obtain ⟨e', hu⟩ := hsl (fun z e => by cases e)
    simp only [Rel] at r
    obtain ⟨rfl, hn, hc⟩ := r
    split at H
    rotate_left
    · exact H.elim
    rename_i b' cs hob
    obtain ⟨rfl, ⟨hlen, hone⟩, H⟩ := H
    obtain ⟨C, ty, hh, hC, hM⟩ := hr.objs _ _ hob
    have hus := (hC.drop off).take (n * k)
    have hl : ((C.toList.drop off).take (n * k)).length = n * k := by
      have := hC.len
      rw [List.length_take, List.length_drop, this]; omega
    refine ⟨_, _, (C.toList.drop off).take (n * k), H, Src.ofSlice w hu _ _ _ _ hl (fun q u hu' => ?_) (relL_one hone hus), hus, hus.len.symm.trans hl⟩
    rw [Addr.add_mid, hh.cell]
    rw [List.getElem?_take] at hu'
    split at hu'
    · rw [List.getElem?_drop] at hu'
      simpa using hu'
    · cases hu'
  · obtain ⟨e', hu⟩ := hsl (fun z e => by cases e)
    simp only [Rel] at r
    obtain ⟨A, rfl⟩ := r
    refine ⟨_, _, [], H, ?_, by simp only [RelL], by simp⟩
    cases A with
    | none => exact Src.ofNil w hu 0
    | some ad => exact Src.ofSlice w hu _ _ _ [] (by simp) (by simp) (by simp)
  · split at H
    rotate_left
    · exact H.elim
    rename_i ys hys
    obtain ⟨hl, news, hS, hrel⟩ := src_of hr hsrc hys r
    exact ⟨_, _, news, H, hS, hrel, by rw [← hrel.len]; exact hS.newsLen⟩
theorem run_append_at (t tx ty e : TypeId) (i : TypeInfo) (ht : P.underlying t = some (.slice e)) (hi : P.info? e = some i) (g off n cap : Nat) (C : Array Value) (et : TypeId) (hg : Hc w g C et) (x : Value) (m : Nat) (news : List Value) (hs : Src P i.size tx x m news w)
    (hroom : n + m ≤ cap) (hfit : off + n * i.size + news.length ≤ C.size) :
    (Builtin.append_ #[t, tx] ty #[.slice (some ⟨g, off, none⟩) n cap, x]).run P w = .ok (.slice (some ⟨g, off, none⟩) (n + m) cap) (w.setRow g (C.toList.take (off + n * i.size) ++ news ++ C.toList.drop (off + n * i.size + news.length)).toArray) := by
  have hst := run_storeCells_z P g (off + n * i.size) et news 0 C w hg (by simpa using hfit) hs.one
  simp only [Nat.add_zero] at hst
  rcases hs.kind with ⟨e', hk⟩ | hk <;> simp [Builtin.append_, run_underlying ht, run_underlying hk, sizeOf, typeInfo, hi, hs.len, hroom, hs.cells, Addr.add_mid, hst]
theorem relL_und (n : Nat) : ∀ (ys : List Value), ys.length = n → RelL M (List.replicate n .und) ys := fun ys hl => RelL.of_get (by simp [hl]) fun i t y h1 _ => by
  rw [List.getElem?_replicate] at h1
  split at h1
  · injection h1 with h1; subst h1; simp only [Rel]
  · cases h1
theorem St.drew (hs : St Γ M s a w) : St Γ M s a w.drew := ⟨hs.df, hs.fr, hs.hp.still fun _ _ => rfl, ⟨hs.gr.more, hs.gr.only, hs.gr.fr.drew, hs.gr.own⟩⟩
theorem newArr_sound {t tx ty e : TypeId} {i : TypeInfo} {z : Value} {k n cap m : Nat} {os us : List T} {x v : Value} {olds news : List Value} {A : Option Addr} {d : Option Tmp} (hs : St Γ M s a w)
    (ht : P.underlying t = some (.slice e)) (hi : P.info? e = some i) (hz : i.zero = some z) (hsz : i.size = k) (hzk : z.cells.size = k) (hx : x = .slice A n cap) (hold : (Builtin.firstCells i.size n (.slice A n cap)).run P w.drew = .ok olds.toArray w.drew) (horel : RelL M os olds)
    (hsrc : Src P k tx v m news w) (hrel : RelL M us news) (hm : cap < n + m) (hf : Fits (n + m) i.bytes) (H : newArr s d k (n + m) (os ++ us) K) :
    ∃ x' w', (Builtin.append_ #[t, tx] ty #[x, v]).run P w = .ok x' w' ∧ Post Γ K (a.put d x') w' := by
  subst hx hsz
  obtain ⟨hf1, hf2⟩ := hf
  have hmax : n + m ≤ 9223372036854775807 := by unfold maxLen at hf2; omega
  have hrun := run_append_grow_src (P := P) w t tx ty e i z ht hi hz A n cap olds hold v m news hsrc hm (by omega) (growslice_fits hm hf1)
  have hge := grownCap_ge w (n + m) cap e
  have hcm : grownCap w (n + m) cap e ≤ maxLen := grownCap_le_maxLen w (n + m) cap e (by omega)
  generalize grownCap w (n + m) cap e = nc at *
  have hC : RelL M (os ++ us ++ List.replicate ((nc - (n + m)) * i.size) .und) ((olds ++ news).toArray ++ Builtin.zeroCells z.cells (nc - (n + m))).toList := by
    rw [Array.toList_append]
    exact (horel.append hrel).append (relL_und _ _ (by rw [Array.length_toList, size_zeroCells, hzk]))
  have hnew := hs.drew.newOb ((olds ++ news).toArray ++ Builtin.zeroCells z.cells (nc - (n + m))) e hC d (u := .sa s.ob.length w.heap.size 0 (n + m) nc) (v := .slice (some ⟨w.heap.size, 0, none⟩) (n + m) nc) (by simp only [Rel]; exact ⟨trivial, hge, by unfold maxLen at hcm; omega⟩)
  exact ⟨_, _, hrun, _, M, H w.heap.size nc hge (by unfold maxLen at hcm; omega), hnew⟩
theorem hold0 (A : Option Addr) (k : Nat) : (Builtin.firstCells k 0 (.slice A 0 0)).run P w.drew = .ok ([] : List Value).toArray w.drew := by
  cases A with
  | none => exact run_firstCells_none w.drew _ 0 0 0
  | some ad => exact run_firstCells_some w.drew k 0 ad 0 0 [] (by simp) (by simp)
theorem sAppendM {c : Call} (ho : o.op = .call c) (hc : c.callee = .builtin .append) (H : eAppendM P s o.dst h (c.args.toList.map s.eval) c.argTypes.toList K) (hs : St Γ M s a w) : o.wp P a w (Post Γ K) Q := by
  obtain ⟨callee, ⟨args⟩, ⟨tys⟩⟩ := c
  simp only at hc H
  subst hc
  unfold eAppendM at H
  split at H
  rotate_left
  · exact H.elim
  rename_i ta ty t t' hargs
  match args, hargs with
  | [x, y], hargs =>
  simp only [List.map_cons, List.map_nil, List.cons.injEq, and_true] at hargs
  obtain ⟨rfl, rfl⟩ := hargs
  split at H
  rotate_left
  · exact H.elim
  rename_i e hel
  split at H
  rotate_left
  · exact H.elim
  rename_i k bytes z hk hby hz
  split at H
  rotate_left
  · exact H.elim
  rename_i hcnd
  obtain ⟨hsrc, hk0, hzl⟩ := hcnd
  have hu : P.underlying t = some (.slice e) := by
    unfold elemOfT at hel
    split at hel
    · injection hel with hel; injection hel with h1 h2; cases h1
    · rename_i hu; injection hel with hel; injection hel with h1 h2; subst h2; exact hu
    · cases hel
  unfold sizeT at hk
  unfold bytesT at hby
  simp only [Option.map_eq_some_iff] at hk hby
  obtain ⟨ti, hi, hsz⟩ := hk
  obtain ⟨ti', hi', hby⟩ := hby
  rw [hi] at hi'
  injection hi' with hi'
  subst hi'
  unfold zeroT at hz
  simp only [hi, Option.bind_some, Option.map_eq_some_iff] at hz
  obtain ⟨zv, hzv, rfl⟩ := hz
  have hzk : zv.cells.size = k := by simpa using hzl
  have run : ∀ {x' : Value} {w' : World}, (Builtin.append_ #[t, t'] o.type #[a.eval x, a.eval y]).run P w = .ok x' w' → (execOp a.eval o).run P w = .ok (.value x') w' := fun {x' w'} hrun => by
    unfold execOp
    rw [ho]
    simp [resolve, invoke, builtin, hrun]
  obtain ⟨m, us, news, H, hS, hrel, hlen⟩ : ∃ m us news, toArr s o.dst h (s.eval x) k bytes m us K ∧ Src P k t' (a.eval y) m news w ∧ RelL M us news ∧ us.length = m * k := by
    exact srcM_src (P := P) hs.hp hsrc H (eval_rel hs.fr y)
  have hr := eval_rel hs.fr x
  unfold toArr at H
  split at H
  · rename_i ii b off n cap hx
    rw [hx] at hr
    simp only [Rel] at hr
    obtain ⟨hr, hn, hc⟩ := hr
    split at H
    rotate_left
    · exact H.elim
    rename_i b' cs hob
    obtain ⟨rfl, H1, H2⟩ := H
    obtain ⟨C, et, hh, hC, hM⟩ := hs.hp.objs _ _ hob
    rcases Nat.lt_or_ge cap (n + m) with hroom | hroom
    · obtain ⟨⟨hfit, hone⟩, hf, H⟩ := H2 hroom
      have hus := (hC.drop off).take (n * k)
      have hl : ((C.toList.drop off).take (n * k)).length = n * k := by
        have := hC.len
        rw [List.length_take, List.length_drop, this]; omega
      have hold : (Builtin.firstCells ti.size n (.slice (some ⟨b', off, none⟩) n cap)).run P w.drew = .ok ((C.toList.drop off).take (n * k)).toArray w.drew := run_firstCells_some w.drew ti.size n _ n cap _ (by rw [hl, hsz]) (fun q u hu' => by
        rw [Addr.add_mid]
        have : w.drew.cell? ⟨b', off + q, none⟩ = C[off + q]? := hh.cell _
        rw [this]
        rw [List.getElem?_take] at hu'
        split at hu'
        · rw [List.getElem?_drop] at hu'
          simpa using hu'
        · cases hu')
      obtain ⟨x', w', hrun, hp⟩ := newArr_sound (ty := o.type) hs hu hi hzv hsz hzk hr hold hus hS hrel hroom (by rw [hby]; exact hf) H
      exact wp_of_run (run hrun) hp
    obtain ⟨hfit, H⟩ := H1 hroom
    have H := claimL_some H
    have hnl : news.length = m * k := by rw [← hlen, hrel.len]
    have hcl := hC.len
    have hrun := run_append_at (w := w) (P := P) t t' o.type e ti hu hi b' off n cap C et hh (a.eval y) m news (by rw [hsz]; exact hS) hroom (by rw [hsz, hnl]; simp at hcl; omega)
    rw [hsz] at hrun
    have hset : RelL M (setCells cs (off + n * k) us) (C.toList.take (off + n * k) ++ news ++ C.toList.drop (off + n * k + news.length)) := relL_setCells hC hrel _ _ (by rw [hlen, hnl])
    have hfr : Go.Proofs.YtaepgceodcdnhaaDoor.Fr (· = b') w (w.setRow b' (C.toList.take (off + n * k) ++ news ++ C.toList.drop (off + n * k + news.length)).toArray) := Fr.setRow (S := (· = b')) (Fr.refl _ _) (.inr rfl) _
    have hst := hs.turned hob (b := b') rfl hM hfr (y := (b', .cells (setCells cs (off + n * k) us))) ⟨_, et, hh.setRow (by have := hnl; simp only [List.size_toArray, List.length_append, List.length_take, List.length_drop, Array.length_toList]; simp at hcl; omega), by simpa using hset, hM⟩ rfl
    refine wp_of_run (run (by rw [hr]; exact hrun)) ⟨_, M, H, hst.put o.dst ?_⟩
    simp only [Rel]
    exact ⟨trivial, hroom, hc⟩
  · rename_i hx
    rw [hx] at hr
    simp only [Rel] at hr
    obtain ⟨A, hr⟩ := hr
    by_cases hm : m = 0
    · have hn0 : news = [] := List.eq_nil_of_length_eq_zero (by rw [hS.newsLen, hm, Nat.zero_mul])
      subst hm hn0
      have hrun := run_append_nothing w t t' o.type e ti hu hi A 0 0 (Nat.le_refl _) (a.eval y) (by rw [hsz]; exact hS)
      exact wp_of_run (run (by rw [hr]; exact hrun)) ⟨_, M, H.1 rfl, hs.put o.dst (by simp only [Rel]; exact ⟨A, rfl⟩)⟩
    · obtain ⟨hf, H⟩ := H.2 hm
      obtain ⟨x', w', hrun, hp⟩ := newArr_sound (os := []) (n := 0) (cap := 0) (ty := o.type) hs hu hi hzv hsz hzk hr (hold0 A _) (by simp only [RelL]) hS hrel (by omega) (by rw [hby, Nat.zero_add]; exact hf) (by rw [Nat.zero_add]; exact H)
      exact wp_of_run (run hrun) hp
  · rename_i hx
    rw [hx] at hr
    simp only [Rel] at hr
    by_cases hm : m = 0
    · have hn0 : news = [] := List.eq_nil_of_length_eq_zero (by rw [hS.newsLen, hm, Nat.zero_mul])
      subst hm hn0
      have hrun := run_append_nothing w t t' o.type e ti hu hi none 0 0 (Nat.le_refl _) (a.eval y) (by rw [hsz]; exact hS)
      have hK := H.1 rfl
      rw [hx] at hK
      exact wp_of_run (run (by rw [hr]; exact hrun)) ⟨_, M, hK, hs.put o.dst (by simp only [Rel])⟩
    · obtain ⟨hf, H⟩ := H.2 hm
      obtain ⟨x', w', hrun, hp⟩ := newArr_sound (os := []) (n := 0) (cap := 0) (ty := o.type) hs hu hi hzv hsz hzk hr (hold0 none _) (by simp only [RelL]) hS hrel (by omega) (by rw [hby, Nat.zero_add]; exact hf) (by rw [Nat.zero_add]; exact H)
      exact wp_of_run (run hrun) hp
  · exact H.elim
theorem zeroCells_rel {z : Value} (n k : Nat) (hk : z.cells.size = k) : RelL M ((List.range (n * k)).map fun j => (z.cells.toList.map T.v).getD (j % k) .und) (Builtin.zeroCells z.cells n).toList := by
  refine RelL.of_get (by simp [size_zeroCells, hk]) fun i t y h1 h2 => ?_
  rw [List.getElem?_map, Option.map_eq_some_iff] at h1
  obtain ⟨j, hj, rfl⟩ := h1
  have hi : i < n * k := by have := (List.getElem?_eq_some_iff.1 hj).1; simpa using this
  rw [List.getElem?_range hi] at hj
  injection hj with hj
  subst hj
  have hk0 : 0 < k := (Nat.eq_zero_or_pos k).elim (fun h => by rw [h] at hi; omega) id
  have hm : i % k < z.cells.size := by rw [hk]; exact Nat.mod_lt _ hk0
  unfold Builtin.zeroCells at h2
  rw [Array.getElem?_toList, Array.getElem?_map, Option.map_eq_some_iff] at h2
  obtain ⟨q, hq, rfl⟩ := h2
  rw [hk] at hq
  have hq' : q = i := by
    have := Array.getElem?_eq_some_iff.1 hq
    obtain ⟨_, h3⟩ := this
    simpa using h3.symm
  subst hq'
  rw [hk]
  have e1 : (z.cells.toList.map T.v).getD (q % k) .und = .v (z.cells[q % k]!) := by
    rw [List.getD_eq_getElem?_getD, List.getElem?_map, Array.getElem?_toList, Array.getElem?_eq_getElem hm]
    simp [hm]
  rw [e1]
  simp only [Rel]
theorem sClearM {c : Call} (ho : o.op = .call c) (hc : c.callee = .builtin .clear) (H : eClearM P s h (c.args.toList.map s.eval) c.argTypes.toList (fun s' => K (s'.put o.dst (.tup [])))) (hs : St Γ M s a w) : o.wp P a w (Post Γ K) Q := by
  obtain ⟨callee, ⟨args⟩, ⟨tys⟩⟩ := c
  simp only at hc H
  subst hc
  unfold eClearM at H
  split at H
  rotate_left
  · exact H.elim
  rename_i i b off n cap t hargs
  have hal : args.length = 1 := by have := congrArg List.length hargs; simpa using this
  match args, hal with
  | [x], _ =>
  simp only [List.map_cons, List.map_nil, List.cons.injEq, and_true] at hargs
  have hr := eval_rel hs.fr x
  rw [hargs] at hr
  simp only [Rel] at hr
  split at H
  rotate_left
  · exact H.elim
  rename_i e hel
  split at H
  rotate_left
  · exact H.elim
  rename_i k z b' cs hk hz hob
  split at H
  rotate_left
  · exact H.elim
  rename_i hzl
  obtain ⟨hzl, hz1⟩ := hzl
  obtain ⟨rfl, hfit, H⟩ := H
  have H := claimL_some H
  have hu : P.underlying t = some (.slice e) := by
    unfold elemOfT at hel
    split at hel
    · injection hel with hel; injection hel with h1 h2; cases h1
    · rename_i hu; injection hel with hel; injection hel with h1 h2; subst h2; exact hu
    · cases hel
  obtain ⟨zv, hzr, _, rfl⟩ := zeroT_run (M := M) hz
  have hzk : zv.cells.size = k := by simpa using hzl
  obtain ⟨C, et, hh, hC, hM⟩ := hs.hp.objs _ _ hob
  have hzc := zeroCells_rel (M := M) n k hzk
  have hzlen : (Builtin.zeroCells zv.cells n).toList.length = n * k := by rw [Array.length_toList, size_zeroCells, hzk]
  have hcl : C.size = cs.length := by have := hC.len; simpa using this
  have hset : RelL M (setCells cs off ((List.range (n * k)).map fun j => (zv.cells.toList.map T.v).getD (j % k) .und)) (C.toList.take off ++ (Builtin.zeroCells zv.cells n).toList ++ C.toList.drop (off + n * k)) := relL_setCells hC hzc _ _ (by simp)
  have hone : ∀ v ∈ (Builtin.zeroCells zv.cells n).toList, v.oneCell' = true := relL_one (by
    rw [List.all_eq_true] at hz1 ⊢
    intro x hx
    obtain ⟨j, hj, rfl⟩ := List.mem_map.1 hx
    have hj' : j < n * k := by simpa using hj
    have hk0 : 0 < k := (Nat.eq_zero_or_pos k).elim (fun h => by rw [h] at hj'; omega) id
    refine hz1 _ ?_
    have hlt : j % k < (zv.cells.toList.map T.v).length := by rw [hzl]; exact Nat.mod_lt _ hk0
    rw [List.getD_eq_getElem?_getD, List.getElem?_eq_getElem hlt]
    exact List.getElem_mem _) hzc
  have hst := run_storeCells_z P b' off et (Builtin.zeroCells zv.cells n).toList 0 C w hh (by rw [hzlen]; omega) hone
  simp only [Nat.add_zero, hzlen] at hst
  have hfr : Go.Proofs.YtaepgceodcdnhaaDoor.Fr (· = b') w (w.setRow b' (C.toList.take off ++ (Builtin.zeroCells zv.cells n).toList ++ C.toList.drop (off + n * k)).toArray) := Fr.setRow (S := (· = b')) (Fr.refl _ _) (.inr rfl) _
  have hst2 := hs.turned hob (b := b') rfl hM hfr (y := (b', .cells (setCells cs off ((List.range (n * k)).map fun j => (zv.cells.toList.map T.v).getD (j % k) .und)))) ⟨_, et, hh.setRow (by simp only [List.size_toArray, List.length_append, List.length_take, List.length_drop, hzlen]; rw [Array.length_toList]; omega), hset, hM⟩ rfl
  have hrun : (Builtin.clear_ #[t] o.type #[a.eval x]).run P w = .ok (.tuple #[]) (w.setRow b' (C.toList.take off ++ (Builtin.zeroCells zv.cells n).toList ++ C.toList.drop (off + n * k)).toArray) := by
    rw [hr.1]
    rcases Nat.eq_zero_or_pos n with hn | hn
    · have e0 : (Builtin.zeroCells zv.cells n).toList = [] := List.eq_nil_of_length_eq_zero (by rw [hzlen, hn, Nat.zero_mul])
      have e1 : (C.toList.take off ++ (Builtin.zeroCells zv.cells n).toList ++ C.toList.drop (off + n * k)).toArray = C := by rw [e0, hn, Nat.zero_mul, Nat.add_zero, List.append_nil, List.take_append_drop, Array.toArray_toList]
      rw [e1, hh.self, hn]
      simp [Builtin.clear_, run_underlying hu]
    · obtain ⟨n', rfl⟩ : ∃ n', n = n' + 1 := ⟨n - 1, by omega⟩
      simp [Builtin.clear_, run_underlying hu, hzr, hst]
  unfold Oper.wp execOp
  rw [ho]
  simp only [resolve, invoke, builtin, Sem.run_bind, Sem.run_pure, Result.andThen_ok, List.map_toArray, List.map_cons, List.map_nil, hrun]
  exact ⟨_, M, H, hst2.put o.dst (by simp only [Rel, RelL]; exact ⟨_, rfl, rfl⟩)⟩
end
end Go.Proofs.YtaepgceodcdnhaaDoor.Vm
/- Trees: a string's bytes copied into an array. No program is named here. -/
namespace Go.Proofs.YtaepgceodcdnhaaDoor.Vm
open Go Go.RowKit
section
variable {P : Program} {Γ : Ctx} {M : Pm} {s : S} {a : Act} {w : World} {o : Oper} {h : Hint} {K : S → Prop} {Q : Exit → Act → World → Prop}
def bytesV (z : ByteArray) : List Value := z.data.toList.map fun b => Value.int .u8 b.toNat
theorem bytesV_rel (z : ByteArray) : RelL M (bytesL z) (bytesV z) := by
  have : bytesL z = (bytesV z).map T.v := by unfold bytesL bytesV; rw [List.map_map]; rfl
  rw [this]; exact RelL.vs _
theorem bytesV_len (z : ByteArray) : (bytesV z).length = z.size := by unfold bytesV; rw [List.length_map, Array.length_toList]; rfl
theorem bytesV_run (z : ByteArray) : ((z.extract 0 z.size).data.map fun b => Value.int .u8 b.toNat).toList = bytesV z := by
  have : z.extract 0 z.size = z := by
    apply ByteArray.ext
    rw [ByteArray.data_extract]
    show z.data.extract 0 z.data.size = z.data
    simp
  rw [this, Array.toList_map]; rfl
theorem sCopy {c : Call} (ho : o.op = .call c) (hc : c.callee = .builtin .copy) (H : eCopy P s o.dst h (c.args.toList.map s.eval) c.argTypes.toList K) (hs : St Γ M s a w) : o.wp P a w (Post Γ K) Q := by
  obtain ⟨callee, ⟨args⟩, ⟨tys⟩⟩ := c
  simp only at hc H
  subst hc
  unfold eCopy at H
  split at H
  rotate_left
  · exact H.elim
  rename_i i b off n cap z t t2 hargs
  have hal : args.length = 2 := by have := congrArg List.length hargs; simpa using this
  match args, hal with
  | [x, y], _ =>
  simp only [List.map_cons, List.map_nil, List.cons.injEq, and_true] at hargs
  have hr := eval_rel hs.fr x
  rw [hargs.1] at hr
  simp only [Rel] at hr
  have hry := eval_rel hs.fr y
  rw [hargs.2] at hry
  simp only [Rel] at hry
  split at H
  rotate_left
  · exact H.elim
  rename_i e hel
  split at H
  rotate_left
  · exact H.elim
  rename_i b' cs hk hob
  obtain ⟨rfl, ⟨hzn, hfit⟩, H⟩ := H
  have H := claimL_some H
  have hu : P.underlying t = some (.slice e) := by
    unfold elemOfT at hel
    split at hel
    · injection hel with hel; injection hel with h1 h2; cases h1
    · rename_i hu; injection hel with hel; injection hel with h1 h2; subst h2; exact hu
    · cases hel
  obtain ⟨C, et, hh, hC, hM⟩ := hs.hp.objs _ _ hob
  have hcl : C.size = cs.length := by have := hC.len; simpa using this
  have hlen := bytesV_len z
  have hset : RelL M (setCells cs off (bytesL z)) (C.toList.take off ++ bytesV z ++ C.toList.drop (off + z.size)) := relL_setCells hC (bytesV_rel z) _ _ (by unfold bytesL; rw [List.length_map, Array.length_toList]; rfl)
  have hone : ∀ v ∈ bytesV z, v.oneCell' = true := fun v hv => by
    obtain ⟨u, _, rfl⟩ := List.mem_map.1 hv
    rfl
  have hst := run_storeCells_z P b' off et (bytesV z) 0 C w hh (by rw [hlen]; omega) hone
  simp only [Nat.add_zero, hlen] at hst
  have hfr : Go.Proofs.YtaepgceodcdnhaaDoor.Fr (· = b') w (w.setRow b' (C.toList.take off ++ bytesV z ++ C.toList.drop (off + z.size)).toArray) := Fr.setRow (S := (· = b')) (Fr.refl _ _) (.inr rfl) _
  have hst2 := hs.turned hob (b := b') rfl hM hfr (y := (b', .cells (setCells cs off (bytesL z)))) ⟨_, et, hh.setRow (by simp only [List.size_toArray, List.length_append, List.length_take, List.length_drop, hlen]; rw [Array.length_toList]; omega), hset, hM⟩ rfl
  have hrun : (Builtin.copy_ #[t, t2] o.type #[a.eval x, a.eval y]).run P w = .ok (.int .i64 z.size) (w.setRow b' (C.toList.take off ++ bytesV z ++ C.toList.drop (off + z.size)).toArray) := by
    rw [hr.1, hry]
    have e1 : min z.size n = z.size := by omega
    have e3 : ((z.extract 0 z.size).data.map fun b => Value.int .u8 b.toNat).toList = bytesV z := bytesV_run z
    simp only [Builtin.copy_, Builtin.lenOf, Builtin.firstCells]
    simp [run_underlying hu, run_sizeOf hk, e1, goInt]
    have e4 : List.take z.size (bytesV z) = bytesV z := List.take_of_length_le (by omega)
    simp at e3 hst
    first | rw [e4, hst] | rw [e3, e4, hst] | rw [e3, hst]
    rfl
  have hpost : Post Γ K (a.put o.dst (.int .i64 z.size)) (w.setRow b' (C.toList.take off ++ bytesV z ++ C.toList.drop (off + z.size)).toArray) := ⟨_, M, H, St.put hst2 o.dst (by simp only [Rel])⟩
  unfold Oper.wp execOp
  rw [ho]
  simp only [resolve, invoke, builtin, Sem.run_bind, Sem.run_pure, Result.andThen_ok, List.map_toArray, List.map_cons, List.map_nil, hrun]
  exact hpost
end
end Go.Proofs.YtaepgceodcdnhaaDoor.Vm
/- Trees: bytes and strings, slices made. No program is named here. -/
namespace Go.Proofs.YtaepgceodcdnhaaDoor.Vm
open Go Go.RowKit

section
variable {P : Program} {Γ : Ctx} {s : S} {a : Act} {w : World} {o : Oper} {h : Hint} {M : Pm} {K : S → Prop} {Q : Exit → Act → World → Prop}
theorem convT_one {t u : TypeId} (hc : convT P t u = 1) : ∃ e, P.underlying t = some (.slice e) ∧ P.underlying e = some (.int .u8) ∧ P.underlying u = some .string := by
  unfold convT at hc
  split at hc
  · rename_i e h1 h2
    split at hc
    · rename_i h3; exact ⟨e, h1, h3, h2⟩
    · cases hc
  · split at hc <;> cases hc
  · cases hc
theorem convT_two {t u : TypeId} (hc : convT P t u = 2) : ∃ e, P.underlying t = some .string ∧ P.underlying u = some (.slice e) ∧ P.underlying e = some (.int .u8) := by
  unfold convT at hc
  split at hc
  · split at hc <;> cases hc
  · rename_i e h1 h2
    split at hc
    · rename_i h3; exact ⟨e, h1, h2, h3⟩
    · cases hc
  · cases hc
def ints (xs : List Int) : List T := xs.map fun n => T.v (.int .u8 n)
theorem bytesL_ints (z : ByteArray) : bytesL z = ints (z.data.toList.map fun c => (c.toNat : Int)) := by unfold bytesL ints; rw [List.map_map]; rfl
theorem str_ints (z : ByteArray) : strOfNums (z.data.toList.map fun c => (c.toNat : Int)) = z := by
  unfold strOfNums
  rw [List.map_map]
  have : ((fun n : Int => UInt8.ofNat n.toNat) ∘ fun c : UInt8 => (c.toNat : Int)) = id := funext fun c => by simp
  rw [this, List.map_id]
theorem strT_ints : ∀ {es : List T} {l : List UInt8}, strT es = some l → ∃ xs, es = ints xs ∧ (⟨l.toArray⟩ : ByteArray) = strOfNums xs
  | [], l, h => by simp only [strT, Option.some.injEq] at h; subst h; exact ⟨[], rfl, rfl⟩
  | t :: ts, l, h => by
    unfold strT at h
    split at h
    · rename_i h0; cases h0
    · rename_i n ts' h0
      injection h0 with h1 h2
      subst h1 h2
      simp only [Option.map_eq_some_iff] at h
      obtain ⟨l', h3, rfl⟩ := h
      obtain ⟨xs, rfl, e⟩ := strT_ints h3
      refine ⟨n :: xs, rfl, ?_⟩
      have : l' = xs.map fun n => UInt8.ofNat n.toNat := by
        have := congrArg (fun b : ByteArray => b.data.toList) e
        simpa [strOfNums] using this
      rw [this]; rfl
    · cases h
theorem ints_rel : ∀ {xs : List Int} {us : List Value}, RelL M (ints xs) us → us = xs.map (Value.int .u8)
  | [], us, r => by simp only [ints, List.map_nil, RelL] at r; exact r
  | x :: xs, us, r => by
    simp only [ints, List.map_cons, RelL] at r
    obtain ⟨u, us', rfl, r1, r2⟩ := r
    simp only [Rel] at r1
    rw [r1, ints_rel (xs := xs) r2]; rfl
theorem ints_flat : ∀ (xs : List Int), (ints xs).flatMap elCells = ints xs
  | [] => rfl
  | x :: xs => by
    have := ints_flat xs
    unfold ints at *
    rw [List.map_cons, List.flatMap_cons, this]; rfl
/-- the bytes of a slice: at some cells, or none -/
theorem bytesOfT_sound {t : T} {v : Value} {k : List T → Prop} (hr : HRel M s.ob s.gl w) (H : bytesOfT s t k) (r : Rel M t v) :
    ∃ es, k es ∧ ((es = [] ∧ ∃ A c, v = .slice A 0 c) ∨ ∃ b o c us, v = .slice (some ⟨b, o, none⟩) es.length c ∧ RelL M (es.flatMap elCells) us ∧ (∀ xs, es = ints xs → ∀ i u, us[i]? = some u → w.cell? ⟨b, o + i, none⟩ = some u)) := by
  have sl : ∀ (es : List T) (A : Option Addr) (cap : Nat), Hdr A es.length cap → El elCells 1 es → (∀ b o, A = some ⟨b, o, none⟩ → RelE M 1 b es o) → v = .slice A es.length cap → k es →
      ∃ es, k es ∧ ((es = [] ∧ ∃ A c, v = .slice A 0 c) ∨ ∃ b o c us, v = .slice (some ⟨b, o, none⟩) es.length c ∧ RelL M (es.flatMap elCells) us ∧ (∀ xs, es = ints xs → ∀ i u, us[i]? = some u → w.cell? ⟨b, o + i, none⟩ = some u)) := by
    rintro es A cap ⟨d1, d2, d3, d4⟩ hl hre e hk
    refine ⟨es, hk, ?_⟩
    cases A with
    | none =>
      have hn : es = [] := List.eq_nil_of_length_eq_zero (d3 rfl).1
      subst hn
      exact .inl ⟨rfl, _, _, e⟩
    | some ad =>
      rcases Nat.eq_zero_or_pos cap with hc | hc
      · have hn : es = [] := List.eq_nil_of_length_eq_zero (by omega)
        subst hn
        exact .inl ⟨rfl, _, _, e⟩
      have h4 := d4 ad rfl hc
      obtain ⟨b, o, sp⟩ := ad
      simp only at h4
      subst h4
      obtain ⟨us, h1, h2, h3⟩ := relE_list hl (hre b o rfl)
      exact .inr ⟨b, o, cap, us, e, h1, fun xs _ i u hu => (hr.promise _ _ _ (h3 i u hu)).1⟩
  unfold bytesOfT at H
  split at H
  · split at H
    · rename_i kk es hk
      subst hk
      simp only [Rel] at r
      obtain ⟨A, cap, e, hd, hl, hre⟩ := r
      exact sl es A cap hd hl hre e H
    · exact H.elim
  · split at H
    · rename_i kk i es x hk
      subst hk
      simp only [Rel] at r
      obtain ⟨e0, A, cap, e, hd, hl, hre⟩ := r
      exact sl es A cap hd hl hre (e0.trans e) H
    · exact H.elim
  · simp only [Rel] at r
    obtain ⟨A, rfl⟩ := r
    exact ⟨[], H, .inl ⟨rfl, A, 0, rfl⟩⟩
  · simp only [Rel] at r
    exact ⟨[], H, .inl ⟨rfl, none, 0, r⟩⟩
  · rename_i j b o n cap
    simp only [Rel] at r
    obtain ⟨rfl, hn, hc⟩ := r
    split at H
    rotate_left
    · exact H.elim
    rename_i b' cs hob
    obtain ⟨rfl, hlen, H⟩ := H
    obtain ⟨C, ty, hh, hC, hM⟩ := hr.objs _ _ hob
    have hus := (hC.drop o).take n
    have hl : ((cs.drop o).take n).length = n := by rw [List.length_take, List.length_drop]; omega
    by_cases hx : ∃ xs, (cs.drop o).take n = ints xs
    · obtain ⟨xs, hx⟩ := hx
      refine ⟨_, H, .inr ⟨b', o, cap, (C.toList.drop o).take n, by rw [hl], by rw [hx, ints_flat, ← hx]; exact hus, fun _ _ i u hu => ?_⟩⟩
      rw [hh.cell]
      rw [List.getElem?_take] at hu
      split at hu
      · rw [List.getElem?_drop] at hu
        simpa using hu
      · cases hu
    · obtain ⟨us, hus2⟩ : ∃ us, RelL M (((cs.drop o).take n).flatMap elCells) us := by
        have hx2 := hus
        generalize (C.toList.drop o).take n = ys at hx2
        generalize (cs.drop o).take n = ts at hx2
        clear hx hl hus H
        induction ts generalizing ys with
        | nil => exact ⟨[], by simp only [List.flatMap_nil, RelL]⟩
        | cons t ts ih =>
          simp only [RelL] at hx2
          obtain ⟨u, us, rfl, r1, r2⟩ := hx2
          obtain ⟨vs, hv⟩ := ih _ r2
          have one : ∃ ws, RelL M (elCells t) ws := by
            cases t with
            | agg cs => simp only [Rel] at r1; obtain ⟨ys, _, r1⟩ := r1; exact ⟨_, r1⟩
            | _ => exact ⟨[u], by simp only [elCells, RelL]; exact ⟨u, [], rfl, r1, rfl⟩⟩
          obtain ⟨ws, hw⟩ := one
          exact ⟨ws ++ vs, by rw [List.flatMap_cons]; exact hw.append hv⟩
      exact ⟨_, H, .inr ⟨b', o, cap, us, by rw [hl], hus2, fun xs e => absurd ⟨xs, e⟩ hx⟩⟩
  · exact H.elim
theorem toStr_run {t u e : TypeId} {v : Value} {xs : List Int} (hs : P.underlying t = some (.slice e)) (he : P.underlying e = some (.int .u8)) (hd : P.underlying u = some .string)
    (hv : (ints xs = [] ∧ ∃ A c, v = .slice A 0 c) ∨ ∃ b o c us, v = .slice (some ⟨b, o, none⟩) (ints xs).length c ∧ RelL M ((ints xs).flatMap elCells) us ∧ (∀ ys, ints xs = ints ys → ∀ i u, us[i]? = some u → w.cell? ⟨b, o + i, none⟩ = some u)) :
    (convert t u v).run P w = .ok (.string (strOfNums xs)) w := by
  rcases hv with ⟨h0, A, c, rfl⟩ | ⟨b, o, c, us, rfl, h1, h2⟩
  · have hx : xs = [] := by cases xs with | nil => rfl | cons x xs => simp [ints] at h0
    subst hx
    cases A with
    | none => exact run_convert_bytes_nil w t e hs he 0 c u hd
    | some ad =>
      rw [run_convert_bytes_string w t u e _ 0 c hs he hd]
      have hl := run_loadCells_list (P := P) w ad [] (by simp)
      simp only [List.length_nil] at hl
      rw [run_bytesToString w ad 0 c [] (by simpa using hl)]
      rfl
  · rw [ints_flat] at h1
    have hus := ints_rel h1
    have hlen : (ints xs).length = xs.length := by simp [ints]
    rw [hlen]
    refine run_convert_bytes_arg w t e hs he b o xs.length c xs rfl (fun i hi => ?_) u hd
    exact h2 xs rfl i _ (by rw [hus]; simp [hi])
theorem sToStr {t u : TypeId} {x : Operand} (ho : o.op = .convert t u x) (hc : convT P t u = 1) (H : eToStr s h x (fun t => K (s.put o.dst t))) (hs : St Γ M s a w) : o.wp P a w (Post Γ K) Q := by
  obtain ⟨e, h1, h2, h3⟩ := convT_one hc
  unfold eToStr at H
  obtain ⟨es, hk, hv⟩ := bytesOfT_sound hs.hp H (eval_rel hs.fr x)
  have fin : ∀ xs, es = ints xs → K (s.put o.dst (.v (.string (strOfNums xs)))) → o.wp P a w (Post Γ K) Q := fun xs hx hK => by
    subst hx
    have hrun := toStr_run (P := P) (w := w) (M := M) h1 h2 h3 hv
    refine wp_of_run (v := .string (strOfNums xs)) (w' := w) ?_ ⟨_, M, hK, hs.put o.dst (by simp only [Rel])⟩
    unfold execOp
    rw [ho]
    exact run_valueW hrun
  split at hk
  · obtain ⟨rfl, hK⟩ := hk
    refine fin _ (bytesL_ints _) ?_
    rw [str_ints]; exact hK
  · split at hk
    · rename_i l hl
      obtain ⟨xs, hx, hx2⟩ := strT_ints hl
      exact fin xs hx (by rw [← hx2]; exact hk)
    · exact hk.elim
theorem bytesL_rel (z : ByteArray) : RelL M (bytesL z) (z.data.toList.map fun b => Value.int .u8 b.toNat) := by
  unfold bytesL
  generalize z.data.toList = l
  induction l with
  | nil => simp only [List.map_nil, RelL]
  | cons c l ih => simp only [List.map_cons, RelL]; exact ⟨_, _, rfl, by simp only [Rel], ih⟩
theorem bytesRow_rel (z : ByteArray) (cap : Nat) : RelL M (bytesL z ++ List.replicate ((cap - z.size) * 1) .und) (bytesRow z cap).toList := by
  unfold bytesRow
  rw [Array.toList_append, Array.toList_map]
  exact (bytesL_rel z).append (relL_und _ _ (by simp))
theorem bytesRow_size (z : ByteArray) (cap : Nat) (h : z.size ≤ cap) : (bytesRow z cap).size = cap := by
  unfold bytesRow
  simp
  omega
theorem bytesRow_one (z : ByteArray) (cap q : Nat) (u : Value) (hu : (bytesRow z cap)[q]? = some u) : u.oneCell' = true := by
  unfold bytesRow at hu
  have := Array.mem_of_getElem? hu
  simp only [Array.mem_append, Array.mem_map, Array.mem_replicate] at this
  rcases this with ⟨c, _, rfl⟩ | ⟨_, rfl⟩ <;> rfl
theorem bytesRow_get (z : ByteArray) (cap q : Nat) (u : Value) (hu : (z.data.toList.map fun b => Value.int .u8 b.toNat)[q]? = some u) : (bytesRow z cap)[q]? = some u := by
  have hq : q < z.size := by have := (List.getElem?_eq_some_iff.1 hu).1; simpa using this
  unfold bytesRow
  rw [Array.getElem?_append_left (by simpa using hq), ← hu, ← Array.getElem?_toList, Array.toList_map]
theorem sToBytes {t u : TypeId} {x : Operand} (ho : o.op = .convert t u x) (hc : convT P t u = 2) (H : eToBytes P s o.dst h u x K) (hs : St Γ M s a w) : o.wp P a w (Post Γ K) Q := by
  obtain ⟨e, h1, h2, h3⟩ := convT_two hc
  unfold eToBytes at H
  have hr := eval_rel hs.fr x
  split at H
  rotate_left
  · exact H.elim
  rename_i z hz
  rw [hz] at hr
  simp only [Rel] at hr
  have hge := grownCap_ge w z.size 0 e
  have hrun := run_bytes_of_string (P := P) w t u e z h1 h2 h3
  have hrun' : ∀ {y : Value} {w' : World}, (convert t u (.string z)).run P w = .ok y w' → (execOp a.eval o).run P w = .ok (.value y) w' := fun {y w'} hh => by
    unfold execOp
    rw [ho]
    refine run_valueW ?_
    rw [hr]; exact hh
  obtain ⟨hzs, H⟩ := H
  have hcm := grownCap_le_maxLen w z.size 0 e (by unfold maxLen; omega)
  generalize grownCap w z.size 0 e = cap at *
  split at H
  · have hnew := hs.drew.newObF (bytesRow z cap) e ((bytesRow z cap).size, (bytesRow z cap).size + 1) (.inr (Nat.le_refl _)) (bytesRow_rel z cap) o.dst (u := .sa s.ob.length w.heap.size 0 z.size cap) (v := .slice (some ⟨w.heap.size, 0, none⟩) z.size cap) (by simp only [Rel]; exact ⟨trivial, hge, by unfold maxLen at hcm; omega⟩)
    exact wp_of_run (hrun' hrun) ⟨_, M, H w.heap.size cap hge (by unfold maxLen at hcm; omega), hnew⟩
  · split at H
    rotate_left
    · exact H.elim
    rename_i e' hel
    have he' : e' = e := by
      unfold elemOfT at hel
      rw [h2] at hel
      injection hel with hel; injection hel with _ h5; exact h5.symm
    subst he'
    refine wp_of_run (hrun' hrun) (hs.grown (x := .slice none 0 0) (M' := fun b q => if b = w.heap.size ∧ q < z.size then (bytesRow z cap)[q]? else M b q) (x' := .slice (some ⟨w.heap.size, 0, none⟩) z.size cap) ?_ (.inl ⟨rfl, rfl⟩) H)
    have hnd := no_promise hs.hp.promise (Nat.le_refl w.heap.size)
    have hM : M.le (fun b q => if b = w.heap.size ∧ q < z.size then (bytesRow z cap)[q]? else M b q) := fun b q u hu => by
      have hb : ¬ (b = w.heap.size ∧ q < z.size) := fun e => by rw [e.1, hnd] at hu; cases hu
      dsimp only; rw [if_neg hb]; exact hu
    have hnew : Hc (w.drew.alloc (.cells (bytesRow z cap) e' ((bytesRow z cap).size, (bytesRow z cap).size + 1))) w.heap.size (bytesRow z cap) e' := ⟨_, heap_alloc_new w.drew _, .inr (Nat.le_refl _)⟩
    have hbl : (bytesL z).length = z.size := by simp [bytesL]
    refine ⟨hM, ?_, ?_, fun b q u hu => ?_, fun b hb _ => heap_new w.drew _ hb, fun b hb _ q => if_neg (by omega), fun b hb => .inr ?_, rfl, rfl, rfl, by simp⟩
    · have hel : El elCells 1 (bytesL z) := fun e he => by
        obtain ⟨c, _, rfl⟩ := List.mem_map.1 he
        rfl
      simp only [Rel]
      refine ⟨trivial, some ⟨w.heap.size, 0, none⟩, cap, by rw [hbl], ⟨by rw [hbl]; exact hge, by unfold maxLen at hcm; omega, (fun e => by cases e), fun a e _ => by injection e with e; rw [← e]⟩, hel, fun b q e => ?_⟩
      injection e with e
      injection e with e1 e2
      subst e1 e2
      refine relE_of_list hel (us := z.data.toList.map fun b => Value.int .u8 b.toNat) ?_ fun q u hu => ?_
      · rw [bytesL_ints, ints_flat, ← bytesL_ints]; exact bytesL_rel z
      · have hq : q < z.size := by have := (List.getElem?_eq_some_iff.1 hu).1; simpa using this
        rw [if_pos ⟨rfl, by omega⟩, Nat.zero_add]
        exact bytesRow_get z cap q u hu
    · refine .inr ⟨w.heap.size, cap, bytesRow z cap, e', by rw [hbl], hnew, by rw [hbl]; exact hge, hcm, by rw [bytesRow_size z cap hge]; omega, fun q hq => ?_⟩
      dsimp only
      rw [if_neg (by rw [hbl] at hq; omega)]
      exact hnd q
    · by_cases hc : b = w.heap.size ∧ q < z.size
      · rw [if_pos hc] at hu
        obtain ⟨rfl, _⟩ := hc
        exact ⟨by rw [hnew.cell]; exact hu, bytesRow_one z cap q u hu⟩
      · rw [if_neg hc] at hu
        have h3 := hs.hp.promise b q u hu
        exact ⟨(cell_of_heap (heap_new w.drew _ (by have := World.block_lt_of_cell? w _ h3.1; exact this)) q).trans h3.1, h3.2⟩
    · simp only [Value.ownBlock, Option.some.injEq] at hb; omega
  · have hnd := no_promise hs.hp.promise (Nat.le_refl w.heap.size)
    generalize hC : bytesRow z cap = C at *
    have hone : ∀ (q : Nat) (u : Value), C[q]? = some u → u.oneCell' = true := fun q u hu => bytesRow_one z cap q u (by rw [hC]; exact hu)
    have hnew : Hc (w.drew.alloc (.cells C e (C.size, C.size + 1))) w.heap.size C e := ⟨_, heap_alloc_new w.drew _, .inr (Nat.le_refl _)⟩
    have hM : M.le (fun b q => if b = w.heap.size then C[q]? else M b q) := fun b q u hu => by
      have hb : b ≠ w.heap.size := fun e => by rw [e, hnd] at hu; cases hu
      dsimp only; rw [if_neg hb]; exact hu
    refine wp_of_run (hrun' hrun) ⟨_, fun b q => if b = w.heap.size then C[q]? else M b q, H, St.put ⟨hs.df, hs.fr.mono hM _ _, ?_, ?_⟩ o.dst ?_⟩
    · refine ⟨fun b q u hu => ?_, fun i x hx => ?_, hs.hp.apart, fun b x hx => ?_, hs.hp.sep⟩
      · by_cases hb : b = w.heap.size
        · subst hb
          rw [if_pos rfl] at hu
          exact ⟨by rw [hnew.cell]; exact hu, hone q u hu⟩
        · rw [if_neg hb] at hu
          have h3 := hs.hp.promise b q u hu
          exact ⟨(cell_of_heap (heap_new w.drew _ (by have := World.block_lt_of_cell? w _ h3.1; exact this)) q).trans h3.1, h3.2⟩
      · have h3 := hs.hp.objs i x hx
        exact h3.keep (fun b hb => heap_new w.drew _ (h3.lt hb)) (fun b hb q => if_neg (by have := h3.lt hb; omega)) hM
      · have h3 := hs.hp.glob b x hx
        exact ⟨h3.1, h3.2.keep (fun c hc => heap_new w.drew _ (h3.2.lt hc)) (fun c hc q => if_neg (by have := h3.2.lt hc; omega)) hM⟩
    · refine ⟨Pm.le_trans hs.gr.more hM, fun b q u hu => ?_, hs.gr.fr.drew.alloc _, hs.gr.own⟩
      by_cases hb : b = w.heap.size
      · subst hb; exact .inr (.inr hs.gr.fr.size)
      · rw [if_neg hb] at hu
        exact hs.gr.only b q u hu
    · have hbl : (bytesL z).length = z.size := by simp [bytesL]
      have hel : El elCells 1 (bytesL z) := fun e he => by
        obtain ⟨c, _, rfl⟩ := List.mem_map.1 he
        rfl
      simp only [Rel]
      refine ⟨some ⟨w.heap.size, 0, none⟩, cap, by rw [hbl], ⟨by rw [hbl]; exact hge, by unfold maxLen at hcm; omega, (fun e => by cases e), fun a e _ => by injection e with e; rw [← e]⟩, hel, fun b q e => ?_⟩
      injection e with e
      injection e with e1 e2
      subst e1 e2
      refine relE_of_list hel (us := z.data.toList.map fun b => Value.int .u8 b.toNat) ?_ fun q u hu => ?_
      · rw [bytesL_ints, ints_flat, ← bytesL_ints]; exact bytesL_rel z
      · rw [if_pos rfl, Nat.zero_add, ← hC]
        exact bytesRow_get z cap q u hu
theorem sBuildSlx {t : TypeId} {len : Nat} {parts : Array (Nat × Operand)} (ho : o.op = .buildSlice t len parts) (H : eBuildSlx P s o.dst t len parts K) (hs : St Γ M s a w) : o.wp P a w (Post Γ K) Q := by
  unfold eBuildSlx at H
  split at H
  rotate_left
  · exact H.elim
  rename_i e hel
  split at H
  rotate_left
  · exact H.elim
  rename_i k ag z hk hag hz
  split at H
  rotate_left
  · exact H.elim
  rename_i hc
  obtain ⟨hlen, hk0, hagk⟩ := hc
  split at H
  rotate_left
  · exact H.elim
  rename_i cs hf
  split at H
  rotate_left
  · exact H.elim
  rename_i hall
  have hu : P.underlying t = some (.slice e) := by
    unfold elemOfT at hel
    split at hel
    · injection hel with hel; injection hel with h1 h2; cases h1
    · rename_i hu; injection hel with hel; injection hel with h1 h2; subst h2; exact hu
    · cases hel
  obtain ⟨y, hy, -, -⟩ := zeroT_run (M := M) hz
  have zl : RelL M (List.replicate (len * k) T.und) (((Array.range (len * k)).map fun i => y.cells[i % y.cells.size]!)).toList := RelL.of_get (by simp) fun i t' y' h1 _ => by
    rw [List.getElem?_replicate] at h1
    split at h1
    · injection h1 with h1; subst h1; simp only [Rel]
    · cases h1
  obtain ⟨C, h1, h2⟩ := fillT_rel (ps := parts.toList.map fun p => (p.1, a.eval p.2)) (by simp [List.map_map, Function.comp_def]) (parts_rel hs.fr parts.toList) zl hf
  have e0 : (parts.map fun (i, x) => (i, a.eval x)).toList = parts.toList.map fun p => (p.1, a.eval p.2) := by rw [Array.toList_map]
  have hone := relL_one hall h2
  have hcl : cs.length = len * k := by
    have : ∀ (l : List (Nat × T)) (c c' : List T), fillT (fun i => some (i * k, k)) c l = some c' → c'.length = c.length := by
      intro l
      induction l with
      | nil => intro c c' h; simp only [fillT, Option.some.injEq] at h; rw [h]
      | cons p l ih =>
        intro c c' h
        obtain ⟨i, t⟩ := p
        simp only [fillT] at h
        split at h
        · cases h
        · rw [ih _ _ h]
          unfold setRange
          have fl : ∀ (l : List (T × Nat)) (c : List T), (l.foldl (fun cs (x : T × Nat) => cs.set (i * k + x.2) x.1) c).length = c.length := by
            intro l
            induction l with
            | nil => intro c; rfl
            | cons x l ih => intro c; rw [List.foldl_cons, ih]; simp
          exact fl _ _
    rw [this _ _ _ hf, List.length_replicate]
  have hCs : C.size = len * k := by rw [← hcl, ← h2.len]; simp
  have hnd := no_promise hs.hp.promise (Nat.le_refl w.heap.size)
  have hnew : Hc (w.alloc (.cells C e)) w.heap.size C e := .of (heap_alloc_new w _)
  have hM : M.le (fun b q => if b = w.heap.size then C[q]? else M b q) := fun b q u hu => by
    have hb : b ≠ w.heap.size := fun e => by rw [e, hnd] at hu; cases hu
    dsimp only; rw [if_neg hb]; exact hu
  have hA : RelA (fun b q => if b = w.heap.size then C[q]? else M b q) w.heap.size cs 0 := RelA.of_get fun i t' ht => by
    obtain ⟨u, h3, h4⟩ := h2.get ht
    refine ⟨u, ?_, h4.mono hM _ _⟩
    rw [if_pos rfl, Nat.zero_add]
    simpa using h3
  obtain ⟨c1, c2⟩ := chunk_rel (ag := ag.isSome) (fun e => hagk (by cases ag <;> first | rfl | cases e)) len cs 0 hcl hall hA
  have hrun : (execOp a.eval o).run P w = .ok (.value (.slice (some ⟨w.heap.size, 0, none⟩) len len)) (w.alloc (.cells C e)) := by
    unfold execOp
    rw [ho]
    refine run_valueW ?_
    have hbig : ¬ (16777216 < len * k) := by omega
    have hfill : Instr.fill (fun i => some (i * k, k)) ((Array.range (len * k)).map fun i => (if len * k = 0 then #[] else y.cells)[i % (if len * k = 0 then #[] else y.cells).size]!) (parts.toList.map fun p => (p.1, a.eval p.2)) = some C := by
      by_cases h0 : len * k = 0
      · rw [if_pos h0]
        have : ((Array.range (len * k)).map fun i => (#[] : Array Value)[i % (#[] : Array Value).size]!) = ((Array.range (len * k)).map fun i => y.cells[i % y.cells.size]!) := by rw [h0]; simp
        rw [this]; exact h1
      · rw [if_neg h0]; exact h1
    by_cases h0 : len * k = 0
    · simp only [Instr.buildSlice, Sem.run_bind, run_underlying hu, run_sizeOf hk, Result.andThen_ok]
      rw [if_neg (by omega), if_pos h0]
      rw [if_pos h0] at hfill
      simp only [Sem.run_bind, Sem.run_pure, Result.andThen_ok]
      rw [e0, hfill]
      simp [newRow]
    · simp only [Instr.buildSlice, Sem.run_bind, run_underlying hu, run_sizeOf hk, Result.andThen_ok]
      rw [if_neg (by omega), if_neg h0]
      rw [if_neg h0] at hfill
      simp only [Sem.run_bind, hy, Sem.run_pure, Result.andThen_ok]
      rw [e0, hfill]
      simp [newRow]
  have hll : len ≤ len * k := Nat.le_mul_of_pos_right _ hk0
  refine wp_of_run hrun (hs.grown (x := .slice none 0 0) (M' := fun b q => if b = w.heap.size then C[q]? else M b q) (x' := .slice (some ⟨w.heap.size, 0, none⟩) len len) ?_ (.inl ⟨rfl, rfl⟩) H)
  refine ⟨hM, ?_, ?_, fun b q u hu => ?_, fun b hb _ => heap_new w _ hb, fun b hb _ q => if_neg (by omega), fun b hb => .inr ?_, rfl, rfl, rfl, by simp⟩
  · simp only [Rel, chunk_len]
    refine ⟨trivial, some ⟨w.heap.size, 0, none⟩, len, rfl, ⟨Nat.le_refl _, by omega, (fun e => by cases e), fun a e _ => by injection e with e; rw [← e]⟩, c2, fun b q e => ?_⟩
    injection e with e
    injection e with e1 e2
    subst e1 e2
    exact c1
  · refine .inr ⟨w.heap.size, len, C, e, by rw [chunk_len], hnew, by rw [chunk_len]; exact Nat.le_refl _, by unfold maxLen; omega, hCs, fun q hq => ?_⟩
    rw [chunk_len, ← hCs] at hq
    dsimp only
    rw [if_pos rfl]
    exact Array.getElem?_eq_none hq
  · by_cases hb : b = w.heap.size
    · subst hb
      rw [if_pos rfl] at hu
      exact ⟨by rw [hnew.cell]; exact hu, hone u (by
        rw [← Array.getElem?_toList] at hu
        exact List.mem_of_getElem? hu)⟩
    · rw [if_neg hb] at hu
      have h3 := hs.hp.promise b q u hu
      exact ⟨(cell_of_heap (heap_new w _ (by have := World.block_lt_of_cell? w _ h3.1; exact this)) q).trans h3.1, h3.2⟩
  · simp only [Value.ownBlock, Option.some.injEq] at hb; omega
theorem sMake {t : TypeId} {x y : Operand} (ho : o.op = .makeSlice t x y) (H : eMake P s o.dst h t x y K) (hs : St Γ M s a w) : o.wp P a w (Post Γ K) Q := by
  unfold eMake at H
  split at H
  rotate_left
  · exact H.elim
  rename_i e hel
  split at H
  rotate_left
  · exact H.elim
  rename_i k bytes z kn n kc c hk hby hz hn hc
  obtain ⟨⟨h0, hnc, hb, hm, hzl⟩, H⟩ := H
  have H := claimL_some H
  have hu : P.underlying t = some (.slice e) := by
    unfold elemOfT at hel
    split at hel
    · injection hel with hel; injection hel with h1 h2; cases h1
    · rename_i hu; injection hel with hel; injection hel with h1 h2; subst h2; exact hu
    · cases hel
  unfold sizeT at hk
  unfold bytesT at hby
  simp only [Option.map_eq_some_iff] at hk hby
  obtain ⟨ti, hi, hsz⟩ := hk
  obtain ⟨ti', hi', hby⟩ := hby
  rw [hi] at hi'
  injection hi' with hi'
  subst hi'
  unfold zeroT at hz
  simp only [hi, Option.bind_some, Option.map_eq_some_iff] at hz
  obtain ⟨zv, hzv, rfl⟩ := hz
  have hzk : zv.cells.size = k := by simpa using hzl
  have hx := intT_rel hn (eval_rel hs.fr x)
  have hy := intT_rel hc (eval_rel hs.fr y)
  have hrun := run_make (P := P) w t e ti zv hu hi hzv kn kc n c h0 hnc (by rw [hby, Int.mul_comm]; omega) hm
  have hrel : RelL M ((List.range (c.toNat * k)).map fun j => (zv.cells.toList.map T.v).getD (j % k) .und) (madeCells zv.cells (c.toNat * ti.size)).toList := by
    have := zeroCells_rel (M := M) c.toNat k hzk
    have e1 : madeCells zv.cells (c.toNat * ti.size) = Builtin.zeroCells zv.cells c.toNat := by
      unfold madeCells Builtin.zeroCells
      rw [hsz, hzk]
    rw [e1]; exact this
  have hnew := hs.newOb (madeCells zv.cells (c.toNat * ti.size)) e hrel o.dst (u := .sa s.ob.length w.heap.size 0 n.toNat c.toNat) (v := .slice (some ⟨w.heap.size, 0, none⟩) n.toNat c.toNat) (by simp only [Rel]; exact ⟨trivial, by omega, by omega⟩)
  refine wp_of_run (v := .slice (some ⟨w.heap.size, 0, none⟩) n.toNat c.toNat) (w' := w.alloc (.cells (madeCells zv.cells (c.toNat * ti.size)) e)) ?_ ⟨_, M, H w.heap.size, hnew⟩
  unfold execOp
  rw [ho]
  refine run_valueW ?_
  rw [hx, hy]; exact hrun
end
end Go.Proofs.YtaepgceodcdnhaaDoor.Vm
/- Trees: the run is sound. No program is named here. -/
namespace Go.Proofs.YtaepgceodcdnhaaDoor.Vm
open Go Go.RowKit

section
variable {P : Program} {Γ : Ctx} {M : Pm} {s : S} {a : Act} {w : World} {o : Oper} {h : Hint} {K : S → Prop} {Q : Exit → Act → World → Prop}
theorem ex_sound (H : ex P o h s K) (hs : St Γ M s a w) : o.wp P a w (Post Γ K) Q := by
  unfold ex at H
  split at H
  · rename_i ho; exact sLoad ho H hs
  · rename_i ho; exact sStore ho H hs
  · rename_i ho; exact sAlloc ho H hs
  · rename_i ho; exact sBox ho H hs
  · rename_i ho
    split at H
    · rename_i h0; subst h0
      split at H
      · exact sBuild0 ho H hs
      · exact sBuildNil ho H hs
    · split at H
      · exact sBuildSlx ho H hs
      · exact sBuildSlice ho H hs
  · rename_i ho
    split at H
    · exact sMakeV ho H hs
    · exact sMakeMap ho H hs
  · rename_i ho; exact sMake ho H hs
  · rename_i ho
    split at H
    · rename_i hc; exact sToStr ho hc H hs
    · rename_i hc; exact sToBytes ho hc H hs
    · exact value_sound (pv_sound H hs.fr) hs fun t ht => ht
  · rename_i ho
    split at H
    · exact sLookupV ho H hs
    · exact sLookup ho H hs
  · rename_i ho
    split at H
    · exact sUpdateV ho H hs
    · exact sUpdate ho H hs
  · rename_i ho
    split at H
    · exact sRangeS ho H hs
    · exact sRange ho H hs
  · rename_i ho; exact sNext ho H hs
  · rename_i ho; exact sNextS ho H hs
  · rename_i ho; exact sEntry ho H hs
  · rename_i c ho
    split at H
    · rename_i hc
      split at H
      · exact sAppendM ho hc H hs
      · exact sAppend ho hc H hs
    · rename_i hc; exact sCopy ho hc H hs
    · rename_i hc; exact sDelete ho hc H hs
    · rename_i hc
      split at H
      · exact sClearM ho hc H hs
      · exact sClear ho hc H hs
    · rename_i hc; exact sLenMap ho hc H (fun H => value_sound (pv_sound H hs.fr) hs fun t ht => ht) hs
    · exact value_sound (pv_sound H hs.fr) hs fun t ht => ht
    · rename_i f hc
      split at H
      · rename_i g caps hf
        have hr := eval_rel hs.fr f
        rw [hf] at hr
        simp only [Rel] at hr
        obtain ⟨ys, e, hr⟩ := hr
        refine sCall (f := g) (xs := (c.args.map a.eval) ++ ys) (fun hcan => ?_) H hs ?_
        · unfold execOp
          rw [ho]
          simp [resolve, hc, e, Deferred.ofValue, invoke]
          exact hcan _ _
        · rw [Array.toList_append, Array.toList_map]
          exact (evals_rel hs.fr _).append hr
      · rename_i g bs hf
        have hr := eval_rel hs.fr f
        rw [hf] at hr
        simp only [Rel] at hr
        obtain ⟨zs, e, hr⟩ := hr
        refine sCall (f := g) (xs := zs ++ (c.args.map a.eval)) (fun hcan => ?_) H hs ?_
        · unfold execOp
          rw [ho]
          simp [resolve, hc, e, Deferred.ofValue, invoke]
          exact hcan _ _
        · rw [Array.toList_append, Array.toList_map]
          exact hr.append (evals_rel hs.fr _)
      · exact H.elim
    · exact H.elim
  · exact value_sound (pv_sound H hs.fr) hs fun t ht => ht

theorem set_self {α : Type} {l : Array α} {i : Nat} {x : α} (h : l[i]? = some x) : (l.setIfInBounds i x) = l := by
  apply Array.ext_getElem?
  intro j
  rw [Array.getElem?_setIfInBounds]
  split
  · rename_i e; subst e
    split
    · exact h.symm
    · rename_i hn
      rw [Array.getElem?_eq_none (by omega)] at h
      cases h
  · rfl
theorem getD_some {l : List T} {t : Nat} {u : T} (h : l.getD t .und = u) (hu : u ≠ .und) : l[t]? = some u := by
  rw [List.getD_eq_getElem?_getD] at h
  cases hx : l[t]? with
  | none => rw [hx] at h; exact absurd h.symm hu
  | some v => rw [hx] at h; exact congrArg some h
theorem St.know {t : Tmp} {b : Bool} (hs : St Γ M s a w) (h : s.fr.getD t .und = .v (.bool b)) : St Γ M (s.put (some t) (.v (.bool b))) a w ∧ a.tmps[t]? = some (.bool b) := by
  obtain ⟨y, h1, h2⟩ := hs.fr.get (getD_some h (by simp))
  simp only [Rel] at h2
  subst h2
  rw [Array.getElem?_toList] at h1
  have h3 := hs.put (some t) (t := .v (.bool b)) (v := .bool b) (by simp only [Rel])
  have h4 : a.put (some t) (.bool b) = a := by
    unfold Act.put
    simp only [set_self h1]
  rw [h4] at h3
  exact ⟨h3, h1⟩
theorem exg_sound {ops : List Oper} (H : exg P ops o h s K) (hs : St Γ M s a w) : if Region.wanted o (yielded ops.toArray a.tmps) then o.wp P a w (Post Γ K) Q else Post Γ K (a.put o.dst undef) w := by
  unfold exg at H
  split at H
  · rename_i hg
    have : Region.wanted o (yielded ops.toArray a.tmps) = true := by simp [Region.wanted, hg]
    rw [if_pos this]
    exact ex_sound H hs
  · rename_i g want hg
    split at H
    rotate_left
    · exact H.elim
    rename_i t hd
    have hdn : ((ops.toArray[g]?).bind (·.dst)) = some t := by simpa using hd
    split at H
    · rename_i b hb
      obtain ⟨h1, h2⟩ := hs.know hb
      have hy : yielded ops.toArray a.tmps g = some b := by
        unfold yielded
        rw [hdn]
        simp [h2]
      have hw : Region.wanted o (yielded ops.toArray a.tmps) = (b == want) := by
        unfold Region.wanted
        rw [hg]
        simp only [hy]
        cases b <;> cases want <;> rfl
      rw [hw]
      have skip : ∀ {c : Bool}, b = c → K ((s.put (some t) (.v (.bool c))).put o.dst (.v undef)) → Post Γ K (a.put o.dst undef) w := fun {c} e hk => ⟨_, M, hk, (e ▸ h1).put o.dst (by simp only [Rel])⟩
      cases b <;> cases want <;> simp only [bsplit, if_true, if_false, Bool.false_eq_true] at H <;> simp only [beq_self_eq_true, if_true, Bool.false_eq_true, if_false, show (false == true) = false from rfl, show (true == false) = false from rfl]
      · exact ex_sound H h1
      · exact skip rfl H
      · exact skip rfl H
      · exact ex_sound H h1
    · rename_i vs hb
      obtain ⟨y, h1, h2⟩ := hs.fr.get (getD_some hb (by simp))
      simp only [Rel] at h2
      subst h2
      rw [Array.getElem?_toList] at h1
      have hy : yielded ops.toArray a.tmps g = none := by
        unfold yielded
        rw [hdn]
        simp [h1]
      have hw : Region.wanted o (yielded ops.toArray a.tmps) = false := by
        unfold Region.wanted
        rw [hg]
        simp only [hy]
        cases want <;> rfl
      rw [hw]
      exact ⟨_, M, H, hs.put o.dst (by simp only [Rel])⟩
    · exact H.elim
theorem exL_sound {ops : List Oper} {H : Nat → Hint} (hQ : ∀ a w, Post Γ K a w → Q .normal a w) : ∀ (os : List Oper) (i : Nat) (s : S) (M : Pm) (a : Act) (w : World), exL P ops H i os s K → St Γ M s a w → wpList P ops.toArray Q os a w
  | [], i, s, M, a, w, hk, hs => hQ a w ⟨s, M, hk, hs⟩
  | o :: os, i, s, M, a, w, hk, hs => by
    have h1 := exg_sound (Q := Q) hk hs
    unfold wpList
    split
    · rename_i hw
      rw [if_pos hw] at h1
      exact .inl (Oper.wp_mono (fun a' w' ⟨s', M', hk', hs'⟩ => exL_sound hQ os _ s' M' a' w' hk' hs') h1)
    · rename_i hw
      rw [if_neg hw] at h1
      obtain ⟨s', M', hk', hs'⟩ := h1
      exact exL_sound hQ os _ s' M' _ _ hk' hs'

/-! ### Statements that leave their order open -/
/-- the worlds in which some objects stand as they did, and what was promised -/
def Held (M1 : Pm) (w1 : World) (B : Nat → Prop) (w : World) : Prop := (∀ b, B b → w.heap[b]? = w1.heap[b]?) ∧ ∀ b o v, M1 b o = some v → w.cell? ⟨b, o, none⟩ = some v
/-- the blocks of some objects -/
def blks (N : List Nat) (ob : Obs) (b : Nat) : Prop := ∃ (i : Nat) (x : Nat × Ob), i ∈ N ∧ ob[i]? = some x ∧ obBlk x = some b
theorem hide_get {N : List Nat} {ob : Obs} {i : Nat} {x : Nat × Ob} (h : (hide N ob)[i]? = some x) : (i ∈ N ∧ x = (0, .gone) ∧ i < ob.length) ∨ (i ∉ N ∧ ob[i]? = some x) := by
  unfold hide at h
  rw [List.getElem?_map, Option.map_eq_some_iff] at h
  obtain ⟨⟨y, q⟩, hy, h⟩ := h
  rw [List.getElem?_zipIdx, Option.map_eq_some_iff] at hy
  obtain ⟨u, hu, e⟩ := hy
  injection e with e1 e2
  subst e1
  have : q = i := by omega
  subst this
  simp only at h
  split at h
  · rename_i hc
    exact .inl ⟨by simpa using hc, h.symm, (List.getElem?_eq_some_iff.1 hu).1⟩
  · rename_i hc
    exact .inr ⟨by simpa using hc, by rw [hu, h]⟩
theorem back_get {N : List Nat} {ob ob' : Obs} {i : Nat} {x : Nat × Ob} (h : (back N ob ob')[i]? = some x) : (i ∈ N ∧ ob[i]? = some x) ∨ ob'[i]? = some x ∨ x = (0, .gone) := by
  unfold back at h
  rw [List.getElem?_append] at h
  split at h
  · rw [List.getElem?_map, Option.map_eq_some_iff] at h
    obtain ⟨⟨y, q⟩, hy, h⟩ := h
    rw [List.getElem?_zipIdx, Option.map_eq_some_iff] at hy
    obtain ⟨u, hu, e⟩ := hy
    injection e with e1 e2
    subst e1
    have : q = i := by omega
    subst this
    simp only at h
    split at h
    · rename_i hc
      exact .inl ⟨by simpa using hc, by rw [hu, h]⟩
    · rw [List.getD_eq_getElem?_getD] at h
      cases ho : ob'[q]? with
      | some z => rw [ho] at h; exact .inr (.inl (congrArg some h))
      | none => rw [ho] at h; exact .inr (.inr h.symm)
  · rename_i hlt
    simp only [List.length_map, List.length_zipIdx] at h hlt
    rw [List.getElem?_drop] at h
    exact .inr (.inl (by rwa [show ob.length + (i - ob.length) = i from by omega] at h))
theorem back_at {N : List Nat} {ob ob' : Obs} {i : Nat} (hi : i ∈ N) (hlt : i < ob.length) : (back N ob ob')[i]? = ob[i]? := by
  unfold back
  rw [List.getElem?_append_left (by simpa using hlt), List.getElem?_map, List.getElem?_zipIdx]
  simp [hi, hlt]
theorem back_len {N : List Nat} {ob ob' : Obs} : ob.length ≤ (back N ob ob').length := by
  unfold back
  simp
theorem hideSt (hs : St Γ M s a w) (N : List Nat) : St ⟨w, Dom (hide N s.ob) s.gl, M⟩ M { s with ob := hide N s.ob } a w := by
  refine ⟨hs.df, hs.fr, ⟨hs.hp.promise, fun i x hx => ?_, fun i j x y b h1 h2 h3 h4 => ?_, hs.hp.glob, fun i x b h1 h2 => ?_⟩, ⟨Pm.le_refl _, fun b o v hv => .inl hv, Fr.refl _ _, fun b hb => .inl hb⟩⟩
  · rcases hide_get hx with ⟨_, rfl, _⟩ | ⟨_, h1⟩
    · trivial
    · exact hs.hp.objs i x h1
  · rcases hide_get h1 with ⟨_, rfl, _⟩ | ⟨_, g1⟩
    · cases h3
    rcases hide_get h2 with ⟨_, rfl, _⟩ | ⟨_, g2⟩
    · cases h4
    exact hs.hp.apart i j x y b g1 g2 h3 h4
  · rcases hide_get h1 with ⟨_, rfl, _⟩ | ⟨_, g1⟩
    · cases h2
    · exact hs.hp.sep i x b g1 h2
theorem backSt {N : List Nat} {s' : S} {M' : Pm} {a' : Act} {w' : World} (hs : St Γ M s a w) (h2 : St ⟨w, Dom (hide N s.ob) s.gl, M⟩ M' s' a' w') :
    St Γ M' { s' with ob := back N s.ob s'.ob } a' w' ∧ (∀ b, blks N s.ob b → w'.heap[b]? = w.heap[b]?) ∧ M.le M' := by
  have hd : ∀ b, Dom (hide N s.ob) s.gl b → Dom s.ob s.gl b := fun b hb => by
    rcases hb with ⟨i, x, g1, g2⟩ | g1
    · rcases hide_get g1 with ⟨_, rfl, _⟩ | ⟨_, g3⟩
      · cases g2
      · exact .inl ⟨i, x, g3, g2⟩
    · exact .inr g1
  have far : ∀ {i : Nat} {x : Nat × Ob} {b : Nat}, i ∈ N → s.ob[i]? = some x → obBlk x = some b → ¬ Dom (hide N s.ob) s.gl b := fun {i x b} hi g1 g2 hb => by
    rcases hb with ⟨j, y, g3, g4⟩ | g3
    · rcases hide_get g3 with ⟨_, rfl, _⟩ | ⟨hj, g5⟩
      · cases g4
      · have := hs.hp.apart i j x y b g1 g5 g2 g4
        subst this
        exact hj hi
    · rw [hs.hp.sep i x b g1 g2] at g3; cases g3
  have hgr : M.le M' := h2.gr.more
  have keepB : ∀ b, b < w.heap.size → ¬ Dom (hide N s.ob) s.gl b → w'.heap[b]? = w.heap[b]? := fun b hb hn => h2.gr.fr.block b hb hn
  have keepM : ∀ b, b < w.heap.size → ¬ Dom (hide N s.ob) s.gl b → ∀ q, M' b q = M b q := fun b hb hn q => by
    cases hm : M b q with
    | some u => exact hgr b q u hm
    | none =>
      cases hm' : M' b q with
      | none => rfl
      | some u =>
        rcases h2.gr.only b q u hm' with h1 | h1 | h1
        · simp only at h1; rw [hm] at h1; cases h1
        · exact absurd h1 hn
        · simp only at h1; omega
  have keep : ∀ {i : Nat} {x : Nat × Ob}, i ∈ N → s.ob[i]? = some x → ObRel M' w' x := fun {i x} hi g1 => by
    have g2 := hs.hp.objs i x g1
    exact g2.keep (fun b hb => keepB b (g2.lt hb) (far hi g1 hb)) (fun b hb => keepM b (g2.lt hb) (far hi g1 hb)) hgr
  have cross : ∀ {i j : Nat} {x y : Nat × Ob} {b : Nat}, i ∈ N → s.ob[i]? = some x → s'.ob[j]? = some y → obBlk x = some b → obBlk y = some b → False := fun {i j x y b} hi g1 g2 g3 g4 => by
    rcases h2.gr.own b (.inl ⟨j, y, g2, g4⟩) with g5 | g5
    · exact far hi g1 g3 g5
    · have := (hs.hp.objs i x g1).lt g3; simp only at g5; omega
  refine ⟨⟨h2.df, h2.fr, ⟨h2.hp.promise, fun i x hx => ?_, fun i j x y b h3 h4 h5 h6 => ?_, h2.hp.glob, fun i x b h3 h4 => ?_⟩, ⟨Pm.le_trans hs.gr.more hgr, fun b q u hu => ?_, ?_, fun b hb => ?_⟩⟩, fun b hb => ?_, hgr⟩
  · rcases back_get hx with ⟨hi, g1⟩ | g1 | rfl
    · exact keep hi g1
    · exact h2.hp.objs i x g1
    · trivial
  · rcases back_get h3 with ⟨hi, g1⟩ | g1 | rfl
    · rcases back_get h4 with ⟨hj, k1⟩ | k1 | rfl
      · exact hs.hp.apart i j x y b g1 k1 h5 h6
      · exact (cross hi g1 k1 h5 h6).elim
      · cases h6
    · rcases back_get h4 with ⟨hj, k1⟩ | k1 | rfl
      · exact (cross hj k1 g1 h6 h5).elim
      · exact h2.hp.apart i j x y b g1 k1 h5 h6
      · cases h6
    · cases h5
  · rcases back_get h3 with ⟨hi, g1⟩ | g1 | rfl
    rotate_right
    · cases h4
    · show s'.gl b = none
      cases hb : s'.gl b with
      | none => rfl
      | some y =>
        rcases h2.gr.own b (.inr (by rw [hb]; rfl)) with g2 | g2
        · exact absurd g2 (far hi g1 h4)
        · have := (hs.hp.objs i x g1).lt h4; simp only at g2; omega
    · exact h2.hp.sep i x b g1 h4
  · rcases h2.gr.only b q u hu with h1 | h1 | h1
    · exact hs.gr.only b q u h1
    · exact .inr (hs.gr.own b (hd b h1))
    · exact .inr (.inr (Nat.le_trans hs.gr.fr.size h1))
  · exact hs.gr.fr.back h2.gr.fr fun b hb hdd => (hs.gr.own b (hd b hdd)).resolve_right (by omega)
  · rcases hb with ⟨i, x, g1, g2⟩ | g1
    · rcases back_get g1 with ⟨hi, g3⟩ | g3 | rfl
      rotate_right
      · cases g2
      · exact hs.gr.own b (.inl ⟨i, x, g3, g2⟩)
      · rcases h2.gr.own b (.inl ⟨i, x, g3, g2⟩) with g4 | g4
        · exact hs.gr.own b (hd b g4)
        · exact .inr (Nat.le_trans hs.gr.fr.size g4)
    · rcases h2.gr.own b (.inr g1) with g4 | g4
      · exact hs.gr.own b (hd b g4)
      · exact .inr (Nat.le_trans hs.gr.fr.size g4)
  · obtain ⟨i, x, hi, g1, g2⟩ := hb
    exact keepB b ((hs.hp.objs i x g1).lt g2) (far hi g1 g2)
end
section
variable {P : Program} {Γ : Ctx} {Q : Exit → Act → World → Prop} {ops : List Oper} {H : Nat → Hint} {N lax : List Nat} {M1 : Pm} {w1 : World} {ob1 : Obs}
/-- a load in a batch that may be taken first -/
theorem exq_sound {M : Pm} {s : S} {a : Act} {w : World} {o : Oper} {h : Hint} {k : T → Prop} {held fst : Bool} (hk : exq P N held fst o h s k) (hs : St Γ M s a w) (hcl : held = true → Held M1 w1 (blks N ob1) w) (hN : held = true → ∀ i ∈ N, s.ob[i]? = ob1[i]?) (hf : fst = true → M = M1) :
    ∃ v t, k t ∧ Rel M t v ∧ ∀ w', Reg.cls (Held M1 w1 (blks N ob1)) held w' → o.quietAt P a (Reg.cls (Held M1 w1 (blks N ob1)) held) w' v := by
  unfold exq at hk
  split at hk
  · rename_i t x ho
    split at hk
    rotate_left
    · exact hk.elim
    rename_i hh
    subst hh
    have hc := hcl rfl
    -- the cells that it reads, in every world of the class
    have go : ∀ {b off : Nat} {cs : List T}, a.eval x = .pointer (some ⟨b, off, none⟩) → (∃ us, RelL M cs us ∧ ∀ w', Held M1 w1 (blks N ob1) w' → ∀ j u, us[j]? = some u → w'.cell? ⟨b, off + j, none⟩ = some u) → claim h (loadT P t cs) k →
        ∃ v t, k t ∧ Rel M t v ∧ ∀ w', Held M1 w1 (blks N ob1) w' → o.quietAt P a (Held M1 w1 (blks N ob1)) w' v := fun {b off cs} hx ⟨us, r, hus⟩ hcm => by
      obtain ⟨u, hu, hk⟩ := claim_some hcm
      have cellsOf : ∀ w', Held M1 w1 (blks N ob1) w' → ∀ (i : Nat) (t : T), cs[i]? = some t → ∃ u, w'.cell? ⟨b, off + i, none⟩ = some u ∧ Rel M t u := fun w' hw' i t ht => by
        obtain ⟨y, h1, h2⟩ := r.get ht
        exact ⟨y, hus w' hw' i y h1, h2⟩
      -- the value is the same one
      unfold loadT at hu
      split at hu
      · rename_i n ha
        split at hu
        · cases hu
        · rename_i hlt
          injection hu with hu
          subst hu
          have hl : (us.take n).length = n := by rw [List.length_take, r.len]; omega
          refine ⟨.agg (us.take n).toArray, _, hk, by simp only [Rel]; exact ⟨_, rfl, r.take n⟩, fun w' hw' => ?_⟩
          have hrun : (loadCells ⟨b, off, none⟩ n).run P w' = .ok (us.take n).toArray w' := by
            have := run_loadCells_list (P := P) w' ⟨b, off, none⟩ (us.take n) fun j v hv => by
              rw [Addr.add_mid]
              refine hus w' hw' j v ?_
              rw [List.getElem?_take] at hv
              split at hv
              · exact hv
              · cases hv
            rwa [hl] at this
          have hsz := (run_isAgg ha w').2 n rfl
          unfold Oper.quietAt execOp
          rw [ho]
          simp [hx, Instr.loadAt, Instr.sureAddr, loadVar, (run_isAgg ha w').1, run_sizeOf hsz, hrun, Oper.quietUpon]
      · rename_i ha
        obtain ⟨v, h1, h2⟩ := r.get hu
        refine ⟨v, u, hk, h2, fun w' hw' => ?_⟩
        have h3 := hus w' hw' 0 v h1
        rw [Nat.add_zero] at h3
        unfold Oper.quietAt execOp
        rw [ho]
        simp [hx, Instr.loadAt, Instr.sureAddr, loadVar, (run_isAgg ha w').1, load, Sem.run, h3, Oper.quietUpon]
      · cases hu
    have hr := eval_rel hs.fr x
    split at hk
    · rename_i i b off hx
      rw [hx] at hr
      simp only [Rel] at hr
      split at hk
      rotate_left
      · exact hk.elim
      rename_i hi
      have hi : i ∈ N := by simpa using hi
      unfold vLoad cellsAt at hk
      rw [hx] at hk
      simp only at hk
      split at hk
      · rename_i b' cs hob
        obtain ⟨rfl, hk⟩ := hk
        obtain ⟨C, ty, g1, g2, -⟩ := hs.hp.objs _ _ hob
        refine go hr ⟨C.toList.drop off, g2.drop off, fun w' hw' j u hu => ?_⟩ hk
        have hb : blks N ob1 b' := ⟨i, _, hi, by rw [← hN rfl i hi]; exact hob, rfl⟩
        have : Hc w' b' C ty := g1.keep ((hw'.1 b' hb).trans (hc.1 b' hb).symm)
        rw [this.cell]
        rw [List.getElem?_drop] at hu
        simpa using hu
      · exact hk.elim
    · rename_i cs hx
      rw [hx] at hr
      simp only [Rel] at hr
      obtain ⟨b, off, e, hr⟩ := hr
      split at hk
      rotate_left
      · exact hk.elim
      rename_i hff
      have hM := hf hff
      unfold vLoad cellsAt at hk
      rw [hx] at hk
      obtain ⟨us, h1, h2⟩ := relA_list hr
      exact go e ⟨us, h1, fun w' hw' j u hu => hw'.2 _ _ _ (by rw [← hM]; exact h2 j u hu)⟩ hk
    · exact hk.elim
  · rename_i t x ix ok ho
    split at hk
    rotate_left
    · exact hk.elim
    rename_i hh
    subst hh
    have hc := hcl rfl
    split at hk
    rotate_left
    · exact hk.elim
    rename_i i b hx
    split at hk
    rotate_left
    · exact hk.elim
    rename_i hi
    have hi : i ∈ N := by simpa using hi
    unfold vLookup at hk
    rw [hx] at hk
    simp only at hk
    have hr := eval_rel hs.fr x
    rw [hx] at hr
    simp only [Rel] at hr
    split at hk
    rotate_left
    · exact hk.elim
    rename_i b' kd f es ck kd' e kd'' z hob hmo hiz
    split at hk
    rotate_left
    · exact hk.elim
    rename_i zt hz
    split at hk
    rotate_left
    · exact hk.elim
    rename_i hcc
    obtain ⟨hbb, hk⟩ := hk
    have hix := intT_rel hiz (eval_rel hs.fr ix)
    rw [hcc.2] at hix
    obtain ⟨v, u, h1, h2, h3⟩ := lookup_found ho hr hix hob hmo hcc.1 hbb hz hs hk
    have hb : blks N ob1 b' := ⟨i, _, hi, by rw [← hN rfl i hi]; exact hob, rfl⟩
    refine ⟨v, u, h1, h2, fun w' hw' => ?_⟩
    have hw'' : Held M1 w1 (blks N ob1) w' := hw'
    unfold Oper.quietAt
    rw [h3 w' ((hw''.1 b' hb).trans (hc.1 b' hb).symm)]
    exact ⟨rfl, rfl⟩
  · obtain ⟨v, t, h1, h2, h3⟩ := pv_sound hk hs.fr
    exact ⟨v, t, h1, h2, fun w' _ => by unfold Oper.quietAt; rw [h3 w']; exact ⟨rfl, rfl⟩⟩
theorem exqg_sound {M : Pm} {s : S} {a : Act} {w : World} {o : Oper} {h : Hint} {K : S → Prop} {held fst : Bool} (hk : exqg P ops N held fst o h s K) (hs : St Γ M s a w) (hcl : held = true → Held M1 w1 (blks N ob1) w) (hN : held = true → ∀ i ∈ N, s.ob[i]? = ob1[i]?) (hf : fst = true → M = M1) {R : Act → Prop}
    (hR : ∀ s' a', K s' → St Γ M s' a' w → s'.ob = s.ob → R a') :
    if Region.wanted o (yielded ops.toArray a.tmps) then o.quiet P a (Reg.cls (Held M1 w1 (blks N ob1)) held) R else R (a.put o.dst undef) := by
  unfold exqg at hk
  have use : ∀ {s' : S}, St Γ M s' a w → s'.ob = s.ob → exq P N held fst o h s' (fun t => K (s'.put o.dst t)) → o.quiet P a (Reg.cls (Held M1 w1 (blks N ob1)) held) R := fun {s'} hs' e hq => by
    obtain ⟨v, t, h1, h2, h3⟩ := exq_sound hq hs' hcl (by rw [e]; exact hN) hf
    exact ⟨v, h3, hR _ _ h1 (hs'.put o.dst h2) (by rw [put_ob, e])⟩
  have skip : ∀ {s' : S}, St Γ M s' a w → s'.ob = s.ob → K (s'.put o.dst (.v undef)) → R (a.put o.dst undef) := fun {s'} hs' e hq => hR _ _ hq (hs'.put o.dst (by simp only [Rel])) (by rw [put_ob, e])
  split at hk
  · rename_i hg
    have : Region.wanted o (yielded ops.toArray a.tmps) = true := by simp [Region.wanted, hg]
    rw [if_pos this]
    exact use hs rfl hk
  · rename_i g want hg
    split at hk
    rotate_left
    · exact hk.elim
    rename_i t hd
    have hdn : ((ops.toArray[g]?).bind (·.dst)) = some t := by simpa using hd
    split at hk
    · rename_i b hb
      obtain ⟨h1, h2⟩ := hs.know hb
      have hy : yielded ops.toArray a.tmps g = some b := by
        unfold yielded
        rw [hdn]
        simp [h2]
      have hw : Region.wanted o (yielded ops.toArray a.tmps) = (b == want) := by
        unfold Region.wanted
        rw [hg]
        simp only [hy]
        cases b <;> cases want <;> rfl
      rw [hw]
      cases b <;> cases want <;> simp only [bsplit, if_true, if_false, Bool.false_eq_true] at hk <;> simp only [beq_self_eq_true, if_true, Bool.false_eq_true, if_false, show (false == true) = false from rfl, show (true == false) = false from rfl]
      · exact use h1 (put_ob _ _ _) hk
      · exact skip h1 (put_ob _ _ _) hk
      · exact skip h1 (put_ob _ _ _) hk
      · exact use h1 (put_ob _ _ _) hk
    · rename_i vs hb
      obtain ⟨y, h1, h2⟩ := hs.fr.get (getD_some hb (by simp))
      simp only [Rel] at h2
      subst h2
      rw [Array.getElem?_toList] at h1
      have hy : yielded ops.toArray a.tmps g = none := by
        unfold yielded
        rw [hdn]
        simp [h1]
      have hw : Region.wanted o (yielded ops.toArray a.tmps) = false := by
        unfold Region.wanted
        rw [hg]
        simp only [hy]
        cases want <;> rfl
      rw [hw]
      exact skip hs rfl hk
    · exact hk.elim
theorem exQ_sound {held fst : Bool} {w : World} {K : S → Prop} {M : Pm} (hcl : held = true → Held M1 w1 (blks N ob1) w) (hf : fst = true → M = M1) {R : Act → Prop} :
    ∀ (is : List Nat) (s : S) (a : Act), (held = true → ∀ i ∈ N, s.ob[i]? = ob1[i]?) → (∀ s' a', K s' → St Γ M s' a' w → s'.ob = s.ob → R a') → exQ P ops H N held fst is s K → St Γ M s a w → wpQuiet P ops.toArray (Reg.cls (Held M1 w1 (blks N ob1)) held) R (Reg.pick ops is) a
  | [], s, a, _, hR, hk, hs => hR s a hk hs rfl
  | i :: is, s, a, hN, hR, hk, hs => by
    unfold exQ at hk
    split at hk
    rotate_left
    · exact hk.elim
    rename_i o ho
    have := exqg_sound (M1 := M1) (w1 := w1) (ob1 := ob1) hk hs hcl hN hf (R := wpQuiet P ops.toArray (Reg.cls (Held M1 w1 (blks N ob1)) held) R (Reg.pick ops is)) fun s' a' hk' hs' e =>
      exQ_sound hcl hf is s' a' (by rw [e]; exact hN) (fun s'' a'' h1 h2 h3 => hR s'' a'' h1 h2 (h3.trans e)) hk' hs'
    unfold Reg.pick
    rw [ho]
    simp only [Option.toList_some, List.cons_append, List.nil_append]
    unfold wpQuiet
    exact this
theorem exN_sound {M : Pm} {s : S} {a : Act} {w : World} {o : Oper} {h : Hint} {K : S → Prop} {b : Bool} {X : Act → World → Prop} (hk : exN P ops N b o h s K) (hs : St Γ M s a w) (hcl : b = true → Held M1 w1 (blks N ob1) w) (hN : b = true → ∀ i ∈ N, s.ob[i]? = ob1[i]?) (hin : b = true → ∀ i ∈ N, i < s.ob.length) (hM : b = true → M1.le M)
    (hX : ∀ s' M' a' w', K s' → St Γ M' s' a' w' → (b = true → M1.le M' ∧ Held M1 w1 (blks N ob1) w' ∧ (∀ i ∈ N, s'.ob[i]? = ob1[i]?) ∧ ∀ i ∈ N, i < s'.ob.length) → X a' w') :
    if Region.wanted o (yielded ops.toArray a.tmps) then o.wp P a w X Q else X (a.put o.dst undef) w := by
  cases b with
  | false =>
    have h1 := exg_sound (Q := Q) hk hs
    split
    · rename_i hw
      rw [if_pos hw] at h1
      exact Oper.wp_mono (fun a' w' ⟨s', M', h2, h3⟩ => hX s' M' a' w' h2 h3 (fun e => by cases e)) h1
    · rename_i hw
      rw [if_neg hw] at h1
      obtain ⟨s', M', h2, h3⟩ := h1
      exact hX s' M' _ w h2 h3 (fun e => by cases e)
  | true =>
    unfold exN at hk
    rw [if_pos rfl] at hk
    have key : ∀ {a' : Act} {w' : World}, Post ⟨w, Dom (hide N s.ob) s.gl, M⟩ (fun s' => K { s' with ob := Vm.back N s.ob s'.ob }) a' w' → X a' w' := fun {a' w'} ⟨s', M', h2, h3⟩ => by
      obtain ⟨g1, g2, g3⟩ := backSt hs h3
      refine hX _ M' a' w' h2 g1 fun _ => ⟨Pm.le_trans (hM rfl) g3, ⟨fun c hc => ?_, fun c q u hu => (h3.hp.promise c q u (g3 c q u (hM rfl c q u hu))).1⟩, fun i hi => ?_, fun i hi => Nat.lt_of_lt_of_le (hin rfl i hi) back_len⟩
      · refine (g2 c ?_).trans ((hcl rfl).1 c hc)
        obtain ⟨i, x, k1, k2, k3⟩ := hc
        exact ⟨i, x, k1, by rw [hN rfl i k1]; exact k2, k3⟩
      · rw [← hN rfl i hi]
        exact back_at hi (hin rfl i hi)
    have h1 := exg_sound (Q := Q) hk (hideSt hs N)
    split
    · rename_i hw
      rw [if_pos hw] at h1
      exact Oper.wp_mono (fun a' w' h2 => key h2) h1
    · rename_i hw
      rw [if_neg hw] at h1
      exact key h1
theorem runPlan_sound {K : S → Prop} (hQ : ∀ a w, Post Γ K a w → Q .normal a w) : ∀ (p : Reg.Plan) (b f : Bool) (s : S) (M : Pm) (a : Act) (w : World), runPlan P ops H N lax p b f s K → St Γ M s a w → (b = true → M1.le M ∧ Held M1 w1 (blks N ob1) w ∧ (∀ i ∈ N, s.ob[i]? = ob1[i]?) ∧ ∀ i ∈ N, i < s.ob.length) → (f = true → M = M1) →
    (p.ok .any ops.toArray (Reg.isIn lax) · b) = (p.ok .any ops.toArray (Reg.isIn lax) · b) → (∀ l, p.ok .any ops.toArray (Reg.isIn lax) l b = true → Reg.wpPlan P ops (Reg.isIn lax) (Held M1 w1 (blks N ob1)) Q p b a w)
  | .done, b, f, s, M, a, w, hk, hs, _, _, _ => fun l hl => hQ a w ⟨s, M, hk, hs⟩
  | .take held is p, b, f, s, M, a, w, hk, hs, hb, hf, _ => fun l hl => by
    simp only [Reg.Plan.ok, Bool.and_eq_true] at hl
    have hh : held = true → b = true := fun e => by have := hl.1.1; rw [e] at this; simpa using this
    unfold runPlan at hk
    unfold Reg.wpPlan
    exact exQ_sound (M1 := M1) (w1 := w1) (ob1 := ob1) (K := fun s' => runPlan P ops H N lax p b f s' K) (fun e => (hb (hh e)).2.1) hf is s a (fun e => (hb (hh e)).2.2.1) (fun s' a' h1 h2 h3 =>
      runPlan_sound hQ p b f s' M a' w h1 h2 (by rw [h3]; exact hb) hf rfl _ hl.2) hk hs
  | .one n p, b, f, s, M, a, w, hk, hs, hb, hf, _ => fun l hl => by
    simp only [Reg.Plan.ok, Bool.and_eq_true] at hl
    unfold runPlan at hk
    split at hk
    rotate_left
    · exact hk.elim
    rename_i o ho
    unfold Reg.wpPlan
    exact planOne ho hk hs hb (fun s' M' a' w' g1 g2 g3 => runPlan_sound hQ p _ false s' M' a' w' g1 g2 g3 (fun e => by cases e) rfl _ hl.2)
  | .two n m p q, b, f, s, M, a, w, hk, hs, hb, hf, _ => fun l hl => by
    simp only [Reg.Plan.ok, Bool.and_eq_true] at hl
    unfold runPlan at hk
    split at hk
    rotate_left
    · exact hk.elim
    rename_i o o' ho ho'
    unfold Reg.wpPlan
    exact ⟨planOne ho hk.1 hs hb (fun s' M' a' w' g1 g2 g3 => runPlan_sound hQ p _ false s' M' a' w' g1 g2 g3 (fun e => by cases e) rfl _ hl.1.2),
      planOne ho' hk.2 hs hb (fun s' M' a' w' g1 g2 g3 => runPlan_sound hQ q _ false s' M' a' w' g1 g2 g3 (fun e => by cases e) rfl _ hl.2)⟩
  | .three n m l' p q r, b, f, s, M, a, w, hk, hs, hb, hf, _ => fun l hl => by
    simp only [Reg.Plan.ok, Bool.and_eq_true] at hl
    unfold runPlan at hk
    split at hk
    rotate_left
    · exact hk.elim
    rename_i o o' o'' ho ho' ho''
    unfold Reg.wpPlan
    exact ⟨planOne ho hk.1 hs hb (fun s' M' a' w' g1 g2 g3 => runPlan_sound hQ p _ false s' M' a' w' g1 g2 g3 (fun e => by cases e) rfl _ hl.1.1.2),
      planOne ho' hk.2.1 hs hb (fun s' M' a' w' g1 g2 g3 => runPlan_sound hQ q _ false s' M' a' w' g1 g2 g3 (fun e => by cases e) rfl _ hl.1.2),
      planOne ho'' hk.2.2 hs hb (fun s' M' a' w' g1 g2 g3 => runPlan_sound hQ r _ false s' M' a' w' g1 g2 g3 (fun e => by cases e) rfl _ hl.2)⟩
where
  planOne {n : Nat} {o : Oper} {b : Bool} {s : S} {M : Pm} {a : Act} {w : World} {K : S → Prop} {X : Act → World → Prop} (ho : ops[n]? = some o) (hk : exN P ops N (b && !Reg.isIn lax n) o (H n) s K) (hs : St Γ M s a w) (hb : b = true → M1.le M ∧ Held M1 w1 (blks N ob1) w ∧ (∀ i ∈ N, s.ob[i]? = ob1[i]?) ∧ ∀ i ∈ N, i < s.ob.length)
      (hX : ∀ s' M' a' w', K s' → St Γ M' s' a' w' → ((b && !Reg.isIn lax n) = true → M1.le M' ∧ Held M1 w1 (blks N ob1) w' ∧ (∀ i ∈ N, s'.ob[i]? = ob1[i]?) ∧ ∀ i ∈ N, i < s'.ob.length) → X a' w') :
      wpList P ops.toArray (Exit.then (fun a' w' => Reg.behind (Held M1 w1 (blks N ob1)) (b && !Reg.isIn lax n) w' (X a' w')) Q) (ops[n]?).toList a w := by
    have hbb : (b && !Reg.isIn lax n) = true → b = true := fun e => by simp only [Bool.and_eq_true] at e; exact e.1
    have := exN_sound (Q := Exit.then (fun a' w' => Reg.behind (Held M1 w1 (blks N ob1)) (b && !Reg.isIn lax n) w' (X a' w')) Q) (X := fun a' w' => Reg.behind (Held M1 w1 (blks N ob1)) (b && !Reg.isIn lax n) w' (X a' w')) hk hs (fun e => (hb (hbb e)).2.1) (fun e => (hb (hbb e)).2.2.1) (fun e => (hb (hbb e)).2.2.2) (fun e => (hb (hbb e)).1)
      (fun s' M' a' w' g1 g2 g3 => ⟨fun e => (g3 e).2.1, hX s' M' a' w' g1 g2 g3⟩)
    rw [ho]
    simp only [Option.toList_some]
    unfold wpList
    split
    · rename_i hw
      rw [if_pos hw] at this
      exact .inl this
    · rename_i hw
      rw [if_neg hw] at this
      exact this
theorem region_sound {id : Nat} {pl : RPlan} {K : S → Prop} {s : S} {M : Pm} {a : Act} {w : World} (hok : planOk P ops pl = true) (hin : pl.N.all (fun i => decide (i < s.ob.length)) = true) (hQ : ∀ a w, Post Γ K a w → Q .normal a w)
    (hk : runPlan P ops H pl.N pl.lax pl.p true true s K) (hs : St Γ M s a w) : (Code.region id ops.toArray true).wp P Q a w := by
  unfold planOk at hok
  simp only [Bool.and_eq_true] at hok
  obtain ⟨⟨⟨h1, h2⟩, h3⟩, h4⟩ := hok
  rw [List.all_eq_true] at hin
  have hs' : St Γ M s a w.drew := ⟨hs.df, hs.fr, hs.hp.still fun _ _ => rfl, ⟨hs.gr.more, hs.gr.only, hs.gr.fr.drew, hs.gr.own⟩⟩
  have hheld : Held M w.drew (blks pl.N s.ob) w.drew := ⟨fun _ _ => rfl, fun b o v hv => (hs'.hp.promise b o v hv).1⟩
  exact Reg.region (Held M w.drew (blks pl.N s.ob)) pl.lax pl.p h1 h2 h3 h4 hheld
    (runPlan_sound (Q := NoPanic Q) (fun a w q => NoPanic.normal (hQ a w q)) pl.p true true s M a w.drew hk hs' (fun _ => ⟨Pm.le_refl _, hheld, fun _ _ => rfl, fun i hi => by simpa using hin i hi⟩) (fun _ => rfl) rfl _ h3)
/-! regions that only read -/
theorem exr_sound {M : Pm} {s : S} {a : Act} {w : World} {o : Oper} {h : Hint} {k : T → Prop} (hk : exr P o h s k) (hs : St Γ M s a w) : ∃ v t, k t ∧ Rel M t v ∧ (execOp a.eval o).run P w = .ok (.value v) w := by
  unfold exr at hk
  split at hk
  · rename_i t x ho
    unfold vLoad at hk
    obtain ⟨b, off, cs, hk, hx, hc⟩ := cellsAt_sound hk hs
    obtain ⟨u, hu, hk⟩ := claim_some hk
    obtain ⟨v, h1, h2⟩ := load_run hc hu
    refine ⟨v, u, hk, h1, ?_⟩
    unfold execOp
    rw [ho]
    refine run_value ?_
    rw [hx]
    exact h2
  · rename_i t x ix ok ho
    split at hk
    rotate_left
    · exact hk.elim
    rename_i i b hx
    unfold vLookup at hk
    rw [hx] at hk
    simp only at hk
    have hr := eval_rel hs.fr x
    rw [hx] at hr
    simp only [Rel] at hr
    split at hk
    rotate_left
    · exact hk.elim
    rename_i b' kd f es ck kd' e kd'' z hob hmo hiz
    split at hk
    rotate_left
    · exact hk.elim
    rename_i zt hz
    split at hk
    rotate_left
    · exact hk.elim
    rename_i hcc
    obtain ⟨hbb, hk⟩ := hk
    have hix := intT_rel hiz (eval_rel hs.fr ix)
    rw [hcc.2] at hix
    obtain ⟨v, u, h1, h2, h3⟩ := lookup_found ho hr hix hob hmo hcc.1 hbb hz hs hk
    exact ⟨v, u, h1, h2, h3 w rfl⟩
  · obtain ⟨v, t, h1, h2, h3⟩ := pv_sound hk hs.fr
    exact ⟨v, t, h1, h2, h3 w⟩
theorem exrg_sound {M : Pm} {s : S} {a : Act} {w : World} {o : Oper} {h : Hint} {K : S → Prop} (hk : exrg P ops o h s K) (hs : St Γ M s a w) {R : Act → Prop}
    (hR : ∀ s' a', K s' → St Γ M s' a' w → R a') :
    if Region.wanted o (yielded ops.toArray a.tmps) then o.quiet P a (Reg.cls (fun w' => w' = w) true) R else R (a.put o.dst undef) := by
  unfold exrg at hk
  have use : ∀ {s' : S}, St Γ M s' a w → exr P o h s' (fun t => K (s'.put o.dst t)) → o.quiet P a (Reg.cls (fun w' => w' = w) true) R := fun {s'} hs' hq => by
    obtain ⟨v, t, h1, h2, h3⟩ := exr_sound hq hs'
    exact ⟨v, fun w' hw' => by
      have e : w' = w := hw'
      subst e
      unfold Oper.quietAt
      rw [h3]
      exact ⟨rfl, rfl⟩, hR _ _ h1 (hs'.put o.dst h2)⟩
  have skip : ∀ {s' : S}, St Γ M s' a w → K (s'.put o.dst (.v undef)) → R (a.put o.dst undef) := fun {s'} hs' hq => hR _ _ hq (hs'.put o.dst (by simp only [Rel]))
  split at hk
  · rename_i hg
    have : Region.wanted o (yielded ops.toArray a.tmps) = true := by simp [Region.wanted, hg]
    rw [if_pos this]
    exact use hs hk
  · rename_i g want hg
    split at hk
    rotate_left
    · exact hk.elim
    rename_i t hd
    have hdn : ((ops.toArray[g]?).bind (·.dst)) = some t := by simpa using hd
    split at hk
    · rename_i b hb
      obtain ⟨h1, h2⟩ := hs.know hb
      have hy : yielded ops.toArray a.tmps g = some b := by
        unfold yielded
        rw [hdn]
        simp [h2]
      have hw : Region.wanted o (yielded ops.toArray a.tmps) = (b == want) := by
        unfold Region.wanted
        rw [hg]
        simp only [hy]
        cases b <;> cases want <;> rfl
      rw [hw]
      cases b <;> cases want <;> simp only [bsplit, if_true, if_false, Bool.false_eq_true] at hk <;> simp only [beq_self_eq_true, if_true, Bool.false_eq_true, if_false, show (false == true) = false from rfl, show (true == false) = false from rfl]
      · exact use h1 hk
      · exact skip h1 hk
      · exact skip h1 hk
      · exact use h1 hk
    · rename_i vs hb
      obtain ⟨y, h1, h2⟩ := hs.fr.get (getD_some hb (by simp))
      simp only [Rel] at h2
      subst h2
      rw [Array.getElem?_toList] at h1
      have hy : yielded ops.toArray a.tmps g = none := by
        unfold yielded
        rw [hdn]
        simp [h1]
      have hw : Region.wanted o (yielded ops.toArray a.tmps) = false := by
        unfold Region.wanted
        rw [hg]
        simp only [hy]
        cases want <;> rfl
      rw [hw]
      exact skip hs hk
    · exact hk.elim
theorem exR_sound {w : World} {K : S → Prop} {M : Pm} {R : Act → Prop} :
    ∀ (is : List Nat) (s : S) (a : Act), (∀ s' a', K s' → St Γ M s' a' w → R a') → exR P ops H is s K → St Γ M s a w → wpQuiet P ops.toArray (Reg.cls (fun w' => w' = w) true) R (Reg.pick ops is) a
  | [], s, a, hR, hk, hs => hR s a hk hs
  | i :: is, s, a, hR, hk, hs => by
    unfold exR at hk
    split at hk
    rotate_left
    · exact hk.elim
    rename_i o ho
    have := exrg_sound hk hs (R := wpQuiet P ops.toArray (Reg.cls (fun w' => w' = w) true) R (Reg.pick ops is)) fun s' a' hk' hs' =>
      exR_sound is s' a' hR hk' hs'
    unfold Reg.pick
    rw [ho]
    simp only [Option.toList_some, List.cons_append, List.nil_append]
    unfold wpQuiet
    exact this
theorem reads_sound {id : Nat} {is : List Nat} {K : S → Prop} {s : S} {M : Pm} {a : Act} {w : World} (hok : planOk P ops ⟨[], [], .take true is .done⟩ = true) (hQ : ∀ a w, Post Γ K a w → Q .normal a w)
    (hk : exR P ops H is s K) (hs : St Γ M s a w) : (Code.region id ops.toArray true).wp P Q a w := by
  unfold planOk at hok
  simp only [Bool.and_eq_true] at hok
  obtain ⟨⟨⟨h1, h2⟩, h3⟩, h4⟩ := hok
  have hs' : St Γ M s a w.drew := ⟨hs.df, hs.fr, hs.hp.still fun _ _ => rfl, ⟨hs.gr.more, hs.gr.only, hs.gr.fr.drew, hs.gr.own⟩⟩
  refine Reg.region (fun w' => w' = w.drew) [] (.take true is .done) h1 h2 h3 h4 rfl ?_
  unfold Reg.wpPlan
  exact exR_sound is s a (fun s' a' h1 h2 => NoPanic.normal (hQ a' w.drew ⟨s', M, h1, h2⟩)) hk hs'
end
section
variable {P : Program} {Γ : Ctx} {M : Pm} {s : S} {a : Act} {w : World} {o : Oper} {h : Hint} {K : S → Prop} {Q : Exit → Act → World → Prop}
/-! ### Loops -/
def LW (P : Program) (c : Code) (Q : Exit → Act → World → Prop) (a : Act) (w : World) : Prop := ∀ X : Act → World → Prop, (∀ a w, c.wp P (Exit.then X Q) a w → X a w) → X a w
theorem LW.mk {c : Code} (h : c.wp P (Exit.then (LW P c Q) Q) a w) : LW P c Q a w := fun X hX => hX a w (wp_mono h fun e a w q => by cases e <;> first | exact q X hX | exact q)
theorem LW.wp {c : Code} (h : LW P c Q a w) : (Code.loop c).wp P Q a w := by
  intro b k cs
  have key := h (fun a w => ∀ b k cs, ∃ e a' w', Q e a' w' ∧ Arrives P (lone (b.at a (.code c :: .inLoop c :: k)) cs w) b k cs e a' w') (fun a w hX b k cs => by
    obtain ⟨e, a₁, w₁, hq, harr⟩ := hX b (.inLoop c :: k) cs
    cases e with
    | normal =>
      obtain ⟨e₂, a₂, w₂, hq₂, harr₂⟩ := hq b k cs
      exact ⟨e₂, a₂, w₂, hq₂, .of_steps (Steps.trans harr (.one step_inLoop)) harr₂⟩
    | exit id => exact ⟨_, a₁, w₁, hq, .pass (x := .inLoop c) rfl (fun _ _ => .inl (by simp)) harr⟩
    | goto l => exact ⟨_, a₁, w₁, hq, .pass (x := .inLoop c) rfl (fun _ _ => .inl (by simp)) harr⟩
    | ret => exact ⟨_, a₁, w₁, hq, .pass (x := .inLoop c) rfl (fun _ _ => .inl (by simp)) harr⟩
    | panic ch => exact ⟨_, a₁, w₁, hq, .pass (x := .inLoop c) rfl (fun _ _ => .inl (by simp)) harr⟩
    | outgrown => exact ⟨_, a₁, w₁, hq, .pass (x := .inLoop c) rfl (fun _ _ => .inl (by simp)) harr⟩)
  obtain ⟨e, a', w', hq, harr⟩ := key b k cs
  exact ⟨e, a', w', hq, .of_steps (.one step_loop) harr⟩
def cwp (P : Program) (c : Code) (Q : Exit → Act → World → Prop) (a : Act) (w : World) : Prop := match c with | .loop b => LW P b Q a w | c => c.wp P Q a w
theorem cwp_wp {c : Code} (h : cwp P c Q a w) : c.wp P Q a w := by
  cases c <;> first | exact h | exact LW.wp h

/-! ### Statements -/
def PostE (Γ : Ctx) (K : Exit → S → Prop) (e : Exit) (a : Act) (w : World) : Prop := ∃ s M, K e s ∧ St Γ M s a w
def TW (P : Program) (Γ : Ctx) (c : Code) (s : S) (K : Exit → S → Prop) : Prop := ∀ M a w, St Γ M s a w → cwp P c (PostE Γ K) a w
def Kt (P : Program) (Γ : Ctx) (R : S → Prop) : List It → Exit → S → Prop
  | [], e, s => (match e with | .normal => R s | .ret => R s | _ => False)
  | .code c :: k, e, s => (match e with | .normal => TW P Γ c s (Kt P Γ R k) | e => Kt P Γ R k e s)
  | .blk id :: k, e, s => (match e with | .exit i => if i = id then Kt P Γ R k .normal s else Kt P Γ R k (.exit i) s | e => Kt P Γ R k e s)
/-- what is left to do, from here on, comes to R -/
def TWr (P : Program) (Γ : Ctx) (R : S → Prop) (k : List It) (s : S) : Prop := Kt P Γ R k .normal s
structure TWk (P : Program) (Γ : Ctx) (R : S → Prop) (k : List It) (s : S) : Prop where
  out : TWr P Γ R k s
theorem cwp_of {c : Code} (hn : ∀ b, c ≠ .loop b) (h : c.wp P Q a w) : cwp P c Q a w := by
  cases c <;> first | exact h | exact absurd rfl (hn _)
theorem Kt_code {R : S → Prop} {c : Code} {k : List It} : Kt P Γ R (.code c :: k) .normal s = TW P Γ c s (Kt P Γ R k) := rfl
theorem postE_then {R : S → Prop} {c : Code} {k : List It} {e : Exit} (q : PostE Γ (Kt P Γ R (.code c :: k)) e a w) : Exit.then (fun a w => cwp P c (PostE Γ (Kt P Γ R k)) a w) (PostE Γ (Kt P Γ R k)) e a w := by
  obtain ⟨s, M, hk, hs⟩ := q
  cases e <;> first | exact hk M a w hs | exact ⟨s, M, hk, hs⟩
theorem postE_block {R : S → Prop} {id : Nat} {k : List It} {e : Exit} (q : PostE Γ (Kt P Γ R (.blk id :: k)) e a w) : Exit.inBlock id (PostE Γ (Kt P Γ R k)) e a w := by
  obtain ⟨s, M, hk, hs⟩ := q
  cases e <;> first | exact ⟨s, M, hk, hs⟩ | skip
  rename_i i
  simp only [Kt] at hk
  simp only [Exit.inBlock]
  split at hk
  · rename_i e; rw [if_pos e]; exact ⟨s, M, hk, hs⟩
  · rename_i e; rw [if_neg e]; exact ⟨s, M, hk, hs⟩
theorem unwind_sound {R : S → Prop} {id : Nat} : ∀ {k k' : List It}, unwind id k = some k' → Kt P Γ R k' .normal s → Kt P Γ R k (.exit id) s
  | [], k', h, _ => by simp [unwind] at h
  | .blk i :: k, k', h, hk => by
    simp only [unwind] at h
    simp only [Kt]
    split at h
    · rename_i e
      injection h with h
      subst h
      rw [if_pos e.symm]
      exact hk
    · rename_i e
      rw [if_neg (fun x => e x.symm)]
      exact unwind_sound h hk
  | .code c :: k, k', h, hk => by
    simp only [unwind] at h
    simp only [Kt]
    exact unwind_sound h hk
theorem ret_sound {R : S → Prop} (h : R s) : ∀ (k : List It), Kt P Γ R k .ret s
  | [] => h
  | .blk _ :: k => by simp only [Kt]; exact ret_sound h k
  | .code _ :: k => by simp only [Kt]; exact ret_sound h k
theorem St.trim (hs : St Γ M s a w) (live : List Nat) (n : Nat) : St Γ M (trim live n s) a w := by
  have get : ∀ {i : Nat} {x : Nat × Ob}, (s.ob.take n)[i]? = some x → s.ob[i]? = some x := fun {i x} hx => by
    rw [List.getElem?_take] at hx
    split at hx
    · exact hx
    · cases hx
  refine ⟨hs.df, ?_, ⟨hs.hp.promise, fun i x hx => hs.hp.objs i x (get hx), fun i j x y b h1 h2 => hs.hp.apart i j x y b (get h1) (get h2), hs.hp.glob, fun i x b h1 => hs.hp.sep i x b (get h1)⟩,
    ⟨hs.gr.more, hs.gr.only, hs.gr.fr, fun b hb => hs.gr.own b (by
      rcases hb with ⟨i, x, h1, h2⟩ | h1
      · exact .inl ⟨i, x, get h1, h2⟩
      · exact .inr h1)⟩⟩
  refine RelL.of_get (by simp [Vm.trim, hs.fr.len]) fun i t y h1 h2 => ?_
  simp only [Vm.trim] at h1
  rw [List.getElem?_map, Option.map_eq_some_iff] at h1
  obtain ⟨⟨u, q⟩, hu, rfl⟩ := h1
  rw [List.getElem?_zipIdx, Option.map_eq_some_iff] at hu
  obtain ⟨v, hv, e⟩ := hu
  injection e with e1 e2
  subst e1
  simp only
  split
  · obtain ⟨z, h3, h4⟩ := hs.fr.get hv
    rw [h3] at h2; injection h2 with h2; exact h2 ▸ h4
  · simp only [Rel]
theorem know_sound {x : Operand} {b : Bool} (hs : St Γ M s a w) (h : s.eval x = .v (.bool b)) : St Γ M (s.know x b) a w := by
  cases x with
  | tmp t => exact (hs.know h).1
  | _ => exact hs
theorem run_kt {H : Hs} {R : S → Prop} (hd : True) : ∀ (n : Nat) (f : Bool) (k : List It) (s : S), run P H R (TWk P Γ R) n f k s → TWr P Γ R k s
  | 0, f, k, s, h => h.out
  | n + 1, f, [], s, h => h
  | n + 1, f, .blk id :: k, s, h => run_kt hd n f k s h
  | n + 1, f, .code c :: k, s, h => by
    unfold run at h
    split at h
    · exact fun M a w hs => h.out M a w (hs.trim _ _)
    · split at h
      · exact fun M a w hs => wp_skip ⟨s, M, run_kt hd n f k s h, hs⟩
      · exact fun M a w hs => wp_label ⟨s, M, run_kt hd n f k s h, hs⟩
      · intro M a w hs
        have h1 := run_kt hd n f _ s h M a w hs
        exact wp_seq (wp_mono (cwp_wp h1) fun e a w q => by
          have := postE_then q
          cases e <;> first | exact cwp_wp this | exact this)
      · intro M a w hs
        have h1 := run_kt hd n f _ s h M a w hs
        exact wp_block (wp_mono (cwp_wp h1) fun e a w q => postE_block q)
      · intro M a w hs
        have h1 := run_kt hd n false _ s h M a w hs
        exact LW.mk (wp_mono (cwp_wp h1) fun e a w q => postE_then q)
      · rename_i id
        split at h
        · rename_i k' hu
          exact fun M a w hs => wp_exit ⟨s, M, unwind_sound hu (run_kt hd n false k' s h), hs⟩
        · exact h.elim
      · exact fun M a w hs => wp_ret ⟨s, M, ret_sound h k, hs⟩
      · rename_i x c1 c2 _
        split at h
        rotate_left
        · exact h.elim
        rename_i b hb
        intro M a w hs
        have hr := eval_rel hs.fr x
        rw [hb] at hr
        simp only [Rel] at hr
        cases b with
        | true => exact wp_cond_true hr (cwp_wp (run_kt hd n false _ _ h M a w (know_sound hs hb)))
        | false => exact wp_cond_false hr (cwp_wp (run_kt hd n false _ _ h M a w (know_sound hs hb)))
      · rename_i id ops d _
        split at h
        · rename_i hdr
          subst hdr
          split at h
          rotate_left
          · split at h
            rotate_left
            · exact h.elim
            rename_i hok
            intro M a w hs
            have := reads_sound (id := id) (Γ := Γ) (Q := PostE Γ (Kt P Γ R k)) (K := fun s' => run P H R (TWk P Γ R) n false k s') hok (fun a w ⟨s', M', hk', hs'⟩ => ⟨s', M', run_kt hd n false k s' hk', hs'⟩) h hs
            exact cwp_of (fun _ e => by cases e) (by simpa using this)
          rename_i pl hpl
          split at h
          rotate_left
          · exact h.elim
          rename_i hok
          simp only [Bool.and_eq_true] at hok
          intro M a w hs
          have := region_sound (id := id) (Γ := Γ) (Q := PostE Γ (Kt P Γ R k)) (K := fun s' => run P H R (TWk P Γ R) n false k s') hok.1 hok.2 (fun a w ⟨s', M', hk', hs'⟩ => ⟨s', M', run_kt hd n false k s' hk', hs'⟩) h hs
          exact cwp_of (fun _ e => by cases e) (by simpa using this)
        · rename_i hdr
          have hdf : d = false := by simpa using hdr
          subst hdf
          intro M a w hs
          refine wp_region_list ?_
          have := exL_sound (Γ := Γ) (Q := PostE Γ (Kt P Γ R k)) (fun a w ⟨s', M', hk', hs'⟩ => ⟨s', M', run_kt hd n false k s' hk', hs'⟩) ops.toList 0 s M a w h hs
          simpa using this
      · exact h.elim

theorem run_sound (H : Hs) {R : S → Prop} (n : Nat) {k : List It} {s : S} {B : Prop} (h : run P H R (TWk P Γ R) n true k s = B) (hB : B) : TWk P Γ R k s := ⟨run_kt trivial n true k s (h ▸ hB)⟩
/-- what is not needed any more is forgotten -/
theorem TWk.forget {R : S → Prop} {c : Code} {k : List It} {s : S} (live : List Nat) (m : Nat) (h : TWk P Γ R (.code c :: k) (trim live m s)) : TWk P Γ R (.code c :: k) s := ⟨fun M a w hs => h.out M a w (hs.trim _ _)⟩

/-! ### A function by its body -/
theorem run_asAddr (ad : Addr) (w : World) : (asAddr (.pointer (some ad))).run P w = .ok ad w := rfl
theorem weakK_rel {keep : List Nat} {t : T} {v : Value} (r : Rel M t v) : Rel M (t.weakK keep) v := by
  have one : ∀ {t : T} {v : Value}, Rel M t v → Rel M (t.weak1K keep) v := fun {t v} r => by
    cases t <;> first | exact r | skip
    simp only [T.weak1K]
    split
    · exact r
    · exact weakC r
  cases t <;> first | exact one r | skip
  simp only [T.weakK, Rel] at r ⊢
  obtain ⟨ys, e, r⟩ := r
  exact ⟨ys, e, RelL.of_get (by rw [r.len]; simp) fun i t y h1 h2 => by
    rw [List.getElem?_map, Option.map_eq_some_iff] at h1
    obtain ⟨t0, h3, rfl⟩ := h1
    obtain ⟨u, h4, h5⟩ := r.get h3
    rw [h4] at h2
    injection h2 with h2
    exact h2 ▸ one h5⟩
theorem finR_sound (keep : List Nat) (hs : St Γ M s a w) : ∀ (rs : List ResultVar) (k : List T → Prop), finR P keep s rs k → ∃ ts vs, k ts ∧ RelL M ts vs ∧
    (rs.mapM (fun | .tmp t => pure (a.tmps.getD t undef) | .cell x t => do loadVar t (← asAddr (a.tmps.getD x undef))) : Sem (List Value)).run P w = .ok vs w
  | [], k, h => ⟨[], [], h, by simp only [RelL], rfl⟩
  | .tmp t :: rs, k, h => by
    obtain ⟨ts, vs, h1, h2, h3⟩ := finR_sound keep hs rs _ h
    refine ⟨_, a.tmps.getD t undef :: vs, h1, by simp only [RelL]; exact ⟨_, _, rfl, weakK_rel (eval_rel hs.fr (.tmp t)), h2⟩, ?_⟩
    simp only [List.mapM_cons, Sem.run_bind, Sem.run_pure, Result.andThen_ok, h3]
  | .cell x t :: rs, k, h => by
    unfold finR at h
    obtain ⟨b, off, cs, hk, hx, hc⟩ := cellsAt_sound (h := .no) (x := .tmp x) h hs
    obtain ⟨u, hu, hk⟩ := claim_some hk
    obtain ⟨ts, vs, h1, h2, h3⟩ := finR_sound keep hs rs _ hk
    obtain ⟨v, h4, h5⟩ := load_run hc hu
    refine ⟨_, v :: vs, h1, by simp only [RelL]; exact ⟨_, _, rfl, weakK_rel h4, h2⟩, ?_⟩
    have hx' : a.tmps.getD x undef = .pointer (some ⟨b, off, none⟩) := hx
    simp only [Instr.loadAt, Instr.sureAddr, Sem.run_bind, Sem.run_pure, Result.andThen_ok] at h5
    simp only [List.mapM_cons, Sem.run_bind, Sem.run_pure, Result.andThen_ok, hx', run_asAddr, h5, h3]
theorem TCalls.of {f : FuncId} {fn : Func} {c : Code} {ts : List T} {ob : Obs} {gl : Glb} {Q : T → Obs → Glb → Prop} (hf : P.funcs[f]? = some fn) (hb : fn.body = some c) (hcan : CanCall P f) (keep : List Nat)
    (h : ∀ Γ, TWk P Γ (fin P fn keep Q) [.code c] (st0 fn ts ob gl)) : TCalls P f ts ob gl Q := by
  refine ⟨hcan, fun M w xs hp hx => ?_⟩
  have hsz : xs.size = ts.length := by rw [← hx.len]; simp
  have hgrew : Grew ⟨w, Dom ob gl, M⟩ M ob gl w := ⟨Pm.le_refl _, fun b o v hv => .inl hv, Fr.refl _ _, fun b hb => .inl hb⟩
  refine calls_of_wp hf hb (wp_mono (cwp_wp ((h ⟨w, Dom ob gl, M⟩).out M _ w ⟨rfl, ?_, hp, hgrew⟩)) fun e a' w' q => ?_)
  · simp only [st0, Array.toList_append, Array.toList_replicate]
    refine hx.append ?_
    rw [hsz]
    exact RelL.of_get (by simp) fun i t y h1 h2 => by
      rw [List.getElem?_replicate] at h1 h2
      split at h1
      · rw [if_pos (by assumption)] at h2
        injection h1 with h1; injection h2 with h2; subst h1 h2; simp only [Rel]
      · cases h1
  · obtain ⟨s', M', hk, hs'⟩ := q
    have end_ : fin P fn keep Q s' → a'.defers = [] ∧ ∃ v, (results fn a'.tmps).run P w' = .ok v w' ∧ ∃ x r M' ob' gl', Ending.returned v = .returned x ∧ Rel M' r x ∧ HRel M' ob' gl' w' ∧ Grew ⟨w, Dom ob gl, M⟩ M' ob' gl' w' ∧ Q r ob' gl' := fun hk => by
      unfold fin at hk
      split at hk
      rotate_left
      · exact hk.elim
      rename_i hkeep
      obtain ⟨hnd, hin⟩ := hkeep
      rw [List.all_eq_true] at hin
      obtain ⟨us, vs, h1, h2, h3⟩ := finR_sound keep hs' _ _ hk
      obtain ⟨sl1, sl2⟩ := filterMap_get (fun i => s'.ob[i]?) keep fun i hi => by
        have := hin i hi
        simp only [decide_eq_true_eq] at this
        simp [this]
      have hres : (results fn a'.tmps).run P w' = .ok (if h : vs.toArray.size = 1 then vs.toArray[0] else .tuple vs.toArray) w' := by
        unfold results
        rw [Array.mapM_eq_mapM_toList]
        simp only [map_eq_pure_bind, bind_assoc, pure_bind, Sem.run_bind, Sem.run_pure]
        exact congrArg (fun r => Result.andThen r _) h3
      have gen : ∀ (F : T → T) (G : Nat × Ob → Nat × Ob), (∀ t v, Rel M' t v → Rel M' (F t) v) → (∀ {x}, obBlk (G x) = obBlk x) → (∀ x, ObRel M' w' x → ObRel M' w' (G x)) → Q (F (match us with | [t] => t | us => .tup us)) ((keep.filterMap fun i => s'.ob[i]?).map G) s'.gl →
          a'.defers = [] ∧ ∃ v, (results fn a'.tmps).run P w' = .ok v w' ∧ ∃ x r M' ob' gl', Ending.returned v = .returned x ∧ Rel M' r x ∧ HRel M' ob' gl' w' ∧ Grew ⟨w, Dom ob gl, M⟩ M' ob' gl' w' ∧ Q r ob' gl' := fun F G hF hG1 hG2 h1 => by
        have sl3 : ∀ (j : Nat) (x : Nat × Ob), ((keep.filterMap fun i => s'.ob[i]?).map G)[j]? = some x → ∃ i y, keep[j]? = some i ∧ s'.ob[i]? = some y ∧ x = G y := fun j x hx => by
          rw [List.getElem?_map, Option.map_eq_some_iff] at hx
          obtain ⟨y, hy, rfl⟩ := hx
          have hj : j < keep.length := by rw [← sl1]; exact (List.getElem?_eq_some_iff.1 hy).1
          have g1 : keep[j]? = some keep[j] := List.getElem?_eq_getElem hj
          exact ⟨keep[j], y, g1, by rw [← sl2 j _ g1]; exact hy, rfl⟩
        refine ⟨hs'.df, _, hres, _, _, M', _, _, rfl, ?_, ⟨hs'.hp.promise, fun j x hx => ?_, fun j l x y b g1 g2 g3 g4 => ?_, hs'.hp.glob, fun j x b g1 g2 => ?_⟩, ⟨hs'.gr.more, hs'.gr.only, hs'.gr.fr, fun b hb => ?_⟩, h1⟩
        · have hl := h2.len
          cases us with
          | nil =>
            have : vs = [] := List.eq_nil_of_length_eq_zero hl
            subst this
            exact hF _ _ (by simp only [Rel]; exact ⟨_, rfl, h2⟩)
          | cons u us =>
            cases us with
            | nil =>
              simp only [RelL] at h2
              obtain ⟨v, vs', rfl, r1, rfl⟩ := h2
              exact hF _ _ r1
            | cons u' us =>
              rw [dif_neg (by simp [hl])]
              exact hF _ _ (by simp only [Rel]; exact ⟨_, rfl, h2⟩)
        · obtain ⟨i, y, _, hi, rfl⟩ := sl3 j x hx
          exact hG2 _ (hs'.hp.objs i y hi)
        · obtain ⟨i, y1, i1, i2, rfl⟩ := sl3 j x g1
          obtain ⟨i', y2, i3, i4, rfl⟩ := sl3 l y g2
          rw [hG1] at g3 g4
          have := hs'.hp.apart i i' y1 y2 b i2 i4 g3 g4
          subst this
          have hj : j < keep.length := (List.getElem?_eq_some_iff.1 i1).1
          have hl : l < keep.length := (List.getElem?_eq_some_iff.1 i3).1
          rw [List.getElem?_eq_getElem hj] at i1
          rw [List.getElem?_eq_getElem hl] at i3
          exact (List.getElem_inj hnd).1 (Option.some.inj (i1.trans i3.symm))
        · obtain ⟨i, y1, _, i2, rfl⟩ := sl3 j x g1
          rw [hG1] at g2
          exact hs'.hp.sep i y1 b i2 g2
        · refine hs'.gr.own b ?_
          rcases hb with ⟨j, x, g1, g2⟩ | g1
          · obtain ⟨i, y1, _, i2, rfl⟩ := sl3 j x g1
            rw [hG1] at g2
            exact .inl ⟨i, y1, i2, g2⟩
          · exact .inr g1
      split at h1
      · refine gen id id (fun _ _ r => r) rfl (fun _ r => r) ?_
        rw [List.map_id]
        cases us with
        | nil => exact h1
        | cons u us => cases us <;> exact h1
      · refine gen (reix keep) (reixOb keep) (fun _ _ r => reix_rel r) reixOb_blk (fun _ r => reixOb_rel r) ?_
        cases us with
        | nil => exact h1
        | cons u us => cases us <;> exact h1
    cases e <;> first | exact hk.elim | exact end_ hk
theorem CanCall.of {f : FuncId} {fn : Func} (hf : P.funcs[f]? = some fn) (hb : fn.body.isNone = false) (hn : (fn.name == "runtime.NumGoroutine") = false) : CanCall P f := fun args w => by
  unfold callFunc
  simp only [Sem.run_bind, show (program : Sem Program).run P w = .ok P w from rfl, Result.andThen_ok, hf, hb, hn, Bool.false_eq_true, if_false, Sem.run_pure]
theorem TCalls.mono {f : FuncId} {ts : List T} {ob : Obs} {gl : Glb} {Q Q' : T → Obs → Glb → Prop} (h : TCalls P f ts ob gl Q) (hq : ∀ r ob' gl', Q r ob' gl' → Q' r ob' gl') : TCalls P f ts ob gl Q' :=
  ⟨h.can, fun M w xs hp hx => (h.calls M w xs hp hx).mono fun _ _ ⟨x, r, M', ob', gl', h1, h2, h3, h4, h5⟩ => ⟨x, r, M', ob', gl', h1, h2, h3, h4, hq _ _ _ h5⟩⟩
end
end Go.Proofs.YtaepgceodcdnhaaDoor.Vm
/- Trees: the same state told in another way (a nil slice as a slice with the right to grow; objects let go). No program is named here. -/
namespace Go.Proofs.YtaepgceodcdnhaaDoor.Vm
open Go Go.RowKit

abbrev nilS : Value := .slice none 0 0
structure Imp (ts : List T) (ob : Obs) (gl : Glb) (ts' : List T) (ob' : Obs) (gl' : Glb) : Prop where
  rel : ∀ M xs, RelL M ts xs → RelL M ts' xs
  hp : ∀ M w, HRel M ob gl w → HRel M ob' gl' w
  dom : ∀ b, Dom ob' gl' b → Dom ob gl b
section
variable {P : Program} {Γ : Ctx}
theorem Imp.refl (ts : List T) (ob : Obs) (gl : Glb) : Imp ts ob gl ts ob gl := ⟨fun _ _ h => h, fun _ _ h => h, fun _ h => h⟩
theorem Imp.trans {ts ts' ts2 : List T} {ob ob' ob2 : Obs} {gl gl' gl2 : Glb} (h : Imp ts ob gl ts' ob' gl') (h' : Imp ts' ob' gl' ts2 ob2 gl2) : Imp ts ob gl ts2 ob2 gl2 :=
  ⟨fun M xs r => h'.rel M xs (h.rel M xs r), fun M w r => h'.hp M w (h.hp M w r), fun b r => h.dom b (h'.dom b r)⟩
theorem Grew.wider {M0 M : Pm} {w0 w : World} {D D' : Nat → Prop} {ob : Obs} {gl : Glb} (h : Grew ⟨w0, D', M0⟩ M ob gl w) (hd : ∀ b, D' b → D b) : Grew ⟨w0, D, M0⟩ M ob gl w where
  more := h.more
  only := fun b o v hv => by
    rcases h.only b o v hv with h1 | h1 | h1
    · exact .inl h1
    · exact .inr (.inl (hd b h1))
    · exact .inr (.inr h1)
  fr := h.fr.mono fun b _ => hd b
  own := fun b hb => by
    rcases h.own b hb with h1 | h1
    · exact .inl (hd b h1)
    · exact .inr h1
theorem Grew.imp {M : Pm} {ob ob' : Obs} {gl gl' : Glb} {w : World} (h : Grew Γ M ob gl w) (hd : ∀ b, Dom ob' gl' b → Dom ob gl b) : Grew Γ M ob' gl' w := ⟨h.more, h.only, h.fr, fun b hb => h.own b (hd b hb)⟩
theorem TWk.imp {R : S → Prop} {c : Code} {k : List It} {s s' : S} (h : TWk P Γ R (.code c :: k) s') (hi : Imp s.fr s.ob s.gl s'.fr s'.ob s'.gl) : TWk P Γ R (.code c :: k) s :=
  ⟨fun M a w hs => h.out M a w ⟨hs.df, hi.rel _ _ hs.fr, hi.hp _ _ hs.hp, hs.gr.imp hi.dom⟩⟩
theorem TCalls.post {f : FuncId} {ts : List T} {ob : Obs} {gl : Glb} {Q Q' : T → Obs → Glb → Prop} (h : TCalls P f ts ob gl Q)
    (hq : ∀ r ob' gl', Q r ob' gl' → ∃ r2 ob2 gl2, Imp [r] ob' gl' [r2] ob2 gl2 ∧ Q' r2 ob2 gl2) : TCalls P f ts ob gl Q' :=
  ⟨h.can, fun M w xs hp hx => (h.calls M w xs hp hx).mono fun _ _ ⟨x, r, M', ob', gl', h1, h2, h3, h4, h5⟩ => by
    obtain ⟨r2, ob2, gl2, hi, h6⟩ := hq r ob' gl' h5
    refine ⟨x, r2, M', ob2, gl2, h1, ?_, hi.hp _ _ h3, h4.imp hi.dom, h6⟩
    have := hi.rel M' [x] (by simp only [RelL]; exact ⟨x, [], rfl, h2, rfl⟩)
    simp only [RelL] at this
    obtain ⟨u, us, e, h7, _⟩ := this
    injection e with e
    exact e ▸ h7⟩
theorem TCalls.pre {f : FuncId} {ts ts' : List T} {ob ob' : Obs} {gl gl' : Glb} {Q : T → Obs → Glb → Prop} (h : TCalls P f ts' ob' gl' Q) (hi : Imp ts ob gl ts' ob' gl') : TCalls P f ts ob gl Q :=
  ⟨h.can, fun M w xs hp hx => (h.calls M w xs (hi.hp _ _ hp) (hi.rel _ _ hx)).mono fun _ _ ⟨x, r, M', ob2, gl2, h1, h2, h3, h4, h5⟩ => ⟨x, r, M', ob2, gl2, h1, h2, h3, h4.wider hi.dom, h5⟩⟩
/-! ### a nil slice -/
theorem rel_nilx {M : Pm} {k i : Nat} {v : Value} (h : Rel M (.v nilS) v) : Rel M (.slx k i [] nilS) v := by
  simp only [Rel] at h ⊢
  exact ⟨h, none, 0, rfl, ⟨Nat.le_refl _, by omega, fun _ => ⟨rfl, rfl⟩, by simp⟩, by simp [El], by simp⟩
theorem relL_nilx {M : Pm} {k i j : Nat} {ts : List T} {xs : List Value} (hj : ts[j]? = some (.v nilS)) (h : RelL M ts xs) : RelL M (ts.set j (.slx k i [] nilS)) xs := by
  obtain ⟨y, h1, h2⟩ := h.get hj
  have h3 := h.set j (rel_nilx (k := k) (i := i) h2)
  have e : xs.set j y = xs := by
    obtain ⟨hl, he⟩ := List.getElem?_eq_some_iff.1 h1
    rw [← he, List.set_getElem_self]
  rwa [e] at h3
theorem hrel_room {M : Pm} {ob : Obs} {gl : Glb} {w : World} {k : Nat} {e : TypeId} (h : HRel M ob gl w) : HRel M (ob ++ [(0, .room k e 0 nilS)]) gl w :=
  h.more (by simp [ObRel]) (by simp [obBlk, Value.ownBlock])
theorem dom_room {ob : Obs} {gl : Glb} {k : Nat} {e : TypeId} {b : Nat} (h : Dom (ob ++ [(0, .room k e 0 nilS)]) gl b) : Dom ob gl b := by
  rcases h with ⟨i, x, h1, h2⟩ | h1
  · rw [List.getElem?_append] at h1
    split at h1
    · exact .inl ⟨i, x, h1, h2⟩
    · rw [List.getElem?_singleton] at h1
      split at h1
      · injection h1 with h1; subst h1; simp [obBlk, Value.ownBlock] at h2
      · cases h1
  · exact .inr h1
theorem Imp.room {ts : List T} {ob : Obs} {gl : Glb} (k : Nat) (e : TypeId) : Imp ts ob gl ts (ob ++ [(0, .room k e 0 nilS)]) gl := ⟨fun _ _ h => h, fun _ _ h => hrel_room h, fun _ h => dom_room h⟩
theorem Imp.slot {ts : List T} {ob : Obs} {gl : Glb} (k i j : Nat) (hj : ts[j]? = some (.v nilS)) : Imp ts ob gl (ts.set j (.slx k i [] nilS)) ob gl := ⟨fun _ _ h => relL_nilx hj h, fun _ _ h => h, fun _ h => h⟩
/-- an object told in another way -/
theorem Imp.ob {ts : List T} {ob : Obs} {gl : Glb} {i : Nat} {x y : Nat × Ob} (hi : ob[i]? = some x) (hx : ∀ M w, ObRel M w x → ObRel M w y) (hb : ∀ b, obBlk y = some b → obBlk x = some b) : Imp ts ob gl ts (ob.set i y) gl := by
  have get : ∀ {j : Nat} {z : Nat × Ob}, (ob.set i y)[j]? = some z → (z = y ∧ j = i) ∨ (j ≠ i ∧ ob[j]? = some z) := fun {j z} h => by
    rw [List.getElem?_set] at h
    split at h
    · rename_i e
      split at h
      · injection h with h; exact .inl ⟨h.symm, e.symm⟩
      · cases h
    · rename_i e; exact .inr ⟨fun e' => e e'.symm, h⟩
  refine ⟨fun _ _ h => h, fun M w h => ⟨h.promise, fun j z hz => ?_, fun j1 j2 z1 z2 b h1 h2 h3 h4 => ?_, h.glob, fun j z b h1 h2 => ?_⟩, fun b h => ?_⟩
  · rcases get hz with ⟨rfl, rfl⟩ | ⟨_, h2⟩
    · exact hx M w (h.objs _ _ hi)
    · exact h.objs j z h2
  · rcases get h1 with ⟨e1, e2⟩ | ⟨n1, g1⟩ <;> rcases get h2 with ⟨e3, e4⟩ | ⟨n2, g2⟩
    · rw [e2, e4]
    · rw [e1] at h3; rw [e2]; exact h.apart _ _ _ _ b hi g2 (hb b h3) h4
    · rw [e3] at h4; rw [e4]; exact h.apart _ _ _ _ b g1 hi h3 (hb b h4)
    · exact h.apart _ _ _ _ b g1 g2 h3 h4
  · rcases get h1 with ⟨rfl, rfl⟩ | ⟨_, h1⟩
    · exact h.sep _ _ b hi (hb b h2)
    · exact h.sep _ _ b h1 h2
  · rcases h with ⟨j, z, h1, h2⟩ | h1
    · rcases get h1 with ⟨rfl, rfl⟩ | ⟨_, h1⟩
      · exact .inl ⟨_, _, hi, hb b h2⟩
      · exact .inl ⟨_, _, h1, h2⟩
    · exact .inr h1
theorem Imp.gone {ts : List T} {ob : Obs} {gl : Glb} (i : Nat) : Imp ts ob gl ts (ob.set i (0, .gone)) gl := by
  cases hi : ob[i]? with
  | none => rw [List.set_eq_of_length_le (by rw [List.getElem?_eq_none_iff] at hi; exact hi)]; exact Imp.refl _ _ _
  | some x => exact Imp.ob hi (fun _ _ _ => by simp [ObRel]) (fun _ h => by simp [obBlk] at h)
/-- a cell that is nil -/
theorem Imp.cell {ts : List T} {ob : Obs} {gl : Glb} (k r : Nat) {i j b : Nat} {cs : List T} (hi : ob[i]? = some (b, .cells cs)) (hj : cs[j]? = some (.v nilS)) : Imp ts ob gl ts (ob.set i (b, .cells (cs.set j (.slx k r [] nilS)))) gl :=
  Imp.ob hi (fun _ _ ⟨C, t, h1, h2, h3⟩ => ⟨C, t, h1, relL_nilx hj h2, h3⟩) (fun _ h => h)
theorem Imp.take {ts : List T} {ob : Obs} {gl : Glb} (n : Nat) : Imp ts ob gl ts (ob.take n) gl := by
  have get : ∀ {i : Nat} {x : Nat × Ob}, (ob.take n)[i]? = some x → ob[i]? = some x := fun {i x} hx => by
    rw [List.getElem?_take] at hx
    split at hx
    · exact hx
    · cases hx
  exact ⟨fun _ _ h => h, fun M w h => ⟨h.promise, fun i x hx => h.objs i x (get hx), fun i j x y b h1 h2 => h.apart i j x y b (get h1) (get h2), h.glob, fun i x b h1 => h.sep i x b (get h1)⟩, fun b h => by
    rcases h with ⟨i, x, h1, h2⟩ | h1
    · exact .inl ⟨i, x, get h1, h2⟩
    · exact .inr h1⟩
/-- the cells of an object without the right to grow -/
theorem Imp.weak {ts : List T} {ob : Obs} {gl : Glb} {i b : Nat} {cs : List T} (hi : ob[i]? = some (b, .cells cs)) : Imp ts ob gl ts (ob.set i (b, .cells (cs.map T.weak))) gl :=
  Imp.ob hi (fun _ _ ⟨C, t, h1, h2, h3⟩ => ⟨C, t, h1, weakL_rel h2, h3⟩) (fun _ h => h)
theorem TWk.weak {R : S → Prop} {c : Code} {k : List It} {fr : List T} {ob : Obs} {gl : Glb} (i b : Nat) (cs : List T) (hi : ob[i]? = some (b, .cells cs)) (h : TWk P Γ R (.code c :: k) ⟨fr, ob.set i (b, .cells (cs.map T.weak)), gl⟩) : TWk P Γ R (.code c :: k) ⟨fr, ob, gl⟩ := TWk.imp (s := ⟨fr, ob, gl⟩) (s' := ⟨fr, ob.set i (b, .cells (cs.map T.weak)), gl⟩) h (Imp.weak hi)
/-- a slot told in another way -/
theorem Imp.slotR {ts : List T} {ob : Obs} {gl : Glb} {j : Nat} {t t' : T} (hj : ts[j]? = some t) (h : ∀ M v, Rel M t v → Rel M t' v) : Imp ts ob gl (ts.set j t') ob gl :=
  ⟨fun M xs r => by
    obtain ⟨y, h1, h2⟩ := r.get hj
    have h3 := r.set j (h M y h2)
    have e : xs.set j y = xs := by
      obtain ⟨hl, he⟩ := List.getElem?_eq_some_iff.1 h1
      rw [← he, List.set_getElem_self]
    rwa [e] at h3, fun _ _ h => h, fun _ h => h⟩
/-! ### freezing: what was written is promised from now on -/
structure ImpM (ts : List T) (ob : Obs) (gl : Glb) (ts' : List T) (ob' : Obs) (gl' : Glb) : Prop where
  hp : ∀ M w xs, RelL M ts xs → HRel M ob gl w → ∃ M', M.le M' ∧ (∀ b o v, M' b o = some v → M b o = some v ∨ Dom ob gl b) ∧ RelL M' ts' xs ∧ HRel M' ob' gl' w
  dom : ∀ b, Dom ob' gl' b → Dom ob gl b
theorem Grew.impM {M M' : Pm} {ob ob' : Obs} {gl gl' : Glb} {w : World} (h : Grew Γ M ob gl w) (hl : M.le M') (ho : ∀ b o v, M' b o = some v → M b o = some v ∨ Dom ob gl b) (hd : ∀ b, Dom ob' gl' b → Dom ob gl b) : Grew Γ M' ob' gl' w where
  more := Pm.le_trans h.more hl
  only := fun b o v hv => by
    rcases ho b o v hv with h1 | h1
    · exact h.only b o v h1
    · exact .inr (h.own b h1)
  fr := h.fr
  own := fun b hb => h.own b (hd b hb)
theorem TWk.impM {R : S → Prop} {c : Code} {k : List It} {s s' : S} (h : TWk P Γ R (.code c :: k) s') (hi : ImpM s.fr s.ob s.gl s'.fr s'.ob s'.gl) : TWk P Γ R (.code c :: k) s :=
  ⟨fun M a w hs => by
    obtain ⟨M', h1, h2, h3, h4⟩ := hi.hp M w _ hs.fr hs.hp
    exact h.out M' a w ⟨hs.df, h3, h4, hs.gr.impM h1 h2 hi.dom⟩⟩
theorem TCalls.postM {f : FuncId} {ts : List T} {ob : Obs} {gl : Glb} {Q Q' : T → Obs → Glb → Prop} (h : TCalls P f ts ob gl Q)
    (hq : ∀ r ob' gl', Q r ob' gl' → ∃ r2 ob2 gl2, ImpM [r] ob' gl' [r2] ob2 gl2 ∧ Q' r2 ob2 gl2) : TCalls P f ts ob gl Q' :=
  ⟨h.can, fun M w xs hp hx => (h.calls M w xs hp hx).mono fun _ _ ⟨x, r, M', ob', gl', h1, h2, h3, h4, h5⟩ => by
    obtain ⟨r2, ob2, gl2, hi, h6⟩ := hq r ob' gl' h5
    obtain ⟨M2, g1, g2, g3, g4⟩ := hi.hp M' _ [x] (by simp only [RelL]; exact ⟨x, [], rfl, h2, rfl⟩) h3
    refine ⟨x, r2, M2, ob2, gl2, h1, ?_, g4, h4.impM g1 g2 hi.dom, h6⟩
    simp only [RelL] at g3
    obtain ⟨u, us, e, h7, _⟩ := g3
    injection e with e
    exact e ▸ h7⟩
theorem Imp.toM {ts ts' : List T} {ob ob' : Obs} {gl gl' : Glb} (h : Imp ts ob gl ts' ob' gl') : ImpM ts ob gl ts' ob' gl' :=
  ⟨fun M w xs r hp => ⟨M, Pm.le_refl _, fun _ _ _ hv => .inl hv, h.rel M xs r, h.hp M w hp⟩, h.dom⟩
theorem ImpM.trans {ts ts' ts2 : List T} {ob ob' ob2 : Obs} {gl gl' gl2 : Glb} (h : ImpM ts ob gl ts' ob' gl') (h' : ImpM ts' ob' gl' ts2 ob2 gl2) : ImpM ts ob gl ts2 ob2 gl2 :=
  ⟨fun M w xs r hp => by
    obtain ⟨M1, a1, a2, a3, a4⟩ := h.hp M w xs r hp
    obtain ⟨M2, b1, b2, b3, b4⟩ := h'.hp M1 w xs a3 a4
    exact ⟨M2, Pm.le_trans a1 b1, fun b o v hv => by
      rcases b2 b o v hv with h1 | h1
      · exact a2 b o v h1
      · exact .inr (h.dom b h1), b3, b4⟩, fun b hb => h.dom b (h'.dom b hb)⟩
/-- an array that is written no more: its elements are promised -/
theorem freeze_core {ob : Obs} {gl : Glb} {i b : Nat} {cs : List T} (ag : Bool) (k o n : Nat) (hag : ag = false → k = 1) (hi : ob[i]? = some (b, .cells cs)) (hlen : o + n * k ≤ cs.length) (hone : ((cs.drop o).take (n * k)).all T.one = true) :
    ∀ M w, HRel M ob gl w → ∃ M', M.le M' ∧ (∀ b o v, M' b o = some v → M b o = some v ∨ Dom ob gl b) ∧ (∀ y cap, y = .slice (some ⟨b, o, none⟩) n cap → n ≤ cap → cap ≤ 9223372036854775807 → Rel M' (.sl k (chunk ag k n ((cs.drop o).take (n * k)))) y) ∧ HRel M' (ob.set i (0, .gone)) gl w ∧ ∀ q, o + n * k ≤ q → M' b q = none := by
  intro M w hp
  obtain ⟨C, ty, hh, hC, hM⟩ := hp.objs _ _ hi
  have hd : Dom ob gl b := .inl ⟨i, _, hi, rfl⟩
  have hg := (Imp.gone (ts := []) (ob := ob) (gl := gl) i).hp M w hp
  have hus := (hC.drop o).take (n * k)
  have hgl : gl b = none := hp.sep i _ b hi rfl
  refine ⟨fun b' q => if b' = b then (if o ≤ q ∧ q < o + n * k then C[q]? else none) else M b' q, fun b' q v hv => ?_, fun b' q v hv => ?_, ?_, ?_, fun q hq => by dsimp only; rw [if_pos rfl, if_neg (by omega)]⟩
  · have : b' ≠ b := fun e => by rw [e, hM] at hv; cases hv
    first | (rw [if_neg this]; exact hv) | (dsimp only; rw [if_neg this]; exact hv)
  · dsimp only at hv
    split at hv
    · rename_i e; subst e; exact .inr hd
    · exact .inl hv
  · intro y cap hy hn hc
    have hl : ((cs.drop o).take (n * k)).length = n * k := by rw [List.length_take, List.length_drop]; omega
    have hra : RelA (fun b' q => if b' = b then (if o ≤ q ∧ q < o + n * k then C[q]? else none) else M b' q) b ((cs.drop o).take (n * k)) o := RelA.of_get fun j t ht => by
      have hj : j < n * k := by have := (List.getElem?_eq_some_iff.1 ht).1; omega
      rw [List.getElem?_take, if_pos hj, List.getElem?_drop] at ht
      obtain ⟨u, h1, h2⟩ := hC.get ht
      refine ⟨u, ?_, Rel.mono (fun b' q v hv => ?_) t u h2⟩
      · rw [if_pos rfl, if_pos ⟨by omega, by omega⟩]; simpa using h1
      · have : b' ≠ b := fun e => by rw [e, hM] at hv; cases hv
        first | (rw [if_neg this]; exact hv) | (dsimp only; rw [if_neg this]; exact hv)
    have hch := chunk_rel hag n _ o hl hone hra
    simp only [Rel]
    refine ⟨some ⟨b, o, none⟩, cap, by rw [chunk_len]; exact hy, ⟨by rw [chunk_len]; exact hn, hc, (fun e => by cases e), fun a e _ => by injection e with e; rw [← e]⟩, hch.2, fun b2 o2 e => ?_⟩
    injection e with e
    injection e with e1 e2
    subst e1 e2
    exact hch.1
  · refine ⟨fun b' q v hv => ?_, fun j x hx => ?_, hg.apart, fun b' x hx => ?_, hg.sep⟩
    · split at hv
      · rename_i e
        subst e
        split at hv
        · rename_i hq
          refine ⟨by rw [hh.cell]; exact hv, ?_⟩
          have hmem : v ∈ (C.toList.drop o).take (n * k) := by
            refine List.mem_of_getElem? (i := q - o) ?_
            rw [List.getElem?_take, if_pos (by omega), List.getElem?_drop, show o + (q - o) = q by omega]
            simpa using hv
          exact relL_one hone hus v hmem
        · cases hv
      · exact hg.promise b' q v hv
    · have hx0 := hx
      rw [List.getElem?_set] at hx
      split at hx
      · split at hx
        · injection hx with hx; subst hx; simp [ObRel]
        · cases hx
      · rename_i hne
        have hb' : ∀ b2, obBlk x = some b2 → b2 ≠ b := fun b2 h1 e => by
          subst e
          exact hne (hp.apart i j _ x b2 hi hx rfl h1)
        exact (hg.objs j x hx0).keep (fun _ _ => rfl) (fun b2 h1 o2 => if_neg (hb' b2 h1)) (fun b' q v hv => by
          have : b' ≠ b := fun e => by rw [e, hM] at hv; cases hv
          first | (rw [if_neg this]; exact hv) | (dsimp only; rw [if_neg this]; exact hv))
    · obtain ⟨h1, h2⟩ := hg.glob b' x hx
      refine ⟨h1, h2.keep (fun _ _ => rfl) (fun b2 h3 o2 => ?_) (fun b' q v hv => ?_)⟩
      · refine if_neg (fun e => ?_)
        subst e
        rw [h1] at h3
        injection h3 with h3
        subst h3
        rw [hx] at hgl; cases hgl
      · have : b' ≠ b := fun e => by rw [e, hM] at hv; cases hv
        first | (rw [if_neg this]; exact hv) | (dsimp only; rw [if_neg this]; exact hv)
theorem HRel.ob1 {M : Pm} {ob : Obs} {gl : Glb} {w : World} {i : Nat} {x y : Nat × Ob} (h : HRel M ob gl w) (hi : ob[i]? = some x) (hx : ObRel M w x → ObRel M w y) (hb : ∀ b, obBlk y = some b → obBlk x = some b) : HRel M (ob.set i y) gl w := by
  have get : ∀ {j : Nat} {z : Nat × Ob}, (ob.set i y)[j]? = some z → (z = y ∧ j = i) ∨ (j ≠ i ∧ ob[j]? = some z) := fun {j z} h => by
    rw [List.getElem?_set] at h
    split at h
    · rename_i e
      split at h
      · injection h with h; exact .inl ⟨h.symm, e.symm⟩
      · cases h
    · rename_i e; exact .inr ⟨fun e' => e e'.symm, h⟩
  refine ⟨h.promise, fun j z hz => ?_, fun j1 j2 z1 z2 b h1 h2 h3 h4 => ?_, h.glob, fun j z b h1 h2 => ?_⟩
  · rcases get hz with ⟨rfl, rfl⟩ | ⟨_, h2⟩
    · exact hx (h.objs _ _ hi)
    · exact h.objs j z h2
  · rcases get h1 with ⟨e1, e2⟩ | ⟨n1, g1⟩ <;> rcases get h2 with ⟨e3, e4⟩ | ⟨n2, g2⟩
    · rw [e2, e4]
    · rw [e1] at h3; rw [e2]; exact h.apart _ _ _ _ b hi g2 (hb b h3) h4
    · rw [e3] at h4; rw [e4]; exact h.apart _ _ _ _ b g1 hi h3 (hb b h4)
    · exact h.apart _ _ _ _ b g1 g2 h3 h4
  · rcases get h1 with ⟨rfl, rfl⟩ | ⟨_, h1⟩
    · exact h.sep _ _ b hi (hb b h2)
    · exact h.sep _ _ b h1 h2
theorem relL_mono_set {M M' : Pm} {ts : List T} {xs : List Value} {j : Nat} {t t' : T} (hl : M.le M') (hj : ts[j]? = some t) (h : ∀ v, Rel M t v → Rel M' t' v) (r : RelL M ts xs) : RelL M' (ts.set j t') xs := by
  obtain ⟨y, h1, h2⟩ := r.get hj
  have h3 := (r.mono hl _ _).set j (h y h2)
  have e : xs.set j y = xs := by
    obtain ⟨hl, he⟩ := List.getElem?_eq_some_iff.1 h1
    rw [← he, List.set_getElem_self]
  rwa [e] at h3
theorem sa_rel {M M' : Pm} {ix b o n cap k : Nat} {es : List T} (h : ∀ y cap, y = .slice (some ⟨b, o, none⟩) n cap → n ≤ cap → cap ≤ 9223372036854775807 → Rel M' (.sl k es) y) (v : Value) (r : Rel M (.sa ix b o n cap) v) : Rel M' (.sl k es) v := by
  simp only [Rel] at r
  exact h v cap r.1 r.2.1 r.2.2
/-- an array in a slot that is written no more -/
theorem ImpM.slot {ts : List T} {ob : Obs} {gl : Glb} {i b ix o n cap : Nat} {cs : List T} (ag : Bool) (k j : Nat) (es : List T) (hj : ts[j]? = some (.sa ix b o n cap)) (hi : ob[i]? = some (b, .cells cs)) (hag : ag = false → k = 1) (hlen : o + n * k ≤ cs.length) (hone : ((cs.drop o).take (n * k)).all T.one = true)
    (hes : chunk ag k n ((cs.drop o).take (n * k)) = es) : ImpM ts ob gl (ts.set j (.sl k es)) (ob.set i (0, .gone)) gl :=
  ⟨fun M w xs r hp => by
    obtain ⟨M', h1, h2, h3, h4, -⟩ := freeze_core ag k o n hag hi hlen hone M w hp
    rw [hes] at h3
    exact ⟨M', h1, h2, relL_mono_set h1 hj (sa_rel h3) r, h4⟩, (Imp.gone (ts := ts) (gl := gl) i).dom⟩
/-- an array in a cell that is written no more -/
theorem ImpM.cell {ts : List T} {ob : Obs} {gl : Glb} {i b ix o n cap p bp q : Nat} {cs cp : List T} (ag : Bool) (k : Nat) (es : List T) (hp : ob[p]? = some (bp, .cells cp)) (hq : cp[q]? = some (.sa ix b o n cap)) (hi : ob[i]? = some (b, .cells cs)) (hne : i ≠ p) (hag : ag = false → k = 1) (hlen : o + n * k ≤ cs.length) (hone : ((cs.drop o).take (n * k)).all T.one = true)
    (hes : chunk ag k n ((cs.drop o).take (n * k)) = es) : ImpM ts ob gl ts ((ob.set i (0, .gone)).set p (bp, .cells (cp.set q (.sl k es)))) gl :=
  have hp' : (ob.set i (0, .gone))[p]? = some (bp, .cells cp) := by rw [List.getElem?_set, if_neg hne]; exact hp
  ⟨fun M w xs r hpp => by
    obtain ⟨M', h1, h2, h3, h4, -⟩ := freeze_core ag k o n hag hi hlen hone M w hpp
    rw [hes] at h3
    obtain ⟨C0, ty0, hh0, hC0, _⟩ := hpp.objs _ _ hp
    refine ⟨M', h1, h2, r.mono h1 _ _, h4.ob1 hp' (fun ⟨C, ty, a1, a2, a3⟩ => ⟨C, ty, a1, ?_, a3⟩) (fun _ h => h)⟩
    have e : C0 = C := hh0.uniq a1
    subst e
    exact relL_mono_set h1 hq (sa_rel h3) hC0, fun b h => (Imp.gone (ts := ts) (gl := gl) i).dom b ((Imp.ob (ts := ts) (gl := gl) (x := (bp, .cells cp)) (y := (bp, .cells cp)) hp' (fun _ _ h => h) (fun _ h => h)).dom b (by
      rcases h with ⟨j, z, g1, g2⟩ | g1
      · rw [List.getElem?_set] at g1
        split at g1
        · rename_i e
          split at g1
          · injection g1 with g1
            subst g1 e
            exact .inl ⟨p, (bp, .cells cp), by rw [List.getElem?_set]; simp; rename_i hlt; simpa using hlt, g2⟩
          · cases g1
        · exact .inl ⟨j, z, by rw [List.getElem?_set, if_neg (by assumption)]; exact g1, g2⟩
      · exact .inr g1))⟩
/-- objects picked and re-ordered -/
theorem Imp.sel {ts : List T} {ob ob' : Obs} {gl : Glb} (sel : List Nat) (hnd : sel.Nodup) (h : sel.map (fun i => ob[i]?) = ob'.map some) : Imp ts ob gl ts ob' gl := by
  have get : ∀ (j : Nat) (x : Nat × Ob), ob'[j]? = some x → ∃ i, sel[j]? = some i ∧ ob[i]? = some x := fun j x hx => by
    have h1 : (ob'.map some)[j]? = some (some x) := by simp [hx]
    rw [← h, List.getElem?_map, Option.map_eq_some_iff] at h1
    exact h1
  refine ⟨fun _ _ h => h, fun M w hp => ⟨hp.promise, fun j x hx => ?_, fun j1 j2 x y b h1 h2 h3 h4 => ?_, hp.glob, fun j x b h1 h2 => ?_⟩, fun b hb => ?_⟩
  · obtain ⟨i, _, h2⟩ := get j x hx
    exact hp.objs i x h2
  · obtain ⟨i1, a1, a2⟩ := get j1 x h1
    obtain ⟨i2, c1, c2⟩ := get j2 y h2
    have := hp.apart i1 i2 x y b a2 c2 h3 h4
    subst this
    obtain ⟨l1, e1⟩ := List.getElem?_eq_some_iff.1 a1
    obtain ⟨l2, e2⟩ := List.getElem?_eq_some_iff.1 c1
    exact (List.getElem_inj hnd).1 (e1.trans e2.symm)
  · obtain ⟨i, _, a2⟩ := get j x h1
    exact hp.sep i x b a2 h2
  · rcases hb with ⟨j, x, h1, h2⟩ | h1
    · obtain ⟨i, _, a2⟩ := get j x h1
      exact .inl ⟨i, x, a2, h2⟩
    · exact .inr h1
/-- an iterator goes on over what a deletion leaves -/
theorem Imp.iterDel {ts : List T} {ob : Obs} {gl : Glb} {i j mb c : Nat} {kd : IntKind} {es es' : Array MapEntry} {ck : Nat} {left : List Int} {cur : Option Int} {z : Int} (hj : ob[j]? = some (c, .iter i mb kd es ck left cur)) (hd : DelE es es' (.int kd z)) : Imp ts ob gl ts (ob.set j (c, .iter i mb kd es' ck (left.filter (· ≠ z)) none)) gl :=
  Imp.ob hj (fun _ _ ⟨h, hm⟩ => ⟨h.del hd, hm⟩) (fun _ h => h)
/-- an iterator goes on over what an update of the entry under it leaves -/
theorem Imp.iterUpd {ts : List T} {ob : Obs} {gl : Glb} {i j mb c : Nat} {kd : IntKind} {es es' : Array MapEntry} {ck ck' : Nat} {left : List Int} {z : Int} (hj : ob[j]? = some (c, .iter i mb kd es ck left (some z))) (hd : UpdE es ck es' ck' (.int kd z)) : Imp ts ob gl ts (ob.set j (c, .iter i mb kd es' ck' left (some z))) gl :=
  Imp.ob hj (fun _ _ ⟨h, hm⟩ => ⟨h.upd hd, hm⟩) (fun _ h => h)
theorem sa_relx {M M' : Pm} {ix b n cap k i : Nat} {es : List T} (h : ∀ y cap, y = .slice (some ⟨b, 0, none⟩) n cap → n ≤ cap → cap ≤ 9223372036854775807 → Rel M' (.sl k es) y) (v : Value) (r : Rel M (.sa ix b 0 n cap) v) : Rel M' (.slx k i es (.slice (some ⟨b, 0, none⟩) n cap)) v := by
  simp only [Rel] at r
  have h1 := h v cap r.1 r.2.1 r.2.2
  simp only [Rel] at h1 ⊢
  refine ⟨r.1, ?_⟩
  rw [← r.1]
  exact h1
/-- an array in a cell: its elements are written no more, it may grow -/
theorem ImpM.grow {ts : List T} {ob : Obs} {gl : Glb} {i b ix n cap p bp q : Nat} {cs cp : List T} (ag : Bool) (k : Nat) (e : TypeId) (es : List T) (hp : ob[p]? = some (bp, .cells cp)) (hq : cp[q]? = some (.sa ix b 0 n cap)) (hi : ob[i]? = some (b, .cells cs)) (hne : i ≠ p) (hag : ag = false → k = 1) (hlen : cs.length = cap * k) (hn : n ≤ cap) (hcap : cap ≤ 9223372036854775807) (hone : ((cs.drop 0).take (n * k)).all T.one = true)
    (hes : chunk ag k n ((cs.drop 0).take (n * k)) = es) : ImpM ts ob gl ts ((ob.set i (0, .room k e n (.slice (some ⟨b, 0, none⟩) n cap))).set p (bp, .cells (cp.set q (.slx k i es (.slice (some ⟨b, 0, none⟩) n cap))))) gl :=
  have hp' : (ob.set i (0, .room k e n (.slice (some ⟨b, 0, none⟩) n cap)))[p]? = some (bp, .cells cp) := by rw [List.getElem?_set, if_neg hne]; exact hp
  have get : ∀ {x : Nat × Ob} {j : Nat} {z : Nat × Ob}, (ob.set i x)[j]? = some z → (z = x ∧ j = i) ∨ (j ≠ i ∧ ob[j]? = some z) := fun {x j z} h => by
    rw [List.getElem?_set] at h
    split at h
    · rename_i e
      split at h
      · injection h with h; exact .inl ⟨h.symm, e.symm⟩
      · cases h
    · rename_i e; exact .inr ⟨fun e' => e e'.symm, h⟩
  have own : ∀ {c : Nat}, obBlk (0, .room k e n (.slice (some ⟨b, 0, none⟩) n cap)) = some c → obBlk (b, .cells cs) = some c := fun h => h
  ⟨fun M w xs r hpp => by
    obtain ⟨M', h1, h2, h3, h4, h5⟩ := freeze_core ag k 0 n hag hi (by rw [hlen, Nat.zero_add]; exact Nat.mul_le_mul_right _ hn) hone M w hpp
    rw [hes] at h3
    obtain ⟨C0, ty0, hh0, hC0, _⟩ := hpp.objs _ _ hp
    obtain ⟨C1, ty1, hh1, hC1, _⟩ := hpp.objs _ _ hi
    have hroom : ObRel M' w (0, .room k e n (.slice (some ⟨b, 0, none⟩) n cap)) := .inr ⟨b, cap, C1, ty1, rfl, hh1, hn, (by unfold maxLen; omega), (by have := hC1.len; rw [hlen] at this; simpa using this), fun j hj => h5 j (by omega)⟩
    have h4' : HRel M' (ob.set i (0, .room k e n (.slice (some ⟨b, 0, none⟩) n cap))) gl w := by
      refine ⟨h4.promise, fun j z hz => ?_, fun j1 j2 z1 z2 c g1 g2 g3 g4 => ?_, h4.glob, fun j z c g1 g2 => ?_⟩
      · rcases get hz with ⟨rfl, rfl⟩ | ⟨g1, g2⟩
        · exact hroom
        · exact h4.objs j z (by rw [List.getElem?_set, if_neg (fun e => g1 e.symm)]; exact g2)
      · rcases get g1 with ⟨e1, e2⟩ | ⟨n1, f1⟩ <;> rcases get g2 with ⟨e3, e4⟩ | ⟨n2, f2⟩
        · rw [e2, e4]
        · rw [e1] at g3; rw [e2]; exact hpp.apart _ _ _ _ c hi f2 (own g3) g4
        · rw [e3] at g4; rw [e4]; exact hpp.apart _ _ _ _ c f1 hi g3 (own g4)
        · exact hpp.apart _ _ _ _ c f1 f2 g3 g4
      · rcases get g1 with ⟨rfl, rfl⟩ | ⟨_, g1⟩
        · exact hpp.sep _ _ c hi (own g2)
        · exact hpp.sep _ _ c g1 g2
    refine ⟨M', h1, h2, r.mono h1 _ _, h4'.ob1 hp' (fun ⟨C, ty, a1, a2, a3⟩ => ⟨C, ty, a1, ?_, a3⟩) (fun _ h => h)⟩
    have e : C0 = C := hh0.uniq a1
    subst e
    exact relL_mono_set h1 hq (sa_relx h3) hC0, fun c h => by
    rcases h with ⟨j, z, g1, g2⟩ | g1
    · rw [List.getElem?_set] at g1
      split at g1
      · rename_i ej
        split at g1
        · injection g1 with g1
          subst g1 ej
          exact .inl ⟨p, _, hp, g2⟩
        · cases g1
      · rcases get g1 with ⟨rfl, rfl⟩ | ⟨_, g1⟩
        · exact .inl ⟨_, _, hi, own g2⟩
        · exact .inl ⟨j, z, g1, g2⟩
    · exact .inr g1⟩
end
end Go.Proofs.YtaepgceodcdnhaaDoor.Vm
/- The row's last step, for a law: the call answers true, nothing that was there has turned. -/
namespace Go.Proofs.YtaepgceodcdnhaaDoor
open Go.RowKit Go.ChangeShapes Go.WideShapes Go.ChangeAt

theorem trodAll_below {H : Type} {enc : TypeId × Value → H} {P : Program} (hl : laidOutB P = true) {W W' : World} (hb : Below W.heap.size W W') :
    ∀ (ts : List TypeId) (vs : List Value) (ds : List (DataW H)) (ps : List MemPlace), (∀ t ∈ ts, P.readableRec t = true ∧ t < P.types.size) → (∀ x ∈ ps, x.block < W.heap.size) →
      DataW.TrodAll enc P W 0 (fun _ => true) true ts vs ds ps → DataW.TrodAll enc P W' 0 (fun b => decide (b < W.heap.size)) true ts vs ds ps
  | [], [], [], _, _, _, h => h
  | t :: ts, v :: vs, d :: ds, ps, hr, hlt, h => by
    obtain ⟨p, q, hp, hq, rfl⟩ := h
    exact ⟨p, q, Below.trod hl (hr t (by simp)).1 (hr t (by simp)).2 hp hb (fun x hx => hlt x (by simp [hx])), trodAll_below hl hb ts vs ds q (fun t ht => hr t (by simp [ht])) (fun x hx => hlt x (by simp [hx])) hq, rfl⟩
  | [], [], _ :: _, _, _, _, h => h.elim
  | [], _ :: _, _, _, _, _, h => h.elim
  | _ :: _, [], _, _, _, _, h => h.elim
  | _ :: _, _ :: _, [], _, _, _, h => h.elim

theorem post_law {H : Type} {enc : TypeId × Value → H} {P : Program} {f : Func} {s : ChangeSpec} {W W' : World} {args : Array Value} {ds gs : List (DataW H)} {before : List MemPlace} (tb : TypeId)
    (hl : laidOutB P = true) (hrec : (f.params.toList.all fun t => P.readableRec t && decide (t < P.types.size)) = true) (hvars : s.vars = []) (hrt : f.resultTypes = #[tb]) (htb : P.underlying tb = some .bool)
    (hW : DataW.Whole enc P f.params.toList s.vars false W args.toList ds gs before) (hb : Below W.heap.size W W')
    (hfn : s.fn H (ds ++ gs) = { results := [.lit (.bool true)], args := ds }) : s.post enc P f false true false false W args (.bool true) W' := by
  have hlt : ∀ p ∈ before, p.block < W.heap.size := fun p hp => hW.lt p hp
  have hW' := hW
  obtain ⟨p, q, hA, hV, rfl, hz, hn⟩ := hW
  rw [hvars] at hV
  obtain ⟨rfl, rfl⟩ := trodVars_none hV
  simp only [List.append_nil] at hlt hW' hfn ⊢
  refine ⟨ds, [], p, [], p, [], hW', ?_, ?_, ?_, World.keptBut_mono (fun x hx => ⟨hx, .inr (.inl hx)⟩) (hb.frame (· ∈ p)), fun h => by cases h⟩
  · rw [List.append_nil, hfn, hrt]
    exact trodAll_mk1 (shut_bool htb true)
  · rw [List.append_nil, hfn]
    exact trodAll_below hl hb _ _ _ _ (fun t ht => by simpa using List.all_eq_true.1 hrec t ht) hlt hA
  · rw [List.append_nil, hfn, hvars]
    rfl
end Go.Proofs.YtaepgceodcdnhaaDoor
/- Arguments that are slices, opened: rows of cells, each row readable. -/
namespace Go.Proofs.YtaepgceodcdnhaaDoor
open Go.RowKit Go.ChangeShapes Go.WideShapes Go.ChangeAt Go.Deep

theorem choose_rows {α : Type} (n : Nat) (Q : Nat → α → Prop) (h : ∀ i, i < n → ∃ x, Q i x) : ∃ l : List α, l.length = n ∧ ∀ i x, l[i]? = some x → Q i x := by
  induction n with
  | zero => exact ⟨[], rfl, fun i x hx => by simp at hx⟩
  | succ n ih =>
    obtain ⟨l, hl, hq⟩ := ih (fun i hi => h i (by omega))
    obtain ⟨x, hx⟩ := h n (by omega)
    refine ⟨l ++ [x], by simp [hl], fun i y hy => ?_⟩
    rw [List.getElem?_append] at hy
    split at hy
    · exact hq i y hy
    · rename_i hge
      have : i = n := by
        rcases Nat.lt_or_ge (i - l.length) 1 with h1 | h1
        · omega
        · rw [List.getElem?_eq_none (by simpa using h1)] at hy; cases hy
      subst this
      simp [hl] at hy
      subst hy
      exact hx

theorem open_rows_cell {H : Type} {enc : TypeId × Value → H} {P : Program} {W : World} {t e : TypeId} {v : Value} {fuel : Nat} {y0 : DataW H × List MemPlace} (ht : P.underlying t = some (.slice e)) (h0 : 0 < P.cellsOf e)
    (hf : DataW.trod enc P W 0 (fun _ => true) true fuel t [v] = some y0) :
    ∃ A len cap rows, v = .slice A len cap ∧ rows.length = len ∧ len ≤ cap ∧ cap ≤ maxLen ∧ RowsAt W W.heap.size (P.cellsOf e) A rows ∧
      ∀ row ∈ rows, row.length = P.cellsOf e ∧ ∃ n y, DataW.trod enc P W 0 (fun _ => true) true n e row = some y := by
  rcases open_slice ht hf with ⟨hcs, hx⟩ | ⟨a, len', cap', m, n, D, Pl, hcs, hb, hl, hm, hmm, hx, hi⟩
  · simp at hcs
    subst hcs
    exact ⟨none, 0, 0, [], rfl, rfl, Nat.le_refl _, Nat.zero_le _, RowsAt.none_, fun row hr => by simp at hr⟩
  · simp at hcs
    subst hcs
    obtain ⟨len, rfl⟩ : ∃ l, l = len' := ⟨_, rfl⟩
    simp at hmm
    subst hmm
    obtain ⟨rows, hrl, hrq⟩ := choose_rows len (fun i cs' => W.cells? 0 (a.add (i * P.cellsOf e)) (P.cellsOf e) = some cs' ∧ DataW.trod enc P W 0 (fun _ => true) true n e cs' = some (D i, Pl i)) (fun i hil => hi i (by omega))
    refine ⟨some a, len, m, rows, rfl, hrl, hl, hm, ?_, ?_⟩
    · intro hne
      have hpos : 0 < len := by
        rcases Nat.eq_zero_or_pos len with hz | hz
        · exact absurd (List.eq_nil_of_length_eq_zero (hrl.trans hz)) hne
        · exact hz
      have cellAt : ∀ (i j : Nat) (row : List Value), rows[i]? = some row → ∀ u, row[j]? = some u → W.cell? ((a.add (i * P.cellsOf e)).add j) = some u := fun i j row hr u hu => by
        obtain ⟨hc, _⟩ := hrq i row hr
        obtain ⟨_, hcl, hat⟩ := World.cells?_some hc
        have hj : j < row.length := (List.getElem?_eq_some_iff.1 hu).1
        rw [hat j (by omega), hu]
      obtain ⟨row0, hrow0⟩ : ∃ row0, rows[0]? = some row0 := ⟨rows[0], by simp⟩
      have hl0 : row0.length = P.cellsOf e := (World.cells?_some (hrq 0 row0 hrow0).1).2.1
      have c00 := cellAt 0 0 row0 hrow0 (row0[0]'(by omega)) (by simp)
      obtain ⟨b, off, spot⟩ := a
      have hspot : spot = none := by simpa [Addr.add] using World.cell?_spot c00
      subst hspot
      have ea : ∀ x y : Nat, ((⟨b, off, none⟩ : Addr).add x).add y = ⟨b, off + x + y, none⟩ := fun x y => by
        unfold Addr.add
        by_cases hx : x = 0 <;> by_cases hy : y = 0 <;> simp [hx, hy]
      refine ⟨b, off, rfl, ?_, fun k row hr j u hu => by rw [← ea]; exact cellAt k j row hr u hu⟩
      have := cellAt 0 0 row0 hrow0 (row0[0]'(by omega)) (by simp)
      rw [ea] at this
      exact World.block_lt_of_cell? W _ this
    · intro row hrow
      obtain ⟨i, hi', hri⟩ := List.mem_iff_getElem.1 hrow
      obtain ⟨hc, htr⟩ := hrq i row (by rw [← hri]; simp)
      exact ⟨(World.cells?_some hc).2.1, n, _, htr⟩

theorem open_rows {H : Type} {enc : TypeId × Value → H} {P : Program} {W : World} {base : Nat} {r : Reach} {t e : TypeId} {v : Value} {d : DataW H} {p : List MemPlace} (ht : P.underlying t = some (.slice e)) (h0 : 0 < P.cellsOf e)
    (hv : Value.okWide P W r base t v) (h : DataW.Trod enc P W 0 (fun _ => true) true t v d p) :
    ∃ A len cap rows, v = .slice A len cap ∧ rows.length = len ∧ len ≤ cap ∧ cap ≤ maxLen ∧ RowsAt W W.heap.size (P.cellsOf e) A rows ∧
      ∀ row ∈ rows, row.length = P.cellsOf e ∧ ∃ n y, DataW.trod enc P W 0 (fun _ => true) true n e row = some y := by
  obtain ⟨a0, len, cap, rfl⟩ := okWide_slice ht hv
  obtain ⟨fuel, hf⟩ := h
  exact open_rows_cell ht h0 (by simpa [Value.cells] using hf)

/-- rows of one form -/
theorem rows_map {α : Type} {rows : List (List Value)} (f : α → List Value) (Q : α → Prop) (h : ∀ row ∈ rows, ∃ a, row = f a ∧ Q a) : ∃ as : List α, rows = as.map f ∧ ∀ a ∈ as, Q a := by
  induction rows with
  | nil => exact ⟨[], rfl, fun a ha => by simp at ha⟩
  | cons row rows ih =>
    obtain ⟨as, e, hq⟩ := ih (fun r hr => h r (by simp [hr]))
    obtain ⟨a, ha, hqa⟩ := h row (by simp)
    exact ⟨a :: as, by rw [List.map_cons, e, ha], fun x hx => by
      rcases List.mem_cons.1 hx with rfl | hx
      · exact hqa
      · exact hq x hx⟩

/-- a struct of one-cell fields, field by field -/
theorem open_fields {H : Type} {enc : TypeId × Value → H} {P : Program} {W : World} {e : TypeId} {fs : Array Field} {n : Nat} {row : List Value} {y : DataW H × List MemPlace} (he : P.underlying e = some (.struct fs)) (hone : oneCellFields P fs = true)
    (h : DataW.trod enc P W 0 (fun _ => true) true n e row = some y) : ∃ m, ∀ (j : Nat) (f : Field) (c : Value), fs[j]? = some f → row[j]? = some c → ∃ y', DataW.trod enc P W 0 (fun _ => true) true m f.type [c] = some y' := by
  obtain ⟨ys, m, _, _, _, hyl, hf⟩ := DataW.trod_struct he h
  refine ⟨m, fun j f c hj hc => ?_⟩
  obtain ⟨ho, hk⟩ := hone_of hone j f hj
  have h1 := hf j f hj
  rw [ho, hk] at h1
  have hjr : j < row.length := (List.getElem?_eq_some_iff.1 hc).1
  have hc' : row[j] = c := (List.getElem?_eq_some_iff.1 hc).2
  have hone' : (row.drop j).take 1 = [c] := by
    rw [List.drop_eq_getElem_cons hjr, hc']; rfl
  rw [hone'] at h1
  have hjf : j < fs.size := (Array.getElem?_eq_some_iff.1 hj).1
  exact ⟨ys[j]'(by omega), by rw [h1]; simp⟩

/-- one cell that holds an integer -/
theorem open_int_cell {H : Type} {enc : TypeId × Value → H} {P : Program} {W : World} {t : TypeId} {k : IntKind} {n : Nat} {c : Value} {y : DataW H × List MemPlace} (ht : P.underlying t = some (.int k))
    (h : DataW.trod enc P W 0 (fun _ => true) true n t [c] = some y) : ∃ z, c = .int k z ∧ (Lit.int k z).wf = true := by
  obtain ⟨a, e0, _, wa⟩ := DataW.trod_int ht h
  simp at e0
  exact ⟨a, e0, wa⟩
theorem open_bool_cell {H : Type} {enc : TypeId × Value → H} {P : Program} {W : World} {t : TypeId} {n : Nat} {c : Value} {y : DataW H × List MemPlace} (ht : P.underlying t = some .bool)
    (h : DataW.trod enc P W 0 (fun _ => true) true n t [c] = some y) : ∃ z, c = .bool z := by
  obtain ⟨a, e0, _⟩ := DataW.trod_bool ht h
  simp at e0
  exact ⟨a, e0⟩
theorem open_string_cell {H : Type} {enc : TypeId × Value → H} {P : Program} {W : World} {t : TypeId} {n : Nat} {c : Value} {y : DataW H × List MemPlace} (ht : P.underlying t = some .string)
    (h : DataW.trod enc P W 0 (fun _ => true) true n t [c] = some y) : ∃ l : List UInt8, c = .string ⟨l.toArray⟩ ∧ l.length ≤ maxLen := by
  obtain ⟨s, e0, _, hs⟩ := DataW.trod_string ht h
  simp at e0
  exact ⟨s.data.toList, by rw [e0, bs_self], by rw [bs_size]; exact hs⟩
end Go.Proofs.YtaepgceodcdnhaaDoor
/- What an argument can hold, as trees; a law's statement from a contract. -/
namespace Go.Proofs.YtaepgceodcdnhaaDoor.Vm
open Go Go.RowKit Go.ChangeShapes Go.WideShapes Go.ChangeAt Go.Deep

/-- a cell's kind -/
inductive Cl where
  | int (k : IntKind)
  | bool
  | str
  | sl (agg : Bool) (k : Nat) (e : List Cl)
mutual
def Cl.Is : Cl → T → Prop
  | .int k, x => ∃ z, x = .v (.int k z) ∧ (Lit.int k z).wf = true
  | .bool, x => ∃ b, x = .v (.bool b)
  | .str, x => ∃ l : List UInt8, x = .v (.string ⟨l.toArray⟩) ∧ l.length ≤ maxLen
  | .sl agg k e, x => ∃ es : List T, x = .sl k es ∧ es.length ≤ maxLen ∧ ∀ y ∈ es, ∃ cs, ClsIs e cs ∧ y = if agg then .agg cs else cs.headD .und
def ClsIs : List Cl → List T → Prop
  | [], xs => xs = []
  | c :: cs, xs => ∃ x r, xs = x :: r ∧ c.Is x ∧ ClsIs cs r
end
theorem ClsIs.append : ∀ {a b : List Cl} {xs ys : List T}, ClsIs a xs → ClsIs b ys → ClsIs (a ++ b) (xs ++ ys)
  | [], b, xs, ys, h, k => by simp only [ClsIs] at h; subst h; simpa using k
  | c :: a, b, xs, ys, h, k => by
    simp only [ClsIs] at h
    obtain ⟨x, r, rfl, h1, h2⟩ := h
    simp only [List.cons_append, ClsIs]
    exact ⟨x, r ++ ys, rfl, h1, h2.append k⟩
theorem ClsIs.len : ∀ {a : List Cl} {xs : List T}, ClsIs a xs → xs.length = a.length
  | [], xs, h => by simp only [ClsIs] at h; subst h; rfl
  | c :: a, xs, h => by
    simp only [ClsIs] at h
    obtain ⟨x, r, rfl, h1, h2⟩ := h
    simp [h2.len]
theorem Cl.Is.one {c : Cl} {x : T} (h : c.Is x) : x.one = true := by
  cases c <;> simp only [Cl.Is] at h
  · obtain ⟨z, rfl, _⟩ := h; rfl
  · obtain ⟨z, rfl⟩ := h; rfl
  · obtain ⟨z, rfl, _⟩ := h; rfl
  · obtain ⟨z, rfl, _⟩ := h; rfl
theorem ClsIs.one : ∀ {a : List Cl} {xs : List T}, ClsIs a xs → xs.all T.one = true
  | [], xs, h => by simp only [ClsIs] at h; subst h; rfl
  | c :: a, xs, h => by
    simp only [ClsIs] at h
    obtain ⟨x, r, rfl, h1, h2⟩ := h
    simp [h1.one, h2.one]

def isAgg (P : Program) (t : TypeId) : Bool := match P.underlying t with | some (.struct _) => true | some (.array _ _) => true | _ => false
def fieldsCl (f : TypeId → Option (List Cl)) (P : Program) : List Field → Nat → Option (List Cl)
  | [], _ => some []
  | fd :: fs, o => if fd.offset = o then (match f fd.type, fieldsCl f P fs (o + P.cellsOf fd.type) with | some a, some b => some (a ++ b) | _, _ => none) else none
def arrCl (a : List Cl) : Nat → List Cl
  | 0 => []
  | n + 1 => a ++ arrCl a n
/-- the kinds of a type's cells -/
def clsOf (P : Program) : Nat → TypeId → Option (List Cl)
  | 0, _ => none
  | n + 1, t => match P.underlying t with
    | some (.int k) => some [.int k]
    | some .bool => some [.bool]
    | some .string => some [.str]
    | some (.slice e) => (match clsOf P n e with | some l => if l.length = P.cellsOf e ∧ 0 < l.length ∧ (isAgg P e = false → l.length = 1) then some [.sl (isAgg P e) (P.cellsOf e) l] else none | none => none)
    | some (.struct fs) => (match fieldsCl (clsOf P n) P fs.toList 0 with | some l => if l.length = P.cellsOf t then some l else none | none => none)
    | some (.array m e) => (match clsOf P n e with | some l => if l.length = P.cellsOf e ∧ m * l.length = P.cellsOf t then some (arrCl l m) else none | none => none)
    | _ => none

/-- all that was there is promised -/
def promOf (W : World) : Pm := fun b o => match W.cell? ⟨b, o, none⟩ with | some v => if v.oneCell' = true then some v else none | none => none
theorem promOf_some {W : World} {b o : Nat} {v : Value} (h : W.cell? ⟨b, o, none⟩ = some v) (h1 : v.oneCell' = true) : promOf W b o = some v := by simp [promOf, h, h1]
theorem hrel_start (W : World) : HRel (promOf W) [] (fun _ => none) W where
  promise := fun b o v h => by
    unfold promOf at h
    split at h
    · rename_i v' hv
      split at h
      · rename_i h1
        injection h with h
        subst h
        exact ⟨hv, h1⟩
      · cases h
    · cases h
  objs := fun i x h => by simp at h
  apart := fun i j x y b h => by simp at h
  glob := fun b x h => by cases h
  sep := fun i x b h => by simp at h

theorem choose_list {α : Type} [Inhabited α] (n : Nat) (Q : Nat → α → Prop) (h : ∀ i, i < n → ∃ x, Q i x) : ∃ l : List α, l.length = n ∧ ∀ i x, l[i]? = some x → Q i x := choose_rows n Q h

section
variable {H : Type} {enc : TypeId × Value → H} {P : Program} {W : World}
theorem open_trod : ∀ (n : Nat) (t : TypeId) (l : List Cl), clsOf P n t = some l → ∀ (fuel : Nat) (vs : List Value) (y : DataW H × List MemPlace), DataW.trod enc P W 0 (fun _ => true) true fuel t vs = some y → ∃ cs, ClsIs l cs ∧ RelL (promOf W) cs vs
  | 0, t, l, h, fuel, vs, y, hy => by simp [clsOf] at h
  | n + 1, t, l, h, fuel, vs, y, hy => by
    unfold clsOf at h
    split at h
    · rename_i k ht
      injection h with h; subst h
      obtain ⟨z, rfl, _, hw⟩ := DataW.trod_int ht hy
      exact ⟨[.v (.int k z)], by simp only [ClsIs, Cl.Is]; exact ⟨_, _, rfl, ⟨z, rfl, hw⟩, rfl⟩, by simp only [RelL, Rel]; exact ⟨_, _, rfl, rfl, rfl⟩⟩
    · rename_i ht
      injection h with h; subst h
      obtain ⟨z, rfl, _⟩ := DataW.trod_bool ht hy
      exact ⟨[.v (.bool z)], by simp only [ClsIs, Cl.Is]; exact ⟨_, _, rfl, ⟨z, rfl⟩, rfl⟩, by simp only [RelL, Rel]; exact ⟨_, _, rfl, rfl, rfl⟩⟩
    · rename_i ht
      injection h with h; subst h
      obtain ⟨s, rfl, _, hs⟩ := DataW.trod_string ht hy
      exact ⟨[.v (.string s)], by simp only [ClsIs, Cl.Is]; exact ⟨_, _, rfl, ⟨s.data.toList, by rw [bs_self], by rw [bs_size]; exact hs⟩, rfl⟩, by simp only [RelL, Rel]; exact ⟨_, _, rfl, rfl, rfl⟩⟩
    · rename_i e ht
      split at h
      rotate_left
      · cases h
      rename_i le he
      split at h
      rotate_left
      · cases h
      rename_i hc
      obtain ⟨hc1, hc2, hc3⟩ := hc
      injection h with h; subst h
      rcases open_slice ht hy with ⟨rfl, _⟩ | ⟨a, len, cap, m, q, D, Pl, rfl, _, hl, hm, hmm, _, hi⟩
      · refine ⟨[.sl (P.cellsOf e) []], by simp only [ClsIs, Cl.Is]; exact ⟨_, _, rfl, ⟨[], rfl, Nat.zero_le _, by simp⟩, rfl⟩, ?_⟩
        simp only [RelL, Rel]
        exact ⟨_, _, rfl, ⟨none, 0, rfl, ⟨Nat.le_refl _, by omega, fun _ => ⟨rfl, rfl⟩, fun a e => by cases e⟩, by simp [El], fun b o e => by cases e⟩, rfl⟩
      · simp at hmm
        subst hmm
        obtain ⟨ls, hll, hlq⟩ := choose_list (α := List T) len (fun i cs => ClsIs le cs ∧ ∃ cs', W.cells? 0 (a.add (i * P.cellsOf e)) (P.cellsOf e) = some cs' ∧ RelL (promOf W) cs cs') (fun i hil => by
          obtain ⟨cs', h1, h2⟩ := hi i (by omega)
          obtain ⟨cs, h3, h4⟩ := open_trod n e le he q cs' _ h2
          exact ⟨cs, h3, cs', h1, h4⟩)
        have hel : ∀ cs, ClsIs le cs → elCells (if isAgg P e then .agg cs else cs.headD .und) = cs := fun cs hcs => by
          cases hag : isAgg P e with
          | true => rfl
          | false =>
            have h1 := hc3 hag
            have h2 := hcs.len
            match cs, h2, hcs with
            | [x], _, hcs =>
              simp only [Bool.false_eq_true, if_false, List.headD_cons]
              have := hcs.one
              cases x <;> simp [T.one] at this <;> rfl
            | [], h2, _ => simp at h2; omega
            | _ :: _ :: _, h2, _ => simp at h2; omega
        refine ⟨[.sl (P.cellsOf e) (ls.map fun cs => if isAgg P e then .agg cs else cs.headD .und)], ?_, ?_⟩
        · simp only [ClsIs, Cl.Is]
          refine ⟨_, _, rfl, ⟨_, rfl, by rw [List.length_map]; omega, fun y hy => ?_⟩, rfl⟩
          obtain ⟨cs, hcs, rfl⟩ := List.mem_map.1 hy
          obtain ⟨i, hi2, hi3⟩ := List.mem_iff_getElem.1 hcs
          exact ⟨cs, (hlq i cs (by rw [List.getElem?_eq_getElem hi2, hi3])).1, rfl⟩
        · simp only [RelL, Rel]
          refine ⟨_, _, rfl, ⟨some a, m, by rw [List.length_map, hll], ⟨by rw [List.length_map]; omega, by unfold maxLen at hm; omega, (fun e => by cases e), fun a' ea hcap => ?_⟩, ?_, fun b o ea => ?_⟩, rfl⟩
          · injection ea with ea; subst ea
            obtain ⟨cs', h1, _⟩ := hi 0 hcap
            obtain ⟨_, h2, h3⟩ := World.cells?_some h1
            have h4 := h3 0 (by omega)
            rw [List.getElem?_eq_getElem (by omega)] at h4
            have := World.cell?_spot h4
            simpa [Addr.add] using this
          · intro x hx
            obtain ⟨cs, hcs, rfl⟩ := List.mem_map.1 hx
            obtain ⟨i, hi2, hi3⟩ := List.mem_iff_getElem.1 hcs
            have h1 := (hlq i cs (by rw [List.getElem?_eq_getElem hi2, hi3])).1
            rw [hel cs h1, h1.len, hc1]
          · injection ea with ea; subst ea
            refine RelE.of_el fun i x hx => ?_
            rw [List.getElem?_map, Option.map_eq_some_iff] at hx
            obtain ⟨cs, hcs, rfl⟩ := hx
            obtain ⟨h1, cs', h2, h3⟩ := hlq i cs hcs
            rw [hel cs h1]
            obtain ⟨_, h4, h5⟩ := World.cells?_some h2
            refine RelA.of_get fun j t hj => ?_
            obtain ⟨u, h6, h7⟩ := h3.get hj
            have hjl : j < cs'.length := (List.getElem?_eq_some_iff.1 h6).1
            have h8 := h5 j (by omega)
            rw [h6, Addr.add_mid] at h8
            have h9 : (Addr.add ⟨b, o + i * P.cellsOf e, none⟩ j) = ⟨b, o + i * P.cellsOf e + j, none⟩ := Addr.add_mid _ _ _
            rw [h9] at h8
            exact ⟨u, promOf_some h8 (rel_one (by have := h1.one; rw [List.all_eq_true] at this; exact this t (List.mem_of_getElem? hj)) h7), h7⟩
    · rename_i fs ht
      split at h
      rotate_left
      · cases h
      rename_i lf hf
      split at h
      rotate_left
      · cases h
      rename_i hlen
      injection h with h; subst h
      obtain ⟨xs, q, rfl, _, hcl, _, hxs⟩ := DataW.trod_struct ht hy
      have key : ∀ (gs : List Field) (k o : Nat) (l : List Cl), (∀ i f, gs[i]? = some f → fs[k + i]? = some f) → fieldsCl (clsOf P n) P gs o = some l → ∃ cs, ClsIs l cs ∧ RelL (promOf W) cs ((vs.drop o).take l.length) := by
        intro gs
        induction gs with
        | nil =>
          intro k o l _ hl
          simp [fieldsCl] at hl
          subst hl
          exact ⟨[], by simp only [ClsIs], by simp [RelL]⟩
        | cons g gs ih =>
          intro k o l hg hl
          unfold fieldsCl at hl
          split at hl
          rotate_left
          · cases hl
          rename_i ho
          split at hl
          rotate_left
          · cases hl
          rename_i la lb ha hb
          injection hl with hl; subst hl
          have h0 := hxs k g (by simpa using hg 0 g rfl)
          have hk : k < fs.size := (Array.getElem?_eq_some_iff.1 (by simpa using hg 0 g rfl)).1
          obtain ⟨cb, hcb, hrb⟩ := ih (k + 1) (o + P.cellsOf g.type) lb (fun i f hi => by have := hg (i + 1) f (by simpa using hi); rwa [show k + 1 + i = k + (i + 1) from by omega]) hb
          rw [ho] at h0
          have hx : ∃ x, xs[k]? = some x := by
            have : k < xs.length := by omega
            exact ⟨_, List.getElem?_eq_getElem this⟩
          obtain ⟨x, hx⟩ := hx
          obtain ⟨ca, hca, hra⟩ := open_trod n g.type la ha q _ x (h0.trans hx)
          have hla : la.length = ((vs.drop o).take (P.cellsOf g.type)).length := by rw [hra.len, hca.len]
          refine ⟨ca ++ cb, hca.append hcb, ?_⟩
          have hcut : (vs.drop o).take (la ++ lb).length = (vs.drop o).take (P.cellsOf g.type) ++ (vs.drop (o + P.cellsOf g.type)).take lb.length := by
            rw [← List.drop_drop, List.length_append, hla]
            generalize vs.drop o = X
            rw [List.length_take]
            rcases Nat.le_total (P.cellsOf g.type) X.length with hp | hp
            · rw [Nat.min_eq_left hp, List.take_add]
            · rw [Nat.min_eq_right hp, List.take_of_length_le (by omega), List.take_of_length_le hp, List.drop_eq_nil_of_le hp]; simp
          rw [hcut]
          exact hra.append hrb
      obtain ⟨cs, h1, h2⟩ := key fs.toList 0 0 lf (fun i f hi => by simpa using hi) hf
      refine ⟨cs, h1, ?_⟩
      rwa [List.drop_zero, hlen, ← hcl, List.take_length] at h2
    · rename_i m e ht
      split at h
      rotate_left
      · cases h
      rename_i le he
      split at h
      rotate_left
      · cases h
      rename_i hc
      injection h with h; subst h
      obtain ⟨xs, q, rfl, _, hcl, hxl, hxs⟩ := DataW.trod_array ht hy
      have key : ∀ (r k : Nat), k + r = m → ∃ cs, ClsIs (arrCl le r) cs ∧ RelL (promOf W) cs (vs.drop (k * P.cellsOf e)) := by
        intro r
        induction r with
        | zero =>
          intro k hk
          refine ⟨[], by simp only [arrCl, ClsIs], ?_⟩
          have : vs.drop (k * P.cellsOf e) = [] := List.drop_eq_nil_of_le (by rw [hcl, ← hc.2, ← hk, hc.1]; simp)
          rw [this]
          simp only [RelL]
        | succ r ih =>
          intro k hk
          obtain ⟨cb, hcb, hrb⟩ := ih (k + 1) (by omega)
          have h0 := hxs k (by omega)
          have hx : ∃ x, xs[k]? = some x := ⟨_, List.getElem?_eq_getElem (by omega)⟩
          obtain ⟨x, hx⟩ := hx
          obtain ⟨ca, hca, hra⟩ := open_trod n e le he q _ x (h0.trans hx)
          refine ⟨ca ++ cb, by simp only [arrCl]; exact hca.append hcb, ?_⟩
          have hcut : vs.drop (k * P.cellsOf e) = (vs.drop (k * P.cellsOf e)).take (P.cellsOf e) ++ vs.drop ((k + 1) * P.cellsOf e) := by
            rw [Nat.add_mul, Nat.one_mul, ← List.drop_drop, List.take_append_drop]
          rw [hcut]
          exact hra.append hrb
      obtain ⟨cs, h1, h2⟩ := key m 0 (by omega)
      exact ⟨cs, h1, by simpa using h2⟩
    · cases h

/-- the arguments of a law: their kinds -/
def wrapT (P : Program) (t : TypeId) (cs : List T) : T := if isAgg P t then .agg cs else cs.headD .und
def ArgsIs (P : Program) : List TypeId → List (List Cl) → List T → Prop
  | [], [], xs => xs = []
  | t :: ts, l :: ls, xs => ∃ cs r, xs = wrapT P t cs :: r ∧ ClsIs l cs ∧ ArgsIs P ts ls r
  | _, _, _ => False
theorem cells_of_one {v : Value} {u : Value} (hv : ∀ cs, v ≠ .agg cs) (h : v.cells.toList = [u]) : v = u := by
  cases v <;> first | exact absurd rfl (hv _) | (simpa [Value.cells] using h)
theorem open_all {base : Nat} (n : Nat) : ∀ (ts : List TypeId) (ls : List (List Cl)) (vs : List Value) (ds : List (DataW H)) (ps : List MemPlace), ts.mapM (clsOf P n) = some ls → (ts.all fun t => isAgg P t || (clsOf P n t).any (·.length == 1)) = true →
    (∀ (j : Nat) t v, ts[j]? = some t → vs[j]? = some v → Value.okWide P W .any base t v) → DataW.TrodAll enc P W 0 (fun _ => true) true ts vs ds ps → ∃ xs, ArgsIs P ts ls xs ∧ RelL (promOf W) xs vs
  | [], ls, [], [], ps, hl, _, _, h => by
    simp at hl; subst hl
    exact ⟨[], by simp only [ArgsIs], by simp only [RelL]⟩
  | t :: ts, ls, v :: vs, d :: ds, ps, hl, h1, hv, h => by
    obtain ⟨p, q, ⟨fuel, hp⟩, hq, rfl⟩ := h
    simp only [List.mapM_cons, Option.bind_eq_bind, Option.bind_eq_some_iff, Option.pure_def, Option.some.injEq] at hl
    obtain ⟨l, hl0, ls', hl1, rfl⟩ := hl
    simp only [List.all_cons, Bool.and_eq_true] at h1
    obtain ⟨xs, h2, h3⟩ := open_all n ts ls' vs ds q hl1 h1.2 (fun j t v hj hw => hv (j + 1) t v (by simpa using hj) (by simpa using hw)) hq
    obtain ⟨cs, h4, h5⟩ := open_trod n t l hl0 fuel _ _ hp
    refine ⟨wrapT P t cs :: xs, by simp only [ArgsIs]; exact ⟨cs, xs, rfl, h4, h2⟩, ?_⟩
    simp only [RelL]
    refine ⟨v, vs, rfl, ?_, h3⟩
    have hok := hv 0 t v rfl rfl
    unfold wrapT
    cases ha : isAgg P t with
    | true =>
      simp only [if_true, Rel]
      unfold isAgg at ha
      unfold Value.okWide at hok
      split at ha
      · rename_i hu; rw [hu] at hok; obtain ⟨ys, rfl, _⟩ := hok; exact ⟨ys, rfl, h5⟩
      · rename_i hu; rw [hu] at hok; obtain ⟨ys, rfl, _⟩ := hok; exact ⟨ys, rfl, h5⟩
      · cases ha
    | false =>
      simp only [Bool.false_eq_true, if_false]
      have hl1 : l.length = 1 := by have := h1.1; rw [ha, hl0] at this; simpa using this
      have hna : ∀ ys, v ≠ .agg ys := fun ys e => by
        subst e
        unfold Value.okWide at hok
        unfold isAgg at ha
        split at hok
        · rename_i hu; rw [hu] at ha; cases ha
        · rename_i hu; rw [hu] at ha; cases ha
        · unfold Cell.okWide at hok
          split at hok <;> first | (rename_i hx; cases hx) | skip
          unfold Cell.ok at hok
          split at hok <;> first | (rename_i hx; cases hx) | exact hok
      have h6 := h4.len
      match cs, h6, h4, h5 with
      | [x], _, h4, h5 =>
        simp only [RelL] at h5
        obtain ⟨u, us, hu, h7, rfl⟩ := h5
        rw [cells_of_one hna hu]
        exact h7
      | [], h6, _, _ => simp at h6; omega
      | _ :: _ :: _, h6, _, _ => simp at h6; omega
  | [], _, [], _ :: _, _, _, _, _, h => h.elim
  | [], _, _ :: _, _, _, _, _, _, h => h.elim
  | _ :: _, _, [], _, _, _, _, _, h => h.elim
  | _ :: _, _, _ :: _, [], _, _, _, _, h => h.elim
end

theorem law_calls {P : Program} {f : FuncId} {ts : List T} {W : World} {xs : Array Value} (h : TCalls P f ts [] (fun _ => none) (fun r _ _ => r = .v (.bool true))) (hr : RelL (promOf W) ts xs.toList) :
    Calls P f xs W fun e W' => e = .returned (.bool true) ∧ Below W.heap.size W W' :=
  (h.calls (promOf W) W xs (hrel_start W) hr).mono fun e W' ⟨x, r, M', ob', gl', h1, h2, _, h4, h5⟩ => by
    subst h5
    simp only [Rel] at h2
    subst h2
    exact ⟨h1, Fr.to_below (h4.fr.mono fun k _ hd => by
      rcases hd with ⟨i, x, hx, _⟩ | hd
      · simp at hx
      · cases hd)⟩
/-- a law's call over cells that start-up laid -/
theorem law_callsF {P : Program} {f : FuncId} {ts : List T} {W : World} {xs : Array Value} {ob : Obs} (hb : ∀ x ∈ ob, obBlk x = none) (ho : ∀ x ∈ ob, ObRel (promOf W) W x) (h : TCalls P f ts ob (fun _ => none) (fun r _ _ => r = .v (.bool true))) (hr : RelL (promOf W) ts xs.toList) :
    Calls P f xs W fun e W' => e = .returned (.bool true) ∧ Below W.heap.size W W' :=
  (h.calls (promOf W) W xs ⟨(hrel_start W).promise, fun i x hx => ho x (List.mem_of_getElem? hx), fun i j x y b hx _ h3 _ => absurd ((hb x (List.mem_of_getElem? hx)).symm.trans h3) (fun e => by cases e), (fun b x h => by cases h), fun i x b hx h2 => absurd ((hb x (List.mem_of_getElem? hx)).symm.trans h2) (fun e => by cases e)⟩ hr).mono fun e W' ⟨x, r, M', ob', gl', h1, h2, _, h4, h5⟩ => by
    subst h5
    simp only [Rel] at h2
    subst h2
    exact ⟨h1, Fr.to_below (h4.fr.mono fun k _ hd => by
      rcases hd with ⟨i, x, hx, h6⟩ | hd
      · exact absurd ((hb x (List.mem_of_getElem? hx)).symm.trans h6) (fun e => by cases e)
      · cases hd)⟩
/-- elements of one form -/
theorem els_map {α : Type} {es : List T} (f : α → List T) (Q : α → Prop) {l : List Cl} (h : ∀ y ∈ es, ∃ cs, ClsIs l cs ∧ y = if true then .agg cs else cs.headD .und) (hq : ∀ cs, ClsIs l cs → ∃ a, cs = f a ∧ Q a) :
    ∃ as : List α, es = as.map (fun a => .agg (f a)) ∧ ∀ a ∈ as, Q a := by
  induction es with
  | nil => exact ⟨[], rfl, fun a ha => by simp at ha⟩
  | cons e es ih =>
    obtain ⟨as, e1, h1⟩ := ih (fun y hy => h y (by simp [hy]))
    obtain ⟨cs, h2, h3⟩ := h e (by simp)
    obtain ⟨a, rfl, h4⟩ := hq cs h2
    exact ⟨a :: as, by rw [e1, h3]; rfl, fun x hx => by
      rcases List.mem_cons.1 hx with rfl | hx
      · exact h4
      · exact h1 x hx⟩
theorem els_ints {es : List T} {k : IntKind} (h : ∀ y ∈ es, ∃ cs, ClsIs [.int k] cs ∧ y = if false then .agg cs else cs.headD .und) :
    ∃ as : List Int, es = as.map (fun a => .v (.int k a)) ∧ ∀ a ∈ as, (Lit.int k a).wf = true := by
  induction es with
  | nil => exact ⟨[], rfl, fun a ha => by simp at ha⟩
  | cons e es ih =>
    obtain ⟨as, e1, h1⟩ := ih (fun y hy => h y (by simp [hy]))
    obtain ⟨cs, h2, h3⟩ := h e (by simp)
    simp only [ClsIs, Cl.Is] at h2
    obtain ⟨x, r, rfl, ⟨z, rfl, hz⟩, rfl⟩ := h2
    exact ⟨z :: as, by rw [e1, h3]; rfl, fun x hx => by
      rcases List.mem_cons.1 hx with rfl | hx
      · exact hz
      · exact h1 x hx⟩
theorem wf_u8 {z : Int} (h : (Lit.int .u8 z).wf = true) : 0 ≤ z ∧ z < 256 := by simp [Lit.wf, IntKind.min, IntKind.max, IntKind.signed, IntKind.bits] at h; omega
theorem wf_u16 {z : Int} (h : (Lit.int .u16 z).wf = true) : 0 ≤ z ∧ z < 65536 := by simp [Lit.wf, IntKind.min, IntKind.max, IntKind.signed, IntKind.bits] at h; omega
theorem wf_u32 {z : Int} (h : (Lit.int .u32 z).wf = true) : 0 ≤ z ∧ z < 4294967296 := by simp [Lit.wf, IntKind.min, IntKind.max, IntKind.signed, IntKind.bits] at h; omega
theorem wf_u64 {z : Int} (h : (Lit.int .u64 z).wf = true) : 0 ≤ z ∧ z < 18446744073709551616 := by simp [Lit.wf, IntKind.min, IntKind.max, IntKind.signed, IntKind.bits] at h; omega
theorem wf_i64 {z : Int} (h : (Lit.int .i64 z).wf = true) : -9223372036854775808 ≤ z ∧ z ≤ 9223372036854775807 := by simp [Lit.wf, IntKind.min, IntKind.max, IntKind.signed, IntKind.bits] at h; omega
end Go.Proofs.YtaepgceodcdnhaaDoor.Vm
/- Plain mathematics of layer 1: a number's bytes, the largest first. -/
namespace Go.Proofs.YtaepgceodcdnhaaDoor
namespace Oct

/-- The lowest k bytes of n, the largest first. -/
def be : Nat → Nat → List UInt8
  | 0, _ => []
  | k + 1, n => be k (n / 256) ++ [UInt8.ofNat n]
theorem length_be : ∀ k n, (be k n).length = k
  | 0, _ => rfl
  | k + 1, n => by simp [be, length_be k]
theorem be_succ : ∀ k n, be (k + 1) n = UInt8.ofNat (n / 256 ^ k) :: be k n
  | 0, n => by simp [be]
  | k + 1, n => by
    have h := be_succ k (n / 256)
    show be (k + 1) (n / 256) ++ [UInt8.ofNat n] = _
    rw [h, Nat.div_div_eq_div_mul, show 256 * 256 ^ k = 256 ^ (k + 1) from by rw [Nat.pow_succ, Nat.mul_comm]]
    rfl

/-- 'number' fills its k bytes from the last one on: after i rounds -/
def fill (k n i : Nat) : List UInt8 := List.replicate (k - i) 0 ++ be i n
theorem length_fill (k n i : Nat) (h : i ≤ k) : (fill k n i).length = k := by simp [fill, length_be]; omega
theorem fill_zero (k n : Nat) : fill k n 0 = List.replicate k 0 := by simp [fill, be]
theorem fill_full (k n : Nat) : fill k n k = be k n := by simp [fill]
theorem fill_set (k n i : Nat) (h : i < k) : (fill k n i).set (k - 1 - i) (UInt8.ofNat (n / 256 ^ i)) = fill k n (i + 1) := by
  unfold fill
  rw [be_succ, show k - i = (k - (i + 1)) + 1 from by omega, List.replicate_succ', List.append_assoc]
  rw [List.set_append_right _ _ (by simp; omega)]
  simp [show k - 1 - i - (k - (i + 1)) = 0 from by omega]
theorem u8s_set (l : List UInt8) (j : Nat) (c : UInt8) : (u8s l).setIfInBounds j (.int .u8 (c.toNat : Int)) = u8s (l.set j c) := by
  simp [u8s, List.map_set]
theorem madeCells_u8 (k : Nat) : madeCells #[.int .u8 0] k = u8s (List.replicate k 0) := by
  apply Array.ext
  · simp [size_u8s, madeCells]
  · intro i h1 h2
    have h3 : i < k := by simpa [madeCells] using h1
    simp [u8s, madeCells, Nat.mod_one]
theorem be_mod : ∀ k n, be k (n % 256 ^ k) = be k n
  | 0, _ => rfl
  | k + 1, n => by
    show be k (n % 256 ^ (k + 1) / 256) ++ [UInt8.ofNat (n % 256 ^ (k + 1))] = be k (n / 256) ++ [UInt8.ofNat n]
    have h1 : n % 256 ^ (k + 1) / 256 = n / 256 % 256 ^ k := by
      rw [Nat.pow_succ, Nat.mul_comm, Nat.mod_mul_right_div_self]
    have h2 : UInt8.ofNat (n % 256 ^ (k + 1)) = UInt8.ofNat n := by
      apply UInt8.toNat.inj
      rw [UInt8.toNat_ofNat', UInt8.toNat_ofNat']
      exact Nat.mod_mod_of_dvd n ⟨256 ^ k, by rw [Nat.pow_succ, Nat.mul_comm]⟩
    rw [h1, h2, be_mod k (n / 256)]
theorem be_less : ∀ k a b, a < 256 ^ k → b < 256 ^ k → Op.bytesLess (be k a) (be k b) = decide (a < b)
  | 0, a, b, ha, hb => by
    have : a = b := by simp at ha hb; omega
    subst this
    simp [be, Op.bytesLess]
  | k + 1, a, b, ha, hb => by
    have hp : 0 < 256 ^ k := Nat.pow_pos (by omega)
    have da : a / 256 ^ k < 256 := by rw [Nat.div_lt_iff_lt_mul hp, Nat.mul_comm, ← Nat.pow_succ]; exact ha
    have db : b / 256 ^ k < 256 := by rw [Nat.div_lt_iff_lt_mul hp, Nat.mul_comm, ← Nat.pow_succ]; exact hb
    have ea : (UInt8.ofNat (a / 256 ^ k)).toNat = a / 256 ^ k := by rw [UInt8.toNat_ofNat']; exact Nat.mod_eq_of_lt da
    have eb : (UInt8.ofNat (b / 256 ^ k)).toNat = b / 256 ^ k := by rw [UInt8.toNat_ofNat']; exact Nat.mod_eq_of_lt db
    have ma := Nat.mod_lt a hp
    have mb := Nat.mod_lt b hp
    have xa := Nat.div_add_mod a (256 ^ k)
    have xb := Nat.div_add_mod b (256 ^ k)
    have ih := be_less k (a % 256 ^ k) (b % 256 ^ k) ma mb
    rw [be_mod, be_mod] at ih
    rw [be_succ, be_succ]
    generalize UInt8.ofNat (a / 256 ^ k) = ca at *
    generalize UInt8.ofNat (b / 256 ^ k) = cb at *
    generalize a / 256 ^ k = qa at *
    generalize b / 256 ^ k = qb at *
    generalize a % 256 ^ k = ra at *
    generalize b % 256 ^ k = rb at *
    generalize 256 ^ k = p at *
    simp only [Op.bytesLess, ih]
    rw [Bool.eq_iff_iff]
    simp only [Bool.or_eq_true, Bool.and_eq_true, decide_eq_true_eq, beq_iff_eq, UInt8.lt_iff_toNat_lt, ← UInt8.toNat_inj, ea, eb]
    constructor
    · rintro (h | ⟨h, h'⟩)
      · have : p * qa + p ≤ p * qb := by rw [← Nat.mul_succ]; exact Nat.mul_le_mul_left p h
        omega
      · rw [h] at xa; omega
    · intro h
      rcases Nat.lt_trichotomy qa qb with h1 | h1 | h1
      · exact .inl h1
      · exact .inr ⟨h1, by rw [h1] at xa; omega⟩
      · have : p * qb + p ≤ p * qa := by rw [← Nat.mul_succ]; exact Nat.mul_le_mul_left p h1
        omega
theorem be_inj (k a b : Nat) (ha : a < 256 ^ k) (hb : b < 256 ^ k) : be k a = be k b ↔ a = b := by
  constructor
  · intro h
    have h1 := be_less k a b ha hb
    have h2 := be_less k b a hb ha
    have h3 := be_less k a a ha ha
    rw [h] at h2 h3
    rw [h] at h1
    have e1 : decide (a < b) = false := by rw [← h1, h3]; simp
    have e2 : decide (b < a) = false := by rw [← h2, h3]; simp
    simp at e1 e2
    omega
  · rintro rfl; rfl
theorem pow_256 (j : Nat) : (2 : Int) ^ (8 * j) = ((256 ^ j : Nat) : Int) := by
  rw [Int.pow_mul, show ((2 : Int) ^ 8) = 256 from rfl]
  exact (Int.natCast_pow 256 j).symm
theorem byteVal (n j : Nat) : ((n : Int) / 2 ^ (8 * j) % 256) = ((UInt8.ofNat (n / 256 ^ j)).toNat : Int) := by
  rw [pow_256]
  have : (UInt8.ofNat (n / 256 ^ j)).toNat = n / 256 ^ j % 256 := UInt8.toNat_ofNat'
  rw [this]
  show (n : Int) / ((256 ^ j : Nat) : Int) % ((256 : Nat) : Int) = _
  rw [← Int.natCast_ediv, ← Int.natCast_emod]
theorem fits_iff (n k : Nat) : (((n : Int) / 2 ^ (8 * k) != 0) = false) ↔ n < 256 ^ k := by
  rw [pow_256]
  have hp : 0 < 256 ^ k := Nat.pow_pos (by omega)
  rw [show ((n : Int) / ((256 ^ k : Nat) : Int)) = ((n / 256 ^ k : Nat) : Int) from (Int.natCast_ediv _ _).symm]
  rw [bne_eq_false_iff_eq, Int.natCast_eq_zero, Nat.div_eq_zero_iff]
  omega

/-- A part: its kind, its size, its number, its text. -/
structure Part where
  kind : Int
  size : Int
  n : Nat
  s : ByteArray
def Part.cells (p : Part) : List Value := [.int .i64 p.kind, .int .i64 p.size, .int .u64 p.n, .string p.s]
def Part.val (p : Part) : Value := .agg #[.int .i64 p.kind, .int .i64 p.size, .int .u64 p.n, .string p.s]

/-- what 'number' answers -/
def numRes (n : Nat) (size : Int) : List UInt8 × Int := if 1 ≤ size ∧ size ≤ 8 ∧ n < 256 ^ size.toNat then (be size.toNat n, 0) else ([], 9)
/-- what 'bytes' answers -/
def Part.bytes (p : Part) : List UInt8 × Int :=
  if p.kind = 1 then numRes p.n p.size
  else if p.kind = 2 then (if 255 < p.s.size then ([], 3) else (UInt8.ofNat p.s.size :: p.s.data.toList, 0))
  else if p.kind = 3 then (p.s.data.toList, 0)
  else ([], 1)
/-- what 'Join' answers, with what is gathered so far -/
def joinRes : List Part → List UInt8 → List UInt8 × Int
  | [], acc => (acc, 0)
  | p :: r, acc => if p.bytes.2 ≠ 0 then ([], p.bytes.2) else joinRes r (acc ++ p.bytes.1)
def room (ps : List Part) : Nat := (ps.map fun p => p.s.size + 9).sum
theorem bytes_le (p : Part) : p.bytes.1.length ≤ p.s.size + 9 := by
  have hs : p.s.data.toList.length = p.s.size := by rw [Array.length_toList]; rfl
  unfold Part.bytes
  split
  · unfold numRes
    split
    · rw [length_be]; omega
    · simp
  · split
    · split
      · simp
      · rw [List.length_cons, hs]; omega
    · split
      · rw [hs]; omega
      · simp
theorem room_take (ps : List Part) (k : Nat) (h : k < ps.length) : room (ps.take k) + (ps[k].s.size + 9) ≤ room ps := by
  induction ps generalizing k with
  | nil => simp at h
  | cons p r ih =>
    cases k with
    | zero => simp [room]
    | succ k =>
      have := ih k (by simpa using h)
      simp only [room, List.take_succ_cons, List.map_cons, List.sum_cons, List.getElem_cons_succ] at this ⊢
      omega
theorem room_succ (ps : List Part) (k : Nat) (h : k < ps.length) : room (ps.take (k + 1)) = room (ps.take k) + (ps[k].s.size + 9) := by
  rw [List.take_succ_eq_append_getElem h]
  simp only [room, List.map_append, List.sum_append, List.map_cons, List.map_nil, List.sum_cons, List.sum_nil]
  omega
end Oct
end Go.Proofs.YtaepgceodcdnhaaDoor
