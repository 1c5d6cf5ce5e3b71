/- Texts of this claim: Map, VmMap. -/
import Derived.Test.YtafcbipmmjegcaaMg1
import Derived.MapKept
namespace Go.Proofs.Ytafcbipmmjegcaa
open Go.RowKit Go.MapKept
def MapI (w : World) (r : Nat) (kd : IntKind) (f : Int → Option Value) : Prop :=
 ∃ es clock, w.heap[r]? = some (.map es clock) ∧ Stamped es clock ∧ (∀ x ∈ es.toList, IsKey (.int kd) x.key) ∧ ∀ z v, f z = some v ↔ ∃ x ∈ es.toList, x.key = .int kd z ∧ x.val = v
def BornI (w : World) (r : Nat) (kd : IntKind) (stamp : Nat) (z : Int) : Prop := ∃ es clock, w.heap[r]? = some (.map es clock) ∧ ∃ x ∈ es.toList, x.born = stamp ∧ x.key = .int kd z
def upd (f : Int → Option Value) (z : Int) (v : Value) : Int → Option Value := fun y => if y = z then some v else f y
section
variable {P : Program} {w w' : World} {r : Nat} {kd : IntKind} {f : Int → Option Value} {mty kt et : TypeId}
theorem MapI.keep (h : MapI w r kd f) (hb : w'.heap[r]? = w.heap[r]?) : MapI w' r kd f := by
 obtain ⟨es, c, hh, rest⟩ := h
 exact ⟨es, c, by rw [hb]; exact hh, rest⟩
theorem BornI.keep {s : Nat} {z : Int} (h : BornI w r kd s z) (hb : w'.heap[r]? = w.heap[r]?) : BornI w' r kd s z := by
 obtain ⟨es, c, hh, rest⟩ := h
 exact ⟨es, c, by rw [hb]; exact hh, rest⟩
theorem MapI.lt (h : MapI w r kd f) : r < w.heap.size := by
 obtain ⟨es, c, hh, _⟩ := h
 exact (Array.getElem?_eq_some_iff.1 hh).1
theorem MapI.new (w : World) (kd : IntKind) : MapI (w.alloc (.map #[] 0)) w.heap.size kd (fun _ => none) :=
 ⟨#[], 0, (MapKept.heap_alloc w _).1, stamped_empty 0, by simp, by simp⟩
theorem MapI.congr {g : Int → Option Value} (h : MapI w r kd f) (e : ∀ z, g z = f z) : MapI w r kd g := by
 have : g = f := funext e
 rw [this]; exact h
theorem findNow_none {es : Array MapEntry} {z : Int} (h : ∀ x ∈ es.toList, x.key ≠ .int kd z) (hf : ∀ z v, f z = some v ↔ ∃ x ∈ es.toList, x.key = .int kd z ∧ x.val = v) : f z = none := by
 cases hz : f z with
 | none => rfl
 | some v =>
  obtain ⟨x, hx, hk, _⟩ := (hf z v).1 hz
  exact absurd hk (h x hx)
theorem MapI.lookup (h : MapI w r kd f) (hm : P.underlying mty = some (.map kt et)) (hd : P.underlying kt = some (.int kd)) {zero : Value} (hz : (zeroValue et).run P w = .ok zero w) (z : Int) :
  (Instr.lookup mty (.map (some r)) (.int kd z) false).run P w = .ok ((f z).getD zero) w := by
 obtain ⟨es, c, hb, hs, hks, hf⟩ := h
 have hk : IsKey (.int kd) (.int kd z) := rfl
 rcases findNow_spec hk es.toList 0 hks with ⟨h1, h2⟩ | ⟨j, e, h1, h2, h3⟩
 ·rw [findNow_none h2 hf]
  simp [Instr.lookup, run_underlying hm, MapKept.run_getObj_map hb, MapKept.run_checkKey hd hk, MapKept.run_findKey hd h1, Result.andThen, hz]
 ·rw [(hf z e.val).2 ⟨e, List.mem_of_getElem? h2, h3, rfl⟩]
  simp [Instr.lookup, run_underlying hm, MapKept.run_getObj_map hb, MapKept.run_checkKey hd hk, MapKept.run_findKey hd h1, Result.andThen]
theorem MapI.lookup_ok (h : MapI w r kd f) (hm : P.underlying mty = some (.map kt et)) (hd : P.underlying kt = some (.int kd)) {zero : Value} (hz : (zeroValue et).run P w = .ok zero w) (z : Int) :
  (Instr.lookup mty (.map (some r)) (.int kd z) true).run P w = .ok (.tuple #[(f z).getD zero, .bool (f z).isSome]) w := by
 obtain ⟨es, c, hb, hs, hks, hf⟩ := h
 have hk : IsKey (.int kd) (.int kd z) := rfl
 rcases findNow_spec hk es.toList 0 hks with ⟨h1, h2⟩ | ⟨j, e, h1, h2, h3⟩
 ·rw [findNow_none h2 hf]
  simp [Instr.lookup, run_underlying hm, MapKept.run_getObj_map hb, MapKept.run_checkKey hd hk, MapKept.run_findKey hd h1, Result.andThen, hz]
 ·rw [(hf z e.val).2 ⟨e, List.mem_of_getElem? h2, h3, rfl⟩]
  simp [Instr.lookup, run_underlying hm, MapKept.run_getObj_map hb, MapKept.run_checkKey hd hk, MapKept.run_findKey hd h1, Result.andThen]
theorem fr_set {o o' : Obj} (hb : w.heap[r]? = some o) : Fr (· = r) w { w with heap := w.heap.setIfInBounds r o' } :=
 ⟨rfl, rfl, rfl, by simp, fun k _ hk => (MapKept.heap_set hb).2 k hk⟩
theorem push_holds {es : Array MapEntry} {c : Nat} {z : Int} {v : Value} (h2 : ∀ x ∈ es.toList, x.key ≠ .int kd z) (hf : ∀ z v, f z = some v ↔ ∃ x ∈ es.toList, x.key = .int kd z ∧ x.val = v) :
  ∀ y u, upd f z v y = some u ↔ ∃ x ∈ (es.push { key := .int kd z, val := v, born := c }).toList, x.key = .int kd y ∧ x.val = u := by
 intro y u
 unfold upd
 simp only [Array.toList_push, List.mem_append, List.mem_singleton]
 by_cases hy : y = z
 ·subst hy
  rw [if_pos rfl]
  constructor
  ·intro e; cases e; exact ⟨_, .inr rfl, rfl, rfl⟩
  ·rintro ⟨x, hx | rfl, hk, hv⟩
   ·exact absurd hk (h2 x hx)
   ·exact congrArg some hv
 ·rw [if_neg hy, hf]
  constructor
  ·rintro ⟨x, hx, hk, hv⟩; exact ⟨x, .inl hx, hk, hv⟩
  ·rintro ⟨x, hx | rfl, hk, hv⟩
   ·exact ⟨x, hx, hk, hv⟩
   ·simp only [Value.int.injEq, true_and] at hk; exact absurd hk.symm hy
theorem modify_holds {es : Array MapEntry} {c j : Nat} {e : MapEntry} {z : Int} {v : Value} (hs : Stamped es c) (hj : es[j]? = some e) (h3 : e.key = .int kd z) (g : MapEntry → MapEntry) (hgk : ∀ x, (g x).key = x.key ∨ (x.key = .int kd z → (g x).key = .int kd z)) (hgv : (g e).val = v)
  (hf : ∀ z v, f z = some v ↔ ∃ x ∈ es.toList, x.key = .int kd z ∧ x.val = v) :
  ∀ y u, upd f z v y = some u ↔ ∃ x ∈ (es.modify j g).toList, x.key = .int kd y ∧ x.val = u := by
 have hkey : (g e).key = .int kd z := by
  rcases hgk e with h | h
  ·rw [h, h3]
  ·exact h h3
 have hmem : ∀ x, x ∈ (es.modify j g).toList ↔ ∃ i, ∃ y, es[i]? = some y ∧ x = if i = j then g y else y := by
  intro x
  rw [List.mem_iff_getElem?]
  constructor
  ·rintro ⟨i, hi⟩
   rw [Array.getElem?_toList, Array.getElem?_modify] at hi
   cases hy : es[i]? with
   | none => rw [hy] at hi; split at hi <;> simp at hi
   | some y =>
    rw [hy] at hi
    refine ⟨i, y, hy, ?_⟩
    by_cases hij : j = i
    ·rw [if_pos hij] at hi; rw [if_pos hij.symm]; simpa using hi.symm
    ·rw [if_neg hij] at hi; rw [if_neg (fun h => hij h.symm)]; simpa using hi.symm
  ·rintro ⟨i, y, hy, rfl⟩
   refine ⟨i, ?_⟩
   rw [Array.getElem?_toList, Array.getElem?_modify]
   by_cases hij : j = i
   ·rw [if_pos hij, if_pos hij.symm, hy]; rfl
   ·rw [if_neg hij, if_neg (fun h => hij h.symm), hy]
 have huniq : ∀ i y, es[i]? = some y → y.key = .int kd z → i = j := by
  intro i y hy hk
  have hn := hs.2.2
  have h1 : (es.toList.map (·.key))[i]? = some (.int kd z) := by simp [hy, hk]
  have h2 : (es.toList.map (·.key))[j]? = some (.int kd z) := by simp [hj, h3]
  exact (List.getElem?_inj (List.getElem?_eq_some_iff.1 h1).1 hn).1 (h1.trans h2.symm)
 intro y u
 unfold upd
 by_cases hy : y = z
 ·subst hy
  rw [if_pos rfl]
  constructor
  ·intro e'; cases e'
   exact ⟨g e, (hmem _).2 ⟨j, e, hj, by rw [if_pos rfl]⟩, hkey, hgv⟩
  ·rintro ⟨x, hx, hk, hv⟩
   obtain ⟨i, y', hi, rfl⟩ := (hmem _).1 hx
   by_cases hij : i = j
   ·subst hij
    rw [hj] at hi; cases hi
    rw [if_pos rfl] at hv
    rw [← hv, hgv]
   ·rw [if_neg hij] at hk
    exact absurd (huniq i y' hi hk) hij
 ·rw [if_neg hy, hf]
  constructor
  ·rintro ⟨x, hx, hk, hv⟩
   obtain ⟨i, hi⟩ := List.mem_iff_getElem?.1 hx
   have hij : i ≠ j := by
    rintro rfl
    rw [Array.getElem?_toList, hj] at hi; cases hi
    rw [h3] at hk; simp only [Value.int.injEq, true_and] at hk; exact hy hk.symm
   exact ⟨x, (hmem _).2 ⟨i, x, by simpa using hi, by rw [if_neg hij]⟩, hk, hv⟩
  ·rintro ⟨x, hx, hk, hv⟩
   obtain ⟨i, y', hi, rfl⟩ := (hmem _).1 hx
   by_cases hij : i = j
   ·subst hij
    rw [hj] at hi; cases hi
    rw [if_pos rfl, hkey] at hk
    simp only [Value.int.injEq, true_and] at hk; exact absurd hk.symm hy
   ·rw [if_neg hij] at hk hv
    exact ⟨y', List.mem_of_getElem? (by simpa using hi), hk, hv⟩
theorem MapI.update (h : MapI w r kd f) (hm : P.underlying mty = some (.map kt et)) (hd : P.underlying kt = some (.int kd)) (z : Int) (v : Value) :
  ∃ w', (Instr.mapUpdate mty (.map (some r)) (.int kd z) v).run P w = .ok () w' ∧ MapI w' r kd (upd f z v) ∧ Fr (· = r) w w' ∧ w'.heap.size = w.heap.size := by
 obtain ⟨es, c, hb, hs, hks, hf⟩ := h
 have hk : IsKey (.int kd) (.int kd z) := rfl
 rcases findNow_spec hk es.toList 0 hks with ⟨h1, h2⟩ | ⟨j, e, h1, h2, h3⟩
 ·refine ⟨{ w with heap := w.heap.setIfInBounds r (.map (es.push { key := .int kd z, val := v, born := c }) (c + 1)) }, ?_, ⟨_, _, (MapKept.heap_set hb).1, stamped_push hs h2, ?_, push_holds h2 hf⟩, fr_set hb, by simp⟩
  ·simp [Instr.mapUpdate, run_underlying hm, MapKept.run_getObj_map hb, MapKept.run_checkKey hd hk, MapKept.run_findKey hd h1, MapKept.run_setObj_map _ hb, Result.andThen]
  ·intro x hx
   simp only [Array.toList_push, List.mem_append, List.mem_singleton] at hx
   rcases hx with hx | rfl
   ·exact hks x hx
   ·exact hk
 ·have hj : es[j]? = some e := by simpa using h2
  have hkey : ∀ e', es[j]? = some e' → ({ e' with key := Value.int kd z, val := v } : MapEntry).key = e'.key := fun e' he' => by rw [hj] at he'; cases he'; exact h3.symm
  refine ⟨{ w with heap := w.heap.setIfInBounds r (.map (es.modify j fun e => { e with key := .int kd z, val := v }) c) }, ?_, ⟨_, _, (MapKept.heap_set hb).1, stamped_modify hs _ _ (fun _ _ => rfl) (fun e' _ he' => hkey e' he'), isKey_modify hks _ _ hkey, modify_holds hs hj h3 _ (fun x => .inr (fun _ => rfl)) rfl hf⟩, fr_set hb, by simp⟩
  simp [Instr.mapUpdate, run_underlying hm, MapKept.run_getObj_map hb, MapKept.run_checkKey hd hk, MapKept.run_findKey hd h1, hj, h3, MapKept.run_keyThatStays hk, MapKept.run_setObj_map _ hb, Result.andThen]
theorem MapI.entry (h : MapI w r kd f) (hm : P.underlying mty = some (.map kt et)) (hd : P.underlying kt = some (.int kd)) {zero : Value} (hz : (zeroValue et).run P w = .ok zero w) (z : Int) :
  ∃ (s : Nat) (w' : World), (Instr.mapEntry mty (.map (some r)) (.int kd z)).run P w = .ok (.tuple #[(f z).getD zero, .int .i64 (s : Int)]) w' ∧ MapI w' r kd (upd f z ((f z).getD zero)) ∧ BornI w' r kd s z ∧ Fr (· = r) w w' ∧ w'.heap.size = w.heap.size := by
 obtain ⟨es, c, hb, hs, hks, hf⟩ := h
 have hk : IsKey (.int kd) (.int kd z) := rfl
 rcases findNow_spec hk es.toList 0 hks with ⟨h1, h2⟩ | ⟨j, e, h1, h2, h3⟩
 ·rw [findNow_none h2 hf]
  refine ⟨c, { w with heap := w.heap.setIfInBounds r (.map (es.push { key := .int kd z, val := zero, born := c }) (c + 1)) }, ?_, ⟨_, _, (MapKept.heap_set hb).1, stamped_push hs h2, ?_, push_holds h2 hf⟩, ⟨_, _, (MapKept.heap_set hb).1, { key := .int kd z, val := zero, born := c }, by simp, rfl, rfl⟩, fr_set hb, by simp⟩
  ·simp [Instr.mapEntry, run_underlying hm, MapKept.run_getObj_map hb, MapKept.run_checkKey hd hk, MapKept.run_findKey hd h1, MapKept.run_setObj_map _ hb, Result.andThen, hz, goInt]
  ·intro x hx
   simp only [Array.toList_push, List.mem_append, List.mem_singleton] at hx
   rcases hx with hx | rfl
   ·exact hks x hx
   ·exact hk
 ·have hj : es[j]? = some e := by simpa using h2
  have hkey : ∀ e', es[j]? = some e' → ({ e' with key := Value.int kd z } : MapEntry).key = e'.key := fun e' he' => by rw [hj] at he'; cases he'; exact h3.symm
  have hfz : f z = some e.val := (hf z e.val).2 ⟨e, List.mem_of_getElem? h2, h3, rfl⟩
  rw [hfz]
  refine ⟨e.born, { w with heap := w.heap.setIfInBounds r (.map (es.modify j fun e => { e with key := .int kd z }) c) }, ?_, ⟨_, _, (MapKept.heap_set hb).1, stamped_modify hs _ _ (fun _ _ => rfl) (fun e' _ he' => hkey e' he'), isKey_modify hks _ _ hkey, modify_holds hs hj h3 _ (fun x => .inr (fun _ => rfl)) rfl hf⟩, ⟨_, _, (MapKept.heap_set hb).1, { e with key := .int kd z }, ?_, rfl, rfl⟩, fr_set hb, by simp⟩
  ·simp [Instr.mapEntry, run_underlying hm, MapKept.run_getObj_map hb, MapKept.run_checkKey hd hk, MapKept.run_findKey hd h1, hj, h3, MapKept.run_keyThatStays hk, MapKept.run_setObj_map _ hb, Result.andThen, goInt]
  ·rw [List.mem_iff_getElem?]
   exact ⟨j, by rw [Array.getElem?_toList, Array.getElem?_modify, if_pos rfl, hj]; rfl⟩
theorem MapI.store (h : MapI w r kd f) {s : Nat} {z : Int} (hb : BornI w r kd s z) (v : Value) :
  ∃ w', (Instr.entryStore mty (.map (some r)) (.int .i64 (s : Int)) v).run P w = .ok () w' ∧ MapI w' r kd (upd f z v) ∧ Fr (· = r) w w' ∧ w'.heap.size = w.heap.size := by
 obtain ⟨es, c, hb', hs, hks, hf⟩ := h
 obtain ⟨es2, c2, hb2, x, hx, hxb, hxk⟩ := hb
 rw [hb'] at hb2
 cases hb2
 obtain ⟨j, hj⟩ := List.mem_iff_getElem?.1 hx
 rw [Array.getElem?_toList] at hj
 have hfind : es.findIdx? (fun e => (e.born : Int) == (s : Int)) = some j := by
  rw [Array.findIdx?_eq_some_iff_getElem]
  have hlt := (Array.getElem?_eq_some_iff.1 hj).1
  have hje := (Array.getElem?_eq_some_iff.1 hj).2
  refine ⟨hlt, by rw [hje, hxb]; simp, fun i hi => ?_⟩
  have hne : es[i].born ≠ s := by
   intro he
   have hn := hs.2.1
   have h1 : (es.toList.map (·.born))[i]? = some s := by simp [he, show i < es.size by omega]
   have h2 : (es.toList.map (·.born))[j]? = some s := by simp [hlt, hje, hxb]
   have := (List.getElem?_inj (List.getElem?_eq_some_iff.1 h1).1 hn).1 (h1.trans h2.symm)
   omega
  simp only [beq_iff_eq]; omega
 refine ⟨{ w with heap := w.heap.setIfInBounds r (.map (es.modify j fun e => { e with val := v }) c) }, ?_, ⟨_, _, (MapKept.heap_set hb').1, stamped_modify hs _ _ (fun _ _ => rfl) (fun _ _ _ => rfl), isKey_modify hks _ _ (fun _ _ => rfl), modify_holds hs hj hxk _ (fun x => .inl rfl) rfl hf⟩, fr_set hb', by simp⟩
 simp [Instr.entryStore, MapKept.run_getObj_map hb', asInt, asIntOf, hfind, MapKept.run_setObj_map _ hb', Result.andThen]
end
end Go.Proofs.Ytafcbipmmjegcaa
namespace Go.Proofs.Ytafcbipmmjegcaa
open Go Go.RowKit Go.MapKept
def MapE (es : Array MapEntry) (clock : Nat) (kd : IntKind) (f : Int → Option Value) : Prop :=
 Stamped es clock ∧ (∀ x ∈ es.toList, IsKey (.int kd) x.key) ∧ ∀ z v, f z = some v ↔ ∃ x ∈ es.toList, x.key = .int kd z ∧ x.val = v
def IterE (w : World) (b mb : Nat) (es : Array MapEntry) (clock : Nat) (kd : IntKind) (left : List Int) (cur : Option Int) : Prop :=
 ∃ seen : Array Nat, w.heap[b]? = some (.mapIter (some mb) clock seen clock) ∧ left.Nodup ∧ (∀ z, z ∈ left ↔ ∃ x ∈ es.toList, x.key = .int kd z ∧ x.born ∉ seen) ∧ ∀ z, cur = some z → ∃ x ∈ es.toList, x.key = .int kd z ∧ seen.back? = some x.born
section
variable {P : Program} {w w' : World} {r b : Nat} {kd : IntKind} {f : Int → Option Value} {mty kt et : TypeId} {es : Array MapEntry} {clock : Nat}
theorem MapI.of (hb : w.heap[r]? = some (.map es clock)) (h : MapE es clock kd f) : MapI w r kd f := ⟨es, clock, hb, h⟩
theorem MapI.out (h : MapI w r kd f) : ∃ es clock, w.heap[r]? = some (.map es clock) ∧ MapE es clock kd f := h
theorem key_inj {x y : MapEntry} (h : MapE es clock kd f) (hx : x ∈ es.toList) (hy : y ∈ es.toList) (e : x.key = y.key) : x = y := by
 obtain ⟨i, hi⟩ := List.mem_iff_getElem?.1 hx
 obtain ⟨j, hj⟩ := List.mem_iff_getElem?.1 hy
 have hn := h.1.2.2
 have h1 : (es.toList.map (·.key))[i]? = some x.key := by simp only [List.getElem?_map, hi, Option.map_some]
 have h2 : (es.toList.map (·.key))[j]? = some x.key := by simp only [List.getElem?_map, hj, Option.map_some, e]
 have := (List.getElem?_inj (List.getElem?_eq_some_iff.1 h1).1 hn).1 (h1.trans h2.symm)
 subst this
 rw [hi] at hj
 exact Option.some.inj hj
theorem born_inj {x y : MapEntry} (h : MapE es clock kd f) (hx : x ∈ es.toList) (hy : y ∈ es.toList) (e : x.born = y.born) : x = y := by
 obtain ⟨i, hi⟩ := List.mem_iff_getElem?.1 hx
 obtain ⟨j, hj⟩ := List.mem_iff_getElem?.1 hy
 have hn := h.1.2.1
 have h1 : (es.toList.map (·.born))[i]? = some x.born := by simp only [List.getElem?_map, hi, Option.map_some]
 have h2 : (es.toList.map (·.born))[j]? = some x.born := by simp only [List.getElem?_map, hj, Option.map_some, e]
 have := (List.getElem?_inj (List.getElem?_eq_some_iff.1 h1).1 hn).1 (h1.trans h2.symm)
 subst this
 rw [hi] at hj
 exact Option.some.inj hj
def DelE (es es' : Array MapEntry) (k : Value) : Prop := ∀ x, x ∈ es'.toList ↔ x ∈ es.toList ∧ x.key ≠ k
theorem MapE.delete (hb : w.heap[r]? = some (.map es clock)) (hE : MapE es clock kd f) (hm : P.underlying mty = some (.map kt et)) (hd : P.underlying kt = some (.int kd)) (z : Int) (ty kt' : TypeId) :
  ∃ w' es', (Builtin.delete_ #[mty, kt'] ty #[.map (some r), .int kd z]).run P w = .ok (.tuple #[]) w' ∧ w'.heap[r]? = some (.map es' clock) ∧ MapE es' clock kd (fun y => if y = z then none else f y) ∧ DelE es es' (.int kd z) ∧ Fr (· = r) w w' ∧ w'.heap.size = w.heap.size := by
 have hE' := hE
 obtain ⟨hs, hks, hf⟩ := hE
 have hk : IsKey (.int kd) (.int kd z) := rfl
 have fin : ∀ es', Stamped es' clock → DelE es es' (.int kd z) → MapE es' clock kd (fun y => if y = z then none else f y) := fun es' h1 h2 => by
  refine ⟨h1, fun x hx => hks x ((h2 x).1 hx).1, fun y v => ?_⟩
  by_cases hy : y = z
  ·subst hy
   show (if y = y then none else f y) = some v ↔ _
   rw [if_pos rfl]
   exact ⟨(fun e => by cases e), fun ⟨x, hx, hk', _⟩ => absurd hk' ((h2 x).1 hx).2⟩
  ·show (if y = z then none else f y) = some v ↔ _
   rw [if_neg hy, hf y v]
   constructor
   ·rintro ⟨x, hx, hk', hv⟩
    refine ⟨x, (h2 x).2 ⟨hx, fun e => ?_⟩, hk', hv⟩
    rw [hk'] at e
    simp only [Value.int.injEq, true_and] at e
    exact hy e
   ·rintro ⟨x, hx, hk', hv⟩
    exact ⟨x, ((h2 x).1 hx).1, hk', hv⟩
 rcases findNow_spec hk es.toList 0 hks with ⟨h1, h2⟩ | ⟨j, e, h1, h2, h3⟩
 ·have hdel : DelE es es (.int kd z) := fun x => ⟨fun hx => ⟨hx, h2 x hx⟩, fun hx => hx.1⟩
  refine ⟨{ w with heap := w.heap.setIfInBounds r (.map es clock) }, es, ?_, (MapKept.heap_set hb).1, fin es hs hdel, hdel, fr_set hb, by simp⟩
  simp [Builtin.delete_, run_underlying hm, MapKept.run_getObj_map hb, MapKept.run_checkKey hd hk, MapKept.run_findKey hd h1, MapKept.run_setObj_map _ hb, Result.andThen]
 ·have hj : es[j]? = some e := by simpa using h2
  have hlt : j < es.size := (Array.getElem?_eq_some_iff.1 hj).1
  have hel : (es.eraseIdxIfInBounds j).toList = es.toList.eraseIdx j := by
   unfold Array.eraseIdxIfInBounds
   rw [dif_pos hlt, Array.toList_eraseIdx]
  have hsub : ∀ x ∈ (es.eraseIdxIfInBounds j).toList, x ∈ es.toList := fun x hx => by rw [hel] at hx; exact (List.eraseIdx_sublist _ _).subset hx
  have hdel : DelE es (es.eraseIdxIfInBounds j) (.int kd z) := by
   intro x
   constructor
   ·intro hx
    refine ⟨hsub x hx, fun hk' => ?_⟩
    have hxe : x = e := key_inj hE' (hsub x hx) (List.mem_of_getElem? h2) (hk'.trans h3.symm)
    subst hxe
    rw [hel] at hx
    obtain ⟨i, hi⟩ := List.mem_iff_getElem?.1 hx
    rw [List.getElem?_eraseIdx] at hi
    have hn := hs.2.2
    have h4 : (es.toList.map (·.key))[j]? = some x.key := by simp only [List.getElem?_map, h2, Option.map_some]
    split at hi
    ·have h5 : (es.toList.map (·.key))[i]? = some x.key := by simp only [List.getElem?_map, hi, Option.map_some]
     have := (List.getElem?_inj (List.getElem?_eq_some_iff.1 h5).1 hn).1 (h5.trans h4.symm)
     omega
    ·have h5 : (es.toList.map (·.key))[i + 1]? = some x.key := by simp only [List.getElem?_map, hi, Option.map_some]
     have := (List.getElem?_inj (List.getElem?_eq_some_iff.1 h5).1 hn).1 (h5.trans h4.symm)
     omega
   ·rintro ⟨hx, hk'⟩
    rw [hel]
    obtain ⟨i, hi⟩ := List.mem_iff_getElem?.1 hx
    have hij : i ≠ j := fun e' => by
     subst e'
     rw [h2] at hi
     have : e = x := Option.some.inj hi
     subst this
     exact hk' h3
    rw [List.mem_iff_getElem?]
    rcases Nat.lt_or_gt_of_ne hij with hlt' | hlt'
    ·exact ⟨i, by rw [List.getElem?_eraseIdx, if_pos hlt']; exact hi⟩
    ·exact ⟨i - 1, by rw [List.getElem?_eraseIdx, if_neg (by omega), show i - 1 + 1 = i from by omega]; exact hi⟩
  refine ⟨{ w with heap := w.heap.setIfInBounds r (.map (es.eraseIdxIfInBounds j) clock) }, _, ?_, (MapKept.heap_set hb).1, fin _ (stamped_erase hs j) hdel, hdel, fr_set hb, by simp⟩
  simp [Builtin.delete_, run_underlying hm, MapKept.run_getObj_map hb, MapKept.run_checkKey hd hk, MapKept.run_findKey hd h1, MapKept.run_setObj_map _ hb, Result.andThen]
def UpdE (es : Array MapEntry) (ck : Nat) (es' : Array MapEntry) (ck' : Nat) (k : Value) : Prop :=
 (∃ x ∈ es.toList, x.key = k) → ck' = ck ∧ ∀ (y : Value) (n : Nat), (∃ x ∈ es'.toList, x.key = y ∧ x.born = n) ↔ ∃ x ∈ es.toList, x.key = y ∧ x.born = n
theorem modify_keys {k : Value} {v : Value} {j : Nat} {e : MapEntry} (hj : es[j]? = some e) (hk : e.key = k) (y : Value) (n : Nat) : (∃ x ∈ (es.modify j fun e => { e with key := k, val := v }).toList, x.key = y ∧ x.born = n) ↔ ∃ x ∈ es.toList, x.key = y ∧ x.born = n := by
 constructor
 ·rintro ⟨x, hx, h1, h2⟩
  obtain ⟨i, hi⟩ := List.mem_iff_getElem?.1 hx
  rw [Array.getElem?_toList, Array.getElem?_modify] at hi
  by_cases hij : j = i
  ·subst hij
   rw [if_pos rfl, hj] at hi
   cases hi
   exact ⟨e, List.mem_of_getElem? (by rw [Array.getElem?_toList]; exact hj), hk.trans h1, h2⟩
  ·rw [if_neg hij] at hi
   exact ⟨x, List.mem_of_getElem? (by rw [Array.getElem?_toList]; exact hi), h1, h2⟩
 ·rintro ⟨x, hx, h1, h2⟩
  obtain ⟨i, hi⟩ := List.mem_iff_getElem?.1 hx
  rw [Array.getElem?_toList] at hi
  by_cases hij : j = i
  ·subst hij
   rw [hj] at hi
   cases hi
   refine ⟨{ e with key := k, val := v }, List.mem_of_getElem? (i := j) ?_, hk.symm.trans h1, h2⟩
   rw [Array.getElem?_toList, Array.getElem?_modify, if_pos rfl, hj]
   rfl
  ·refine ⟨x, List.mem_of_getElem? (i := i) ?_, h1, h2⟩
   rw [Array.getElem?_toList, Array.getElem?_modify, if_neg hij]
   exact hi
theorem MapE.update (hb : w.heap[r]? = some (.map es clock)) (hE : MapE es clock kd f) (hm : P.underlying mty = some (.map kt et)) (hd : P.underlying kt = some (.int kd)) (z : Int) (v : Value) :
  ∃ w' es' ck', (Instr.mapUpdate mty (.map (some r)) (.int kd z) v).run P w = .ok () w' ∧ w'.heap[r]? = some (.map es' ck') ∧ MapE es' ck' kd (upd f z v) ∧ UpdE es clock es' ck' (.int kd z) ∧ Fr (· = r) w w' ∧ w'.heap.size = w.heap.size := by
 obtain ⟨hs, hks, hf⟩ := hE
 have hk : IsKey (.int kd) (.int kd z) := rfl
 rcases findNow_spec hk es.toList 0 hks with ⟨h1, h2⟩ | ⟨j, e, h1, h2, h3⟩
 ·refine ⟨{ w with heap := w.heap.setIfInBounds r (.map (es.push { key := .int kd z, val := v, born := clock }) (clock + 1)) }, _, _, ?_, (MapKept.heap_set hb).1, ⟨stamped_push hs h2, ?_, push_holds h2 hf⟩, fun ⟨x, hx, hk'⟩ => absurd hk' (h2 x hx), fr_set hb, by simp⟩
  ·simp [Instr.mapUpdate, run_underlying hm, MapKept.run_getObj_map hb, MapKept.run_checkKey hd hk, MapKept.run_findKey hd h1, MapKept.run_setObj_map _ hb, Result.andThen]
  ·intro x hx
   simp only [Array.toList_push, List.mem_append, List.mem_singleton] at hx
   rcases hx with hx | rfl
   ·exact hks x hx
   ·exact hk
 ·have hj : es[j]? = some e := by simpa using h2
  have hkey : ∀ e', es[j]? = some e' → ({ e' with key := Value.int kd z, val := v } : MapEntry).key = e'.key := fun e' he' => by rw [hj] at he'; cases he'; exact h3.symm
  refine ⟨{ w with heap := w.heap.setIfInBounds r (.map (es.modify j fun e => { e with key := .int kd z, val := v }) clock) }, _, _, ?_, (MapKept.heap_set hb).1, ⟨stamped_modify hs _ _ (fun _ _ => rfl) (fun e' _ he' => hkey e' he'), isKey_modify hks _ _ hkey, modify_holds hs hj h3 _ (fun x => .inr (fun _ => rfl)) rfl hf⟩, fun _ => ⟨rfl, modify_keys hj h3⟩, fr_set hb, by simp⟩
  simp [Instr.mapUpdate, run_underlying hm, MapKept.run_getObj_map hb, MapKept.run_checkKey hd hk, MapKept.run_findKey hd h1, hj, h3, MapKept.run_keyThatStays hk, MapKept.run_setObj_map _ hb, Result.andThen]
theorem IterE.upd {es' : Array MapEntry} {ck' : Nat} {left : List Int} {z : Int} (h : IterE w b r es clock kd left (some z)) (hu : UpdE es clock es' ck' (.int kd z)) : IterE w b r es' ck' kd left (some z) := by
 obtain ⟨seen, h1, h2, h3, h4⟩ := h
 obtain ⟨x, hx, hk, _⟩ := h4 z rfl
 obtain ⟨rfl, hv⟩ := hu ⟨x, hx, hk⟩
 refine ⟨seen, h1, h2, fun y => ?_, fun y e => ?_⟩
 ·rw [h3 y]
  constructor
  ·rintro ⟨x, hx, hk, hb⟩
   obtain ⟨x', a, b, c⟩ := (hv (Value.int kd y) x.born).2 ⟨x, hx, hk, rfl⟩
   exact ⟨x', a, b, by rw [c]; exact hb⟩
  ·rintro ⟨x, hx, hk, hb⟩
   obtain ⟨x', a, b, c⟩ := (hv (Value.int kd y) x.born).1 ⟨x, hx, hk, rfl⟩
   exact ⟨x', a, b, by rw [c]; exact hb⟩
 ·obtain ⟨x, hx, hk, hb⟩ := h4 y e
  obtain ⟨x', a, b, c⟩ := (hv (Value.int kd y) x.born).2 ⟨x, hx, hk, rfl⟩
  exact ⟨x', a, b, by rw [c]; exact hb⟩
theorem MapI.clear (h : MapI w r kd f) (hm : P.underlying mty = some (.map kt et)) (ty : TypeId) :
  ∃ w', (Builtin.clear_ #[mty] ty #[.map (some r)]).run P w = .ok (.tuple #[]) w' ∧ MapI w' r kd (fun _ => none) ∧ Fr (· = r) w w' ∧ w'.heap.size = w.heap.size := by
 obtain ⟨es, c, hb, _⟩ := h
 refine ⟨{ w with heap := w.heap.setIfInBounds r (.map #[] c) }, ?_, ⟨#[], c, (MapKept.heap_set hb).1, stamped_empty c, by simp, by simp⟩, fr_set hb, by simp⟩
 simp [Builtin.clear_, run_underlying hm, MapKept.run_getObj_map hb, MapKept.run_setObj_map _ hb, Result.andThen]
theorem run_range (hm : P.underlying mty = some (.map kt et)) (hb : w.heap[r]? = some (.map es clock)) :
  (Instr.range mty (.map (some r))).run P w = .ok (.pointer (some ⟨w.heap.size, 0, none⟩)) (w.alloc (.mapIter (some r) clock #[] clock)) := by
 simp [Instr.range, run_underlying hm, MapKept.run_getObj_map hb]
theorem nodup_map {α β : Type} (g : α → β) : ∀ (l : List α), (∀ x ∈ l, ∀ y ∈ l, g x = g y → x = y) → l.Nodup → (l.map g).Nodup
 | [], _, _ => by simp
 | x :: l, hi, hn => by
  rw [List.nodup_cons] at hn
  rw [List.map_cons, List.nodup_cons]
  refine ⟨fun hm => ?_, nodup_map g l (fun a ha b hb => hi a (List.mem_cons_of_mem _ ha) b (List.mem_cons_of_mem _ hb)) hn.2⟩
  obtain ⟨y, hy, e⟩ := List.mem_map.1 hm
  have := hi y (List.mem_cons_of_mem _ hy) x (by simp) e
  subst this
  exact hn.1 hy
theorem nodup_of_map {α β : Type} (g : α → β) : ∀ (l : List α), (l.map g).Nodup → l.Nodup
 | [], _ => by simp
 | x :: l, hn => by
  rw [List.map_cons, List.nodup_cons] at hn
  rw [List.nodup_cons]
  exact ⟨fun hm => hn.1 (List.mem_map.2 ⟨x, hm, rfl⟩), nodup_of_map g l hn.2⟩
def keyZ (x : MapEntry) : Int := match x.key with | .int _ z => z | _ => 0
theorem key_of {x : MapEntry} (hE : MapE es clock kd f) (hx : x ∈ es.toList) : x.key = .int kd (keyZ x) := by
 have := hE.2.1 x hx
 unfold keyZ
 cases hk : x.key <;> rw [hk] at this <;> simp [IsKey] at this ⊢
 exact this
theorem IterE.start (hE : MapE es clock kd f) (hb : w.heap[b]? = some (.mapIter (some r) clock #[] clock)) : ∃ left : List Int, IterE w b r es clock kd left none ∧ left.Nodup ∧ ∀ z, z ∈ left ↔ (f z).isSome = true := by
 have hn : (es.toList.map keyZ).Nodup := nodup_map keyZ _ (fun x hx y hy e => key_inj hE hx hy (by rw [key_of hE hx, key_of hE hy, e])) (nodup_of_map _ _ hE.1.2.2)
 have hm : ∀ z, z ∈ es.toList.map keyZ ↔ ∃ x ∈ es.toList, x.key = .int kd z := fun z => by
  rw [List.mem_map]
  constructor
  ·rintro ⟨x, hx, rfl⟩; exact ⟨x, hx, key_of hE hx⟩
  ·rintro ⟨x, hx, e⟩
   refine ⟨x, hx, ?_⟩
   have := key_of hE hx
   rw [this] at e
   simpa using e
 refine ⟨es.toList.map keyZ, ⟨#[], hb, hn, fun z => by rw [hm]; simp, fun z e => by cases e⟩, hn, fun z => ?_⟩
 rw [hm, Option.isSome_iff_exists]
 constructor
 ·rintro ⟨x, hx, e⟩; exact ⟨x.val, (hE.2.2 z _).2 ⟨x, hx, e, rfl⟩⟩
 ·rintro ⟨v, hv⟩
  obtain ⟨x, hx, e, _⟩ := (hE.2.2 z v).1 hv
  exact ⟨x, hx, e⟩
theorem run_getObj_iter {since last : Nat} {seen : Array Nat} {m : Option Nat} (hb : w.heap[b]? = some (.mapIter m since seen last)) : (getObj b).run P w = .ok (.mapIter m since seen last) w := by
 simp [getObj, Sem.run, hb]
theorem run_setObj_iter {since last : Nat} {seen : Array Nat} {m : Option Nat} (o : Obj) (hb : w.heap[b]? = some (.mapIter m since seen last)) : (setObj b o).run P w = .ok () { w with heap := w.heap.setIfInBounds b o } := by
 simp [setObj, Sem.run, hb]
theorem IterE.next {left : List Int} {cur : Option Int} (hE : MapE es clock kd f) (hmb : w.heap[r]? = some (.map es clock)) (h : IterE w b r es clock kd left cur) (ty : TypeId) :
  (left = [] ∧ ∃ w', (Instr.next (.pointer (some ⟨b, 0, none⟩)) false ty).run P w = .ok (.tuple #[.bool false]) w' ∧ w'.heap = w.heap ∧ w'.os = w.os ∧ w'.tape = w.tape ∧ w'.output = w.output) ∨
  ∃ (z : Int) (v : Value) (w' : World), z ∈ left ∧ f z = some v ∧ (Instr.next (.pointer (some ⟨b, 0, none⟩)) false ty).run P w = .ok (.tuple #[.bool true, .int kd z, v]) w' ∧ IterE w' b r es clock kd (left.erase z) (some z) ∧ Fr (· = b) w w' ∧ w'.heap.size = w.heap.size := by
 obtain ⟨seen, hb, hn, hl, hc⟩ := h
 have hborn : ∀ x ∈ es.toList, x.born < clock := hE.1.1
 have hu : (!seen.isEmpty && !es.isEmpty && es.all (fun e => decide (e.born ≥ clock))) = false := by
  cases he : es.isEmpty with
  | true => simp
  | false =>
   have hpos : 0 < es.size := by
    have : es ≠ #[] := by simpa using he
    rcases Nat.eq_zero_or_pos es.size with h0 | h0
    ·exact absurd (Array.eq_empty_of_size_eq_zero h0) this
    ·exact h0
   have : es.all (fun e => decide (e.born ≥ clock)) = false := by
    rw [Bool.eq_false_iff]
    intro hall
    rw [Array.all_eq_true] at hall
    have h1 := hall 0 hpos
    have h2 := hborn es[0] (by simp)
    simp only [ge_iff_le, decide_eq_true_eq] at h1
    omega
   simp [this]
 have hold : (es.filter (fun e => !seen.contains e.born)).filter (fun e => decide (e.born < clock)) = es.filter (fun e => !seen.contains e.born) := by
  apply Array.ext'
  rw [Array.toList_filter, Array.toList_filter]
  rw [List.filter_eq_self.2]
  intro x hx
  simpa using hborn x (List.mem_filter.1 hx).1
 have hnew : (es.filter (fun e => !seen.contains e.born)).filter (fun e => decide (e.born ≥ clock)) = #[] := by
  apply Array.ext'
  rw [Array.toList_filter, Array.toList_filter]
  rw [List.filter_eq_nil_iff.2]
  intro x hx
  have := hborn x (List.mem_filter.1 hx).1
  simp; omega
 generalize hF : es.filter (fun e => !seen.contains e.born) = F at *
 have hFm : ∀ x, x ∈ F.toList ↔ x ∈ es.toList ∧ x.born ∉ seen := fun x => by
  rw [← hF, Array.toList_filter, List.mem_filter]
  simp
 by_cases hne : F = #[]
 ·left
  have hle : left = [] := by
   cases left with
   | nil => rfl
   | cons z l =>
    obtain ⟨x, hx, _, hs⟩ := (hl z).1 (by simp)
    have := (hFm x).2 ⟨hx, hs⟩
    rw [hne] at this
    simp at this
  refine ⟨hle, w, ?_, rfl, rfl, rfl, rfl⟩
  simp only [Instr.next, Sem.run_bind, run_getObj_iter hb, Result.andThen_ok, MapKept.run_getObj_map hmb, hu, Bool.false_eq_true, if_false]
  rw [hF, hold, hnew, hne]
  simp [choose, Sem.run, Question.forced]
 ·right
  have hpos : 0 < F.size := by
   rcases Nat.eq_zero_or_pos F.size with h0 | h0
   ·exact absurd (Array.eq_empty_of_size_eq_zero h0) hne
   ·exact h0
  have hemp : F.isEmpty = false := by simpa using hne
  have step : ∀ (k : Nat) (w1 : World), k < F.size → w1.heap = w.heap → ∃ x, F[k]? = some x ∧ x ∈ es.toList ∧ x.born ∉ seen ∧ f (keyZ x) = some x.val ∧ keyZ x ∈ left ∧
    IterE { w1 with heap := w1.heap.setIfInBounds b (.mapIter (some r) clock (seen.push x.born) clock) } b r es clock kd (left.erase (keyZ x)) (some (keyZ x)) := fun k w1 hk hw1 => by
   have hg : F[k]? = some F[k] := Array.getElem?_eq_getElem hk
   obtain ⟨hx, hs⟩ := (hFm F[k]).1 (by simp)
   refine ⟨F[k], hg, hx, hs, (hE.2.2 _ _).2 ⟨_, hx, key_of hE hx, rfl⟩, (hl _).2 ⟨_, hx, key_of hE hx, hs⟩, seen.push F[k].born, ?_, hn.erase _, fun z => ?_, fun z e => ?_⟩
   ·rw [hw1]; exact (MapKept.heap_set hb).1
   ·rw [hn.mem_erase_iff, hl]
    constructor
    ·rintro ⟨hz, y, hy, hky, hys⟩
     refine ⟨y, hy, hky, ?_⟩
     rw [Array.mem_push, not_or]
     refine ⟨hys, fun e => hz ?_⟩
     have := born_inj hE hy hx e
     subst this
     have := key_of hE hy
     rw [this] at hky
     simpa using hky.symm
    ·rintro ⟨y, hy, hky, hys⟩
     rw [Array.mem_push, not_or] at hys
     refine ⟨fun e => hys.2 ?_, y, hy, hky, hys.1⟩
     have : y = F[k] := key_inj hE hy hx (by rw [hky, key_of hE hx, e])
     rw [this]
   ·injection e with e
    subst e
    exact ⟨F[k], hx, key_of hE hx, by simp⟩
  have fin : ∀ (k : Nat) (w1 : World), k < F.size → w1.heap = w.heap → w1.os = w.os → w1.tape = w.tape → w1.output = w.output → (Instr.next (.pointer (some ⟨b, 0, none⟩)) false ty).run P w = (do
    match (F.map some)[k]? with
    | some (some e) =>
     setObj b (.mapIter (some r) clock (seen.push e.born) clock)
     pure (.tuple #[.bool true, e.key, e.val])
    | some none => pure (.tuple #[.bool false])
    | none => stuck "Next: no such candidate" : Sem Value).run P w1 →
    ∃ (z : Int) (v : Value) (w' : World), z ∈ left ∧ f z = some v ∧ (Instr.next (.pointer (some ⟨b, 0, none⟩)) false ty).run P w = .ok (.tuple #[.bool true, .int kd z, v]) w' ∧ IterE w' b r es clock kd (left.erase z) (some z) ∧ Fr (· = b) w w' ∧ w'.heap.size = w.heap.size := fun k w1 hk hw1 ho ht hou hrun => by
   obtain ⟨x, hx1, hx2, hx3, hx4, hx5, hx6⟩ := step k w1 hk hw1
   refine ⟨keyZ x, x.val, { w1 with heap := w1.heap.setIfInBounds b (.mapIter (some r) clock (seen.push x.born) clock) }, hx5, hx4, ?_, hx6, ⟨ho, ht, hou, by simp [hw1], fun j _ hj => by
    show (w1.heap.setIfInBounds b _)[j]? = _
    rw [hw1]; exact (MapKept.heap_set hb).2 j hj⟩, by simp [hw1]⟩
   have hb1 : w1.heap[b]? = some (.mapIter (some r) clock seen clock) := by rw [hw1]; exact hb
   rw [hrun]
   simp [hx1, run_setObj_iter _ hb1, key_of hE hx2]
  by_cases h1 : F.size ≤ 1
  ·refine fin 0 w hpos rfl rfl rfl rfl ?_
   simp only [Instr.next, Sem.run_bind, run_getObj_iter hb, Result.andThen_ok, MapKept.run_getObj_map hmb, hu, Bool.false_eq_true, if_false]
   rw [hF, hold, hnew]
   simp [choose, Sem.run, Question.forced, hemp, h1]
   rfl
  ·have hlt : w.tape w.drawn (.mapNext F.size) % F.size < F.size := Nat.mod_lt _ hpos
   refine fin (w.tape w.drawn (.mapNext F.size) % F.size) { w with drawn := w.drawn + 1 } hlt rfl rfl rfl rfl ?_
   simp only [Instr.next, Sem.run_bind, run_getObj_iter hb, Result.andThen_ok, MapKept.run_getObj_map hmb, hu, Bool.false_eq_true, if_false]
   rw [hF, hold, hnew]
   simp [choose, Sem.run, Question.forced, Question.cut, hemp, h1]
   rfl
theorem IterE.entry {left : List Int} {z : Int} (hE : MapE es clock kd f) (hmb : w.heap[r]? = some (.map es clock)) (h : IterE w b r es clock kd left (some z)) :
  ∃ v, f z = some v ∧ (Instr.entry (.pointer (some ⟨b, 0, none⟩))).run P w = .ok (.tuple #[.int kd z, v]) w := by
 obtain ⟨seen, hb, hn, hl, hc⟩ := h
 obtain ⟨x, hx, hk, hs⟩ := hc z rfl
 refine ⟨x.val, (hE.2.2 _ _).2 ⟨x, hx, hk, rfl⟩, ?_⟩
 have hfind : es.find? (fun e => e.born == x.born) = some x := by
  rw [← Array.find?_toList]
  cases hf : es.toList.find? (fun e => e.born == x.born) with
  | none => have := List.find?_eq_none.1 hf x hx; simp at this
  | some y =>
   have h1 := List.find?_some hf
   have h2 := List.mem_of_find?_eq_some hf
   exact congrArg some (born_inj hE h2 hx (by simpa using h1))
 simp [Instr.entry, run_getObj_iter hb, MapKept.run_getObj_map hmb, hs, hfind, hk]
theorem run_len_map (hm : P.underlying mty = some (.map kt et)) (hb : w.heap[r]? = some (.map es clock)) (ty : TypeId) : (Builtin.len_ #[mty] ty #[.map (some r)]).run P w = .ok (.int .i64 es.size) w := by
 simp [Builtin.len_, run_underlying hm, MapKept.run_getObj_map hb, goInt]
theorem nodup_len {l m : List Int} (hl : l.Nodup) (hm : m.Nodup) (h : ∀ z, z ∈ l ↔ z ∈ m) : l.length = m.length := by
 have := (List.perm_ext_iff_of_nodup hl hm).2 h
 exact this.length_eq
theorem len_of {ks : List Int} (hE : MapE es clock kd f) (hn : ks.Nodup) (hk : ∀ z, z ∈ ks ↔ (f z).isSome = true) : es.size = ks.length := by
 have hn' : (es.toList.map keyZ).Nodup := nodup_map keyZ _ (fun x hx y hy e => key_inj hE hx hy (by rw [key_of hE hx, key_of hE hy, e])) (nodup_of_map _ _ hE.1.2.2)
 have := nodup_len hn' hn fun z => by
  rw [hk, Option.isSome_iff_exists, List.mem_map]
  constructor
  ·rintro ⟨x, hx, rfl⟩; exact ⟨x.val, (hE.2.2 _ _).2 ⟨x, hx, key_of hE hx, rfl⟩⟩
  ·rintro ⟨v, hv⟩
   obtain ⟨x, hx, e, _⟩ := (hE.2.2 z v).1 hv
   refine ⟨x, hx, ?_⟩
   have := key_of hE hx
   rw [this] at e
   simpa using e
 rw [← this]; simp
end
end Go.Proofs.Ytafcbipmmjegcaa
