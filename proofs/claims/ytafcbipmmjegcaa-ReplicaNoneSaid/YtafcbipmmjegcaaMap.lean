/- Maps with keys of an integer kind that the call itself made: what a look-up answers, what a store leaves. No program is named here. -/
import Derived.Test.YtafcbipmmjegcaaBaseB
import Derived.MapKept
namespace Go.Proofs.Ytafcbipmmjegcaa
open Go.RowKit Go.MapKept

/-- block r is a map with keys of kind kd that holds f -/
def MapI (w : World) (r : Nat) (kd : IntKind) (f : Int → Option Value) : Prop :=
  ∃ es clock, w.heap[r]? = some (.map es clock) ∧ Stamped es clock ∧ (∀ x ∈ es.toList, IsKey (.int kd) x.key) ∧ ∀ z v, f z = some v ↔ ∃ x ∈ es.toList, x.key = .int kd z ∧ x.val = v
/-- the entry of the key z bears this stamp -/
def BornI (w : World) (r : Nat) (kd : IntKind) (stamp : Nat) (z : Int) : Prop := ∃ es clock, w.heap[r]? = some (.map es clock) ∧ ∃ x ∈ es.toList, x.born = stamp ∧ x.key = .int kd z
def upd (f : Int → Option Value) (z : Int) (v : Value) : Int → Option Value := fun y => if y = z then some v else f y

section
variable {P : Program} {w w' : World} {r : Nat} {kd : IntKind} {f : Int → Option Value} {mty kt et : TypeId}
theorem MapI.keep (h : MapI w r kd f) (hb : w'.heap[r]? = w.heap[r]?) : MapI w' r kd f := by
  obtain ⟨es, c, hh, rest⟩ := h
  exact ⟨es, c, by rw [hb]; exact hh, rest⟩
theorem BornI.keep {s : Nat} {z : Int} (h : BornI w r kd s z) (hb : w'.heap[r]? = w.heap[r]?) : BornI w' r kd s z := by
  obtain ⟨es, c, hh, rest⟩ := h
  exact ⟨es, c, by rw [hb]; exact hh, rest⟩
theorem MapI.lt (h : MapI w r kd f) : r < w.heap.size := by
  obtain ⟨es, c, hh, _⟩ := h
  exact (Array.getElem?_eq_some_iff.1 hh).1
theorem MapI.new (w : World) (kd : IntKind) : MapI (w.alloc (.map #[] 0)) w.heap.size kd (fun _ => none) :=
  ⟨#[], 0, (MapKept.heap_alloc w _).1, stamped_empty 0, by simp, by simp⟩
theorem MapI.congr {g : Int → Option Value} (h : MapI w r kd f) (e : ∀ z, g z = f z) : MapI w r kd g := by
  have : g = f := funext e
  rw [this]; exact h

theorem findNow_none {es : Array MapEntry} {z : Int} (h : ∀ x ∈ es.toList, x.key ≠ .int kd z) (hf : ∀ z v, f z = some v ↔ ∃ x ∈ es.toList, x.key = .int kd z ∧ x.val = v) : f z = none := by
  cases hz : f z with
  | none => rfl
  | some v =>
    obtain ⟨x, hx, hk, _⟩ := (hf z v).1 hz
    exact absurd hk (h x hx)

theorem MapI.lookup (h : MapI w r kd f) (hm : P.underlying mty = some (.map kt et)) (hd : P.underlying kt = some (.int kd)) {zero : Value} (hz : (zeroValue et).run P w = .ok zero w) (z : Int) :
    (Instr.lookup mty (.map (some r)) (.int kd z) false).run P w = .ok ((f z).getD zero) w := by
  obtain ⟨es, c, hb, hs, hks, hf⟩ := h
  have hk : IsKey (.int kd) (.int kd z) := rfl
  rcases findNow_spec hk es.toList 0 hks with ⟨h1, h2⟩ | ⟨j, e, h1, h2, h3⟩
  · rw [findNow_none h2 hf]
    simp [Instr.lookup, run_underlying hm, MapKept.run_getObj_map hb, MapKept.run_checkKey hd hk, MapKept.run_findKey hd h1, Result.andThen, hz]
  · rw [(hf z e.val).2 ⟨e, List.mem_of_getElem? h2, h3, rfl⟩]
    simp [Instr.lookup, run_underlying hm, MapKept.run_getObj_map hb, MapKept.run_checkKey hd hk, MapKept.run_findKey hd h1, Result.andThen]
theorem MapI.lookup_ok (h : MapI w r kd f) (hm : P.underlying mty = some (.map kt et)) (hd : P.underlying kt = some (.int kd)) {zero : Value} (hz : (zeroValue et).run P w = .ok zero w) (z : Int) :
    (Instr.lookup mty (.map (some r)) (.int kd z) true).run P w = .ok (.tuple #[(f z).getD zero, .bool (f z).isSome]) w := by
  obtain ⟨es, c, hb, hs, hks, hf⟩ := h
  have hk : IsKey (.int kd) (.int kd z) := rfl
  rcases findNow_spec hk es.toList 0 hks with ⟨h1, h2⟩ | ⟨j, e, h1, h2, h3⟩
  · rw [findNow_none h2 hf]
    simp [Instr.lookup, run_underlying hm, MapKept.run_getObj_map hb, MapKept.run_checkKey hd hk, MapKept.run_findKey hd h1, Result.andThen, hz]
  · rw [(hf z e.val).2 ⟨e, List.mem_of_getElem? h2, h3, rfl⟩]
    simp [Instr.lookup, run_underlying hm, MapKept.run_getObj_map hb, MapKept.run_checkKey hd hk, MapKept.run_findKey hd h1, Result.andThen]

theorem fr_set {o o' : Obj} (hb : w.heap[r]? = some o) : Fr (· = r) w { w with heap := w.heap.setIfInBounds r o' } :=
  ⟨rfl, rfl, rfl, by simp, fun k _ hk => (MapKept.heap_set hb).2 k hk⟩

/-- what a push leaves -/
theorem push_holds {es : Array MapEntry} {c : Nat} {z : Int} {v : Value} (h2 : ∀ x ∈ es.toList, x.key ≠ .int kd z) (hf : ∀ z v, f z = some v ↔ ∃ x ∈ es.toList, x.key = .int kd z ∧ x.val = v) :
    ∀ y u, upd f z v y = some u ↔ ∃ x ∈ (es.push { key := .int kd z, val := v, born := c }).toList, x.key = .int kd y ∧ x.val = u := by
  intro y u
  unfold upd
  simp only [Array.toList_push, List.mem_append, List.mem_singleton]
  by_cases hy : y = z
  · subst hy
    rw [if_pos rfl]
    constructor
    · intro e; cases e; exact ⟨_, .inr rfl, rfl, rfl⟩
    · rintro ⟨x, hx | rfl, hk, hv⟩
      · exact absurd hk (h2 x hx)
      · exact congrArg some hv
  · rw [if_neg hy, hf]
    constructor
    · rintro ⟨x, hx, hk, hv⟩; exact ⟨x, .inl hx, hk, hv⟩
    · rintro ⟨x, hx | rfl, hk, hv⟩
      · exact ⟨x, hx, hk, hv⟩
      · simp only [Value.int.injEq, true_and] at hk; exact absurd hk.symm hy

/-- what a change of the one entry of a key leaves -/
theorem modify_holds {es : Array MapEntry} {c j : Nat} {e : MapEntry} {z : Int} {v : Value} (hs : Stamped es c) (hj : es[j]? = some e) (h3 : e.key = .int kd z) (g : MapEntry → MapEntry) (hgk : ∀ x, (g x).key = x.key ∨ (x.key = .int kd z → (g x).key = .int kd z)) (hgv : (g e).val = v)
    (hf : ∀ z v, f z = some v ↔ ∃ x ∈ es.toList, x.key = .int kd z ∧ x.val = v) :
    ∀ y u, upd f z v y = some u ↔ ∃ x ∈ (es.modify j g).toList, x.key = .int kd y ∧ x.val = u := by
  have hkey : (g e).key = .int kd z := by
    rcases hgk e with h | h
    · rw [h, h3]
    · exact h h3
  have hmem : ∀ x, x ∈ (es.modify j g).toList ↔ ∃ i, ∃ y, es[i]? = some y ∧ x = if i = j then g y else y := by
    intro x
    rw [List.mem_iff_getElem?]
    constructor
    · rintro ⟨i, hi⟩
      rw [Array.getElem?_toList, Array.getElem?_modify] at hi
      cases hy : es[i]? with
      | none => rw [hy] at hi; split at hi <;> simp at hi
      | some y =>
        rw [hy] at hi
        refine ⟨i, y, hy, ?_⟩
        by_cases hij : j = i
        · rw [if_pos hij] at hi; rw [if_pos hij.symm]; simpa using hi.symm
        · rw [if_neg hij] at hi; rw [if_neg (fun h => hij h.symm)]; simpa using hi.symm
    · rintro ⟨i, y, hy, rfl⟩
      refine ⟨i, ?_⟩
      rw [Array.getElem?_toList, Array.getElem?_modify]
      by_cases hij : j = i
      · rw [if_pos hij, if_pos hij.symm, hy]; rfl
      · rw [if_neg hij, if_neg (fun h => hij h.symm), hy]
  have huniq : ∀ i y, es[i]? = some y → y.key = .int kd z → i = j := by
    intro i y hy hk
    have hn := hs.2.2
    have h1 : (es.toList.map (·.key))[i]? = some (.int kd z) := by simp [hy, hk]
    have h2 : (es.toList.map (·.key))[j]? = some (.int kd z) := by simp [hj, h3]
    exact (List.getElem?_inj (List.getElem?_eq_some_iff.1 h1).1 hn).1 (h1.trans h2.symm)
  intro y u
  unfold upd
  by_cases hy : y = z
  · subst hy
    rw [if_pos rfl]
    constructor
    · intro e'; cases e'
      exact ⟨g e, (hmem _).2 ⟨j, e, hj, by rw [if_pos rfl]⟩, hkey, hgv⟩
    · rintro ⟨x, hx, hk, hv⟩
      obtain ⟨i, y', hi, rfl⟩ := (hmem _).1 hx
      by_cases hij : i = j
      · subst hij
        rw [hj] at hi; cases hi
        rw [if_pos rfl] at hv
        rw [← hv, hgv]
      · rw [if_neg hij] at hk
        exact absurd (huniq i y' hi hk) hij
  · rw [if_neg hy, hf]
    constructor
    · rintro ⟨x, hx, hk, hv⟩
      obtain ⟨i, hi⟩ := List.mem_iff_getElem?.1 hx
      have hij : i ≠ j := by
        rintro rfl
        rw [Array.getElem?_toList, hj] at hi; cases hi
        rw [h3] at hk; simp only [Value.int.injEq, true_and] at hk; exact hy hk.symm
      exact ⟨x, (hmem _).2 ⟨i, x, by simpa using hi, by rw [if_neg hij]⟩, hk, hv⟩
    · rintro ⟨x, hx, hk, hv⟩
      obtain ⟨i, y', hi, rfl⟩ := (hmem _).1 hx
      by_cases hij : i = j
      · subst hij
        rw [hj] at hi; cases hi
        rw [if_pos rfl, hkey] at hk
        simp only [Value.int.injEq, true_and] at hk; exact absurd hk.symm hy
      · rw [if_neg hij] at hk hv
        exact ⟨y', List.mem_of_getElem? (by simpa using hi), hk, hv⟩

theorem MapI.update (h : MapI w r kd f) (hm : P.underlying mty = some (.map kt et)) (hd : P.underlying kt = some (.int kd)) (z : Int) (v : Value) :
    ∃ w', (Instr.mapUpdate mty (.map (some r)) (.int kd z) v).run P w = .ok () w' ∧ MapI w' r kd (upd f z v) ∧ Fr (· = r) w w' ∧ w'.heap.size = w.heap.size := by
  obtain ⟨es, c, hb, hs, hks, hf⟩ := h
  have hk : IsKey (.int kd) (.int kd z) := rfl
  rcases findNow_spec hk es.toList 0 hks with ⟨h1, h2⟩ | ⟨j, e, h1, h2, h3⟩
  · refine ⟨{ w with heap := w.heap.setIfInBounds r (.map (es.push { key := .int kd z, val := v, born := c }) (c + 1)) }, ?_, ⟨_, _, (MapKept.heap_set hb).1, stamped_push hs h2, ?_, push_holds h2 hf⟩, fr_set hb, by simp⟩
    · simp [Instr.mapUpdate, run_underlying hm, MapKept.run_getObj_map hb, MapKept.run_checkKey hd hk, MapKept.run_findKey hd h1, MapKept.run_setObj_map _ hb, Result.andThen]
    · intro x hx
      simp only [Array.toList_push, List.mem_append, List.mem_singleton] at hx
      rcases hx with hx | rfl
      · exact hks x hx
      · exact hk
  · have hj : es[j]? = some e := by simpa using h2
    have hkey : ∀ e', es[j]? = some e' → ({ e' with key := Value.int kd z, val := v } : MapEntry).key = e'.key := fun e' he' => by rw [hj] at he'; cases he'; exact h3.symm
    refine ⟨{ w with heap := w.heap.setIfInBounds r (.map (es.modify j fun e => { e with key := .int kd z, val := v }) c) }, ?_, ⟨_, _, (MapKept.heap_set hb).1, stamped_modify hs _ _ (fun _ _ => rfl) (fun e' _ he' => hkey e' he'), isKey_modify hks _ _ hkey, modify_holds hs hj h3 _ (fun x => .inr (fun _ => rfl)) rfl hf⟩, fr_set hb, by simp⟩
    simp [Instr.mapUpdate, run_underlying hm, MapKept.run_getObj_map hb, MapKept.run_checkKey hd hk, MapKept.run_findKey hd h1, hj, h3, MapKept.run_keyThatStays hk, MapKept.run_setObj_map _ hb, Result.andThen]

theorem MapI.entry (h : MapI w r kd f) (hm : P.underlying mty = some (.map kt et)) (hd : P.underlying kt = some (.int kd)) {zero : Value} (hz : (zeroValue et).run P w = .ok zero w) (z : Int) :
    ∃ (s : Nat) (w' : World), (Instr.mapEntry mty (.map (some r)) (.int kd z)).run P w = .ok (.tuple #[(f z).getD zero, .int .i64 (s : Int)]) w' ∧ MapI w' r kd (upd f z ((f z).getD zero)) ∧ BornI w' r kd s z ∧ Fr (· = r) w w' ∧ w'.heap.size = w.heap.size := by
  obtain ⟨es, c, hb, hs, hks, hf⟩ := h
  have hk : IsKey (.int kd) (.int kd z) := rfl
  rcases findNow_spec hk es.toList 0 hks with ⟨h1, h2⟩ | ⟨j, e, h1, h2, h3⟩
  · rw [findNow_none h2 hf]
    refine ⟨c, { w with heap := w.heap.setIfInBounds r (.map (es.push { key := .int kd z, val := zero, born := c }) (c + 1)) }, ?_, ⟨_, _, (MapKept.heap_set hb).1, stamped_push hs h2, ?_, push_holds h2 hf⟩, ⟨_, _, (MapKept.heap_set hb).1, { key := .int kd z, val := zero, born := c }, by simp, rfl, rfl⟩, fr_set hb, by simp⟩
    · simp [Instr.mapEntry, run_underlying hm, MapKept.run_getObj_map hb, MapKept.run_checkKey hd hk, MapKept.run_findKey hd h1, MapKept.run_setObj_map _ hb, Result.andThen, hz, goInt]
    · intro x hx
      simp only [Array.toList_push, List.mem_append, List.mem_singleton] at hx
      rcases hx with hx | rfl
      · exact hks x hx
      · exact hk
  · have hj : es[j]? = some e := by simpa using h2
    have hkey : ∀ e', es[j]? = some e' → ({ e' with key := Value.int kd z } : MapEntry).key = e'.key := fun e' he' => by rw [hj] at he'; cases he'; exact h3.symm
    have hfz : f z = some e.val := (hf z e.val).2 ⟨e, List.mem_of_getElem? h2, h3, rfl⟩
    rw [hfz]
    refine ⟨e.born, { w with heap := w.heap.setIfInBounds r (.map (es.modify j fun e => { e with key := .int kd z }) c) }, ?_, ⟨_, _, (MapKept.heap_set hb).1, stamped_modify hs _ _ (fun _ _ => rfl) (fun e' _ he' => hkey e' he'), isKey_modify hks _ _ hkey, modify_holds hs hj h3 _ (fun x => .inr (fun _ => rfl)) rfl hf⟩, ⟨_, _, (MapKept.heap_set hb).1, { e with key := .int kd z }, ?_, rfl, rfl⟩, fr_set hb, by simp⟩
    · simp [Instr.mapEntry, run_underlying hm, MapKept.run_getObj_map hb, MapKept.run_checkKey hd hk, MapKept.run_findKey hd h1, hj, h3, MapKept.run_keyThatStays hk, MapKept.run_setObj_map _ hb, Result.andThen, goInt]
    · rw [List.mem_iff_getElem?]
      exact ⟨j, by rw [Array.getElem?_toList, Array.getElem?_modify, if_pos rfl, hj]; rfl⟩

theorem MapI.store (h : MapI w r kd f) {s : Nat} {z : Int} (hb : BornI w r kd s z) (v : Value) :
    ∃ w', (Instr.entryStore mty (.map (some r)) (.int .i64 (s : Int)) v).run P w = .ok () w' ∧ MapI w' r kd (upd f z v) ∧ Fr (· = r) w w' ∧ w'.heap.size = w.heap.size := by
  obtain ⟨es, c, hb', hs, hks, hf⟩ := h
  obtain ⟨es2, c2, hb2, x, hx, hxb, hxk⟩ := hb
  rw [hb'] at hb2
  cases hb2
  obtain ⟨j, hj⟩ := List.mem_iff_getElem?.1 hx
  rw [Array.getElem?_toList] at hj
  have hfind : es.findIdx? (fun e => (e.born : Int) == (s : Int)) = some j := by
    rw [Array.findIdx?_eq_some_iff_getElem]
    have hlt := (Array.getElem?_eq_some_iff.1 hj).1
    have hje := (Array.getElem?_eq_some_iff.1 hj).2
    refine ⟨hlt, by rw [hje, hxb]; simp, fun i hi => ?_⟩
    have hne : es[i].born ≠ s := by
      intro he
      have hn := hs.2.1
      have h1 : (es.toList.map (·.born))[i]? = some s := by simp [he, show i < es.size by omega]
      have h2 : (es.toList.map (·.born))[j]? = some s := by simp [hlt, hje, hxb]
      have := (List.getElem?_inj (List.getElem?_eq_some_iff.1 h1).1 hn).1 (h1.trans h2.symm)
      omega
    simp only [beq_iff_eq]; omega
  refine ⟨{ w with heap := w.heap.setIfInBounds r (.map (es.modify j fun e => { e with val := v }) c) }, ?_, ⟨_, _, (MapKept.heap_set hb').1, stamped_modify hs _ _ (fun _ _ => rfl) (fun _ _ _ => rfl), isKey_modify hks _ _ (fun _ _ => rfl), modify_holds hs hj hxk _ (fun x => .inl rfl) rfl hf⟩, fr_set hb', by simp⟩
  simp [Instr.entryStore, MapKept.run_getObj_map hb', asInt, asIntOf, hfind, MapKept.run_setObj_map _ hb', Result.andThen]
end
end Go.Proofs.Ytafcbipmmjegcaa
