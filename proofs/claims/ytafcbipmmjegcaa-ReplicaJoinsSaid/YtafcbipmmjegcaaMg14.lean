/- Texts of this claim: Opn. -/
import Derived.Test.YtafcbipmmjegcaaMg13
import Derived.Deep.Slices
import Derived.Deep.Fields
namespace Go.Proofs.Ytafcbipmmjegcaa.Vm
open Go Go.RowKit Go.ChangeShapes Go.WideShapes Go.ChangeAt Go.Deep
inductive Cl where
 | int (k : IntKind)
 | bool
 | str
 | sl (agg : Bool) (k : Nat) (e : List Cl)
mutual
def Cl.Is : Cl → T → Prop
 | .int k, x => ∃ z, x = .v (.int k z) ∧ (Lit.int k z).wf = true
 | .bool, x => ∃ b, x = .v (.bool b)
 | .str, x => ∃ l : List UInt8, x = .v (.string ⟨l.toArray⟩) ∧ l.length ≤ maxLen
 | .sl agg k e, x => ∃ es : List T, x = .sl k es ∧ es.length ≤ maxLen ∧ ∀ y ∈ es, ∃ cs, ClsIs e cs ∧ y = if agg then .agg cs else cs.headD .und
def ClsIs : List Cl → List T → Prop
 | [], xs => xs = []
 | c :: cs, xs => ∃ x r, xs = x :: r ∧ c.Is x ∧ ClsIs cs r
end
theorem ClsIs.append : ∀ {a b : List Cl} {xs ys : List T}, ClsIs a xs → ClsIs b ys → ClsIs (a ++ b) (xs ++ ys)
 | [], b, xs, ys, h, k => by simp only [ClsIs] at h; subst h; simpa using k
 | c :: a, b, xs, ys, h, k => by
  simp only [ClsIs] at h
  obtain ⟨x, r, rfl, h1, h2⟩ := h
  simp only [List.cons_append, ClsIs]
  exact ⟨x, r ++ ys, rfl, h1, h2.append k⟩
theorem ClsIs.len : ∀ {a : List Cl} {xs : List T}, ClsIs a xs → xs.length = a.length
 | [], xs, h => by simp only [ClsIs] at h; subst h; rfl
 | c :: a, xs, h => by
  simp only [ClsIs] at h
  obtain ⟨x, r, rfl, h1, h2⟩ := h
  simp [h2.len]
theorem Cl.Is.one {c : Cl} {x : T} (h : c.Is x) : x.one = true := by
 cases c <;> simp only [Cl.Is] at h
 ·obtain ⟨z, rfl, _⟩ := h; rfl
 ·obtain ⟨z, rfl⟩ := h; rfl
 ·obtain ⟨z, rfl, _⟩ := h; rfl
 ·obtain ⟨z, rfl, _⟩ := h; rfl
theorem ClsIs.one : ∀ {a : List Cl} {xs : List T}, ClsIs a xs → xs.all T.one = true
 | [], xs, h => by simp only [ClsIs] at h; subst h; rfl
 | c :: a, xs, h => by
  simp only [ClsIs] at h
  obtain ⟨x, r, rfl, h1, h2⟩ := h
  simp [h1.one, h2.one]
def isAgg (P : Program) (t : TypeId) : Bool := match P.underlying t with | some (.struct _) => true | some (.array _ _) => true | _ => false
def fieldsCl (f : TypeId → Option (List Cl)) (P : Program) : List Field → Nat → Option (List Cl)
 | [], _ => some []
 | fd :: fs, o => if fd.offset = o then (match f fd.type, fieldsCl f P fs (o + P.cellsOf fd.type) with | some a, some b => some (a ++ b) | _, _ => none) else none
def arrCl (a : List Cl) : Nat → List Cl
 | 0 => []
 | n + 1 => a ++ arrCl a n
def clsOf (P : Program) : Nat → TypeId → Option (List Cl)
 | 0, _ => none
 | n + 1, t => match P.underlying t with
  | some (.int k) => some [.int k]
  | some .bool => some [.bool]
  | some .string => some [.str]
  | some (.slice e) => (match clsOf P n e with | some l => if l.length = P.cellsOf e ∧ 0 < l.length ∧ (isAgg P e = false → l.length = 1) then some [.sl (isAgg P e) (P.cellsOf e) l] else none | none => none)
  | some (.struct fs) => (match fieldsCl (clsOf P n) P fs.toList 0 with | some l => if l.length = P.cellsOf t then some l else none | none => none)
  | some (.array m e) => (match clsOf P n e with | some l => if l.length = P.cellsOf e ∧ m * l.length = P.cellsOf t then some (arrCl l m) else none | none => none)
  | _ => none
def promOf (W : World) : Pm := fun b o => match W.cell? ⟨b, o, none⟩ with | some v => if v.oneCell' = true then some v else none | none => none
theorem promOf_some {W : World} {b o : Nat} {v : Value} (h : W.cell? ⟨b, o, none⟩ = some v) (h1 : v.oneCell' = true) : promOf W b o = some v := by simp [promOf, h, h1]
theorem hrel_start (W : World) : HRel (promOf W) [] (fun _ => none) W where
 promise := fun b o v h => by
  unfold promOf at h
  split at h
  ·rename_i v' hv
   split at h
   ·rename_i h1
    injection h with h
    subst h
    exact ⟨hv, h1⟩
   ·cases h
  ·cases h
 objs := fun i x h => by simp at h
 apart := fun i j x y b h => by simp at h
 glob := fun b x h => by cases h
 sep := fun i x b h => by simp at h
theorem choose_list {α : Type} [Inhabited α] (n : Nat) (Q : Nat → α → Prop) (h : ∀ i, i < n → ∃ x, Q i x) : ∃ l : List α, l.length = n ∧ ∀ i x, l[i]? = some x → Q i x := choose_rows n Q h
section
variable {H : Type} {enc : TypeId × Value → H} {P : Program} {W : World}
theorem open_trod : ∀ (n : Nat) (t : TypeId) (l : List Cl), clsOf P n t = some l → ∀ (fuel : Nat) (vs : List Value) (y : DataW H × List MemPlace), DataW.trod enc P W 0 (fun _ => true) true fuel t vs = some y → ∃ cs, ClsIs l cs ∧ RelL (promOf W) cs vs
 | 0, t, l, h, fuel, vs, y, hy => by simp [clsOf] at h
 | n + 1, t, l, h, fuel, vs, y, hy => by
  unfold clsOf at h
  split at h
  ·rename_i k ht
   injection h with h; subst h
   obtain ⟨z, rfl, _, hw⟩ := DataW.trod_int ht hy
   exact ⟨[.v (.int k z)], by simp only [ClsIs, Cl.Is]; exact ⟨_, _, rfl, ⟨z, rfl, hw⟩, rfl⟩, by simp only [RelL, Rel]; exact ⟨_, _, rfl, rfl, rfl⟩⟩
  ·rename_i ht
   injection h with h; subst h
   obtain ⟨z, rfl, _⟩ := DataW.trod_bool ht hy
   exact ⟨[.v (.bool z)], by simp only [ClsIs, Cl.Is]; exact ⟨_, _, rfl, ⟨z, rfl⟩, rfl⟩, by simp only [RelL, Rel]; exact ⟨_, _, rfl, rfl, rfl⟩⟩
  ·rename_i ht
   injection h with h; subst h
   obtain ⟨s, rfl, _, hs⟩ := DataW.trod_string ht hy
   exact ⟨[.v (.string s)], by simp only [ClsIs, Cl.Is]; exact ⟨_, _, rfl, ⟨s.data.toList, by rw [bs_self], by rw [bs_size]; exact hs⟩, rfl⟩, by simp only [RelL, Rel]; exact ⟨_, _, rfl, rfl, rfl⟩⟩
  ·rename_i e ht
   split at h
   rotate_left
   ·cases h
   rename_i le he
   split at h
   rotate_left
   ·cases h
   rename_i hc
   obtain ⟨hc1, hc2, hc3⟩ := hc
   injection h with h; subst h
   rcases open_slice ht hy with ⟨rfl, _⟩ | ⟨a, len, cap, m, q, D, Pl, rfl, _, hl, hm, hmm, _, hi⟩
   ·refine ⟨[.sl (P.cellsOf e) []], by simp only [ClsIs, Cl.Is]; exact ⟨_, _, rfl, ⟨[], rfl, Nat.zero_le _, by simp⟩, rfl⟩, ?_⟩
    simp only [RelL, Rel]
    exact ⟨_, _, rfl, ⟨none, 0, rfl, ⟨Nat.le_refl _, by omega, fun _ => ⟨rfl, rfl⟩, fun a e => by cases e⟩, by simp [El], fun b o e => by cases e⟩, rfl⟩
   ·simp at hmm
    subst hmm
    obtain ⟨ls, hll, hlq⟩ := choose_list (α := List T) len (fun i cs => ClsIs le cs ∧ ∃ cs', W.cells? 0 (a.add (i * P.cellsOf e)) (P.cellsOf e) = some cs' ∧ RelL (promOf W) cs cs') (fun i hil => by
     obtain ⟨cs', h1, h2⟩ := hi i (by omega)
     obtain ⟨cs, h3, h4⟩ := open_trod n e le he q cs' _ h2
     exact ⟨cs, h3, cs', h1, h4⟩)
    have hel : ∀ cs, ClsIs le cs → elCells (if isAgg P e then .agg cs else cs.headD .und) = cs := fun cs hcs => by
     cases hag : isAgg P e with
     | true => rfl
     | false =>
      have h1 := hc3 hag
      have h2 := hcs.len
      match cs, h2, hcs with
      | [x], _, hcs =>
       simp only [Bool.false_eq_true, if_false, List.headD_cons]
       have := hcs.one
       cases x <;> simp [T.one] at this <;> rfl
      | [], h2, _ => simp at h2; omega
      | _ :: _ :: _, h2, _ => simp at h2; omega
    refine ⟨[.sl (P.cellsOf e) (ls.map fun cs => if isAgg P e then .agg cs else cs.headD .und)], ?_, ?_⟩
    ·simp only [ClsIs, Cl.Is]
     refine ⟨_, _, rfl, ⟨_, rfl, by rw [List.length_map]; omega, fun y hy => ?_⟩, rfl⟩
     obtain ⟨cs, hcs, rfl⟩ := List.mem_map.1 hy
     obtain ⟨i, hi2, hi3⟩ := List.mem_iff_getElem.1 hcs
     exact ⟨cs, (hlq i cs (by rw [List.getElem?_eq_getElem hi2, hi3])).1, rfl⟩
    ·simp only [RelL, Rel]
     refine ⟨_, _, rfl, ⟨some a, m, by rw [List.length_map, hll], ⟨by rw [List.length_map]; omega, by unfold maxLen at hm; omega, (fun e => by cases e), fun a' ea hcap => ?_⟩, ?_, fun b o ea => ?_⟩, rfl⟩
     ·injection ea with ea; subst ea
      obtain ⟨cs', h1, _⟩ := hi 0 hcap
      obtain ⟨_, h2, h3⟩ := World.cells?_some h1
      have h4 := h3 0 (by omega)
      rw [List.getElem?_eq_getElem (by omega)] at h4
      have := World.cell?_spot h4
      simpa [Addr.add] using this
     ·intro x hx
      obtain ⟨cs, hcs, rfl⟩ := List.mem_map.1 hx
      obtain ⟨i, hi2, hi3⟩ := List.mem_iff_getElem.1 hcs
      have h1 := (hlq i cs (by rw [List.getElem?_eq_getElem hi2, hi3])).1
      rw [hel cs h1, h1.len, hc1]
     ·injection ea with ea; subst ea
      refine RelE.of_el fun i x hx => ?_
      rw [List.getElem?_map, Option.map_eq_some_iff] at hx
      obtain ⟨cs, hcs, rfl⟩ := hx
      obtain ⟨h1, cs', h2, h3⟩ := hlq i cs hcs
      rw [hel cs h1]
      obtain ⟨_, h4, h5⟩ := World.cells?_some h2
      refine RelA.of_get fun j t hj => ?_
      obtain ⟨u, h6, h7⟩ := h3.get hj
      have hjl : j < cs'.length := (List.getElem?_eq_some_iff.1 h6).1
      have h8 := h5 j (by omega)
      rw [h6, Addr.add_mid] at h8
      have h9 : (Addr.add ⟨b, o + i * P.cellsOf e, none⟩ j) = ⟨b, o + i * P.cellsOf e + j, none⟩ := Addr.add_mid _ _ _
      rw [h9] at h8
      exact ⟨u, promOf_some h8 (rel_one (by have := h1.one; rw [List.all_eq_true] at this; exact this t (List.mem_of_getElem? hj)) h7), h7⟩
  ·rename_i fs ht
   split at h
   rotate_left
   ·cases h
   rename_i lf hf
   split at h
   rotate_left
   ·cases h
   rename_i hlen
   injection h with h; subst h
   obtain ⟨xs, q, rfl, _, hcl, _, hxs⟩ := DataW.trod_struct ht hy
   have key : ∀ (gs : List Field) (k o : Nat) (l : List Cl), (∀ i f, gs[i]? = some f → fs[k + i]? = some f) → fieldsCl (clsOf P n) P gs o = some l → ∃ cs, ClsIs l cs ∧ RelL (promOf W) cs ((vs.drop o).take l.length) := by
    intro gs
    induction gs with
    | nil =>
     intro k o l _ hl
     simp [fieldsCl] at hl
     subst hl
     exact ⟨[], by simp only [ClsIs], by simp [RelL]⟩
    | cons g gs ih =>
     intro k o l hg hl
     unfold fieldsCl at hl
     split at hl
     rotate_left
     ·cases hl
     rename_i ho
     split at hl
     rotate_left
     ·cases hl
     rename_i la lb ha hb
     injection hl with hl; subst hl
     have h0 := hxs k g (by simpa using hg 0 g rfl)
     have hk : k < fs.size := (Array.getElem?_eq_some_iff.1 (by simpa using hg 0 g rfl)).1
     obtain ⟨cb, hcb, hrb⟩ := ih (k + 1) (o + P.cellsOf g.type) lb (fun i f hi => by have := hg (i + 1) f (by simpa using hi); rwa [show k + 1 + i = k + (i + 1) from by omega]) hb
     rw [ho] at h0
     have hx : ∃ x, xs[k]? = some x := by
      have : k < xs.length := by omega
      exact ⟨_, List.getElem?_eq_getElem this⟩
     obtain ⟨x, hx⟩ := hx
     obtain ⟨ca, hca, hra⟩ := open_trod n g.type la ha q _ x (h0.trans hx)
     have hla : la.length = ((vs.drop o).take (P.cellsOf g.type)).length := by rw [hra.len, hca.len]
     refine ⟨ca ++ cb, hca.append hcb, ?_⟩
     have hcut : (vs.drop o).take (la ++ lb).length = (vs.drop o).take (P.cellsOf g.type) ++ (vs.drop (o + P.cellsOf g.type)).take lb.length := by
      rw [← List.drop_drop, List.length_append, hla]
      generalize vs.drop o = X
      rw [List.length_take]
      rcases Nat.le_total (P.cellsOf g.type) X.length with hp | hp
      ·rw [Nat.min_eq_left hp, List.take_add]
      ·rw [Nat.min_eq_right hp, List.take_of_length_le (by omega), List.take_of_length_le hp, List.drop_eq_nil_of_le hp]; simp
     rw [hcut]
     exact hra.append hrb
   obtain ⟨cs, h1, h2⟩ := key fs.toList 0 0 lf (fun i f hi => by simpa using hi) hf
   refine ⟨cs, h1, ?_⟩
   rwa [List.drop_zero, hlen, ← hcl, List.take_length] at h2
  ·rename_i m e ht
   split at h
   rotate_left
   ·cases h
   rename_i le he
   split at h
   rotate_left
   ·cases h
   rename_i hc
   injection h with h; subst h
   obtain ⟨xs, q, rfl, _, hcl, hxl, hxs⟩ := DataW.trod_array ht hy
   have key : ∀ (r k : Nat), k + r = m → ∃ cs, ClsIs (arrCl le r) cs ∧ RelL (promOf W) cs (vs.drop (k * P.cellsOf e)) := by
    intro r
    induction r with
    | zero =>
     intro k hk
     refine ⟨[], by simp only [arrCl, ClsIs], ?_⟩
     have : vs.drop (k * P.cellsOf e) = [] := List.drop_eq_nil_of_le (by rw [hcl, ← hc.2, ← hk, hc.1]; simp)
     rw [this]
     simp only [RelL]
    | succ r ih =>
     intro k hk
     obtain ⟨cb, hcb, hrb⟩ := ih (k + 1) (by omega)
     have h0 := hxs k (by omega)
     have hx : ∃ x, xs[k]? = some x := ⟨_, List.getElem?_eq_getElem (by omega)⟩
     obtain ⟨x, hx⟩ := hx
     obtain ⟨ca, hca, hra⟩ := open_trod n e le he q _ x (h0.trans hx)
     refine ⟨ca ++ cb, by simp only [arrCl]; exact hca.append hcb, ?_⟩
     have hcut : vs.drop (k * P.cellsOf e) = (vs.drop (k * P.cellsOf e)).take (P.cellsOf e) ++ vs.drop ((k + 1) * P.cellsOf e) := by
      rw [Nat.add_mul, Nat.one_mul, ← List.drop_drop, List.take_append_drop]
     rw [hcut]
     exact hra.append hrb
   obtain ⟨cs, h1, h2⟩ := key m 0 (by omega)
   exact ⟨cs, h1, by simpa using h2⟩
  ·cases h
def wrapT (P : Program) (t : TypeId) (cs : List T) : T := if isAgg P t then .agg cs else cs.headD .und
def ArgsIs (P : Program) : List TypeId → List (List Cl) → List T → Prop
 | [], [], xs => xs = []
 | t :: ts, l :: ls, xs => ∃ cs r, xs = wrapT P t cs :: r ∧ ClsIs l cs ∧ ArgsIs P ts ls r
 | _, _, _ => False
theorem cells_of_one {v : Value} {u : Value} (hv : ∀ cs, v ≠ .agg cs) (h : v.cells.toList = [u]) : v = u := by
 cases v <;> first | exact absurd rfl (hv _) | (simpa [Value.cells] using h)
theorem open_all {base : Nat} (n : Nat) : ∀ (ts : List TypeId) (ls : List (List Cl)) (vs : List Value) (ds : List (DataW H)) (ps : List MemPlace), ts.mapM (clsOf P n) = some ls → (ts.all fun t => isAgg P t || (clsOf P n t).any (·.length == 1)) = true →
  (∀ (j : Nat) t v, ts[j]? = some t → vs[j]? = some v → Value.okWide P W .any base t v) → DataW.TrodAll enc P W 0 (fun _ => true) true ts vs ds ps → ∃ xs, ArgsIs P ts ls xs ∧ RelL (promOf W) xs vs
 | [], ls, [], [], ps, hl, _, _, h => by
  simp at hl; subst hl
  exact ⟨[], by simp only [ArgsIs], by simp only [RelL]⟩
 | t :: ts, ls, v :: vs, d :: ds, ps, hl, h1, hv, h => by
  obtain ⟨p, q, ⟨fuel, hp⟩, hq, rfl⟩ := h
  simp only [List.mapM_cons, Option.bind_eq_bind, Option.bind_eq_some_iff, Option.pure_def, Option.some.injEq] at hl
  obtain ⟨l, hl0, ls', hl1, rfl⟩ := hl
  simp only [List.all_cons, Bool.and_eq_true] at h1
  obtain ⟨xs, h2, h3⟩ := open_all n ts ls' vs ds q hl1 h1.2 (fun j t v hj hw => hv (j + 1) t v (by simpa using hj) (by simpa using hw)) hq
  obtain ⟨cs, h4, h5⟩ := open_trod n t l hl0 fuel _ _ hp
  refine ⟨wrapT P t cs :: xs, by simp only [ArgsIs]; exact ⟨cs, xs, rfl, h4, h2⟩, ?_⟩
  simp only [RelL]
  refine ⟨v, vs, rfl, ?_, h3⟩
  have hok := hv 0 t v rfl rfl
  unfold wrapT
  cases ha : isAgg P t with
  | true =>
   simp only [if_true, Rel]
   unfold isAgg at ha
   unfold Value.okWide at hok
   split at ha
   ·rename_i hu; rw [hu] at hok; obtain ⟨ys, rfl, _⟩ := hok; exact ⟨ys, rfl, h5⟩
   ·rename_i hu; rw [hu] at hok; obtain ⟨ys, rfl, _⟩ := hok; exact ⟨ys, rfl, h5⟩
   ·cases ha
  | false =>
   simp only [Bool.false_eq_true, if_false]
   have hl1 : l.length = 1 := by have := h1.1; rw [ha, hl0] at this; simpa using this
   have hna : ∀ ys, v ≠ .agg ys := fun ys e => by
    subst e
    unfold Value.okWide at hok
    unfold isAgg at ha
    split at hok
    ·rename_i hu; rw [hu] at ha; cases ha
    ·rename_i hu; rw [hu] at ha; cases ha
    ·unfold Cell.okWide at hok
     split at hok <;> first | (rename_i hx; cases hx) | skip
     unfold Cell.ok at hok
     split at hok <;> first | (rename_i hx; cases hx) | exact hok
   have h6 := h4.len
   match cs, h6, h4, h5 with
   | [x], _, h4, h5 =>
    simp only [RelL] at h5
    obtain ⟨u, us, hu, h7, rfl⟩ := h5
    rw [cells_of_one hna hu]
    exact h7
   | [], h6, _, _ => simp at h6; omega
   | _ :: _ :: _, h6, _, _ => simp at h6; omega
 | [], _, [], _ :: _, _, _, _, _, h => h.elim
 | [], _, _ :: _, _, _, _, _, _, h => h.elim
 | _ :: _, _, [], _, _, _, _, _, h => h.elim
 | _ :: _, _, _ :: _, [], _, _, _, _, h => h.elim
end
theorem law_calls {P : Program} {f : FuncId} {ts : List T} {W : World} {xs : Array Value} (h : TCalls P f ts [] (fun _ => none) (fun r _ _ => r = .v (.bool true))) (hr : RelL (promOf W) ts xs.toList) :
  Calls P f xs W fun e W' => e = .returned (.bool true) ∧ Below W.heap.size W W' :=
 (h.calls (promOf W) W xs (hrel_start W) hr).mono fun e W' ⟨x, r, M', ob', gl', h1, h2, _, h4, h5⟩ => by
  subst h5
  simp only [Rel] at h2
  subst h2
  exact ⟨h1, Fr.to_below (h4.fr.mono fun k _ hd => by
   rcases hd with ⟨i, x, hx, _⟩ | hd
   ·simp at hx
   ·cases hd)⟩
theorem els_map {α : Type} {es : List T} (f : α → List T) (Q : α → Prop) {l : List Cl} (h : ∀ y ∈ es, ∃ cs, ClsIs l cs ∧ y = if true then .agg cs else cs.headD .und) (hq : ∀ cs, ClsIs l cs → ∃ a, cs = f a ∧ Q a) :
  ∃ as : List α, es = as.map (fun a => .agg (f a)) ∧ ∀ a ∈ as, Q a := by
 induction es with
 | nil => exact ⟨[], rfl, fun a ha => by simp at ha⟩
 | cons e es ih =>
  obtain ⟨as, e1, h1⟩ := ih (fun y hy => h y (by simp [hy]))
  obtain ⟨cs, h2, h3⟩ := h e (by simp)
  obtain ⟨a, rfl, h4⟩ := hq cs h2
  exact ⟨a :: as, by rw [e1, h3]; rfl, fun x hx => by
   rcases List.mem_cons.1 hx with rfl | hx
   ·exact h4
   ·exact h1 x hx⟩
theorem wf_u8 {z : Int} (h : (Lit.int .u8 z).wf = true) : 0 ≤ z ∧ z < 256 := by simp [Lit.wf, IntKind.min, IntKind.max, IntKind.signed, IntKind.bits] at h; omega
theorem wf_u16 {z : Int} (h : (Lit.int .u16 z).wf = true) : 0 ≤ z ∧ z < 65536 := by simp [Lit.wf, IntKind.min, IntKind.max, IntKind.signed, IntKind.bits] at h; omega
end Go.Proofs.Ytafcbipmmjegcaa.Vm
