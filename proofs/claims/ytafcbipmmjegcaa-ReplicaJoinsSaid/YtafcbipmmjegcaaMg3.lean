/- Texts of this claim: Vm1. -/
import Derived.Test.YtafcbipmmjegcaaMg1
import Derived.Test.YtafcbipmmjegcaaMg2
namespace Go.Proofs.Ytafcbipmmjegcaa.Vm
open Go Go.RowKit
inductive T where
 | v (x : Value)
 | agg (cs : List T)
 | tup (ts : List T)
 | sl (k : Nat) (es : List T)
 | slx (k i : Nat) (es : List T) (x : Value)
 | ptr (i b o : Nat)
 | gp (b o : Nat)
 | pim (cs : List T)
 | mp (i b : Nat)
 | fn (f : FuncId) (cs : List T)
 | fb (f : FuncId) (bs : List T)
 | sa (i b o n cap : Nat)
 | s0
 | und
 deriving Inhabited
abbrev Pm := Nat → Nat → Option Value
def Pm.le (M M' : Pm) : Prop := ∀ b o v, M b o = some v → M' b o = some v
theorem Pm.le_refl (M : Pm) : M.le M := fun _ _ _ h => h
theorem Pm.le_trans {A B C : Pm} (h : A.le B) (k : B.le C) : A.le C := fun b o v hv => k b o v (h b o v hv)
def El (cells : T → List T) (k : Nat) (es : List T) : Prop := ∀ e ∈ es, (cells e).length = k
def elCells : T → List T
 | .agg cs => cs
 | t => [t]
def Hdr (A : Option Addr) (n cap : Nat) : Prop := n ≤ cap ∧ cap ≤ 9223372036854775807 ∧ (A = none → n = 0 ∧ cap = 0) ∧ ∀ a, A = some a → 0 < cap → a.spot = none
mutual
def Rel (M : Pm) : T → Value → Prop
 | .v x, y => y = x
 | .agg cs, y => ∃ ys : Array Value, y = .agg ys ∧ RelL M cs ys.toList
 | .tup ts, y => ∃ ys : Array Value, y = .tuple ys ∧ RelL M ts ys.toList
 | .sl k es, y => ∃ A cap, y = .slice A es.length cap ∧ Hdr A es.length cap ∧ El elCells k es ∧ ∀ b o, A = some ⟨b, o, none⟩ → RelE M k b es o
 | .slx k _ es x, y => y = x ∧ ∃ A cap, x = .slice A es.length cap ∧ Hdr A es.length cap ∧ El elCells k es ∧ ∀ b o, A = some ⟨b, o, none⟩ → RelE M k b es o
 | .ptr _ b o, y => y = .pointer (some ⟨b, o, none⟩)
 | .gp b o, y => y = .pointer (some ⟨b, o, none⟩)
 | .mp _ b, y => y = .map (some b)
 | .pim cs, y => ∃ b o, y = .pointer (some ⟨b, o, none⟩) ∧ RelA M b cs o
 | .fn f cs, y => ∃ ys : Array Value, y = .func (.func f) #[] ys ∧ RelL M cs ys.toList
 | .fb f bs, y => ∃ zs : Array Value, y = .func (.func f) zs #[] ∧ RelL M bs zs.toList
 | .sa _ b o n cap, y => y = .slice (some ⟨b, o, none⟩) n cap ∧ n ≤ cap ∧ cap ≤ 9223372036854775807
 | .s0, y => ∃ A, y = .slice A 0 0
 | .und, _ => True
def RelL (M : Pm) : List T → List Value → Prop
 | [], ys => ys = []
 | t :: ts, ys => ∃ u us, ys = u :: us ∧ Rel M t u ∧ RelL M ts us
def RelA (M : Pm) (b : Nat) : List T → Nat → Prop
 | [], _ => True
 | t :: ts, o => (∃ u, M b o = some u ∧ Rel M t u) ∧ RelA M b ts (o + 1)
def RelE (M : Pm) (k b : Nat) : List T → Nat → Prop
 | [], _ => True
 | .agg cs :: es, o => RelA M b cs o ∧ RelE M k b es (o + k)
 | e :: es, o => (∃ u, M b o = some u ∧ Rel M e u) ∧ RelE M k b es (o + k)
end
section
variable {M M' : Pm}
mutual
theorem Rel.mono (h : M.le M') : ∀ (t : T) (y : Value), Rel M t y → Rel M' t y
 | .v x, y, r => by simpa only [Rel] using r
 | .agg cs, y, r => by
  simp only [Rel] at r ⊢
  obtain ⟨ys, e, r⟩ := r
  exact ⟨ys, e, RelL.mono h cs _ r⟩
 | .tup ts, y, r => by
  simp only [Rel] at r ⊢
  obtain ⟨ys, e, r⟩ := r
  exact ⟨ys, e, RelL.mono h ts _ r⟩
 | .sl k es, y, r => by
  simp only [Rel] at r ⊢
  obtain ⟨A, cap, e, hd, hl, r⟩ := r
  exact ⟨A, cap, e, hd, hl, fun b o ha => RelE.mono h k b es o (r b o ha)⟩
 | .slx k _ es x, y, r => by
  simp only [Rel] at r ⊢
  obtain ⟨e0, A, cap, e, hd, hl, r⟩ := r
  exact ⟨e0, A, cap, e, hd, hl, fun b o ha => RelE.mono h k b es o (r b o ha)⟩
 | .ptr _ b o, y, r => by simpa only [Rel] using r
 | .gp b o, y, r => by simpa only [Rel] using r
 | .mp _ b, y, r => by simpa only [Rel] using r
 | .pim cs, y, r => by
  simp only [Rel] at r ⊢
  obtain ⟨b, o, e, r⟩ := r
  exact ⟨b, o, e, RelA.mono h b cs o r⟩
 | .fn f cs, y, r => by
  simp only [Rel] at r ⊢
  obtain ⟨ys, e, r⟩ := r
  exact ⟨ys, e, RelL.mono h cs _ r⟩
 | .fb f bs, y, r => by
  simp only [Rel] at r ⊢
  obtain ⟨zs, e, r⟩ := r
  exact ⟨zs, e, RelL.mono h bs _ r⟩
 | .sa .., y, r => by simpa only [Rel] using r
 | .s0, y, r => by simpa only [Rel] using r
 | .und, y, _ => by simp only [Rel]
theorem RelL.mono (h : M.le M') : ∀ (ts : List T) (ys : List Value), RelL M ts ys → RelL M' ts ys
 | [], ys, r => by simpa only [RelL] using r
 | t :: ts, ys, r => by
  simp only [RelL] at r ⊢
  obtain ⟨u, us, e, r1, r2⟩ := r
  exact ⟨u, us, e, Rel.mono h t u r1, RelL.mono h ts us r2⟩
theorem RelA.mono (h : M.le M') : ∀ (b : Nat) (ts : List T) (o : Nat), RelA M b ts o → RelA M' b ts o
 | b, [], o, r => by simp only [RelA]
 | b, t :: ts, o, r => by
  simp only [RelA] at r ⊢
  obtain ⟨⟨u, e, r1⟩, r2⟩ := r
  exact ⟨⟨u, h _ _ _ e, Rel.mono h t u r1⟩, RelA.mono h b ts _ r2⟩
theorem RelE.mono (h : M.le M') : ∀ (k b : Nat) (ts : List T) (o : Nat), RelE M k b ts o → RelE M' k b ts o
 | k, b, [], o, r => by simp only [RelE]
 | k, b, .agg cs :: es, o, r => by
  simp only [RelE] at r ⊢
  exact ⟨RelA.mono h b cs o r.1, RelE.mono h k b es _ r.2⟩
 | k, b, .v x :: es, o, r => by
  simp only [RelE] at r ⊢
  obtain ⟨⟨u, e, r1⟩, r2⟩ := r
  exact ⟨⟨u, h _ _ _ e, Rel.mono h _ u r1⟩, RelE.mono h k b es _ r2⟩
 | k, b, .tup x :: es, o, r => by
  simp only [RelE] at r ⊢
  obtain ⟨⟨u, e, r1⟩, r2⟩ := r
  exact ⟨⟨u, h _ _ _ e, Rel.mono h _ u r1⟩, RelE.mono h k b es _ r2⟩
 | k, b, .sl x y :: es, o, r => by
  simp only [RelE] at r ⊢
  obtain ⟨⟨u, e, r1⟩, r2⟩ := r
  exact ⟨⟨u, h _ _ _ e, Rel.mono h _ u r1⟩, RelE.mono h k b es _ r2⟩
 | k, b, .slx x y z u :: es, o, r => by
  simp only [RelE] at r ⊢
  obtain ⟨⟨u, e, r1⟩, r2⟩ := r
  exact ⟨⟨u, h _ _ _ e, Rel.mono h _ u r1⟩, RelE.mono h k b es _ r2⟩
 | k, b, .ptr x y z :: es, o, r => by
  simp only [RelE] at r ⊢
  obtain ⟨⟨u, e, r1⟩, r2⟩ := r
  exact ⟨⟨u, h _ _ _ e, Rel.mono h _ u r1⟩, RelE.mono h k b es _ r2⟩
 | k, b, .gp x y :: es, o, r => by
  simp only [RelE] at r ⊢
  obtain ⟨⟨u, e, r1⟩, r2⟩ := r
  exact ⟨⟨u, h _ _ _ e, Rel.mono h _ u r1⟩, RelE.mono h k b es _ r2⟩
 | k, b, .mp x y :: es, o, r => by
  simp only [RelE] at r ⊢
  obtain ⟨⟨u, e, r1⟩, r2⟩ := r
  exact ⟨⟨u, h _ _ _ e, Rel.mono h _ u r1⟩, RelE.mono h k b es _ r2⟩
 | k, b, .pim x :: es, o, r => by
  simp only [RelE] at r ⊢
  obtain ⟨⟨u, e, r1⟩, r2⟩ := r
  exact ⟨⟨u, h _ _ _ e, Rel.mono h _ u r1⟩, RelE.mono h k b es _ r2⟩
 | k, b, .fn x y :: es, o, r => by
  simp only [RelE] at r ⊢
  obtain ⟨⟨u, e, r1⟩, r2⟩ := r
  exact ⟨⟨u, h _ _ _ e, Rel.mono h _ u r1⟩, RelE.mono h k b es _ r2⟩
 | k, b, .fb x y :: es, o, r => by
  simp only [RelE] at r ⊢
  obtain ⟨⟨u, e, r1⟩, r2⟩ := r
  exact ⟨⟨u, h _ _ _ e, Rel.mono h _ u r1⟩, RelE.mono h k b es _ r2⟩
 | k, b, .sa x y z u v :: es, o, r => by
  simp only [RelE] at r ⊢
  obtain ⟨⟨u, e, r1⟩, r2⟩ := r
  exact ⟨⟨u, h _ _ _ e, Rel.mono h _ u r1⟩, RelE.mono h k b es _ r2⟩
 | k, b, .s0 :: es, o, r => by
  simp only [RelE] at r ⊢
  obtain ⟨⟨u, e, r1⟩, r2⟩ := r
  exact ⟨⟨u, h _ _ _ e, Rel.mono h _ u r1⟩, RelE.mono h k b es _ r2⟩
 | k, b, .und :: es, o, r => by
  simp only [RelE] at r ⊢
  obtain ⟨⟨u, e, r1⟩, r2⟩ := r
  exact ⟨⟨u, h _ _ _ e, Rel.mono h _ u r1⟩, RelE.mono h k b es _ r2⟩
end
theorem RelL.len : ∀ {ts : List T} {ys : List Value}, RelL M ts ys → ys.length = ts.length
 | [], ys, r => by simp only [RelL] at r; subst r; rfl
 | t :: ts, ys, r => by
  simp only [RelL] at r
  obtain ⟨u, us, rfl, _, r⟩ := r
  simp [r.len]
theorem RelL.get : ∀ {ts : List T} {ys : List Value}, RelL M ts ys → ∀ {i : Nat} {t : T}, ts[i]? = some t → ∃ y, ys[i]? = some y ∧ Rel M t y
 | [], ys, r, i, t, h => by simp at h
 | t :: ts, ys, r, i, t', h => by
  simp only [RelL] at r
  obtain ⟨u, us, rfl, r1, r2⟩ := r
  cases i with
  | zero => simp at h; subst h; exact ⟨u, by simp, r1⟩
  | succ i => simpa using r2.get (by simpa using h)
theorem RelL.of_get : ∀ {ts : List T} {ys : List Value}, ys.length = ts.length → (∀ (i : Nat) (t : T) (y : Value), ts[i]? = some t → ys[i]? = some y → Rel M t y) → RelL M ts ys
 | [], ys, h, _ => by simp only [RelL]; exact List.eq_nil_of_length_eq_zero h
 | t :: ts, ys, h, r => by
  cases ys with
  | nil => simp at h
  | cons u us =>
   simp only [RelL]
   exact ⟨u, us, rfl, r 0 t u (by simp) (by simp), RelL.of_get (by simpa using h) fun i t' y h1 h2 => r (i + 1) t' y (by simpa using h1) (by simpa using h2)⟩
theorem RelL.set {ts : List T} {ys : List Value} (r : RelL M ts ys) (i : Nat) {t : T} {y : Value} (h : Rel M t y) : RelL M (ts.set i t) (ys.set i y) := by
 refine RelL.of_get (by simp [r.len]) fun j t' y' h1 h2 => ?_
 rw [List.getElem?_set] at h1 h2
 by_cases hij : i = j
 ·subst hij
  rw [if_pos rfl] at h1 h2
  split at h1
  ·split at h2
   ·injection h1 with h1; injection h2 with h2; subst h1 h2; exact h
   ·cases h2
  ·cases h1
 ·rw [if_neg hij] at h1 h2
  obtain ⟨u, h3, h4⟩ := r.get h1
  rw [h3] at h2
  injection h2 with h2
  exact h2 ▸ h4
theorem RelL.append {ts us : List T} {ys zs : List Value} (r : RelL M ts ys) (r' : RelL M us zs) : RelL M (ts ++ us) (ys ++ zs) := by
 refine RelL.of_get (by simp [r.len, r'.len]) fun j t' y' h1 h2 => ?_
 rw [List.getElem?_append] at h1 h2
 rw [r.len] at h2
 split at h1
 ·rename_i hlt
  rw [if_pos hlt] at h2
  obtain ⟨u, h3, h4⟩ := r.get h1
  rw [h3] at h2; injection h2 with h2; exact h2 ▸ h4
 ·rename_i hlt
  rw [if_neg hlt] at h2
  obtain ⟨u, h3, h4⟩ := r'.get h1
  rw [h3] at h2; injection h2 with h2; exact h2 ▸ h4
theorem RelL.drop {ts : List T} {ys : List Value} (r : RelL M ts ys) (n : Nat) : RelL M (ts.drop n) (ys.drop n) :=
 RelL.of_get (by simp [r.len]) fun j t' y' h1 h2 => by
  rw [List.getElem?_drop] at h1 h2
  obtain ⟨u, h3, h4⟩ := r.get h1
  rw [h3] at h2; injection h2 with h2; exact h2 ▸ h4
theorem RelL.take {ts : List T} {ys : List Value} (r : RelL M ts ys) (n : Nat) : RelL M (ts.take n) (ys.take n) :=
 RelL.of_get (by simp [r.len]) fun j t' y' h1 h2 => by
  rw [List.getElem?_take] at h1 h2
  split at h1
  ·rename_i hlt
   rw [if_pos hlt] at h2
   obtain ⟨u, h3, h4⟩ := r.get h1
   rw [h3] at h2; injection h2 with h2; exact h2 ▸ h4
  ·cases h1
theorem RelL.vs : ∀ (ys : List Value), RelL M (ys.map T.v) ys
 | [] => by simp only [List.map_nil, RelL]
 | y :: ys => by simp only [List.map_cons, RelL]; exact ⟨y, ys, rfl, by simp only [Rel], RelL.vs ys⟩
theorem RelA.get : ∀ {b : Nat} {ts : List T} {o : Nat}, RelA M b ts o → ∀ {i : Nat} {t : T}, ts[i]? = some t → ∃ u, M b (o + i) = some u ∧ Rel M t u
 | b, [], o, r, i, t, h => by simp at h
 | b, t :: ts, o, r, i, t', h => by
  simp only [RelA] at r
  cases i with
  | zero => simp at h; subst h; exact r.1
  | succ i =>
   have := r.2.get (i := i) (by simpa using h)
   rwa [show o + 1 + i = o + (i + 1) from by omega] at this
theorem RelA.of_get : ∀ {b : Nat} {ts : List T} {o : Nat}, (∀ (i : Nat) (t : T), ts[i]? = some t → ∃ u, M b (o + i) = some u ∧ Rel M t u) → RelA M b ts o
 | b, [], o, _ => by simp only [RelA]
 | b, t :: ts, o, r => by
  simp only [RelA]
  refine ⟨by simpa using r 0 t (by simp), RelA.of_get fun i t' h => ?_⟩
  have := r (i + 1) t' (by simpa using h)
  rwa [show o + (i + 1) = o + 1 + i from by omega] at this
theorem RelA.drop {b : Nat} {ts : List T} {o : Nat} (r : RelA M b ts o) (n : Nat) : RelA M b (ts.drop n) (o + n) :=
 RelA.of_get fun i t h => by
  rw [List.getElem?_drop] at h
  have := r.get h
  rwa [show o + n + i = o + (n + i) from by omega]
end
def T.cells : T → List T
 | .agg cs => cs
 | .v x => x.cells.toList.map T.v
 | t => [t]
theorem RelE.el {M : Pm} {k b : Nat} : ∀ {es : List T} {o : Nat}, RelE M k b es o → ∀ {i : Nat} {e : T}, es[i]? = some e → RelA M b (elCells e) (o + i * k)
 | [], o, r, i, e, h => by simp at h
 | e :: es, o, r, i, e', h => by
  have r2 : RelE M k b es (o + k) ∧ RelA M b (elCells e) o := by
   cases e <;> simp only [RelE] at r <;> exact ⟨r.2, by simp only [elCells, RelA]; first | exact r.1 | exact ⟨r.1, trivial⟩⟩
  cases i with
  | zero => simp at h; subst h; simpa using r2.2
  | succ i =>
   have := r2.1.el (i := i) (by simpa using h)
   rwa [show o + k + i * k = o + (i + 1) * k from by rw [Nat.add_mul]; omega] at this
theorem RelE.of_el {M : Pm} {k b : Nat} : ∀ {es : List T} {o : Nat}, (∀ (i : Nat) (e : T), es[i]? = some e → RelA M b (elCells e) (o + i * k)) → RelE M k b es o
 | [], o, _ => by simp only [RelE]
 | e :: es, o, r => by
  have h0 := r 0 e (by simp)
  have h1 : RelE M k b es (o + k) := RelE.of_el fun i e' h => by
   have := r (i + 1) e' (by simpa using h)
   rwa [show o + (i + 1) * k = o + k + i * k from by rw [Nat.add_mul]; omega] at this
  rw [Nat.zero_mul, Nat.add_zero] at h0
  cases e <;> simp only [RelE] <;> simp only [elCells, RelA] at h0 <;> exact ⟨by first | exact h0.1 | exact h0, h1⟩
theorem RelE.drop {M : Pm} {k b : Nat} {es : List T} {o : Nat} (r : RelE M k b es o) (n : Nat) : RelE M k b (es.drop n) (o + n * k) :=
 RelE.of_el fun i e h => by
  rw [List.getElem?_drop] at h
  have := r.el h
  rwa [show o + n * k + i * k = o + (n + i) * k from by rw [Nat.add_mul]; omega]
theorem RelE.take {M : Pm} {k b : Nat} {es : List T} {o : Nat} (r : RelE M k b es o) (n : Nat) : RelE M k b (es.take n) o :=
 RelE.of_el fun i e h => by
  rw [List.getElem?_take] at h
  split at h
  ·exact r.el h
  ·cases h
def T.flatC : T → Option Value
 | .v x => some x
 | .ptr _ b o => some (.pointer (some ⟨b, o, none⟩))
 | .gp b o => some (.pointer (some ⟨b, o, none⟩))
 | .mp _ b => some (.map (some b))
 | .sa _ b o n cap => some (.slice (some ⟨b, o, none⟩) n cap)
 | _ => none
def flatL : List T → Option (List Value)
 | [] => some []
 | t :: ts => match t.flatC, flatL ts with | some x, some xs => some (x :: xs) | _, _ => none
def T.flat : T → Option Value
 | .agg cs => (flatL cs).map fun l => .agg l.toArray
 | t => t.flatC
theorem flatC_rel {M : Pm} {t : T} {x y : Value} (h : t.flatC = some x) (r : Rel M t y) : y = x := by
 cases t <;> simp only [T.flatC] at h <;> first | cases h | skip
 all_goals first | (simpa only [Rel] using r) | (simp only [Rel] at r; exact r.1)
theorem flatL_rel {M : Pm} : ∀ {ts : List T} {xs ys : List Value}, flatL ts = some xs → RelL M ts ys → ys = xs
 | [], xs, ys, h, r => by simp [flatL] at h; simp only [RelL] at r; rw [r, ← h]
 | t :: ts, xs, ys, h, r => by
  simp only [RelL] at r
  obtain ⟨u, us, rfl, r1, r2⟩ := r
  simp only [flatL] at h
  split at h
  ·rename_i x xs' h1 h2
   injection h with h
   rw [← h, flatC_rel h1 r1, flatL_rel h2 r2]
  ·cases h
theorem flat_rel {M : Pm} {t : T} {x y : Value} (h : t.flat = some x) (r : Rel M t y) : y = x := by
 cases t with
 | agg cs =>
  simp only [T.flat, Option.map_eq_some_iff] at h
  obtain ⟨l, h1, h2⟩ := h
  simp only [Rel] at r
  obtain ⟨ys, rfl, r⟩ := r
  rw [← h2, ← flatL_rel h1 r]
 | _ => simp only [T.flat] at h; exact flatC_rel h r
def ofC : Value → T
 | .agg cs => .agg (cs.toList.map T.v)
 | x => .v x
def ofV : Value → T
 | .tuple vs => .tup (vs.toList.map ofC)
 | x => ofC x
theorem rel_ofC {M : Pm} (x : Value) : Rel M (ofC x) x := by
 cases x <;> simp only [ofC, Rel]
 exact ⟨_, rfl, RelL.vs _⟩
theorem relL_ofC {M : Pm} : ∀ (xs : List Value), RelL M (xs.map ofC) xs
 | [] => by simp only [List.map_nil, RelL]
 | x :: xs => by simp only [List.map_cons, RelL]; exact ⟨x, xs, rfl, rel_ofC x, relL_ofC xs⟩
theorem rel_ofV {M : Pm} (x : Value) : Rel M (ofV x) x := by
 cases x <;> simp only [ofV] <;> first | exact rel_ofC _ | skip
 simp only [Rel]
 exact ⟨_, rfl, relL_ofC _⟩
theorem rel_cells {M : Pm} {t : T} {y : Value} (h : t ≠ .und) (r : Rel M t y) : RelL M t.cells y.cells.toList := by
 have one : ∀ (y : Value), (∀ cs, y ≠ .agg cs) → y.cells.toList = [y] := fun y h => by cases y <;> first | rfl | exact absurd rfl (h _)
 cases t <;> first | exact absurd rfl h | skip
 case v x => simp only [Rel] at r; subst r; simp only [T.cells]; exact RelL.vs _
 case agg cs => simp only [Rel] at r; obtain ⟨ys, rfl, r⟩ := r; exact r
 all_goals
  have hn : ∀ cs, y ≠ .agg cs := by
   intro cs e; subst e
   simp only [Rel] at r
   first
    | exact Value.noConfusion r
    | exact Value.noConfusion r.choose_spec.1
    | exact Value.noConfusion r.choose_spec
    | exact Value.noConfusion r.1
    | exact Value.noConfusion r.choose_spec.choose_spec.1
    | exact Value.noConfusion (r.1.trans r.2.choose_spec.choose_spec.1)
  rw [one y hn]
  simp only [T.cells, RelL]
  exact ⟨y, [], rfl, r, rfl⟩
end Go.Proofs.Ytafcbipmmjegcaa.Vm
