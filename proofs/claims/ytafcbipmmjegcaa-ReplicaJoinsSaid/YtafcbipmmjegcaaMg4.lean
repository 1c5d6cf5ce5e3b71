/- Texts of this claim: Vm2. -/
import Derived.ChangeKeysEq
import Derived.Test.YtafcbipmmjegcaaMg3
import Derived.Deep.MidRow
namespace Go.Proofs.Ytafcbipmmjegcaa.Vm
open Go Go.RowKit
def bsplit (b : Bool) (X Y : Prop) : Prop := match b with | true => X | false => Y
theorem bsplit_iff {b : Bool} {X Y : Prop} : bsplit b X Y ↔ (b = true → X) ∧ (b = false → Y) := by cases b <;> simp [bsplit]
theorem bsplit_mk {b : Bool} {X Y : Prop} (h : b = true → X) (k : b = false → Y) : bsplit b X Y := bsplit_iff.2 ⟨h, k⟩
inductive Ob where
 | cells (cs : List T)
 | room (k : Nat) (e : TypeId) (n : Nat) (x : Value)
 | map (kd : IntKind) (f : Int → Option T) (es : Array MapEntry) (ck : Nat)
 | iter (i mb : Nat) (kd : IntKind) (es : Array MapEntry) (ck : Nat) (left : List Int) (cur : Option Int)
 | kv (kt : TypeId) (G : Value → Prop) (f : Value → Option T)
 | fix (cs : List T)
 | siter (z : ByteArray) (pos : Nat)
 | whole (C : Array Value) (t : TypeId) (fz : Nat × Nat)
 | gone
structure S where
 fr : List T
 ob : List (Nat × Ob)
 gl : Nat → Option Ob
def S.eval (s : S) : Operand → T
 | .tmp t => s.fr.getD t .und
 | .const x => ofC x
 | .global g => .gp g 0
 | .func f => .fn f []
def S.put (s : S) : Option Tmp → T → S
 | some d, t => { s with fr := s.fr.set d t }
 | none, _ => s
theorem eval_rel {M : Pm} {s : S} {a : Act} (r : RelL M s.fr a.tmps.toList) (x : Operand) : Rel M (s.eval x) (a.eval x) := by
 cases x with
 | tmp t =>
  simp only [S.eval, Act.eval, List.getD_eq_getElem?_getD]
  cases h : s.fr[t]? with
  | none => simp only [Option.getD_none, Rel]
  | some u =>
   obtain ⟨y, h1, h2⟩ := r.get h
   rw [Array.getElem?_toList] at h1
   simpa [h1] using h2
 | const x => exact rel_ofC x
 | global g => simp only [S.eval, Act.eval, Rel]
 | func f => simp only [S.eval, Act.eval, Rel]; exact ⟨#[], rfl, by simp only [RelL]⟩
theorem put_rel {M : Pm} {s : S} {a : Act} (r : RelL M s.fr a.tmps.toList) (d : Option Tmp) {t : T} {y : Value} (h : Rel M t y) : RelL M (s.put d t).fr (a.put d y).tmps.toList := by
 cases d with
 | none => exact r
 | some d => simp only [S.put, Act.put, Array.toList_setIfInBounds]; exact r.set d h
inductive Hint : Type 1 where
 | no
 | res (t : T)
 | obj (cs : List T)
 | gl (cs : List T)
 | glob
 | num (n : Int)
 | fn (g : Int → Option T)
 | call (wk : Bool) (α : Type) (post : α → Prop) (sel : List Nat) (g : Bool) (r : α → T) (ob : α → List (Nat × Ob)) (gl : α → Nat → Option Ob)
 | withB (f : List Nat → Hint)
 | plain (h : Hint)
 | withA (f : List (Nat × Ob) → List T → Hint)
 | kv (G : Value → Prop)
 | kf (g : Value → Option T)
 | plainAt (N : List Nat) (h : Hint)
def prun {α : Type} (P : Program) : Sem α → Option α
 | .pure a => some a
 | .program k => prun P (k P)
 | _ => none
theorem prun_run {α : Type} {P : Program} : ∀ {s : Sem α} {a : α}, prun P s = some a → ∀ w, s.run P w = .ok a w := by
 intro s
 induction s with
 | pure b => intro a h w; simp only [prun, Option.some.injEq] at h; subst h; rfl
 | program k ih => intro a h w; simp only [prun] at h; exact ih P h w
 | _ => intro a h; simp [prun] at h
def Yield (P : Program) (o : Oper) (a : Act) (v : Value) : Prop := ∀ w, (execOp a.eval o).run P w = .ok (.value v) w
def isSel : Op → Bool
 | .select .. => true
 | _ => false
def flatRho (s : S) (x : Operand) : Value := ((s.eval x).flat).getD undef
def flatRun (P : Program) (s : S) (o : Oper) : Option T :=
 if o.op.operands.toList.all (fun x => ((s.eval x).flat).isSome) && !isSel o.op then
  match prun P (execOp (flatRho s) o) with
  | some (.value v) => some (ofV v)
  | _ => none
 else none
def partV (P : Program) (t : TypeId) (cs : Array Value) (off : Nat) : Option Value :=
 match P.underlying t with
 | some (.struct _) => (P.info? t).map fun i => .agg (cs.extract off (off + i.size))
 | some (.array _ _) => none
 | some _ => cs[off]?
 | none => none
def eqFs (P : Program) (E : TypeId → Value → Value → Option Bool) (xs ys : Array Value) : List Field → Option Bool
 | [] => some true
 | f :: fs => if f.name = "_" then eqFs P E xs ys fs else
  match partV P f.type xs f.offset, partV P f.type ys f.offset with
  | some a, some b => (match E f.type a b, eqFs P E xs ys fs with
   | some p, some q => some (p && q)
   | _, _ => none)
  | _, _ => none
def eqIs (P : Program) (E : TypeId → Value → Value → Option Bool) (e : TypeId) (c : Nat) (xs ys : Array Value) : List Nat → Option Bool
 | [] => some true
 | i :: is => match partV P e xs (i * c), partV P e ys (i * c) with
  | some a, some b => (match E e a b, eqIs P E e c xs ys is with
   | some p, some q => some (p && q)
   | _, _ => none)
  | _, _ => none
def eqV (P : Program) : Nat → TypeId → Value → Value → Option Bool
 | 0, _, _, _ => none
 | d + 1, t, x, y => match P.underlying t with
  | some (.int _) => (match x, y with | .int k a, .int k' b => if k = k' then some (a == b) else none | _, _ => none)
  | some .bool => (match x, y with | .bool a, .bool b => some (a == b) | _, _ => none)
  | some .string => (match x, y with | .string a, .string b => some (a.toList == b.toList) | _, _ => none)
  | some (.struct fs) => (match x, y with | .agg xs, .agg ys => if P.stoodInHeld t then none else eqFs P (eqV P d) xs ys fs.toList | _, _ => none)
  | some (.array n e) => (match x, y, P.info? e with | .agg xs, .agg ys, some _ => eqIs P (eqV P d) e (P.cellsOf e) xs ys (List.range n) | _, _, _ => none)
  | _ => none
theorem partV_run {P : Program} {t : TypeId} {cs : Array Value} {off : Nat} {v : Value} (h : partV P t cs off = some v) (w : World) : (part t cs off).run P w = .ok v w := by
 unfold partV at h
 split at h
 ·rename_i fs hu
  simp only [Option.map_eq_some_iff] at h
  obtain ⟨i, h1, rfl⟩ := h
  simp [part, isAgg, sizeOf, typeInfo, run_underlying hu, h1]
 ·cases h
 ·rename_i td g1 g2 hu
  have : (isAgg t).run P w = .ok false w := by
   simp only [isAgg, Sem.run_bind, run_underlying hu, Result.andThen_ok]
   cases td <;> first | rfl | exact (g1 _ rfl).elim | exact (g2 _ _ rfl).elim
  simp [part, this, h]
 ·cases h
theorem eqFs_run {P : Program} {E : TypeId → Value → Value → Option Bool} {d : Nat} {xs ys : Array Value} (hE : ∀ t x y b, E t x y = some b → ∀ w, (Op.equalIn d t x y).run P w = .ok b w) :
  ∀ (fs : List Field) (b : Bool), eqFs P E xs ys fs = some b → ∀ w, (Op.eqFields d xs ys fs).run P w = .ok b w
 | [], b, h, w => by
  simp only [eqFs, Option.some.injEq] at h
  subst h
  simp [Op.eqFields]
 | f :: fs, b, h, w => by
  unfold eqFs at h
  unfold Op.eqFields
  split at h
  ·rename_i hn
   rw [if_neg (by simp [hn])]
   exact eqFs_run hE fs b h w
  ·rename_i hn
   rw [if_pos hn]
   split at h
   ·rename_i x y hx hy
    split at h
    ·rename_i p q hp hq
     injection h with h
     subst h
     simp only [Sem.run_bind, partV_run hx w, partV_run hy w, hE _ _ _ _ hp w, Result.andThen_ok]
     cases p with
     | false => simp
     | true => simpa using eqFs_run hE fs q hq w
    ·cases h
   ·cases h
theorem eqIs_run {P : Program} {E : TypeId → Value → Value → Option Bool} {d : Nat} {e : TypeId} {c : Nat} {xs ys : Array Value} (hE : ∀ t x y b, E t x y = some b → ∀ w, (Op.equalIn d t x y).run P w = .ok b w) :
  ∀ (is : List Nat) (b : Bool), eqIs P E e c xs ys is = some b → ∀ w, (Op.eqItems d e c xs ys is).run P w = .ok b w
 | [], b, h, w => by
  simp only [eqIs, Option.some.injEq] at h
  subst h
  simp [Op.eqItems]
 | i :: is, b, h, w => by
  unfold eqIs at h
  unfold Op.eqItems
  split at h
  ·rename_i x y hx hy
   split at h
   ·rename_i p q hp hq
    injection h with h
    subst h
    simp only [Sem.run_bind, partV_run hx w, partV_run hy w, hE _ _ _ _ hp w, Result.andThen_ok]
    cases p with
    | false => simp
    | true => simpa using eqIs_run hE is q hq w
   ·cases h
  ·cases h
theorem eqV_run {P : Program} : ∀ (d n : Nat) (t : TypeId) (x y : Value) (b : Bool), eqV P d t x y = some b → ∀ w, (Op.equalIn (n + d) t x y).run P w = .ok b w
 | 0, _, _, _, _, _, h, _ => by simp [eqV] at h
 | d + 1, n, t, x, y, b, h, w => by
  unfold eqV at h
  split at h
  ·rename_i hu
   split at h
   ·split at h
    ·rename_i hk
     injection h with h
     subst h hk
     exact run_equalIn_int w (n + d) t _ _ _ _ hu
    ·cases h
   ·cases h
  ·rename_i hu
   split at h
   ·injection h with h
    subst h
    exact run_equalIn_bool w (n + d) t _ _ hu
   ·cases h
  ·rename_i hu
   split at h
   ·injection h with h
    subst h
    exact run_equalIn_string w (n + d) t _ _ hu
   ·cases h
  ·rename_i fs hu
   split at h
   ·split at h
    ·cases h
    ·rename_i hs
     have hf : P.fieldsOf t = fs := by simp [Program.fieldsOf, hu]
     rw [show n + (d + 1) = (n + d) + 1 from rfl, run_equalIn_struct w (n + d) t _ _ (by rw [hf]; exact hu) (by simpa using hs), hf]
     exact eqFs_run (eqV_run d n) fs.toList b h w
   ·cases h
  ·rename_i m e hu
   split at h
   ·rename_i i hi
    rw [show n + (d + 1) = (n + d) + 1 from rfl, run_equalIn_array w (n + d) _ _ hu hi]
    exact eqIs_run (eqV_run d n) _ b h w
   ·cases h
  ·cases h
def eqOf (P : Program) (s : S) : Op → Option (Bool × Option Bool)
 | .binOp .eql t x y _ => (match s.eval x, s.eval y with | .agg _, .agg _ => some (true, if P.eqGuardType P.depth t then none else match (s.eval x).flat, (s.eval y).flat with | some a, some b => eqV P 8 t a b | _, _ => none) | _, _ => none)
 | .binOp .neq t x y _ => (match s.eval x, s.eval y with | .agg _, .agg _ => some (false, if P.eqGuardType P.depth t then none else match (s.eval x).flat, (s.eval y).flat with | some a, some b => eqV P 8 t a b | _, _ => none) | _, _ => none)
 | _ => none
def eqK (k : T → Prop) : Bool → Option Bool → Prop
 | _, none => False
 | true, some b => k (.v (.bool b))
 | false, some b => k (.v (.bool !b))
inductive Ar where | shl | shr | quo | rem
def isConstO : Operand → Bool
 | .const _ => true
 | _ => false
def arTo (r : Ar) (same : Bool) : T → T → Option (Ar × IntKind × Int × Int)
 | .v (.int k a), .v (.int k' b) => if !same || k == k' then some (r, k, a, b) else none
 | _, _ => none
def arOf (s : S) : Op → Option (Ar × IntKind × Int × Int)
 | .binOp .shl _ x y _ => if isConstO y then none else arTo .shl false (s.eval x) (s.eval y)
 | .binOp .shr _ x y _ => if isConstO y then none else arTo .shr false (s.eval x) (s.eval y)
 | .binOp .quo _ x y _ => if isConstO y then none else arTo .quo true (s.eval x) (s.eval y)
 | .binOp .rem _ x y _ => if isConstO y then none else arTo .rem true (s.eval x) (s.eval y)
 | _ => none
def arK (k : T → Prop) : Ar × IntKind × Int × Int → Prop
 | (.shl, i, a, b) => ¬ b < 0 ∧ k (.v (.int i (i.wrap (a * 2 ^ min b.toNat i.bits))))
 | (.shr, i, a, b) => ¬ b < 0 ∧ k (.v (.int i (a.fdiv (2 ^ min b.toNat i.bits))))
 | (.quo, i, a, b) => ¬ b = 0 ∧ k (.v (.int i (i.wrap (a.tdiv b))))
 | (.rem, i, a, b) => ¬ b = 0 ∧ k (.v (.int i (a.tmod b)))
theorem arTo_some {r : Ar} {same : Bool} {x y : T} {q : Ar × IntKind × Int × Int} (h : arTo r same x y = some q) : ∃ k a k' b, x = .v (.int k a) ∧ y = .v (.int k' b) ∧ q = (r, k, a, b) ∧ (same = true → k = k') := by
 unfold arTo at h
 split at h
 ·split at h
  ·rename_i hc
   injection h with h
   refine ⟨_, _, _, _, rfl, rfl, h.symm, fun hs => ?_⟩
   subst hs
   simpa using hc
  ·cases h
 ·cases h
theorem arOf_some {s : S} {p : Op} {q : Ar × IntKind × Int × Int} (h : arOf s p = some q) : ∃ op xt x y yt k a k' b, p = .binOp op xt x y yt ∧ s.eval x = .v (.int k a) ∧ s.eval y = .v (.int k' b) ∧
  ((op = .shl ∧ q = (.shl, k, a, b)) ∨ (op = .shr ∧ q = (.shr, k, a, b)) ∨ (op = .quo ∧ q = (.quo, k, a, b) ∧ k = k') ∨ (op = .rem ∧ q = (.rem, k, a, b) ∧ k = k')) := by
 unfold arOf at h
 split at h
 ·split at h
  ·cases h
  ·obtain ⟨k, a, k', b, h1, h2, h3, h4⟩ := arTo_some h
   exact ⟨_, _, _, _, _, k, a, k', b, rfl, h1, h2, .inl ⟨rfl, h3⟩⟩
 ·split at h
  ·cases h
  ·obtain ⟨k, a, k', b, h1, h2, h3, h4⟩ := arTo_some h
   exact ⟨_, _, _, _, _, k, a, k', b, rfl, h1, h2, .inr (.inl ⟨rfl, h3⟩)⟩
 ·split at h
  ·cases h
  ·obtain ⟨k, a, k', b, h1, h2, h3, h4⟩ := arTo_some h
   exact ⟨_, _, _, _, _, k, a, k', b, rfl, h1, h2, .inr (.inr (.inl ⟨rfl, h3, h4 rfl⟩))⟩
 ·split at h
  ·cases h
  ·obtain ⟨k, a, k', b, h1, h2, h3, h4⟩ := arTo_some h
   exact ⟨_, _, _, _, _, k, a, k', b, rfl, h1, h2, .inr (.inr (.inr ⟨rfl, h3, h4 rfl⟩))⟩
 ·cases h
def flatK (P : Program) (s : S) (o : Oper) (k : T → Prop) : Prop :=
 match arOf s o.op with
 | some q => arK k q
 | none => match eqOf P s o.op with
  | some q => eqK k q.1 q.2
  | none => match flatRun P s o with | some t => k t | none => False
def Found (P : Program) (o : Oper) (a : Act) (M : Pm) (k : T → Prop) : Prop := ∃ v t, k t ∧ Rel M t v ∧ Yield P o a v
theorem run_value {P : Program} {s : Sem Value} {u : Value} {w : World} (h : s.run P w = .ok u w) : (do pure (Next.value (← s)) : Sem Next).run P w = .ok (.value u) w := by
 simp [h]
theorem eqOf_sound {P : Program} {s : S} {o : Oper} {k : T → Prop} {M : Pm} {a : Act} {q : Bool × Option Bool} (hq : eqOf P s o.op = some q) (h : eqK k q.1 q.2) (r : RelL M s.fr a.tmps.toList) : Found P o a M k := by
 have key : ∀ (op : BinOp) (t : TypeId) (x y : Operand) (yt : TypeId) (b : Bool) (e : Bool), ((op = .eql ∧ e = true) ∨ (op = .neq ∧ e = false)) → o.op = .binOp op t x y yt → (∃ xs, s.eval x = .agg xs) → (∃ ys, s.eval y = .agg ys) →
   (if P.eqGuardType P.depth t then none else match (s.eval x).flat, (s.eval y).flat with | some a, some b => eqV P 8 t a b | _, _ => none) = some b → k (.v (.bool (if e then b else !b))) → Found P o a M k := fun op t x y yt b e hop ho ⟨xs, hx⟩ ⟨ys, hy⟩ hb hk => by
  split at hb
  ·cases hb
  rename_i hg
  split at hb
  rotate_left
  ·cases hb
  rename_i u v hu hv
  have eu := flat_rel hu (eval_rel r x)
  have ev := flat_rel hv (eval_rel r y)
  have ru := eval_rel r x
  have rv := eval_rel r y
  rw [hx] at ru
  rw [hy] at rv
  simp only [Rel] at ru rv
  obtain ⟨us, e1, -⟩ := ru
  obtain ⟨vs, e2, -⟩ := rv
  have hh : ∀ w, (Op.equalIn 10000 t (.agg us) (.agg vs)).run P w = .ok b w := fun w => by
   have := eqV_run 8 9992 t u v b hb w
   rw [← eu, ← ev, e1, e2] at this
   exact this
  have hrun : ∀ w, (execOp a.eval o).run P w = .ok (.value (.bool (if e then b else !b))) w := fun w => by
   unfold execOp
   rw [ho]
   rcases hop with ⟨rfl, rfl⟩ | ⟨rfl, rfl⟩
   ·simp only [e1, e2]
    refine run_value ?_
    simp only [Sem.run_bind, run_eqGuard_agg w _ t x y us vs (by simpa using hg), Result.andThen_ok, run_eql_struct, hh w]
    rfl
   ·simp only [e1, e2]
    refine run_value ?_
    simp only [Sem.run_bind, run_eqGuard_agg w _ t x y us vs (by simpa using hg), Result.andThen_ok, run_neq_struct, hh w]
    rfl
  exact ⟨.bool (if e then b else !b), .v (.bool (if e then b else !b)), hk, by simp only [Rel], hrun⟩
 unfold eqOf at hq
 split at hq
 ·rename_i t x y yt ho
  split at hq
  ·rename_i xs ys hx hy
   injection hq with hq
   subst hq
   dsimp only at h
   generalize hB : (if P.eqGuardType P.depth t = true then none else match (s.eval x).flat, (s.eval y).flat with | some a, some b => eqV P 8 t a b | _, _ => none) = B at h
   cases B with
   | none => exact (h : False).elim
   | some b => exact key .eql t x y yt b true (.inl ⟨rfl, rfl⟩) ho ⟨_, hx⟩ ⟨_, hy⟩ hB h
  ·cases hq
 ·rename_i t x y yt ho
  split at hq
  ·rename_i xs ys hx hy
   injection hq with hq
   subst hq
   dsimp only at h
   generalize hB : (if P.eqGuardType P.depth t = true then none else match (s.eval x).flat, (s.eval y).flat with | some a, some b => eqV P 8 t a b | _, _ => none) = B at h
   cases B with
   | none => exact (h : False).elim
   | some b => exact key .neq t x y yt b false (.inr ⟨rfl, rfl⟩) ho ⟨_, hx⟩ ⟨_, hy⟩ hB h
  ·cases hq
 ·cases hq
theorem flatK_sound {P : Program} {s : S} {o : Oper} {k : T → Prop} {M : Pm} {a : Act} (h : flatK P s o k) (r : RelL M s.fr a.tmps.toList) : Found P o a M k := by
 unfold flatK at h
 split at h
 ·rename_i q hq
  obtain ⟨op, xt, x, y, yt, kk, b, k', c, h1, h2, h3, h4⟩ := arOf_some hq
  have ex := eval_rel r x
  have ey := eval_rel r y
  rw [h2] at ex
  rw [h3] at ey
  simp only [Rel] at ex ey
  have e : ∀ w, (execOp a.eval o).run P w = ((binOp op xt (.int kk b) (.int k' c)).bind fun v => .pure (Next.value v)).run P w := fun w => by
   unfold execOp
   rw [h1]
   simp only [ex, ey]
   rcases h4 with ⟨rfl, -⟩ | ⟨rfl, -⟩ | ⟨rfl, -⟩ | ⟨rfl, -⟩ <;> rfl
  rcases h4 with ⟨rfl, rfl⟩ | ⟨rfl, rfl⟩ | ⟨rfl, rfl, rfl⟩ | ⟨rfl, rfl, rfl⟩
  ·exact ⟨.int kk (kk.wrap (b * 2 ^ min c.toNat kk.bits)), .v (.int kk (kk.wrap (b * 2 ^ min c.toNat kk.bits))), h.2, by simp only [Rel], fun w => by rw [e w]; simp only [binOp, Op.shift, if_neg h.1]; rfl⟩
  ·exact ⟨.int kk (b.fdiv (2 ^ min c.toNat kk.bits)), .v (.int kk (b.fdiv (2 ^ min c.toNat kk.bits))), h.2, by simp only [Rel], fun w => by rw [e w]; simp only [binOp, Op.shift, if_neg h.1]; rfl⟩
  ·exact ⟨.int kk (kk.wrap (b.tdiv c)), .v (.int kk (kk.wrap (b.tdiv c))), h.2, by simp only [Rel], fun w => by rw [e w]; simp only [binOp, Op.intDiv, if_neg h.1, ne_eq, not_true_eq_false, if_false]; rfl⟩
  ·exact ⟨.int kk (b.tmod c), .v (.int kk (b.tmod c)), h.2, by simp only [Rel], fun w => by rw [e w]; simp only [binOp, Op.intDiv, if_neg h.1, ne_eq, not_true_eq_false, if_false]; rfl⟩
 split at h
 ·rename_i q hq
  exact eqOf_sound hq h r
 split at h
 ·rename_i t ht
  unfold flatRun at ht
  split at ht
  ·rename_i hc
   simp only [Bool.and_eq_true, List.all_eq_true] at hc
   split at ht
   ·rename_i v hv
    injection ht with ht
    subst ht
    refine ⟨v, _, h, rel_ofV v, fun w => ?_⟩
    have hs : ∀ cs b, o.op ≠ .select cs b := fun cs b e => by rw [e] at hc; simp [isSel] at hc
    have he : execOp a.eval o = execOp (flatRho s) o := execOp_congr o hs fun x hx => by
     have h1 := hc.1 x (by simpa using hx)
     obtain ⟨y, hy⟩ := Option.isSome_iff_exists.1 h1
     unfold flatRho
     rw [hy]
     exact flat_rel hy (eval_rel r x)
    rw [he]
    exact prun_run hv w
   ·cases ht
  ·cases ht
 ·exact h.elim
def fieldOf (P : Program) (st : TypeId) (f : Nat) : Option Field := match P.underlying st with | some (.struct fs) => fs[f]? | _ => none
def sizeT (P : Program) (t : TypeId) : Option Nat := (P.info? t).map (·.size)
def aggOf (P : Program) (t : TypeId) : Option (Option Nat) :=
 match P.underlying t with
 | some (.struct _) => (sizeT P t).map some
 | some (.array _ _) => (sizeT P t).map some
 | some _ => some none
 | none => none
def partT (P : Program) (t : TypeId) (cs : List T) (off : Nat) : Option T :=
 match aggOf P t with
 | some (some n) => some (.agg ((cs.drop off).take n))
 | some none => cs[off]?
 | none => none
theorem run_sizeOf {P : Program} {t : TypeId} {n : Nat} (h : sizeT P t = some n) (w : World) : (sizeOf t).run P w = .ok n w := by
 unfold sizeT at h
 simp only [Option.map_eq_some_iff] at h
 obtain ⟨i, h1, rfl⟩ := h
 simp [sizeOf, typeInfo, h1]
theorem run_isAgg {P : Program} {t : TypeId} {x : Option Nat} (h : aggOf P t = some x) (w : World) : (isAgg t).run P w = .ok x.isSome w ∧ ∀ n, x = some n → sizeT P t = some n := by
 unfold aggOf at h
 split at h
 ·rename_i fs hu
  simp only [Option.map_eq_some_iff] at h
  obtain ⟨n, h1, rfl⟩ := h
  exact ⟨by simp [isAgg, run_underlying hu], fun m e => by injection e with e; exact e ▸ h1⟩
 ·rename_i n e hu
  simp only [Option.map_eq_some_iff] at h
  obtain ⟨n, h1, rfl⟩ := h
  exact ⟨by simp [isAgg, run_underlying hu], fun m e => by injection e with e; exact e ▸ h1⟩
 ·rename_i d h1 h2 hu
  injection h with h
  subst h
  refine ⟨?_, fun n e => by cases e⟩
  simp only [isAgg, Sem.run_bind, run_underlying hu, Result.andThen_ok]
  cases d <;> first | rfl | exact absurd rfl (h1 _) | exact absurd rfl (h2 _ _)
 ·cases h
theorem part_sound {P : Program} {M : Pm} {t : TypeId} {cs : List T} {ys : Array Value} {off : Nat} {u : T} (h : partT P t cs off = some u) (r : RelL M cs ys.toList) : ∃ y, Rel M u y ∧ ∀ w, (part t ys off).run P w = .ok y w := by
 unfold partT at h
 split at h
 ·rename_i n ha
  injection h with h
  subst h
  refine ⟨.agg (ys.extract off (off + n)), ?_, fun w => ?_⟩
  ·simp only [Rel]
   refine ⟨_, rfl, ?_⟩
   have := (r.drop off).take n
   simpa [List.extract_eq_take_drop, List.take_drop, Nat.add_comm] using this
  ·have h1 := run_isAgg ha w
   simp [part, h1.1, run_sizeOf (h1.2 n rfl)]
 ·rename_i ha
  obtain ⟨y, h1, h2⟩ := r.get h
  rw [Array.getElem?_toList] at h1
  exact ⟨y, h2, fun w => by simp [part, (run_isAgg ha w).1, h1]⟩
 ·cases h
def intT : T → Option (IntKind × Int)
 | .v (.int k i) => some (k, i)
 | _ => none
theorem intT_rel {M : Pm} {t : T} {y : Value} {k : IntKind} {i : Int} (h : intT t = some (k, i)) (r : Rel M t y) : y = .int k i := by
 unfold intT at h
 split at h
 ·injection h with h; injection h with h1 h2; subst h1 h2; simpa only [Rel] using r
 ·cases h
def claim (h : Hint) (x : Option T) (k : T → Prop) : Prop :=
 match h with
 | .res t => x = some t ∧ k t
 | _ => match x with | some t => k t | none => False
theorem claim_some {h : Hint} {x : Option T} {k : T → Prop} (c : claim h x k) : ∃ t, x = some t ∧ k t := by
 unfold claim at c
 split at c
 ·exact ⟨_, c.1, c.2⟩
 ·split at c
  ·exact ⟨_, rfl, c⟩
  ·exact c.elim
def vField (P : Program) (s : S) (o : Oper) (h : Hint) (k : T → Prop) (xt : TypeId) (x : Operand) (f : Nat) : Prop :=
 match s.eval x with
 | .agg cs => (match fieldOf P xt f with | some fd => claim h (partT P fd.type cs fd.offset) k | none => False)
 | _ => flatK P s o k
def vExtract (P : Program) (s : S) (o : Oper) (h : Hint) (k : T → Prop) (x : Operand) (i : Nat) : Prop :=
 match s.eval x with
 | .tup ts => claim h ts[i]? k
 | _ => flatK P s o k
def vFieldAddr (P : Program) (s : S) (o : Oper) (k : T → Prop) (xt : TypeId) (x : Operand) (f : Nat) : Prop :=
 match fieldOf P xt f with
 | some fd => (match sizeT P fd.type with
  | some (_ + 1) => (match s.eval x with
   | .ptr i b n => k (.ptr i b (n + fd.offset))
   | .gp b n => k (.gp b (n + fd.offset))
   | .pim cs => k (.pim (cs.drop fd.offset))
   | _ => flatK P s o k)
  | _ => False)
 | none => False
def elemOfT (P : Program) (t : TypeId) : Option (Option Nat × TypeId) := match P.underlying t with | some (.array n e) => some (some n, e) | some (.slice e) => some (none, e) | _ => none
def vIndexSl (P : Program) (h : Hint) (k : T → Prop) (e : TypeId) (i : Int) (kk : Nat) (es : List T) : Prop :=
 match sizeT P e with
 | some n => if n = kk then (0 ≤ i ∧ claim h es[i.toNat]? (fun t => k (.pim (elCells t)))) else False
 | none => False
def vIndexAddr (P : Program) (s : S) (h : Hint) (k : T → Prop) (t : TypeId) (x ix : Operand) : Prop :=
 match intT (s.eval ix) with
 | some (_, i) => (match elemOfT P t with
  | some (some len, e) => (match sizeT P e with
   | some n => (0 ≤ i ∧ i < (len : Int)) ∧ (match s.eval x with
    | .ptr j b m => k (.ptr j b (m + i.toNat * n))
    | .gp b m => k (.gp b (m + i.toNat * n))
    | .pim cs => k (.pim (cs.drop (i.toNat * n)))
    | _ => False)
   | none => False)
  | some (none, e) => (match s.eval x with
   | .sl kk es => vIndexSl P h k e i kk es
   | .slx kk _ es _ => vIndexSl P h k e i kk es
   | .sa j b m n _ => (match sizeT P e with
    | some z => (0 ≤ i ∧ i < (n : Int)) ∧ k (.ptr j b (m + i.toNat * z))
    | none => False)
   | _ => False)
  | none => False)
 | none => False
def vIndex (P : Program) (s : S) (h : Hint) (k : T → Prop) (t : TypeId) (x ix : Operand) : Prop :=
 match intT (s.eval ix) with
 | some (_, i) => (match s.eval x with
  | .agg cs => (match elemOfT P t with
   | some (some len, e) => (match sizeT P e with
    | some n => (0 ≤ i ∧ i < (len : Int)) ∧ claim h (partT P e cs (i.toNat * n)) k
    | none => False)
   | _ => False)
  | .v (.string z) => (match P.underlying t with
   | some .string => 0 ≤ i ∧ claim h ((z[i.toNat]?).map fun (c : UInt8) => T.v (.int .u8 c.toNat)) k
   | _ => False)
  | _ => False)
 | none => False
def boundT (s : S) (d : Nat) : Option Operand → Option Int
 | none => some d
 | some x => (intT (s.eval x)).map (·.2)
def vSliceSl (P : Program) (s : S) (k : T → Prop) (e : TypeId) (kk : Nat) (es : List T) (lo hi : Option Operand) : Prop :=
 match sizeT P e with
 | some n => if n = kk then (match boundT s 0 lo, boundT s es.length hi with
  | some l, some u => (0 ≤ l ∧ l ≤ u ∧ u ≤ (es.length : Int)) ∧ k (.sl kk ((es.take u.toNat).drop l.toNat))
  | _, _ => False) else False
 | none => False
def vSliceSa (P : Program) (s : S) (k : T → Prop) (e : TypeId) (j b o n cap : Nat) (lo hi mx : Option Operand) : Prop :=
 match sizeT P e, boundT s 0 lo, boundT s n hi, boundT s cap mx with
 | some z, some l, some u, some m => (match (mx.isNone || hi.isSome) with
  | true => (0 ≤ l ∧ l ≤ u ∧ u ≤ m ∧ m ≤ (cap : Int)) ∧ (l < m → k (.sa j b (o + l.toNat * z) (u.toNat - l.toNat) (m.toNat - l.toNat))) ∧ (l = m → k (.sa j b o 0 0))
  | false => False)
 | _, _, _, _ => False
def vSlice0 (s : S) (k : T → Prop) (lo hi mx : Option Operand) : Prop :=
 match boundT s 0 lo, boundT s 1 hi, boundT s 1 mx with
 | some 0, some 0, some 0 => k .s0
 | _, _, _ => False
def vSlice3 (P : Program) (s : S) (k : T → Prop) (t : TypeId) (x : Operand) (lo hi mx : Option Operand) : Prop :=
 match P.underlying t with
 | some (.slice e) => (match s.eval x with
  | .sa j b o n cap => vSliceSa P s k e j b o n cap lo hi mx
  | .sl _ _ => (match sizeT P e with | some _ => vSlice0 s k lo hi mx | none => False)
  | .slx _ _ _ _ => (match sizeT P e with | some _ => vSlice0 s k lo hi mx | none => False)
  | _ => False)
 | _ => False
def vSlice (P : Program) (s : S) (k : T → Prop) (t : TypeId) (x : Operand) (lo hi mx : Option Operand) : Prop :=
 match mx with
 | some _ => vSlice3 P s k t x lo hi mx
 | none => (match s.eval x with
  | .v (.string z) => (match P.underlying t with
   | some .string => (match boundT s 0 lo, boundT s z.size hi with
    | some l, some u => (0 ≤ l ∧ l ≤ u ∧ u ≤ (z.size : Int)) ∧ k (.v (.string (z.extract l.toNat u.toNat)))
    | _, _ => False)
   | _ => False)
  | .sl kk es => (match P.underlying t with | some (.slice e) => vSliceSl P s k e kk es lo hi | _ => False)
  | .slx kk _ es _ => (match P.underlying t with | some (.slice e) => vSliceSl P s k e kk es lo hi | _ => False)
  | .sa .. => vSlice3 P s k t x lo hi none
  | .ptr j b m => (match lo, hi with
   | none, none => (match elemOfT P t with
    | some (some n, e) => (match sizeT P e with | some _ => if n ≤ 9223372036854775807 then k (.sa j b m n n) else False | none => False)
    | _ => False)
   | _, _ => False)
  | _ => False)
def sufV (k l : Nat) : Value → Value
 | .slice A n cap => .slice (if cap = l then A else A.map (·.add (l * k))) (n - l) (cap - l)
 | v => v
def vSliceX (P : Program) (s : S) (k : T → Prop) (t : TypeId) (x : Operand) (lo hi mx : Option Operand) : Prop :=
 match P.underlying t, s.eval x, hi, mx with
 | some (.slice e), .slx kk i es v, none, none => (match sizeT P e with
  | some n => if n = kk then (match boundT s 0 lo with
   | some l => (0 ≤ l ∧ l ≤ (es.length : Int)) ∧ k (.slx kk i (es.drop l.toNat) (sufV kk l.toNat v))
   | none => False) else False
  | none => False)
 | _, _, _, _ => False
def vSliceH (P : Program) (s : S) (h : Hint) (k : T → Prop) (t : TypeId) (x : Operand) (lo hi mx : Option Operand) : Prop :=
 match h with
 | .glob => vSliceX P s k t x lo hi mx
 | _ => vSlice P s k t x lo hi mx
def vNil (P : Program) (s : S) (o : Oper) (k : T → Prop) (x : Operand) : Prop :=
 match s.eval x with
 | .ptr i b n => k (.ptr i b n)
 | .gp b n => k (.gp b n)
 | .pim cs => k (.pim cs)
 | .fn f cs => k (.fn f cs)
 | .fb f cs => k (.fb f cs)
 | _ => flatK P s o k
def setRange (cs : List T) (off : Nat) (ts : List T) : List T := ts.zipIdx.foldl (fun cs (c, j) => cs.set (off + j) c) cs
def T.isUnd : T → Bool
 | .und => true
 | _ => false
def fillT (place : Nat → Option (Nat × Nat)) (cells : List T) : List (Nat × T) → Option (List T)
 | [] => some cells
 | (i, t) :: rest =>
  match place i with
  | none => none
  | some (off, size) => if t.isUnd || t.cells.length != size || decide (cells.length < off + t.cells.length) then none else fillT place (setRange cells off t.cells) rest
def zeroT (P : Program) (t : TypeId) : Option (List T) := ((P.info? t).bind (·.zero)).map fun z => z.cells.toList.map T.v
def placesOf (P : Program) : List Field → Option (List (Nat × Nat))
 | [] => some []
 | f :: fs => match sizeT P f.type, placesOf P fs with | some n, some l => some ((f.offset, n) :: l) | _, _ => none
def placeOf (P : Program) (t : TypeId) : Option (Nat → Option (Nat × Nat)) :=
 match P.underlying t with
 | some (.struct fs) => (placesOf P fs.toList).map fun l i => l[i]?
 | some (.array _ e) => (sizeT P e).map fun n i => some (i * n, n)
 | _ => none
def vBuild (P : Program) (s : S) (h : Hint) (k : T → Prop) (t : TypeId) (parts : Array (Nat × Operand)) : Prop :=
 match zeroT P t, placeOf P t with
 | some z, some place => claim h ((fillT place z (parts.toList.map fun p => (p.1, s.eval p.2))).map T.agg) k
 | _, _ => False
def vLen (P : Program) (s : S) (o : Oper) (k : T → Prop) (c : Call) : Prop :=
 match c.callee, c.args.toList, c.argTypes.toList with
 | .builtin .len, [x], [t] => (match s.eval x with
  | .sl _ es => (match P.underlying t with | some (.slice _) => k (.v (.int .i64 es.length)) | _ => False)
  | .slx _ _ es _ => (match P.underlying t with | some (.slice _) => k (.v (.int .i64 es.length)) | _ => False)
  | _ => flatK P s o k)
 | _, _, _ => flatK P s o k
def vMakeFunc (P : Program) (s : S) (o : Oper) (k : T → Prop) (fn : Fn) (first captured : Array Operand) : Prop :=
 match fn, first.toList, captured.toList with
 | .func f, [], _ => k (.fn f (captured.toList.map s.eval))
 | .func f, _ :: _, [] => k (.fb f (first.toList.map s.eval))
 | _, _, _ => flatK P s o k
def nilSl : T → Option (List T)
 | .sl _ es => some es
 | .slx _ _ es _ => some es
 | .s0 => some []
 | _ => none
def nilCmp (P : Program) (s : S) : Op → Option (Bool × List T)
 | .binOp .eql t x y _ => (match P.underlying t, s.eval y with | some (.slice _), .v (.slice none 0 0) => (nilSl (s.eval x)).map fun es => (true, es) | _, _ => none)
 | .binOp .neq t x y _ => (match P.underlying t, s.eval y with | some (.slice _), .v (.slice none 0 0) => (nilSl (s.eval x)).map fun es => (false, es) | _, _ => none)
 | _ => none
def nilK (k : T → Prop) : Bool × List T → Prop
 | (b, es) => (es.length = 0 → k (.v (.bool b))) ∧ k (.v (.bool !b))
def strOp (s : S) : Op → Option (BinOp × ByteArray × ByteArray)
 | .binOp op _ x y _ => (match s.eval x, s.eval y with
  | .v (.string a), .v (.string b) => (match op with | .add => some (.add, a, b) | .eql => some (.eql, a, b) | .neq => some (.neq, a, b) | _ => none)
  | _, _ => none)
 | _ => none
def strK (h : Hint) (k : T → Prop) : BinOp × ByteArray × ByteArray → Prop
 | (.add, a, b) => a.size + b.size ≤ 9223372036854775807 ∧ claim h (some (.v (.string (a ++ b)))) k
 | (.eql, a, b) => k (.v (.bool (decide (a = b))))
 | (_, a, b) => k (.v (.bool (!decide (a = b))))
def pv (P : Program) (s : S) (o : Oper) (h : Hint) (k : T → Prop) : Prop :=
 match o.op with
 | .move x => claim h (some (s.eval x)) k
 | .assign x => claim h (some (s.eval x)) k
 | .pick c a b => (match s.eval c with | .v (.bool t) => bsplit t (k (s.eval a)) (k (s.eval b)) | _ => False)
 | .field xt x f => vField P s o h k xt x f
 | .extract x i => vExtract P s o h k x i
 | .fieldAddr xt x f => vFieldAddr P s o k xt x f
 | .indexAddr t x ix => vIndexAddr P s h k t x ix
 | .index t x ix => vIndex P s h k t x ix
 | .slice t x lo hi mx => vSliceH P s h k t x lo hi mx
 | .nilCheck x => vNil P s o k x
 | .build t parts => vBuild P s h k t parts
 | .call c => vLen P s o k c
 | .makeFunc fn first captured => vMakeFunc P s o k fn first captured
 | _ => (match strOp s o.op with
  | some q => strK h k q
  | none => (match nilCmp P s o.op with
   | some q => nilK k q
   | none => (match h with
    | .res t => flatK P s o (fun u => u = t ∧ k t)
    | _ => flatK P s o k)))
end Go.Proofs.Ytafcbipmmjegcaa.Vm
