/- Texts of this claim, one behind the other: Vm3, Vm4, Vm5, Vm6, Vm7, Vm8. -/
import Derived.Test.YtaepgceodcdnhaaDoorMg1
import Derived.Deep.AppendSrc
import Derived.Deep.Upon
/- Trees: operations that look at memory or turn it; statements; the run. No program is named here. -/
namespace Go.Proofs.YtaepgceodcdnhaaDoor.Vm
open Go Go.RowKit

def T.one : T → Bool
  | .v x => x.oneCell'
  | .agg _ => false
  | .tup _ => false
  | .und => false
  | _ => true
/-- what a block holds that never turns -/
def fixAt (b : Nat) : List (Nat × Ob) → Option (List T)
  | [] => none
  | (b', .fix cs) :: l => if b' = b then some cs else fixAt b l
  | _ :: l => fixAt b l
/-- the cells from an address on -/
def cellsAt (s : S) (h : Hint) (a : T) (k : List T → Prop) : Prop :=
  match a with
  | .ptr i b o => (match s.ob[i]? with | some (b', .cells cs) => b' = b ∧ k (cs.drop o) | _ => False)
  | .gp b o => (match h with | .gl cs => s.gl b = some (.cells cs) ∧ k (cs.drop o) | _ => (match fixAt b s.ob with | some cs => k (cs.drop o) | none => False))
  | .pim cs => k cs
  | _ => False
def loadT (P : Program) (t : TypeId) (cs : List T) : Option T := match aggOf P t with | some (some n) => if cs.length < n then none else some (.agg (cs.take n)) | some none => cs[0]? | none => none
def vLoad (P : Program) (s : S) (h : Hint) (t : TypeId) (x : Operand) (k : T → Prop) : Prop := cellsAt s h (s.eval x) fun cs => claim h (loadT P t cs) k
def setCells (cs : List T) (o : Nat) (ts : List T) : List T := cs.take o ++ ts ++ cs.drop (o + ts.length)
def claimL (h : Hint) (x : List T) (k : List T → Prop) : Prop := match h with | .obj cs => x = cs ∧ k cs | _ => k x
/-- one object of the families is another one now -/
def setGl (gl : Nat → Option Ob) (b : Nat) (cs : List T) : Nat → Option Ob := fun j => if j = b then some (.cells cs) else gl j
def eStore (P : Program) (s : S) (h : Hint) (t : TypeId) (x y : Operand) (K : S → Prop) : Prop :=
  match sizeT P t with
  | some n => (match s.eval y with
    | .und => False
    | u => (u.cells.length = n ∧ u.cells.all T.one = true) ∧ (match s.eval x with
      | .ptr i b o => (match s.ob[i]? with | some (b', .cells cs) => b' = b ∧ o + n ≤ cs.length ∧ claimL h (setCells cs o u.cells) (fun cs' => K { s with ob := s.ob.set i (b', .cells cs') }) | _ => False)
      | .gp b o => (match h with | .gl cs => s.gl b = some (.cells cs) ∧ o + n ≤ cs.length ∧ K { s with gl := setGl s.gl b (setCells cs o u.cells) } | _ => False)
      | _ => False))
  | none => False
def newOb (s : S) (d : Option Tmp) (x : Ob) (f : Nat → T) (K : S → Prop) : Prop := ∀ b, K (({ s with ob := s.ob ++ [(b, x)] } : S).put d (f b))
def eAlloc (P : Program) (s : S) (d : Option Tmp) (t : TypeId) (K : S → Prop) : Prop := match zeroT P t with | some z => newOb s d (.cells z) (fun b => .ptr s.ob.length b 0) K | none => False
def eBox (s : S) (d : Option Tmp) (h : Hint) (x : Operand) (K : S → Prop) : Prop := match s.eval x with
  | .und => False
  | u => (match h with
    | .glob => ∀ b, s.gl b = none → K (({ s with gl := setGl s.gl b u.cells } : S).put d (.gp b 0))
    | _ => newOb s d (.cells u.cells) (fun b => .ptr s.ob.length b 0) K)
/-- cells, cut into elements -/
def chunk (agg : Bool) (k : Nat) : Nat → List T → List T
  | 0, _ => []
  | n + 1, cs => (if agg then .agg (cs.take k) else cs.headD .und) :: chunk agg k n (cs.drop k)
def eBuildSlice (P : Program) (s : S) (d : Option Tmp) (t : TypeId) (len : Nat) (parts : Array (Nat × Operand)) (K : S → Prop) : Prop :=
  match elemOfT P t with
  | some (none, e) => (match sizeT P e, aggOf P e, zeroT P e with
    | some k, some ag, some _ => if len * k ≤ 1000 ∧ 0 < k ∧ (ag = none → k = 1) then (match fillT (fun i => some (i * k, k)) (List.replicate (len * k) .und) (parts.toList.map fun p => (p.1, s.eval p.2)) with
      | some cs => if cs.all T.one = true then K (s.put d (.sl k (chunk ag.isSome k len cs))) else False
      | none => False) else False
    | _, _, _ => False)
  | _ => False
/-- a slice written out that is empty: it has the right to grow -/
def eBuildNil (P : Program) (s : S) (d : Option Tmp) (t : TypeId) (parts : Array (Nat × Operand)) (K : S → Prop) : Prop :=
  match elemOfT P t, parts.toList with
  | some (none, e), [] => (match sizeT P e with
    | some k => 0 < k ∧ ∀ x : Value, K (({ s with ob := s.ob ++ [(0, .room k e 0 x)] } : S).put d (.slx k s.ob.length [] x))
    | none => False)
  | _, _ => False
/-! ### What a call means -/
def obBlk : Nat × Ob → Option Nat
  | (b, .cells _) => some b
  | (_, .room _ _ _ x) => x.ownBlock
  | (b, .map ..) => some b
  | (b, .iter ..) => some b
  | (b, .kv ..) => some b
  | (_, .fix _) => none
  | (b, .siter ..) => some b
  | (_, .gone) => none
/-- what a map holds, by its trees -/
def FRel (M : Pm) (f : Int → Option T) (fv : Int → Option Value) : Prop := (∀ z t, f z = some t → ∃ v, fv z = some v ∧ Rel M t v) ∧ ∀ z, f z = none → fv z = none
/-- a row of cells in a block; nothing within it is frozen -/
def Hc (w : World) (b : Nat) (C : Array Value) (t : TypeId) : Prop := ∃ fz : Nat × Nat, w.heap[b]? = some (.cells C t fz) ∧ (fz = (0, 0) ∨ C.size ≤ fz.1)
/-- a map by its keys' values -/
def MapV (es : Array MapEntry) (clock : Nat) (G : Value → Prop) (f : Value → Option Value) : Prop :=
  MapKept.Stamped es clock ∧ (∀ x ∈ es.toList, G x.key) ∧ ∀ k v, f k = some v ↔ ∃ x ∈ es.toList, x.key = k ∧ x.val = v
def FRelV (M : Pm) (f : Value → Option T) (fv : Value → Option Value) : Prop := (∀ k t, f k = some t → ∃ v, fv k = some v ∧ Rel M t v) ∧ ∀ k, f k = none → fv k = none
def ObRel (M : Pm) (w : World) : Nat × Ob → Prop
  | (b, .cells cs) => ∃ (C : Array Value) (t : TypeId), Hc w b C t ∧ RelL M cs C.toList ∧ ∀ o, M b o = none
  | (_, .room k _ n x) => (x = .slice none 0 0 ∧ n = 0) ∨ ∃ (g cap : Nat) (C : Array Value) (tr : TypeId), x = .slice (some ⟨g, 0, none⟩) n cap ∧ Hc w g C tr ∧ n ≤ cap ∧ cap ≤ maxLen ∧ C.size = cap * k ∧ ∀ j, n * k ≤ j → M g j = none
  | (b, .map kd f es ck) => w.heap[b]? = some (.map es ck) ∧ (∃ fv, MapE es ck kd fv ∧ FRel M f fv) ∧ ∀ o, M b o = none
  | (b, .iter _ mb kd es ck left cur) => IterE w b mb es ck kd left cur ∧ ∀ o, M b o = none
  | (b, .kv _ G f) => (∃ es ck fv, w.heap[b]? = some (.map es ck) ∧ MapV es ck G fv ∧ FRelV M f fv) ∧ ∀ o, M b o = none
  | (b, .fix cs) => RelA M b cs 0
  | (b, .siter z pos) => w.heap[b]? = some (.stringIter z pos) ∧ ∀ o, M b o = none
  | (_, .gone) => True
abbrev Obs := List (Nat × Ob)
abbrev Glb := Nat → Option Ob
/-- may a block be turned? -/
def Dom (ob : Obs) (gl : Glb) (b : Nat) : Prop := (∃ (i : Nat) (x : Nat × Ob), ob[i]? = some x ∧ obBlk x = some b) ∨ (gl b).isSome = true
structure HRel (M : Pm) (ob : Obs) (gl : Glb) (w : World) : Prop where
  promise : ∀ b o v, M b o = some v → w.cell? ⟨b, o, none⟩ = some v ∧ v.oneCell' = true
  objs : ∀ (i : Nat) (x : Nat × Ob), ob[i]? = some x → ObRel M w x
  apart : ∀ (i j : Nat) (x y : Nat × Ob) (b : Nat), ob[i]? = some x → ob[j]? = some y → obBlk x = some b → obBlk y = some b → i = j
  glob : ∀ (b : Nat) (x : Ob), gl b = some x → obBlk (b, x) = some b ∧ ObRel M w (b, x)
  sep : ∀ (i : Nat) (x : Nat × Ob) (b : Nat), ob[i]? = some x → obBlk x = some b → gl b = none
/-- what was there before, and what has become of it -/
structure Ctx where
  w0 : World
  D : Nat → Prop
  M0 : Pm
structure Grew (Γ : Ctx) (M : Pm) (ob : Obs) (gl : Glb) (w : World) : Prop where
  more : Γ.M0.le M
  only : ∀ b o v, M b o = some v → Γ.M0 b o = some v ∨ Γ.D b ∨ Γ.w0.heap.size ≤ b
  fr : Fr Γ.D Γ.w0 w
  own : ∀ b, Dom ob gl b → Γ.D b ∨ Γ.w0.heap.size ≤ b
def CanCall (P : Program) (f : FuncId) : Prop := ∀ (args : Array Value) (w : World), (callFunc f args).run P w = .ok (.enter f args) w
structure TCalls (P : Program) (f : FuncId) (ts : List T) (ob : Obs) (gl : Glb) (Q : T → Obs → Glb → Prop) : Prop where
  can : CanCall P f
  calls : ∀ (M : Pm) (w : World) (xs : Array Value), HRel M ob gl w → RelL M ts xs.toList →
    Calls P f xs w fun e w' => ∃ x r M' ob' gl', e = .returned x ∧ Rel M' r x ∧ HRel M' ob' gl' w' ∧ Grew ⟨w, Dom ob gl, M⟩ M' ob' gl' w' ∧ Q r ob' gl'
def T.weak1 : T → T
  | .slx k _ es _ => .sl k es
  | t => t
def T.weak : T → T
  | .agg cs => .agg (cs.map T.weak1)
  | t => t.weak1

def merge (sel : List Nat) (ob' ob : Obs) : Obs := ob.zipIdx.map (fun p => match sel.idxOf? p.2 with | some j => ob'.getD j p.1 | none => p.1) ++ ob'.drop sel.length
/-! objects counted in another way: at a call, and at its end -/
def ix0 (f : Nat → Nat) : T → T
  | .ptr i b o => .ptr (f i) b o
  | .slx k i es x => .slx k (f i) es x
  | .mp i b => .mp (f i) b
  | .sa i b o n cap => .sa (f i) b o n cap
  | t => t
def ix1 (f : Nat → Nat) : T → T
  | .fn g cs => .fn g (cs.map (ix0 f))
  | .fb g bs => .fb g (bs.map (ix0 f))
  | t => ix0 f t
def ix2 (f : Nat → Nat) : T → T
  | .agg cs => .agg (cs.map (ix1 f))
  | t => ix1 f t
def ix3 (f : Nat → Nat) : T → T
  | .tup ts => .tup (ts.map (ix2 f))
  | t => ix2 f t
def ixOb (f : Nat → Nat) : Nat × Ob → Nat × Ob
  | (b, .cells cs) => (b, .cells (cs.map (ix1 f)))
  | x => x
def reix (keep : List Nat) : T → T := ix3 fun i => keep.idxOf i
def reixOb (keep : List Nat) : Nat × Ob → Nat × Ob := ixOb fun i => keep.idxOf i
def fwdT (sel : List Nat) : T → T := if sel = List.range sel.length then id else ix3 fun i => sel.idxOf i
def fwdO (sel : List Nat) : Nat × Ob → Nat × Ob := if sel = List.range sel.length then id else ixOb fun i => sel.idxOf i
def bkIx (sel : List Nat) (n i : Nat) : Nat := match sel[i]? with | some j => j | none => n + (i - sel.length)
def bkT (sel : List Nat) (n m : Nat) : T → T := if sel = List.range sel.length ∧ (n = sel.length ∨ m = sel.length) then id else ix3 (bkIx sel n)
def bkO (sel : List Nat) (n m : Nat) : Nat × Ob → Nat × Ob := if sel = List.range sel.length ∧ (n = sel.length ∨ m = sel.length) then id else ixOb (bkIx sel n)
/-- what a call comes to, as the hint says -/
def callPost : Hint → T → Obs → Glb → Prop
  | .call _ α post sel g r ob gl, r', ob', gl' => ∃ a : α, post a ∧ r' = r a ∧ ob' = ob a ∧ sel.length ≤ ob'.length ∧ (g = true → gl' = gl a)
  | _, _, _, _ => False
/-- a hint that names the blocks that there are now -/
def Hint.at (s : S) (args : List T) : Hint → Hint
  | .withB f => f (s.ob.map (·.1))
  | .withA f => f s.ob args
  | h => h
def eCall1 (P : Program) (s : S) (d : Option Tmp) (h : Hint) (f : FuncId) (args : List T) (K : S → Prop) : Prop :=
  match h with
  | .call wk α post sel g r ob gl =>
    if sel.Nodup ∧ sel.all (fun i => decide (i < s.ob.length)) = true then
      TCalls P f ((if wk then args.map T.weak else args).map (fwdT sel)) ((sel.filterMap (fun i => s.ob[i]?)).map (fwdO sel)) (if g then s.gl else fun _ => none) (callPost h) ∧
      ∀ a : α, post a → K (({ s with ob := merge sel ((ob a).map (bkO sel s.ob.length (ob a).length)) s.ob, gl := if g then gl a else s.gl } : S).put d (bkT sel s.ob.length (ob a).length (r a)))
    else False
  | _ => False
/-- nothing in it counts objects -/
def noIx : T → Bool
  | .ptr .. => false
  | .slx .. => false
  | .mp .. => false
  | .sa .. => false
  | .fn .. => false
  | .fb .. => false
  | _ => true
def plainO : List (Nat × Ob) → Prop
  | [] => True
  | (_, .cells cs) :: l => cs.all noIx = true ∧ plainO l
  | _ :: l => plainO l
/-- a call whose objects count no objects -/
def eCallP (P : Program) (s : S) (d : Option Tmp) (h : Hint) (f : FuncId) (args : List T) (K : S → Prop) : Prop :=
  match h with
  | .call wk α post sel g r ob gl =>
    if sel.Nodup ∧ sel.all (fun i => decide (i < s.ob.length)) = true then
      plainO (sel.filterMap (fun i => s.ob[i]?)) ∧ TCalls P f ((if wk then args.map T.weak else args).map (fwdT sel)) (sel.filterMap (fun i => s.ob[i]?)) (if g then s.gl else fun _ => none) (callPost h) ∧
      ∀ a : α, post a → plainO (ob a) ∧ K (({ s with ob := merge sel (ob a) s.ob, gl := if g then gl a else s.gl } : S).put d (bkT sel s.ob.length (ob a).length (r a)))
    else False
  | _ => False
def eCall (P : Program) (s : S) (d : Option Tmp) (h : Hint) (f : FuncId) (args : List T) (K : S → Prop) : Prop :=
  match h.at s args with
  | .plain h => eCallP P s d h f args K
  | h => eCall1 P s d h f args K
/-! ### Maps -/
def mapOf (P : Program) (t : TypeId) : Option (IntKind × TypeId) := match P.underlying t with | some (.map k e) => (match P.underlying k with | some (.int kd) => some (kd, e) | _ => none) | _ => none
def zeroVal (P : Program) (e : TypeId) : Option T := ((P.info? e).bind (·.zero)).map ofC
def vLookup (P : Program) (s : S) (o : Oper) (h : Hint) (t : TypeId) (x ix : Operand) (ok : Bool) (k : T → Prop) : Prop :=
  match s.eval x with
  | .mp i b => (match s.ob[i]?, mapOf P t, intT (s.eval ix) with
    | some (b', .map kd f _ _), some (kd', e), some (kd'', z) => (match zeroVal P e with
      | some zt => if kd' = kd ∧ kd'' = kd then b' = b ∧ claim h (some (if ok then .tup [(f z).getD zt, .v (.bool (f z).isSome)] else (f z).getD zt)) k else False
      | none => False)
    | _, _, _ => False)
  | _ => flatK P s o k
def eMakeMap (P : Program) (s : S) (d : Option Tmp) (t : TypeId) (K : S → Prop) : Prop := match mapOf P t with
  | some (kd, _) => ∀ b, K (({ s with ob := s.ob ++ [(b, .map kd (fun _ => none) #[] 0)] } : S).put d (.mp s.ob.length b))
  | none => False
def updT (f : Int → Option T) (z : Int) (t : T) : Int → Option T := fun y => if y = z then some t else f y
def delT (f : Int → Option T) (z : Int) : Int → Option T := fun y => if y = z then none else f y
/-- a map is turned to another one -/
def turnMap (s : S) (i b : Nat) (kd : IntKind) (f : Int → Option T) (K : S → Prop) : Prop := ∀ es ck, K { s with ob := s.ob.set i (b, .map kd f es ck) }
def claimF (h : Hint) (f : Int → Option T) (k : (Int → Option T) → Prop) : Prop := match h with | .fn g => (∀ z, g z = f z) ∧ k g | _ => k f
def turnDel (s : S) (i b : Nat) (kd : IntKind) (f : Int → Option T) (es : Array MapEntry) (ck : Nat) (z : Int) (K : S → Prop) : Prop := ∀ es', DelE es es' (.int kd z) → K { s with ob := s.ob.set i (b, .map kd f es' ck) }
def turnUpd (s : S) (i b : Nat) (kd : IntKind) (f : Int → Option T) (es : Array MapEntry) (ck : Nat) (z : Int) (K : S → Prop) : Prop := ∀ es' ck', UpdE es ck es' ck' (.int kd z) → K { s with ob := s.ob.set i (b, .map kd f es' ck') }
def eUpdate (P : Program) (s : S) (h : Hint) (t : TypeId) (x ix y : Operand) (K : S → Prop) : Prop :=
  match s.eval x with
  | .mp i b => (match s.ob[i]?, mapOf P t, intT (s.eval ix) with
    | some (b', .map kd f es ck), some (kd', _), some (kd'', z) => if kd' = kd ∧ kd'' = kd then b' = b ∧ claimF h (updT f z (s.eval y)) (fun g => turnUpd s i b' kd g es ck z K) else False
    | _, _, _ => False)
  | _ => False
def eDelete (P : Program) (s : S) (h : Hint) (args : List T) (tys : List TypeId) (K : S → Prop) : Prop :=
  match args, tys with
  | [.mp i b, ix], [t, _] => (match s.ob[i]?, mapOf P t, intT ix with
    | some (b', .map kd f es ck), some (kd', _), some (kd'', z) => if kd' = kd ∧ kd'' = kd then b' = b ∧ claimF h (delT f z) (fun g => turnDel s i b' kd g es ck z K) else False
    | _, _, _ => False)
  | _, _ => False
def eClear (P : Program) (s : S) (args : List T) (tys : List TypeId) (K : S → Prop) : Prop :=
  match args, tys with
  | [.mp i b], [t] => (match s.ob[i]?, mapOf P t with
    | some (b', .map kd _ _ _), some _ => b' = b ∧ turnMap s i b' kd (fun _ => none) K
    | _, _ => False)
  | _, _ => False
def eLen (P : Program) (s : S) (h : Hint) (args : List T) (tys : List TypeId) (k : T → Prop) (other : Prop) : Prop :=
  match args, tys with
  | [.mp i b], [t] => (match s.ob[i]?, mapOf P t, h with
    | some (b', .map _ f _ _), some _, .num n => b' = b ∧ (∃ ks : List Int, ks.Nodup ∧ (∀ z, z ∈ ks ↔ (f z).isSome = true) ∧ n = ks.length) ∧ k (.v (.int .i64 n))
    | _, _, _ => False)
  | _, _ => other
def eRange (P : Program) (s : S) (d : Option Tmp) (t : TypeId) (x : Operand) (K : S → Prop) : Prop :=
  match s.eval x with
  | .mp i b => (match s.ob[i]?, mapOf P t with
    | some (b', .map kd f es ck), some _ => b' = b ∧ ∀ c : Nat, ∀ ks : List Int, ks.Nodup → (∀ z, z ∈ ks ↔ (f z).isSome = true) → K (({ s with ob := s.ob ++ [(c, .iter i b' kd es ck ks none)] } : S).put d (.ptr s.ob.length c 0))
    | _, _ => False)
  | _ => False
def eNext (s : S) (d : Option Tmp) (x : Operand) (K : S → Prop) : Prop :=
  match s.eval x with
  | .ptr j c 0 => (match s.ob[j]? with
    | some (c', .iter i mb kd es ck left _) => (match s.ob[i]? with
      | some (b', .map kd' f es' ck') => if kd' = kd then (c' = c ∧ b' = mb ∧ es' = es ∧ ck' = ck) ∧
          (left = [] → K (s.put d (.tup [.v (.bool false)]))) ∧
          ∀ z t, z ∈ left → f z = some t → K (({ s with ob := s.ob.set j (c', .iter i mb kd es ck (left.erase z) (some z)) } : S).put d (.tup [.v (.bool true), .v (.int kd z), t])) else False
      | _ => False)
    | _ => False)
  | _ => False
def resT (h : Hint) (f : Int → Option T) (z : Int) (K : T → Prop) : Prop :=
  match h with
  | .res t => f z = some t ∧ K t
  | _ => ∀ t, f z = some t → K t
theorem resT_out {h : Hint} {f : Int → Option T} {z : Int} {K : T → Prop} (H : resT h f z K) {t : T} (ht : f z = some t) : K t := by
  unfold resT at H
  split at H
  · obtain ⟨h1, h2⟩ := H
    rw [ht] at h1
    injection h1 with h1
    exact h1 ▸ h2
  · exact H t ht
def eEntry (s : S) (h : Hint) (d : Option Tmp) (x : Operand) (K : S → Prop) : Prop :=
  match s.eval x with
  | .ptr j c 0 => (match s.ob[j]? with
    | some (c', .iter i mb kd es ck _ cur) => (match s.ob[i]?, cur with
      | some (b', .map kd' f es' ck'), some z => if kd' = kd then (c' = c ∧ b' = mb ∧ es' = es ∧ ck' = ck) ∧ resT h f z fun t => K (s.put d (.tup [.v (.int kd z), t])) else False
      | _, _ => False)
    | _ => False)
  | _ => False
/-- the elements that a value has to be appended -/
def slOf (k : Nat) : T → Option (List T)
  | .sl k' es => if k' = k then some es else none
  | .slx k' _ es _ => if k' = k then some es else none
  | .v (.slice none 0 0) => some []
  | .v (.string z) => if k = 1 then some (z.data.toList.map fun c => T.v (.int .u8 c.toNat)) else none
  | _ => none
/-- may a value of this type be appended from? -/
def srcT (P : Program) (t : TypeId) (y : T) : Bool :=
  match P.underlying t, y with
  | some .string, .v (.string _) => true
  | some (.slice _), .v (.string _) => false
  | some (.slice _), _ => true
  | _, _ => false
def bytesT (P : Program) (e : TypeId) : Option Nat := (P.info? e).map (·.bytes)
def Fits (n bytes : Nat) : Prop := n * bytes ≤ 140737488355328 ∧ n ≤ maxLen
def grow (s : S) (d : Option Tmp) (i k : Nat) (e : TypeId) (es : List T) (K : S → Prop) : Prop :=
  ∀ x : Value, K (({ s with ob := if i < s.ob.length then s.ob.set i (0, .room k e es.length x) else s.ob ++ [(0, .room k e es.length x)] } : S).put d (.slx k i es x))
def eAppend (P : Program) (s : S) (d : Option Tmp) (args : List T) (tys : List TypeId) (K : S → Prop) : Prop :=
  match args, tys with
  | [a, y], [t, t'] => (match elemOfT P t with
    | some (none, e) => (match sizeT P e, bytesT P e, zeroT P e with
      | some k, some bytes, some z => if srcT P t' y = true ∧ 0 < k ∧ z.length = k then (match slOf k y with
        | some ys => (match a with
          | .v (.slice none 0 0) => Fits ys.length bytes ∧ grow s d s.ob.length k e ys K
          | .slx k2 i es x => (match s.ob[i]? with
            | some (_, .room k3 e3 n x') => (x' = x ∧ n = es.length) ∧ Fits (es.length + ys.length) bytes ∧ (if k2 = k ∧ k3 = k ∧ e3 = e then grow s d i k e (es ++ ys) K else False)
            | _ => False)
          | _ => False)
        | none => False) else False
      | _, _, _ => False)
    | _ => False)
  | _, _ => False
/-! ### arrays that may be written -/
def eBuild0 (P : Program) (s : S) (d : Option Tmp) (t : TypeId) (parts : Array (Nat × Operand)) (K : S → Prop) : Prop :=
  match elemOfT P t, parts.toList with
  | some (none, e), [] => (match sizeT P e with
    | some _ => K (s.put d .s0)
    | none => False)
  | _, _ => False
/-- what is appended: how many elements, their cells -/
def srcM (s : S) (k : Nat) (y : T) (K : Nat → List T → Prop) : Prop :=
  match y with
  | .sa j b o n _ => (match s.ob[j]? with
    | some (b', .cells cs) => b' = b ∧ (o + n * k ≤ cs.length ∧ ((cs.drop o).take (n * k)).all T.one = true) ∧ K n ((cs.drop o).take (n * k))
    | _ => False)
  | .s0 => K 0 []
  | _ => (match slOf k y with
    | some ys => K ys.length (ys.flatMap elCells)
    | none => False)
def newArr (s : S) (d : Option Tmp) (k m : Nat) (us : List T) (K : S → Prop) : Prop :=
  ∀ g cap : Nat, m ≤ cap → cap ≤ 9223372036854775807 → K (({ s with ob := s.ob ++ [(g, .cells (us ++ List.replicate ((cap - m) * k) .und))] } : S).put d (.sa s.ob.length g 0 m cap))
def toArr (s : S) (d : Option Tmp) (h : Hint) (a : T) (k bytes m : Nat) (us : List T) (K : S → Prop) : Prop :=
  match a with
  | .sa i b o n cap => (match s.ob[i]? with
    | some (b', .cells cs) => b' = b ∧ (n + m ≤ cap → o + n * k + m * k ≤ cs.length ∧ claimL h (setCells cs (o + n * k) us) fun cs' => K (({ s with ob := s.ob.set i (b', .cells cs') } : S).put d (.sa i b o (n + m) cap))) ∧
        (cap < n + m → (o + n * k ≤ cs.length ∧ ((cs.drop o).take (n * k)).all T.one = true) ∧ Fits (n + m) bytes ∧ newArr s d k (n + m) ((cs.drop o).take (n * k) ++ us) K)
    | _ => False)
  | .s0 => (m = 0 → K (s.put d .s0)) ∧ (m ≠ 0 → Fits m bytes ∧ newArr s d k m us K)
  | .v (.slice none 0 0) => (m = 0 → K (s.put d a)) ∧ (m ≠ 0 → Fits m bytes ∧ newArr s d k m us K)
  | _ => False
def eAppendM (P : Program) (s : S) (d : Option Tmp) (h : Hint) (args : List T) (tys : List TypeId) (K : S → Prop) : Prop :=
  match args, tys with
  | [a, y], [t, t'] => (match elemOfT P t with
    | some (none, e) => (match sizeT P e, bytesT P e, zeroT P e with
      | some k, some bytes, some z => if srcT P t' y = true ∧ 0 < k ∧ z.length = k then srcM s k y fun m us => toArr s d h a k bytes m us K else False
      | _, _, _ => False)
    | _ => False)
  | _, _ => False
def isM (h : Hint) : List T → Bool
  | [.sa .., _] => true
  | [.s0, _] => true
  | [_, .sa ..] => true
  | [.v (.slice none 0 0), _] => (match h with | .glob => true | _ => false)
  | _ => false
def eClearM (P : Program) (s : S) (h : Hint) (args : List T) (tys : List TypeId) (K : S → Prop) : Prop :=
  match args, tys with
  | [.sa i b o n _], [t] => (match elemOfT P t with
    | some (none, e) => (match sizeT P e, zeroT P e, s.ob[i]? with
      | some k, some z, some (b', .cells cs) => if z.length = k ∧ z.all T.one = true then b' = b ∧ o + n * k ≤ cs.length ∧ claimL h (setCells cs o ((List.range (n * k)).map fun j => z.getD (j % k) .und)) fun cs' => K { s with ob := s.ob.set i (b', .cells cs') } else False
      | _, _, _ => False)
    | _ => False)
  | _, _ => False
def isMc : List T → Bool
  | [.sa ..] => true
  | _ => false
/-- a slice written out: it has the right to grow -/
def eBuildSlx (P : Program) (s : S) (d : Option Tmp) (t : TypeId) (len : Nat) (parts : Array (Nat × Operand)) (K : S → Prop) : Prop :=
  match elemOfT P t with
  | some (none, e) => (match sizeT P e, aggOf P e, zeroT P e with
    | some k, some ag, some _ => if len * k ≤ 1000 ∧ 0 < k ∧ (ag = none → k = 1) then (match fillT (fun i => some (i * k, k)) (List.replicate (len * k) .und) (parts.toList.map fun p => (p.1, s.eval p.2)) with
      | some cs => if cs.all T.one = true then grow s d s.ob.length k e (chunk ag.isSome k len cs) K else False
      | none => False) else False
    | _, _, _ => False)
  | _ => False
/-! ### bytes and strings, slices made -/
def bytesL (z : ByteArray) : List T := z.data.toList.map fun c => T.v (.int .u8 c.toNat)
/-- 1: bytes to a string; 2: a string to bytes -/
def convT (P : Program) (t u : TypeId) : Nat :=
  match P.underlying t, P.underlying u with
  | some (.slice e), some .string => (match P.underlying e with | some (.int .u8) => 1 | _ => 0)
  | some .string, some (.slice e) => (match P.underlying e with | some (.int .u8) => 2 | _ => 0)
  | _, _ => 0
def bytesOfT (s : S) (t : T) (k : List T → Prop) : Prop :=
  match t with
  | .sl kk es => if kk = 1 then k es else False
  | .slx kk _ es _ => if kk = 1 then k es else False
  | .s0 => k []
  | .v (.slice none 0 0) => k []
  | .sa j b o n _ => (match s.ob[j]? with | some (b', .cells cs) => b' = b ∧ o + n ≤ cs.length ∧ k ((cs.drop o).take n) | _ => False)
  | _ => False
def strT : List T → Option (List UInt8)
  | [] => some []
  | .v (.int .u8 n) :: ts => (strT ts).map (UInt8.ofNat n.toNat :: ·)
  | _ :: _ => none
def eToStr (s : S) (h : Hint) (x : Operand) (k : T → Prop) : Prop := bytesOfT s (s.eval x) fun es =>
  match h with
  | .res (.v (.string z)) => es = bytesL z ∧ k (.v (.string z))
  | _ => (match strT es with | some l => k (.v (.string ⟨l.toArray⟩)) | none => False)
def eToBytes (P : Program) (s : S) (d : Option Tmp) (h : Hint) (u : TypeId) (x : Operand) (K : S → Prop) : Prop :=
  match s.eval x with
  | .v (.string z) => z.size ≤ 140737488355328 ∧ (match h with
    | .glob => newArr s d 1 z.size (bytesL z) K
    | .plain _ => (match elemOfT P u with | some (none, e) => grow s d s.ob.length 1 e (bytesL z) K | _ => False)
    | _ => K (s.put d (.sl 1 (bytesL z))))
  | _ => False
def eMake (P : Program) (s : S) (d : Option Tmp) (h : Hint) (t : TypeId) (x y : Operand) (K : S → Prop) : Prop :=
  match elemOfT P t with
  | some (none, e) => (match sizeT P e, bytesT P e, zeroT P e, intT (s.eval x), intT (s.eval y) with
    | some k, some bytes, some z, some (_, n), some (_, c) => (0 ≤ n ∧ n ≤ c ∧ c * bytes ≤ 140737488355328 ∧ c ≤ 9223372036854775807 ∧ z.length = k) ∧
        claimL h ((List.range (c.toNat * k)).map fun j => z.getD (j % k) .und) fun cs => ∀ g, K (({ s with ob := s.ob ++ [(g, .cells cs)] } : S).put d (.sa s.ob.length g 0 n.toNat c.toNat))
    | _, _, _, _, _ => False)
  | _ => False
/-! ### maps by their keys' values -/
def compD : TypeDesc → Bool
  | .array .. => true
  | .struct .. => true
  | _ => false
/-- keys that can be compared -/
structure KeyOk (P : Program) (kt : TypeId) (G : Value → Prop) : Prop where
  td : ∃ d, P.underlying kt = some d ∧ compD d = true
  eq : ∀ a b, G a → G b → ∃ q, eqV P 8 kt a b = some q ∧ (q = true ↔ a = b)
  ck : ∀ a, G a → ∀ e w, (Instr.checkKey e 10000 kt a).run P w = .ok () w
  same : ∀ a, G a → Instr.sameBits 10000 a a = true
/-- a map with one key set -/
def UpdK (g f : Value → Option T) (k : Value) (t : T) : Prop := g k = some t ∧ ∀ z, z ≠ k → g z = f z
def HasK (G : Value → Prop) (k : Value) : Prop := G k
def isKv (s : S) (x : Operand) : Bool :=
  match s.eval x with
  | .mp i _ => (match s.ob[i]? with | some (_, .kv ..) => true | _ => false)
  | _ => false
def eMakeV (P : Program) (s : S) (d : Option Tmp) (t : TypeId) (G : Value → Prop) (K : S → Prop) : Prop := match P.underlying t with
  | some (.map kt _) => ∀ b, K (({ s with ob := s.ob ++ [(b, .kv kt G (fun _ => none))] } : S).put d (.mp s.ob.length b))
  | _ => False
def vLookupV (P : Program) (s : S) (h : Hint) (t : TypeId) (x ix : Operand) (ok : Bool) (k : T → Prop) : Prop :=
  match s.eval x with
  | .mp i b => (match s.ob[i]?, P.underlying t, (s.eval ix).flat with
    | some (b', .kv kt G f), some (.map kt' e), some z => (match zeroVal P e with
      | some zt => if kt' = kt then (b' = b ∧ KeyOk P kt G ∧ HasK G z) ∧ claim h (some (if ok then .tup [(f z).getD zt, .v (.bool (f z).isSome)] else (f z).getD zt)) k else False
      | none => False)
    | _, _, _ => False)
  | _ => False
def eUpdateV (P : Program) (s : S) (h : Hint) (t : TypeId) (x ix y : Operand) (K : S → Prop) : Prop :=
  match s.eval x with
  | .mp i b => (match s.ob[i]?, P.underlying t, (s.eval ix).flat, h with
    | some (b', .kv kt G f), some (.map kt' _), some z, .kf g => if kt' = kt then (b' = b ∧ KeyOk P kt G ∧ HasK G z ∧ UpdK g f z (s.eval y)) ∧ K { s with ob := s.ob.set i (b', .kv kt G g) } else False
    | _, _, _, _ => False)
  | _ => False
/-! ### ranging over a string -/
def isStr (s : S) (x : Operand) : Bool :=
  match s.eval x with
  | .v (.string _) => true
  | _ => false
def eRangeS (P : Program) (s : S) (d : Option Tmp) (t : TypeId) (x : Operand) (K : S → Prop) : Prop :=
  match s.eval x with
  | .v (.string z) => (match P.underlying t with
    | some .string => ∀ c : Nat, K (({ s with ob := s.ob ++ [(c, .siter z 0)] } : S).put d (.ptr s.ob.length c 0))
    | _ => False)
  | _ => False
/-- a letter at a place -/
def AsciiAt (z : ByteArray) (pos r : Nat) : Prop := pos < z.size ∧ (z.get! pos).toNat = r ∧ r < 128
def eNextS (s : S) (d : Option Tmp) (x : Operand) (K : S → Prop) : Prop :=
  match s.eval x with
  | .ptr j c 0 => (match s.ob[j]? with
    | some (c', .siter z pos) => c' = c ∧ (pos < z.size → (∃ r, AsciiAt z pos r) ∧ ∀ r : Nat, AsciiAt z pos r → K (({ s with ob := s.ob.set j (c', .siter z (pos + 1)) } : S).put d (.tup [.v (.bool true), .v (.int .i64 pos), .v (.int .i32 r)]))) ∧ (z.size ≤ pos → K (s.put d (.tup [.v (.bool false)])))
    | _ => False)
  | _ => False
/-! ### a string's bytes copied into an array -/
def eCopy (P : Program) (s : S) (d : Option Tmp) (h : Hint) (args : List T) (tys : List TypeId) (K : S → Prop) : Prop :=
  match args, tys with
  | [.sa i b o n _, .v (.string z)], [t, _] => (match elemOfT P t with
    | some (none, e) => (match sizeT P e, s.ob[i]? with
      | some 1, some (b', .cells cs) => b' = b ∧ (z.size ≤ n ∧ o + z.size ≤ cs.length) ∧ claimL h (setCells cs o (bytesL z)) fun cs' => K (({ s with ob := s.ob.set i (b', .cells cs') } : S).put d (.v (.int .i64 z.size)))
      | _, _ => False)
    | _ => False)
  | _, _ => False
def ex (P : Program) (o : Oper) (h : Hint) (s : S) (K : S → Prop) : Prop :=
  match o.op with
  | .load t x => vLoad P s h t x (fun t => K (s.put o.dst t))
  | .store t x y => eStore P s h t x y (fun s' => K (s'.put o.dst (.v undef)))
  | .alloc t => eAlloc P s o.dst t K
  | .box _ x => eBox s o.dst h x K
  | .buildSlice t len parts => if len = 0 then (match h with | .glob => eBuild0 P s o.dst t parts K | _ => eBuildNil P s o.dst t parts K) else (match h with | .plain _ => eBuildSlx P s o.dst t len parts K | _ => eBuildSlice P s o.dst t len parts K)
  | .makeMap t none => (match h with | .kv G => eMakeV P s o.dst t G K | _ => eMakeMap P s o.dst t K)
  | .makeSlice t x y => eMake P s o.dst h t x y K
  | .convert t u x => (match convT P t u with
    | 1 => eToStr s h x (fun t => K (s.put o.dst t))
    | 2 => eToBytes P s o.dst h u x K
    | _ => pv P s o h (fun t => K (s.put o.dst t)))
  | .lookup t x ix ok => if isKv s x = true then vLookupV P s h t x ix ok (fun t => K (s.put o.dst t)) else vLookup P s o h t x ix ok (fun t => K (s.put o.dst t))
  | .mapUpdate t x ix y => if isKv s x = true then eUpdateV P s h t x ix y (fun s' => K (s'.put o.dst (.v undef))) else eUpdate P s h t x ix y (fun s' => K (s'.put o.dst (.v undef)))
  | .range t x => if isStr s x = true then eRangeS P s o.dst t x K else eRange P s o.dst t x K
  | .next x false => eNext s o.dst x K
  | .next x true => eNextS s o.dst x K
  | .entry x => eEntry s h o.dst x K
  | .call c => (match c.callee with
    | .builtin .append => if isM h (c.args.toList.map s.eval) = true then eAppendM P s o.dst h (c.args.toList.map s.eval) c.argTypes.toList K else eAppend P s o.dst (c.args.toList.map s.eval) c.argTypes.toList K
    | .builtin .copy => eCopy P s o.dst h (c.args.toList.map s.eval) c.argTypes.toList K
    | .builtin .delete => eDelete P s h (c.args.toList.map s.eval) c.argTypes.toList (fun s' => K (s'.put o.dst (.tup [])))
    | .builtin .clear => if isMc (c.args.toList.map s.eval) = true then eClearM P s h (c.args.toList.map s.eval) c.argTypes.toList (fun s' => K (s'.put o.dst (.tup []))) else eClear P s (c.args.toList.map s.eval) c.argTypes.toList (fun s' => K (s'.put o.dst (.tup [])))
    | .builtin .len => eLen P s h (c.args.toList.map s.eval) c.argTypes.toList (fun t => K (s.put o.dst t)) (pv P s o h (fun t => K (s.put o.dst t)))
    | .builtin _ => pv P s o h (fun t => K (s.put o.dst t))
    | .value f => (match s.eval f with
      | .fn g caps => eCall P s o.dst h g (c.args.toList.map s.eval ++ caps) K
      | .fb g bs => eCall P s o.dst h g (bs ++ c.args.toList.map s.eval) K
      | _ => False)
    | .invoke .. => False)
  | _ => pv P s o h (fun t => K (s.put o.dst t))
/-- an operation, if its guard lets it by -/
def exg (P : Program) (ops : List Oper) (o : Oper) (h : Hint) (s : S) (K : S → Prop) : Prop :=
  match o.guard with
  | none => ex P o h s K
  | some (g, want) => (match (ops[g]?).bind (·.dst) with
    | some t => (match s.fr.getD t .und with
      | .v (.bool b) => bsplit b (if want then ex P o h (s.put (some t) (.v (.bool true))) K else K ((s.put (some t) (.v (.bool true))).put o.dst (.v undef)))
          (if want then K ((s.put (some t) (.v (.bool false))).put o.dst (.v undef)) else ex P o h (s.put (some t) (.v (.bool false))) K)
      | .v (.tuple _) => K (s.put o.dst (.v undef))
      | _ => False)
    | none => False)
def exL (P : Program) (ops : List Oper) (H : Nat → Hint) : Nat → List Oper → S → (S → Prop) → Prop
  | _, [], s, K => K s
  | i, o :: os, s, K => exg P ops o (H i) s fun s' => exL P ops H (i + 1) os s' K

/-! ### Statements that leave their order open -/
/-- a load among what may be taken first: its object is one that nothing turns in the meantime -/
def exq (P : Program) (N : List Nat) (held fst : Bool) (o : Oper) (h : Hint) (s : S) (k : T → Prop) : Prop :=
  match o.op with
  | .load t x => if held then (match s.eval x with
    | .ptr i _ _ => if N.contains i then vLoad P s h t x k else False
    | .pim _ => if fst then vLoad P s h t x k else False
    | _ => False) else False
  | .lookup t x ix ok => if held then (match s.eval x with
    | .mp i _ => if N.contains i then vLookup P s o h t x ix ok k else False
    | _ => False) else False
  | _ => pv P s o h k
def exqg (P : Program) (ops : List Oper) (N : List Nat) (held fst : Bool) (o : Oper) (h : Hint) (s : S) (K : S → Prop) : Prop :=
  match o.guard with
  | none => exq P N held fst o h s (fun t => K (s.put o.dst t))
  | some (g, want) => (match (ops[g]?).bind (·.dst) with
    | some t => (match s.fr.getD t .und with
      | .v (.bool b) => bsplit b (if want then exq P N held fst o h (s.put (some t) (.v (.bool true))) (fun u => K ((s.put (some t) (.v (.bool true))).put o.dst u)) else K ((s.put (some t) (.v (.bool true))).put o.dst (.v undef)))
          (if want then K ((s.put (some t) (.v (.bool false))).put o.dst (.v undef)) else exq P N held fst o h (s.put (some t) (.v (.bool false))) (fun u => K ((s.put (some t) (.v (.bool false))).put o.dst u)))
      | .v (.tuple _) => K (s.put o.dst (.v undef))
      | _ => False)
    | none => False)
def exQ (P : Program) (ops : List Oper) (H : Nat → Hint) (N : List Nat) (held fst : Bool) : List Nat → S → (S → Prop) → Prop
  | [], s, K => K s
  | i :: is, s, K => (match ops[i]? with
    | some o => exqg P ops N held fst o (H i) s (fun s' => exQ P ops H N held fst is s' K)
    | none => False)
/-- statements that only read: in whatever order -/
def exr (P : Program) (o : Oper) (h : Hint) (s : S) (k : T → Prop) : Prop :=
  match o.op with
  | .load t x => vLoad P s h t x k
  | .lookup t x ix ok => (match s.eval x with
    | .mp _ _ => vLookup P s o h t x ix ok k
    | _ => False)
  | _ => pv P s o h k
def exrg (P : Program) (ops : List Oper) (o : Oper) (h : Hint) (s : S) (K : S → Prop) : Prop :=
  match o.guard with
  | none => exr P o h s (fun t => K (s.put o.dst t))
  | some (g, want) => (match (ops[g]?).bind (·.dst) with
    | some t => (match s.fr.getD t .und with
      | .v (.bool b) => bsplit b (if want then exr P o h (s.put (some t) (.v (.bool true))) (fun u => K ((s.put (some t) (.v (.bool true))).put o.dst u)) else K ((s.put (some t) (.v (.bool true))).put o.dst (.v undef)))
          (if want then K ((s.put (some t) (.v (.bool false))).put o.dst (.v undef)) else exr P o h (s.put (some t) (.v (.bool false))) (fun u => K ((s.put (some t) (.v (.bool false))).put o.dst u)))
      | .v (.tuple _) => K (s.put o.dst (.v undef))
      | _ => False)
    | none => False)
def exR (P : Program) (ops : List Oper) (H : Nat → Hint) : List Nat → S → (S → Prop) → Prop
  | [], s, K => K s
  | i :: is, s, K => (match ops[i]? with
    | some o => exrg P ops o (H i) s (fun s' => exR P ops H is s' K)
    | none => False)
def hide (N : List Nat) (ob : Obs) : Obs := ob.zipIdx.map fun p => if N.contains p.2 then (0, .gone) else p.1
def back (N : List Nat) (ob ob' : Obs) : Obs := (ob.zipIdx.map fun p => if N.contains p.2 then p.1 else ob'.getD p.2 (0, .gone)) ++ ob'.drop ob.length
/-- one operation, by which the objects in N are left alone -/
def exN (P : Program) (ops : List Oper) (N : List Nat) (b : Bool) (o : Oper) (h : Hint) (s : S) (K : S → Prop) : Prop :=
  if b then exg P ops o h { s with ob := hide N s.ob } (fun s' => K { s' with ob := back N s.ob s'.ob }) else exg P ops o h s K
def runPlan (P : Program) (ops : List Oper) (H : Nat → Hint) (N lax : List Nat) : Reg.Plan → Bool → Bool → S → (S → Prop) → Prop
  | .done, _, _, s, K => K s
  | .take held is p, b, f, s, K => exQ P ops H N held f is s fun s' => runPlan P ops H N lax p b f s' K
  | .one n p, b, _, s, K => (match ops[n]? with
    | some o => exN P ops N (b && !Reg.isIn lax n) o (H n) s fun s' => runPlan P ops H N lax p (b && !Reg.isIn lax n) false s' K
    | none => False)
  | .two n m p q, b, _, s, K => (match ops[n]?, ops[m]? with
    | some o, some o' => (exN P ops N (b && !Reg.isIn lax n) o (H n) s fun s' => runPlan P ops H N lax p (b && !Reg.isIn lax n) false s' K) ∧
        (exN P ops N (b && !Reg.isIn lax m) o' (H m) s fun s' => runPlan P ops H N lax q (b && !Reg.isIn lax m) false s' K)
    | _, _ => False)
  | .three n m l p q r, b, _, s, K => (match ops[n]?, ops[m]?, ops[l]? with
    | some o, some o', some o'' => (exN P ops N (b && !Reg.isIn lax n) o (H n) s fun s' => runPlan P ops H N lax p (b && !Reg.isIn lax n) false s' K) ∧
        (exN P ops N (b && !Reg.isIn lax m) o' (H m) s fun s' => runPlan P ops H N lax q (b && !Reg.isIn lax m) false s' K) ∧
        (exN P ops N (b && !Reg.isIn lax l) o'' (H l) s fun s' => runPlan P ops H N lax r (b && !Reg.isIn lax l) false s' K)
    | _, _, _ => False)
structure RPlan where
  N : List Nat
  lax : List Nat
  p : Reg.Plan
def planOk (P : Program) (ops : List Oper) (pl : RPlan) : Bool :=
  P.follows .mixedOrders && Region.noSelect ops.toArray && pl.p.ok .any ops.toArray (Reg.isIn pl.lax) (Array.replicate ops.length false) true && decide (pl.p.len ≤ ops.length)
/-! ### Statements -/
inductive It where
  | code (c : Code)
  | blk (id : Nat)
def key : Code → Nat × Nat
  | .region id _ _ => (0, id)
  | .seq a _ => key a
  | .block id _ => (1, id)
  | .loop c => (2, (key c).2)
  | .cond _ a _ => (3, (key a).2)
  | .exit id => (4, id)
  | .ret => (5, 0)
  | _ => (6, 0)
def unwind (id : Nat) : List It → Option (List It)
  | [] => none
  | .blk i :: k => if i = id then some k else unwind id k
  | _ :: k => unwind id k
def S.know (s : S) (x : Operand) (b : Bool) : S := match x with | .tmp t => s.put (some t) (.v (.bool b)) | _ => s
def trim (live : List Nat) (n : Nat) (s : S) : S := { s with fr := s.fr.zipIdx.map (fun p => if live.contains p.2 then p.1 else .und), ob := s.ob.take n }
structure Hs where
  op : Nat → Nat → Hint
  cuts : List ((Nat × Nat) × (List Nat × Nat))
  plan : Nat → Option RPlan := fun _ => none
def Hs.cut (H : Hs) (c : Code) : Option (List Nat × Nat) := H.cuts.lookup (key c)
def run (P : Program) (H : Hs) (R : S → Prop) (L : List It → S → Prop) : Nat → Bool → List It → S → Prop
  | 0, _, k, s => L k s
  | _ + 1, _, [], s => R s
  | n + 1, f, .blk _ :: k, s => run P H R L n f k s
  | n + 1, f, .code c :: k, s =>
    match (if f then none else H.cut c) with
    | some (live, m) => L (.code c :: k) (trim live m s)
    | none =>
      match c with
      | .skip => run P H R L n f k s
      | .label _ => run P H R L n f k s
      | .seq a b => run P H R L n f (.code a :: .code b :: k) s
      | .block id b => run P H R L n f (.code b :: .blk id :: k) s
      | .loop b => run P H R L n false (.code b :: .code (.loop b) :: k) s
      | .exit id => (match unwind id k with | some k' => run P H R L n false k' s | none => False)
      | .ret => R s
      | .cond x a b => (match s.eval x with
        | .v (.bool t) => bsplit t (run P H R L n false (.code a :: k) (s.know x true)) (run P H R L n false (.code b :: k) (s.know x false))
        | _ => False)
      | .region id ops d => if d then (match H.plan id with
          | some pl => if planOk P ops.toList pl && pl.N.all (fun i => decide (i < s.ob.length)) then runPlan P ops.toList (H.op id) pl.N pl.lax pl.p true true s fun s' => run P H R L n false k s' else False
          | none => if planOk P ops.toList ⟨[], [], .take true (List.range ops.size) .done⟩ then exR P ops.toList (H.op id) (List.range ops.size) s fun s' => run P H R L n false k s' else False) else exL P ops.toList (H.op id) 0 ops.toList s fun s' => run P H R L n false k s'
      | _ => False
/-- a result: a slice may grow only if its room is told of -/
def T.weak1K (keep : List Nat) : T → T
  | .slx k i es x => if keep.contains i then .slx k i es x else .sl k es
  | t => t
def T.weakK (keep : List Nat) : T → T
  | .agg cs => .agg (cs.map (T.weak1K keep))
  | t => t.weak1K keep
/-- the end of a call: its results, and which blocks are told of -/
def finR (P : Program) (keep : List Nat) (s : S) : List ResultVar → (List T → Prop) → Prop
  | [], k => k []
  | .tmp t :: rs, k => finR P keep s rs fun ts => k ((s.fr.getD t .und).weakK keep :: ts)
  | .cell a t :: rs, k => cellsAt s .no (s.fr.getD a .und) fun cs => claim .no (loadT P t cs) fun u => finR P keep s rs fun ts => k (u.weakK keep :: ts)
def fin (P : Program) (fn : Func) (keep : List Nat) (Q : T → Obs → Glb → Prop) (s : S) : Prop :=
  if keep.Nodup ∧ keep.all (fun i => decide (i < s.ob.length)) = true then
    finR P keep s fn.results.toList fun ts => if keep = List.range keep.length then Q (match ts with | [t] => t | ts => .tup ts) (keep.filterMap fun i => s.ob[i]?) s.gl else Q (match ts with | [t] => reix keep t | ts => reix keep (.tup ts)) ((keep.filterMap fun i => s.ob[i]?).map (reixOb keep)) s.gl
  else False
def bd (fn : Func) : Code := fn.body.getD .skip
/-- a place within a body -/
def sub : Code → List Nat → Code
  | c, [] => c
  | .seq a b, i :: l => if i = 0 then sub a l else sub b l
  | .cond _ a b, i :: l => if i = 0 then sub a l else sub b l
  | .block _ a, _ :: l => sub a l
  | .loop a, _ :: l => sub a l
  | c, _ => c
def st0 (fn : Func) (ts : List T) (ob : Obs) (gl : Glb) : S := { fr := ts ++ List.replicate (fn.ntmps - ts.length) (.v undef), ob := ob, gl := gl }
end Go.Proofs.YtaepgceodcdnhaaDoor.Vm
/- Trees: what only yields a value does so. No program is named here. -/
namespace Go.Proofs.YtaepgceodcdnhaaDoor.Vm
open Go Go.RowKit

section
variable {P : Program} {s : S} {o : Oper} {k : T → Prop} {M : Pm} {a : Act} {h : Hint}
theorem yield_of {op : Op} (ho : o.op = op) {v : Value} (f : Sem Value) (he : ∀ ρ : Operand → Value, execOp ρ { o with op := op } = (do pure (Next.value (← f)))) (hf : ∀ w, f.run P w = .ok v w) : Yield P o a v := fun w => by
  have : o = { o with op := op } := by cases o; simp only at ho; subst ho; rfl
  rw [this, he]
  exact run_value (hf w)
theorem sField {xt : TypeId} {x : Operand} {f : Nat} (ho : o.op = .field xt x f) (H : vField P s o h k xt x f) (r : RelL M s.fr a.tmps.toList) : Found P o a M k := by
  unfold vField at H
  split at H
  · rename_i cs hx
    split at H
    · rename_i fd hf
      obtain ⟨t, ht, hk⟩ := claim_some H
      have hr := eval_rel r x
      rw [hx] at hr
      simp only [Rel] at hr
      obtain ⟨ys, e, hr⟩ := hr
      obtain ⟨y, h1, h2⟩ := part_sound ht hr
      refine ⟨y, t, hk, h1, fun w => ?_⟩
      unfold fieldOf at hf
      split at hf
      · rename_i fs hu
        unfold execOp
        rw [ho]
        refine run_value ?_
        simp [Instr.field, run_underlying hu, hf, e, asAgg, h2]
      · cases hf
    · exact H.elim
  · exact flatK_sound H r
theorem sExtract {x : Operand} {i : Nat} (ho : o.op = .extract x i) (H : vExtract P s o h k x i) (r : RelL M s.fr a.tmps.toList) : Found P o a M k := by
  unfold vExtract at H
  split at H
  · rename_i ts hx
    obtain ⟨t, ht, hk⟩ := claim_some H
    have hr := eval_rel r x
    rw [hx] at hr
    simp only [Rel] at hr
    obtain ⟨ys, e, hr⟩ := hr
    obtain ⟨y, h1, h2⟩ := hr.get ht
    rw [Array.getElem?_toList] at h1
    refine ⟨y, t, hk, h2, fun w => ?_⟩
    unfold execOp
    rw [ho]
    refine run_value ?_
    simp [Instr.extract, e, h1]
  · exact flatK_sound H r
theorem sFieldAddr {xt : TypeId} {x : Operand} {f : Nat} (ho : o.op = .fieldAddr xt x f) (H : vFieldAddr P s o k xt x f) (r : RelL M s.fr a.tmps.toList) : Found P o a M k := by
  unfold vFieldAddr at H
  split at H
  rotate_left
  · exact H.elim
  rename_i fd hf
  split at H
  rotate_left
  · exact H.elim
  rename_i n hs
  have hr := eval_rel r x
  unfold fieldOf at hf
  split at hf
  rotate_left
  · cases hf
  rename_i fs hu
  have hy : ∀ b m, a.eval x = .pointer (some ⟨b, m, none⟩) → Yield P o a (.pointer (some ⟨b, m + fd.offset, none⟩)) := fun b m e w => by
    unfold execOp
    rw [ho]
    refine run_value ?_
    simp [Instr.fieldAt, run_underlying hu, hf, e, Instr.sureAddr, fieldPlace, run_sizeOf hs, Addr.add_mid]
  split at H
  · rename_i i b m hx
    rw [hx] at hr
    simp only [Rel] at hr
    exact ⟨_, _, H, by simp only [Rel], hy _ _ hr⟩
  · rename_i b m hx
    rw [hx] at hr
    simp only [Rel] at hr
    exact ⟨_, _, H, by simp only [Rel], hy _ _ hr⟩
  · rename_i cs hx
    rw [hx] at hr
    simp only [Rel] at hr
    obtain ⟨b, m, e, hr⟩ := hr
    exact ⟨_, _, H, by simp only [Rel]; exact ⟨_, _, rfl, hr.drop _⟩, hy _ _ e⟩
  · exact flatK_sound H r
theorem el_len {k : Nat} {es : List T} (h : El elCells k es) {i : Nat} {e : T} (he : es[i]? = some e) : (elCells e).length = k := h e (List.mem_of_getElem? he)
theorem sIndexSl {t : TypeId} {x ix : Operand} {e : TypeId} {i : Int} {j : IntKind} {kk : Nat} {es : List T} {A : Option Addr} {cap : Nat} (ho : o.op = .indexAddr t x ix) (hu : P.underlying t = some (.slice e)) (hi : a.eval ix = .int j i)
    (hx : a.eval x = .slice A es.length cap) (hd : Hdr A es.length cap) (hr : ∀ b o, A = some ⟨b, o, none⟩ → RelE M kk b es o) (H : vIndexSl P h k e i kk es) : Found P o a M k := by
  unfold vIndexSl at H
  split at H
  rotate_left
  · exact H.elim
  rename_i n hs
  split at H
  rotate_left
  · exact H.elim
  rename_i hk
  subst hk
  obtain ⟨h0, H⟩ := H
  obtain ⟨e1, he, hk⟩ := claim_some H
  have hlt : i.toNat < es.length := (List.getElem?_eq_some_iff.1 he).1
  obtain ⟨h1, -, h2, h3⟩ := hd
  cases A with
  | none => have := h2 rfl; omega
  | some ad =>
    have h4 := h3 ad rfl (by omega)
    obtain ⟨b, m, sp⟩ := ad
    simp only at h4
    subst h4
    refine ⟨.pointer (some ⟨b, m + i.toNat * n, none⟩), _, hk, ?_, fun w => ?_⟩
    · simp only [Rel]
      exact ⟨_, _, rfl, (hr b m rfl).el he⟩
    · unfold execOp
      rw [ho]
      refine run_value ?_
      have hlt' : i < (es.length : Int) := by omega
      simp [Instr.indexAt, run_underlying hu, hi, hx, asIntOf, h0, hlt', run_sizeOf hs, Addr.add_mid]
theorem sIndexAddr {t : TypeId} {x ix : Operand} (ho : o.op = .indexAddr t x ix) (H : vIndexAddr P s h k t x ix) (r : RelL M s.fr a.tmps.toList) : Found P o a M k := by
  unfold vIndexAddr at H
  split at H
  rotate_left
  · exact H.elim
  rename_i j i hi
  have hi := intT_rel hi (eval_rel r ix)
  have hr := eval_rel r x
  split at H
  · rename_i len e hel
    split at H
    rotate_left
    · exact H.elim
    rename_i n hs
    obtain ⟨⟨h0, h1⟩, H⟩ := H
    have hu : P.underlying t = some (.array len e) := by
      unfold elemOfT at hel
      split at hel
      · rename_i hu; injection hel with hel; injection hel with h1 h2; injection h1 with h1; subst h1 h2; exact hu
      · injection hel with hel; injection hel with h1 h2; cases h1
      · cases hel
    have hy : ∀ b m, a.eval x = .pointer (some ⟨b, m, none⟩) → Yield P o a (.pointer (some ⟨b, m + i.toNat * n, none⟩)) := fun b m e w => by
      unfold execOp
      rw [ho]
      refine run_value ?_
      simp [Instr.indexAt, run_underlying hu, hi, e, Instr.sureAddr, asIntOf, h0, h1, run_sizeOf hs, Addr.add_mid]
    split at H
    · rename_i i' b m hx
      rw [hx] at hr
      simp only [Rel] at hr
      exact ⟨_, _, H, by simp only [Rel], hy _ _ hr⟩
    · rename_i b m hx
      rw [hx] at hr
      simp only [Rel] at hr
      exact ⟨_, _, H, by simp only [Rel], hy _ _ hr⟩
    · rename_i cs hx
      rw [hx] at hr
      simp only [Rel] at hr
      obtain ⟨b, m, e, hr⟩ := hr
      exact ⟨_, _, H, by simp only [Rel]; exact ⟨_, _, rfl, hr.drop _⟩, hy _ _ e⟩
    · exact H.elim
  · rename_i e hel
    have hu : P.underlying t = some (.slice e) := by
      unfold elemOfT at hel
      split at hel
      · injection hel with hel; injection hel with h1 h2; cases h1
      · rename_i hu; injection hel with hel; injection hel with h1 h2; subst h2; exact hu
      · cases hel
    split at H
    · rename_i kk es hx
      rw [hx] at hr
      simp only [Rel] at hr
      obtain ⟨A, cap, e1, hd, -, hr⟩ := hr
      exact sIndexSl ho hu hi e1 hd hr H
    · rename_i kk i' es x' hx
      rw [hx] at hr
      simp only [Rel] at hr
      obtain ⟨e0, A, cap, e1, hd, -, hr⟩ := hr
      exact sIndexSl ho hu hi (e0.trans e1) hd hr H
    · rename_i jj b m n cap hx
      rw [hx] at hr
      simp only [Rel] at hr
      split at H
      rotate_left
      · exact H.elim
      rename_i z hs
      obtain ⟨⟨h0, h1⟩, H⟩ := H
      refine ⟨.pointer (some ⟨b, m + i.toNat * z, none⟩), _, H, by simp only [Rel], fun w => ?_⟩
      unfold execOp
      rw [ho]
      refine run_value ?_
      simp [Instr.indexAt, run_underlying hu, hi, hr.1, asIntOf, h0, h1, run_sizeOf hs, Addr.add_mid]
    · exact H.elim
  · exact H.elim
theorem sIndex {t : TypeId} {x ix : Operand} (ho : o.op = .index t x ix) (H : vIndex P s h k t x ix) (r : RelL M s.fr a.tmps.toList) : Found P o a M k := by
  unfold vIndex at H
  split at H
  rotate_left
  · exact H.elim
  rename_i j i hi
  have hi := intT_rel hi (eval_rel r ix)
  have hr := eval_rel r x
  split at H
  · rename_i cs hx
    rw [hx] at hr
    simp only [Rel] at hr
    obtain ⟨ys, e0, hr⟩ := hr
    split at H
    rotate_left
    · exact H.elim
    rename_i len e hel
    have hu : P.underlying t = some (.array len e) := by
      unfold elemOfT at hel
      split at hel
      · rename_i hu; injection hel with hel; injection hel with h1 h2; injection h1 with h1; subst h1 h2; exact hu
      · injection hel with hel; injection hel with h1 h2; cases h1
      · cases hel
    split at H
    rotate_left
    · exact H.elim
    rename_i n hs
    obtain ⟨⟨h0, h1⟩, H⟩ := H
    obtain ⟨u, hp, hk⟩ := claim_some H
    obtain ⟨y, h2, h3⟩ := part_sound hp hr
    refine ⟨y, u, hk, h2, fun w => ?_⟩
    unfold execOp
    rw [ho]
    refine run_value ?_
    simp [Instr.index, run_underlying hu, hi, e0, asIntOf, h0, h1, run_sizeOf hs, h3]
  · rename_i z hx
    rw [hx] at hr
    simp only [Rel] at hr
    split at H
    rotate_left
    · exact H.elim
    rename_i hu
    obtain ⟨h0, H⟩ := H
    obtain ⟨u, hp, hk⟩ := claim_some H
    simp only [Option.map_eq_some_iff] at hp
    obtain ⟨c, hc, rfl⟩ := hp
    refine ⟨.int .u8 c.toNat, _, hk, by simp only [Rel], fun w => ?_⟩
    unfold execOp
    rw [ho]
    refine run_value ?_
    simp [Instr.index, run_underlying hu, hi, hr, asIntOf, h0, hc]
  · exact H.elim
theorem boundT_run {d : Nat} {x : Option Operand} {l : Int} (hb : boundT s d x = some l) (r : RelL M s.fr a.tmps.toList) : (x = none ∧ l = d) ∨ ∃ y j, x = some y ∧ a.eval y = .int j l := by
  cases x with
  | none => simp only [boundT, Option.some.injEq] at hb; exact .inl ⟨rfl, hb.symm⟩
  | some y =>
    simp only [boundT, Option.map_eq_some_iff] at hb
    obtain ⟨⟨j, i⟩, h1, rfl⟩ := hb
    exact .inr ⟨y, j, rfl, intT_rel h1 (eval_rel r y)⟩
theorem run_sliceBounds {lo hi : Option Operand} {l u : Int} {len cap : Nat} {isS : Bool} (hl : (lo = none ∧ l = 0) ∨ ∃ y j, lo = some y ∧ a.eval y = .int j l) (hu : (hi = none ∧ u = len) ∨ ∃ y j, hi = some y ∧ a.eval y = .int j u) (h0 : 0 ≤ l) (h1 : l ≤ u) (h2 : u ≤ (len : Int)) (hc : len ≤ cap) (w : World) :
    (Instr.sliceBounds isS len cap (lo.map a.eval) (hi.map a.eval) none).run P w = .ok (l.toNat, u.toNat, cap) w := by
  have hu0 : 0 ≤ u := by omega
  have huc : u ≤ (cap : Int) := by omega
  have hlu : l ≤ (u.toNat : Int) := by omega
  rcases hl with ⟨rfl, rfl⟩ | ⟨y, j, rfl, hy⟩ <;> rcases hu with ⟨rfl, rfl⟩ | ⟨z, j', rfl, hz⟩
  · simp [Instr.sliceBounds]
  · simp [Instr.sliceBounds, Instr.sliceBound, hz, asIntOf, hu0, huc]
  · simp [Instr.sliceBounds, Instr.sliceBound, hy, asIntOf, h0, h1]
  · simp [Instr.sliceBounds, Instr.sliceBound, hy, hz, asIntOf, h0, hu0, huc]
    intro hh
    omega
theorem sSliceSl {t : TypeId} {x : Operand} {lo hi : Option Operand} {e : TypeId} {kk : Nat} {es : List T} {A : Option Addr} {cap : Nat} (ho : o.op = .slice t x lo hi none) (hu : P.underlying t = some (.slice e))
    (hx : a.eval x = .slice A es.length cap) (hd : Hdr A es.length cap) (hl : El elCells kk es) (hr : ∀ b o, A = some ⟨b, o, none⟩ → RelE M kk b es o) (r : RelL M s.fr a.tmps.toList) (H : vSliceSl P s k e kk es lo hi) : Found P o a M k := by
  unfold vSliceSl at H
  split at H
  rotate_left
  · exact H.elim
  rename_i n hs
  split at H
  rotate_left
  · exact H.elim
  rename_i hk
  subst hk
  split at H
  rotate_left
  · exact H.elim
  rename_i l u h1 h2
  obtain ⟨⟨g0, g1, g2⟩, H⟩ := H
  have b1 := boundT_run h1 r
  have b2 := boundT_run h2 r
  have hlen : ((es.take u.toNat).drop l.toNat).length = u.toNat - l.toNat := by simp; omega
  obtain ⟨d1, d2, d3, d4⟩ := hd
  refine ⟨.slice (if cap = l.toNat then A else A.map (·.add (l.toNat * n))) (u.toNat - l.toNat) (cap - l.toNat), _, H, ?_, fun w => ?_⟩
  · simp only [Rel, hlen]
    refine ⟨_, _, rfl, ⟨by omega, by omega, fun e0 => ?_, fun ad e0 hc0 => ?_⟩, fun e1 he1 => hl e1 (List.mem_of_mem_take (List.mem_of_mem_drop he1)), fun b m e0 => ?_⟩
    · cases A with
      | none => have := d3 rfl; omega
      | some ad => split at e0 <;> simp at e0
    · split at e0
      · exact d4 ad e0 (by omega)
      · simp only [Option.map_eq_some_iff] at e0
        obtain ⟨c, hc, rfl⟩ := e0
        have := d4 c hc (by omega)
        unfold Addr.add
        split <;> simp [this]
    · split at e0
      · have : (es.take u.toNat).drop l.toNat = [] := List.eq_nil_of_length_eq_zero (by omega)
        rw [this]
        simp only [RelE]
      · simp only [Option.map_eq_some_iff] at e0
        obtain ⟨c, hc, e0⟩ := e0
        obtain ⟨cb, co, cs⟩ := c
        have := d4 _ hc (by omega)
        simp only at this
        subst this
        rw [Addr.add_mid] at e0
        injection e0 with e1 e2
        subst e1 e2
        exact ((hr _ _ hc).take _).drop _
  · unfold execOp
    rw [ho]
    refine run_value ?_
    have e1 := run_sliceBounds (P := P) (a := a) (isS := true) (cap := cap) b1 b2 g0 g1 g2 d1 w
    simp [Instr.sliceAt, Instr.slice, run_underlying hu, hx, e1, run_sizeOf hs]
theorem run_sliceBounds3 {lo hi mx : Option Operand} {l u m : Int} {len cap : Nat} (hl : (lo = none ∧ l = 0) ∨ ∃ y j, lo = some y ∧ a.eval y = .int j l) (hu : (hi = none ∧ u = len) ∨ ∃ y j, hi = some y ∧ a.eval y = .int j u)
    (hm : (mx = none ∧ m = cap) ∨ ∃ y j, mx = some y ∧ a.eval y = .int j m) (hx : mx = none ∨ hi ≠ none) (h0 : 0 ≤ l) (h1 : l ≤ u) (h2 : u ≤ m) (h3 : m ≤ (cap : Int)) (w : World) :
    (Instr.sliceBounds true len cap (lo.map a.eval) (hi.map a.eval) (mx.map a.eval)).run P w = .ok (l.toNat, u.toNat, m.toNat) w := by
  have hu0 : 0 ≤ u := by omega
  have hm0 : 0 ≤ m := by omega
  have huc : u ≤ (cap : Int) := by omega
  have hlu : l ≤ (u.toNat : Int) := by omega
  have hum : u ≤ (m.toNat : Int) := by omega
  rcases hm with ⟨rfl, rfl⟩ | ⟨q, j3, rfl, hq⟩
  · rcases hl with ⟨rfl, rfl⟩ | ⟨y, j, rfl, hy⟩ <;> rcases hu with ⟨rfl, rfl⟩ | ⟨z, j', rfl, hz⟩
    · simp [Instr.sliceBounds]
    · simp [Instr.sliceBounds, Instr.sliceBound, hz, asIntOf, hu0, huc]
    · simp [Instr.sliceBounds, Instr.sliceBound, hy, asIntOf, h0, h1]
    · simp [Instr.sliceBounds, Instr.sliceBound, hy, hz, asIntOf, h0, hu0, huc]
      intro hh; omega
  · rcases hu with ⟨rfl, rfl⟩ | ⟨z, j', rfl, hz⟩
    · exact absurd rfl (hx.resolve_left (by simp))
    · rcases hl with ⟨rfl, rfl⟩ | ⟨y, j, rfl, hy⟩
      · simp [Instr.sliceBounds, Instr.sliceBound, hz, hq, asIntOf, hu0, hm0, h3]
        intro hh; omega
      · simp [Instr.sliceBounds, Instr.sliceBound, hy, hz, hq, asIntOf, h0, hu0, hm0, h3]
        rw [if_pos (by omega), if_pos (by omega)]
theorem sSliceSa {t : TypeId} {x : Operand} {lo hi mx : Option Operand} {e : TypeId} {j b off n cap : Nat} (ho : o.op = .slice t x lo hi mx) (hu : P.underlying t = some (.slice e))
    (hx : s.eval x = .sa j b off n cap) (r : RelL M s.fr a.tmps.toList) (H : vSliceSa P s k e j b off n cap lo hi mx) : Found P o a M k := by
  have hr := eval_rel r x
  rw [hx] at hr
  simp only [Rel] at hr
  obtain ⟨hr, hn, hc⟩ := hr
  unfold vSliceSa at H
  split at H
  rotate_left
  · exact H.elim
  rename_i z l u m hz h1 h2 h3
  split at H
  rotate_left
  · exact H.elim
  rename_i hm0
  obtain ⟨⟨g0, g1, g2, g3⟩, H1, H2⟩ := H
  have hm : mx = none ∨ hi ≠ none := by cases mx <;> cases hi <;> simp_all
  have e1 := run_sliceBounds3 (P := P) (a := a) (boundT_run h1 r) (boundT_run h2 r) (boundT_run h3 r) hm g0 g1 g2 g3
  have run : ∀ w, (execOp a.eval o).run P w = .ok (.value (.slice (if m.toNat = l.toNat then some ⟨b, off, none⟩ else some ⟨b, off + l.toNat * z, none⟩) (u.toNat - l.toNat) (m.toNat - l.toNat))) w := fun w => by
    unfold execOp
    rw [ho]
    refine run_value ?_
    have := e1 w
    simp [Instr.sliceAt, Instr.slice, run_underlying hu, hr, this, run_sizeOf hz]
    split <;> simp [Addr.add_mid]
  by_cases hlm : l = m
  · refine ⟨_, _, H2 hlm, ?_, run⟩
    simp only [Rel]
    rw [if_pos (by omega)]
    refine ⟨?_, by omega, by omega⟩
    rw [show u.toNat - l.toNat = 0 by omega, show m.toNat - l.toNat = 0 by omega]
  · refine ⟨_, _, H1 (by omega), ?_, run⟩
    simp only [Rel]
    rw [if_neg (by omega)]
    exact ⟨rfl, by omega, by omega⟩
theorem sSlice0 {t : TypeId} {x : Operand} {lo hi mx : Option Operand} {e : TypeId} {A : Option Addr} {n cap : Nat} (ho : o.op = .slice t x lo hi mx) (hu : P.underlying t = some (.slice e)) (hz : ∃ z, sizeT P e = some z)
    (hx : a.eval x = .slice A n cap) (r : RelL M s.fr a.tmps.toList) (H : vSlice0 s k lo hi mx) : Found P o a M k := by
  obtain ⟨z, hz⟩ := hz
  unfold vSlice0 at H
  split at H
  rotate_left
  · exact H.elim
  rename_i h1 h2 h3
  have b1 := boundT_run h1 r
  have b2 := boundT_run h2 r
  have b3 := boundT_run h3 r
  have b2' : ∃ y j, hi = some y ∧ a.eval y = .int j 0 := b2.elim (fun h => absurd h.2 (by decide)) id
  have b3' : ∃ y j, mx = some y ∧ a.eval y = .int j 0 := b3.elim (fun h => absurd h.2 (by decide)) id
  have e1 := run_sliceBounds3 (P := P) (a := a) (lo := lo) (hi := hi) (mx := mx) (l := 0) (u := 0) (m := 0) (len := n) (cap := cap) b1 (.inr b2') (.inr b3') (.inr (by obtain ⟨y, j, rfl, _⟩ := b2'; simp)) (Int.le_refl _) (Int.le_refl _) (Int.le_refl _) (by omega)
  refine ⟨.slice A 0 0, _, H, by simp only [Rel]; exact ⟨A, rfl⟩, fun w => ?_⟩
  unfold execOp
  rw [ho]
  refine run_value ?_
  have := e1 w
  simp [Instr.sliceAt, Instr.slice, run_underlying hu, hx, this, run_sizeOf hz]
theorem sSlice3 {t : TypeId} {x : Operand} {lo hi mx : Option Operand} (ho : o.op = .slice t x lo hi mx) (H : vSlice3 P s k t x lo hi mx) (r : RelL M s.fr a.tmps.toList) : Found P o a M k := by
  unfold vSlice3 at H
  have hr := eval_rel r x
  split at H
  rotate_left
  · exact H.elim
  rename_i e hu
  split at H
  · rename_i j b off n cap hx
    exact sSliceSa ho hu hx r H
  · rename_i kk es hx
    rw [hx] at hr
    simp only [Rel] at hr
    obtain ⟨A, cap, e1, _⟩ := hr
    split at H
    · rename_i z hz; exact sSlice0 ho hu ⟨z, hz⟩ e1 r H
    · exact H.elim
  · rename_i kk i es x' hx
    rw [hx] at hr
    simp only [Rel] at hr
    obtain ⟨e0, A, cap, e1, _⟩ := hr
    split at H
    · rename_i z hz; exact sSlice0 ho hu ⟨z, hz⟩ (e0.trans e1) r H
    · exact H.elim
  · exact H.elim
theorem sSlice {t : TypeId} {x : Operand} {lo hi mx : Option Operand} (ho : o.op = .slice t x lo hi mx) (H : vSlice P s k t x lo hi mx) (r : RelL M s.fr a.tmps.toList) : Found P o a M k := by
  unfold vSlice at H
  cases mx with
  | some m => exact sSlice3 ho H r
  | none =>
  simp only at H
  have hr := eval_rel r x
  split at H
  · rename_i z hx
    rw [hx] at hr
    simp only [Rel] at hr
    split at H
    rotate_left
    · exact H.elim
    rename_i hu
    split at H
    rotate_left
    · exact H.elim
    rename_i l u h1 h2
    obtain ⟨⟨g0, g1, g2⟩, H⟩ := H
    have b1 := boundT_run h1 r
    have b2 := boundT_run h2 r
    refine ⟨.string (z.extract l.toNat u.toNat), _, H, by simp only [Rel], fun w => ?_⟩
    unfold execOp
    rw [ho]
    refine run_value ?_
    have e1 := run_sliceBounds (P := P) (a := a) (isS := false) (cap := z.size) b1 b2 g0 g1 g2 (Nat.le_refl _) w
    simp [Instr.sliceAt, Instr.slice, run_underlying hu, hr, e1]
  · rename_i kk es hx
    rw [hx] at hr
    simp only [Rel] at hr
    obtain ⟨A, cap, e1, hd, hl, hr⟩ := hr
    split at H
    rotate_left
    · exact H.elim
    rename_i e hu
    exact sSliceSl ho hu e1 hd hl hr r H
  · rename_i kk i es x' hx
    rw [hx] at hr
    simp only [Rel] at hr
    obtain ⟨e0, A, cap, e1, hd, hl, hr⟩ := hr
    split at H
    rotate_left
    · exact H.elim
    rename_i e hu
    exact sSliceSl ho hu (e0.trans e1) hd hl hr r H
  · exact sSlice3 ho H r
  · rename_i j b m hx
    rw [hx] at hr
    simp only [Rel] at hr
    split at H
    rotate_left
    · exact H.elim
    split at H
    rotate_left
    · exact H.elim
    rename_i n e he
    split at H
    rotate_left
    · exact H.elim
    rename_i z hz
    split at H
    rotate_left
    · exact H.elim
    rename_i hn
    have hua : P.underlying t = some (.array n e) := by
      unfold elemOfT at he
      split at he
      · rename_i hu2; injection he with he; injection he with h1 h2; injection h1 with h1; subst h1 h2; exact hu2
      · injection he with he; injection he with h1 h2; cases h1
      · cases he
    refine ⟨.slice (some ⟨b, m, none⟩) n n, _, H, by simp [Rel, hn], fun w => ?_⟩
    unfold execOp
    rw [ho]
    refine run_value ?_
    have e1 : (Instr.sliceBounds false n n none none none).run P w = .ok (0, n, n) w := rfl
    by_cases h0 : n = 0
    · subst h0
      simp [Instr.sliceAt, Instr.slice, run_underlying hua, hr, e1, run_sizeOf hz, Instr.sureAddr]
    · simp [Instr.sliceAt, Instr.slice, run_underlying hua, hr, e1, run_sizeOf hz, Instr.sureAddr, h0, Addr.add]
  · exact H.elim
theorem sNil {x : Operand} (ho : o.op = .nilCheck x) (H : vNil P s o k x) (r : RelL M s.fr a.tmps.toList) : Found P o a M k := by
  unfold vNil at H
  have hr := eval_rel r x
  have hp : ∀ b m, a.eval x = .pointer (some ⟨b, m, none⟩) → Yield P o a (.pointer (some ⟨b, m, none⟩)) := fun b m e w => by
    unfold execOp
    rw [ho]
    simp [e]
  split at H
  · rename_i i b n hx
    rw [hx] at hr
    have hr' := hr
    simp only [Rel] at hr'
    exact ⟨_, _, H, hr' ▸ hr, hp _ _ hr'⟩
  · rename_i b n hx
    rw [hx] at hr
    have hr' := hr
    simp only [Rel] at hr'
    exact ⟨_, _, H, hr' ▸ hr, hp _ _ hr'⟩
  · rename_i cs hx
    rw [hx] at hr
    have hr' := hr
    simp only [Rel] at hr'
    obtain ⟨b, m, e, _⟩ := hr'
    exact ⟨_, _, H, e ▸ hr, hp _ _ e⟩
  · rename_i f cs hx
    rw [hx] at hr
    have hr' := hr
    simp only [Rel] at hr'
    obtain ⟨ys, e, _⟩ := hr'
    refine ⟨_, _, H, e ▸ hr, fun w => ?_⟩
    unfold execOp
    rw [ho]
    simp [e]
  · rename_i f cs hx
    rw [hx] at hr
    have hr' := hr
    simp only [Rel] at hr'
    obtain ⟨ys, e, _⟩ := hr'
    refine ⟨_, _, H, e ▸ hr, fun w => ?_⟩
    unfold execOp
    rw [ho]
    simp [e]
  · exact flatK_sound H r
theorem relL_isSome {ts : List T} {ys : List Value} (r : RelL M ts ys) (i : Nat) : i < ys.length ↔ i < ts.length := by rw [r.len]
theorem setRange_rel {off : Nat} : ∀ {ts : List T} {us : List Value} {n : Nat} {cs : List T} {ys : Array Value}, RelL M ts us → RelL M cs ys.toList →
    RelL M ((ts.zipIdx n).foldl (fun cs (c, j) => cs.set (off + j) c) cs) ((us.zipIdx n).foldl (fun cs (c, j) => cs.setIfInBounds (off + j) c) ys).toList
  | [], us, n, cs, ys, r, r' => by simp only [RelL] at r; subst r; simpa using r'
  | t :: ts, us, n, cs, ys, r, r' => by
    simp only [RelL] at r
    obtain ⟨u, us, rfl, r1, r2⟩ := r
    simp only [List.zipIdx_cons, List.foldl_cons]
    exact setRange_rel r2 (by rw [Array.toList_setIfInBounds]; exact r'.set _ r1)
theorem fillT_rel {place : Nat → Option (Nat × Nat)} : ∀ {parts : List (Nat × T)} {ps : List (Nat × Value)} {cs : List T} {ys : Array Value} {cs' : List T}, ps.map (·.1) = parts.map (·.1) → RelL M (parts.map (·.2)) (ps.map (·.2)) → RelL M cs ys.toList → fillT place cs parts = some cs' →
    ∃ ys', Instr.fill place ys ps = some ys' ∧ RelL M cs' ys'.toList
  | [], ps, cs, ys, cs', hi, _, r, hf => by
    simp only [List.map_nil, List.map_eq_nil_iff] at hi
    subst hi
    simp only [fillT, Option.some.injEq] at hf
    subst hf
    exact ⟨ys, rfl, r⟩
  | (i, t) :: parts, ps, cs, ys, cs', hi, hp, r, hf => by
    cases ps with
    | nil => simp at hi
    | cons p ps =>
      obtain ⟨j, y⟩ := p
      simp only [List.map_cons, List.cons.injEq] at hi
      obtain ⟨rfl, hi⟩ := hi
      simp only [List.map_cons, RelL] at hp
      obtain ⟨u, us, e, r1, r2⟩ := hp
      injection e with e1 e2
      subst e1 e2
      simp only [fillT] at hf
      split at hf
      · cases hf
      · rename_i off size hpl
        split at hf
        · cases hf
        · rename_i hc
          simp only [Bool.or_eq_true, not_or, decide_eq_true_eq, bne_iff_ne, ne_eq, Decidable.not_not] at hc
          obtain ⟨⟨hc1, hc2⟩, hc3⟩ := hc
          have hu : t ≠ .und := fun e => hc1 (by rw [e]; rfl)
          have rc := rel_cells hu r1
          have hsz : y.cells.size = t.cells.length := by rw [← rc.len]; simp
          have hys : ys.size = cs.length := by rw [← r.len]; simp
          have := setRange_rel (off := off) (n := 0) rc r
          have e1 : (y.cells.toList.zipIdx.foldl (fun cs (c, j) => cs.setIfInBounds (off + j) c) ys) = y.cells.zipIdx.foldl (fun cs (c, j) => cs.setIfInBounds (off + j) c) ys := by
            rw [← Array.foldl_toList, Array.toList_zipIdx]
          rw [e1] at this
          obtain ⟨ys', h1, h2⟩ := fillT_rel hi r2 this hf
          refine ⟨ys', ?_, h2⟩
          unfold Instr.fill
          rw [hpl]
          simp only
          rw [if_neg (by simp [hsz, hys, hc2]; omega)]
          exact h1
theorem placesOf_run {fs : List Field} : ∀ {l : List (Nat × Nat)}, placesOf P fs = some l → ∀ w, (fs.mapM (fun f => Prod.mk f.offset <$> sizeOf f.type) : Sem (List (Nat × Nat))).run P w = .ok l w := by
  induction fs with
  | nil => intro l h w; simp only [placesOf, Option.some.injEq] at h; subst h; rfl
  | cons f fs ih =>
    intro l h w
    simp only [placesOf] at h
    split at h
    · rename_i n l' h1 h2
      injection h with h
      subst h
      simp [List.mapM_cons, run_sizeOf h1, ih h2 w]
    · cases h
theorem zeroT_run {t : TypeId} {z : List T} (h : zeroT P t = some z) : ∃ y, (∀ w, (zeroValue t).run P w = .ok y w) ∧ RelL M z y.cells.toList ∧ z = y.cells.toList.map T.v := by
  unfold zeroT at h
  simp only [Option.map_eq_some_iff, Option.bind_eq_some_iff] at h
  obtain ⟨y, ⟨i, h1, h2⟩, rfl⟩ := h
  exact ⟨y, fun w => by simp [zeroValue, typeInfo, h1, h2], RelL.vs _, rfl⟩
theorem parts_rel (r : RelL M s.fr a.tmps.toList) : ∀ (l : List (Nat × Operand)), RelL M ((l.map fun p => (p.1, s.eval p.2)).map (·.2)) ((l.map fun p => (p.1, a.eval p.2)).map (·.2))
  | [] => by simp only [List.map_nil, RelL]
  | p :: l => by simp only [List.map_cons, RelL]; exact ⟨_, _, rfl, eval_rel r _, parts_rel r l⟩
theorem sBuild {t : TypeId} {parts : Array (Nat × Operand)} (ho : o.op = .build t parts) (H : vBuild P s h k t parts) (r : RelL M s.fr a.tmps.toList) : Found P o a M k := by
  unfold vBuild at H
  split at H
  rotate_left
  · exact H.elim
  rename_i z place hz hp
  obtain ⟨u, hu, hk⟩ := claim_some H
  simp only [Option.map_eq_some_iff] at hu
  obtain ⟨cs, hf, rfl⟩ := hu
  obtain ⟨y, hy, rz, -⟩ := zeroT_run (M := M) hz
  obtain ⟨ys', h1, h2⟩ := fillT_rel (ps := parts.toList.map fun p => (p.1, a.eval p.2)) (by simp [List.map_map, Function.comp_def]) (parts_rel r parts.toList) rz hf
  refine ⟨.agg ys', _, hk, by simp only [Rel]; exact ⟨_, rfl, h2⟩, fun w => ?_⟩
  have e0 : (parts.map fun (i, x) => (i, a.eval x)).toList = parts.toList.map fun p => (p.1, a.eval p.2) := by rw [Array.toList_map]
  unfold execOp
  rw [ho]
  refine run_value ?_
  unfold placeOf at hp
  split at hp
  · rename_i fs hun
    simp only [Option.map_eq_some_iff] at hp
    obtain ⟨l, hl, rfl⟩ := hp
    have h3 := placesOf_run hl w
    have h4 : ((fs.mapM fun f => do pure (f.offset, ← sizeOf f.type)) : Sem (Array (Nat × Nat))).run P w = .ok l.toArray w := by
      rw [Array.mapM_eq_mapM_toList]
      simp only [bind_pure_comp]
      simp [h3]
    simp only [Instr.build, Sem.run_bind, hy, run_underlying hun, Result.andThen_ok, h4]
    rw [e0, show (fun x => l.toArray[x]?) = (fun i => l[i]?) from by funext i; simp, h1]
    rfl
  · rename_i n e hun
    simp only [Option.map_eq_some_iff] at hp
    obtain ⟨n, hn, rfl⟩ := hp
    simp only [Instr.build, Sem.run_bind, hy, run_underlying hun, Result.andThen_ok, run_sizeOf hn]
    rw [e0, h1]
    rfl
  · cases hp
theorem sLen {c : Call} (ho : o.op = .call c) (H : vLen P s o k c) (r : RelL M s.fr a.tmps.toList) : Found P o a M k := by
  unfold vLen at H
  split at H
  rotate_left
  · exact flatK_sound H r
  rename_i x t h1 h2 h3
  obtain ⟨callee, args, tys⟩ := c
  simp only at h1 h2 h3
  obtain ⟨args⟩ := args
  obtain ⟨tys⟩ := tys
  simp only at h2 h3
  subst h1 h2 h3
  have hr := eval_rel r x
  have hy : ∀ A n cap e, P.underlying t = some (.slice e) → a.eval x = .slice A n cap → Yield P o a (.int .i64 n) := fun A n cap e hu hx w => by
    unfold execOp
    rw [ho]
    simp [resolve, invoke, builtin, Builtin.len_, run_underlying hu, hx, goInt]
  split at H
  · rename_i kk es hx
    rw [hx] at hr
    simp only [Rel] at hr
    obtain ⟨A, cap, e1, _⟩ := hr
    split at H
    · rename_i e hu
      exact ⟨_, _, H, by simp only [Rel], hy _ _ _ _ hu e1⟩
    · exact H.elim
  · rename_i kk i es x' hx
    rw [hx] at hr
    simp only [Rel] at hr
    obtain ⟨e0, A, cap, e1, _⟩ := hr
    split at H
    · rename_i e hu
      exact ⟨_, _, H, by simp only [Rel], hy _ _ _ _ hu (e0.trans e1)⟩
    · exact H.elim
  · exact flatK_sound H r
theorem evals_rel (r : RelL M s.fr a.tmps.toList) : ∀ (l : List Operand), RelL M (l.map s.eval) (l.map a.eval)
  | [] => by simp only [List.map_nil, RelL]
  | x :: l => by simp only [List.map_cons, RelL]; exact ⟨_, _, rfl, eval_rel r _, evals_rel r l⟩
theorem sMakeFunc {fn : Fn} {first captured : Array Operand} (ho : o.op = .makeFunc fn first captured) (H : vMakeFunc P s o k fn first captured) (r : RelL M s.fr a.tmps.toList) : Found P o a M k := by
  unfold vMakeFunc at H
  split at H
  · rename_i f hfi
    obtain ⟨first⟩ := first
    simp only at hfi
    subst hfi
    refine ⟨.func (.func f) #[] (captured.map a.eval), _, H, ?_, fun w => ?_⟩
    · simp only [Rel]
      exact ⟨_, rfl, by rw [Array.toList_map]; exact evals_rel r _⟩
    · unfold execOp
      rw [ho]
      simp [Instr.makeFunc]
  · rename_i f _ _ hfi hci
    obtain ⟨captured⟩ := captured
    simp only at hci
    subst hci
    refine ⟨.func (.func f) (first.map a.eval) #[], _, H, ?_, fun w => ?_⟩
    · simp only [Rel]
      exact ⟨_, rfl, by rw [Array.toList_map]; exact evals_rel r _⟩
    · unfold execOp
      rw [ho]
      simp [Instr.makeFunc]
  · exact flatK_sound H r
theorem sClaim {u : T} {v : Value} (H : claim h (some u) k) (hr : Rel M u v) (hy : Yield P o a v) : Found P o a M k := by
  obtain ⟨t, ht, hk⟩ := claim_some H
  injection ht with ht
  subst ht
  exact ⟨v, _, hk, hr, hy⟩
theorem nilSl_rel {x : T} {v : Value} {es : List T} (h : nilSl x = some es) (r : Rel M x v) : ∃ A n cap, v = .slice A n cap ∧ (A = none → es = []) := by
  unfold nilSl at h
  split at h
  · injection h with h; subst h
    simp only [Rel] at r
    obtain ⟨A, cap, rfl, hd, _⟩ := r
    exact ⟨A, _, cap, rfl, fun e => List.eq_nil_of_length_eq_zero (hd.2.2.1 e).1⟩
  · injection h with h; subst h
    simp only [Rel] at r
    obtain ⟨e0, A, cap, e1, hd, _⟩ := r
    exact ⟨A, _, cap, e0.trans e1, fun e => List.eq_nil_of_length_eq_zero (hd.2.2.1 e).1⟩
  · injection h with h; subst h
    simp only [Rel] at r
    obtain ⟨A, rfl⟩ := r
    exact ⟨A, 0, 0, rfl, fun _ => rfl⟩
  · cases h
theorem sNilCmp {q : Bool × List T} (hq : nilCmp P s o.op = some q) (H : nilK k q) (r : RelL M s.fr a.tmps.toList) : Found P o a M k := by
  have key : ∀ (neg : Bool) {t : TypeId} {x y : Operand} {e : TypeId} {u : TypeId} (ho : o.op = .binOp (if neg then .neq else .eql) t x y u) (hu : P.underlying t = some (.slice e)) (hy : s.eval y = .v (.slice none 0 0)) {es : List T} (hx : nilSl (s.eval x) = some es) (H : nilK k (!neg, es)), Found P o a M k := fun neg t x y e u ho hu hy es hx H => by
    obtain ⟨A, n, cap, e1, e2⟩ := nilSl_rel hx (eval_rel r x)
    have ry := eval_rel r y
    rw [hy] at ry
    simp only [Rel] at ry
    have run : ∀ w, (execOp a.eval o).run P w = .ok (.value (.bool (neg ^^ A.isNone))) w := fun w => by
      have hg : ∀ op, (eqGuard op t x y (a.eval x) (a.eval y)).run P w = .ok () w := fun op => by rw [e1, ry]; simp [eqGuard]
      unfold execOp
      rw [ho]
      refine run_value ?_
      have h0 : (binOp (if neg then .neq else .eql) t (a.eval x) (a.eval y)).run P w = .ok (.bool (neg ^^ A.isNone)) w := by
        rw [e1, ry]
        cases neg with
        | true => simp [run_neq_slice_nil w t e A n cap hu]
        | false => simp [binOp, run_equal_slice_nil w t e A n cap hu]
      simp only [Sem.run_bind, hg, Result.andThen_ok, h0]
    cases A with
    | none =>
      refine ⟨_, _, H.1 (by rw [e2 rfl]; rfl), ?_, run⟩
      simp only [Rel]; cases neg <;> rfl
    | some ad =>
      refine ⟨_, _, H.2, ?_, run⟩
      simp only [Rel]; cases neg <;> rfl
  unfold nilCmp at hq
  split at hq
  · rename_i t x y u ho
    split at hq
    · rename_i e hu hy
      rw [Option.map_eq_some_iff] at hq
      obtain ⟨es, hes, rfl⟩ := hq
      exact key false ho hu hy hes H
    · cases hq
  · rename_i t x y u ho
    split at hq
    · rename_i e hu hy
      rw [Option.map_eq_some_iff] at hq
      obtain ⟨es, hes, rfl⟩ := hq
      exact key true ho hu hy hes H
    · cases hq
  · cases hq
theorem str_same (a b : ByteArray) : (a.toList == b.toList) = decide (a = b) := by
  rw [Bool.eq_iff_iff, beq_iff_eq, decide_eq_true_eq]
  constructor
  · intro h
    rw [ByteArray.toList_eq, ByteArray.toList_eq] at h
    exact bs_ext h
  · rintro rfl; rfl
theorem sStr {q : BinOp × ByteArray × ByteArray} (hq : strOp s o.op = some q) (H : strK h k q) (r : RelL M s.fr a.tmps.toList) : Found P o a M k := by
  unfold strOp at hq
  split at hq
  rotate_left
  · cases hq
  rename_i op xt x y t ho
  split at hq
  rotate_left
  · cases hq
  rename_i za zb hx hy
  have rx := eval_rel r x
  have ry := eval_rel r y
  rw [hx] at rx
  rw [hy] at ry
  simp only [Rel] at rx ry
  split at hq
  · injection hq with hq
    subst hq
    obtain ⟨hl, H⟩ := H
    obtain ⟨u, hu, hk⟩ := claim_some H
    injection hu with hu
    subst hu
    refine ⟨.string (za ++ zb), _, hk, by simp only [Rel], fun w => ?_⟩
    unfold execOp
    rw [ho]
    have hz : ¬ (((za.size + zb.size : Nat) : Int) > IntKind.i64.max) := by
      have : IntKind.i64.max = 9223372036854775807 := rfl
      rw [this]; omega
    simp only [rx, ry]
    simp [eqGuard, binOp, Op.stringOp]
    simp at hz
    exact hz
  · injection hq with hq
    subst hq
    refine ⟨.bool (decide (za = zb)), _, H, by simp only [Rel], fun w => ?_⟩
    unfold execOp
    rw [ho]
    simp only [rx, ry]
    simp [eqGuard, binOp, Op.stringOp, str_same]
  · injection hq with hq
    subst hq
    refine ⟨.bool (!decide (za = zb)), _, H, by simp only [Rel], fun w => ?_⟩
    unfold execOp
    rw [ho]
    simp only [rx, ry]
    simp [eqGuard, binOp, Op.stringOp, str_same]
  · cases hq
theorem pv_sound (H : pv P s o h k) (r : RelL M s.fr a.tmps.toList) : Found P o a M k := by
  unfold pv at H
  split at H
  · rename_i x ho
    exact sClaim H (eval_rel r x) (fun w => by unfold execOp; rw [ho]; rfl)
  · rename_i x ho
    exact sClaim H (eval_rel r x) (fun w => by unfold execOp; rw [ho]; rfl)
  · rename_i c x y ho
    split at H
    rotate_left
    · exact H.elim
    rename_i t hc
    have hr := eval_rel r c
    rw [hc] at hr
    simp only [Rel] at hr
    cases t with
    | true => exact ⟨_, _, H, eval_rel r x, fun w => by unfold execOp; rw [ho]; simp [hr, asBool]⟩
    | false => exact ⟨_, _, H, eval_rel r y, fun w => by unfold execOp; rw [ho]; simp [hr, asBool]⟩
  · rename_i ho; exact sField ho H r
  · rename_i ho; exact sExtract ho H r
  · rename_i ho; exact sFieldAddr ho H r
  · rename_i ho; exact sIndexAddr ho H r
  · rename_i ho; exact sIndex ho H r
  · rename_i ho; exact sSlice ho H r
  · rename_i ho; exact sNil ho H r
  · rename_i ho; exact sBuild ho H r
  · rename_i ho; exact sLen ho H r
  · rename_i ho; exact sMakeFunc ho H r
  · split at H
    · rename_i q hq
      exact sStr hq H r
    · split at H
      · rename_i q hq
        exact sNilCmp hq H r
      · split at H
        · obtain ⟨v, t, ⟨rfl, hk⟩, h1, h2⟩ := flatK_sound H r
          exact ⟨v, _, hk, h1, h2⟩
        · exact flatK_sound H r
end
end Go.Proofs.YtaepgceodcdnhaaDoor.Vm
/- Trees: laws of memory under the relation. No program is named here. -/
namespace Go.Proofs.YtaepgceodcdnhaaDoor.Vm
open Go Go.RowKit

theorem rel_one {M : Pm} {t : T} {y : Value} (h : t.one = true) (r : Rel M t y) : y.oneCell' = true := by
  cases t <;> simp only [T.one] at h <;> first | cases h | skip
  all_goals simp only [Rel] at r
  · subst r; exact h
  · obtain ⟨A, cap, rfl, _⟩ := r; rfl
  · obtain ⟨rfl, A, cap, rfl, _⟩ := r; rfl
  · subst r; rfl
  · subst r; rfl
  · obtain ⟨b, o, rfl, _⟩ := r; rfl
  · subst r; rfl
  · obtain ⟨ys, rfl, _⟩ := r; rfl
  · obtain ⟨ys, rfl, _⟩ := r; rfl
  · rw [r.1]; rfl
  · obtain ⟨A, rfl⟩ := r; rfl
theorem relL_one {M : Pm} : ∀ {ts : List T} {ys : List Value}, ts.all T.one = true → RelL M ts ys → ∀ y ∈ ys, y.oneCell' = true
  | [], ys, _, r => by simp only [RelL] at r; subst r; simp
  | t :: ts, ys, h, r => by
    simp only [RelL] at r
    obtain ⟨u, us, rfl, r1, r2⟩ := r
    simp only [List.all_cons, Bool.and_eq_true] at h
    intro y hy
    rcases List.mem_cons.1 hy with rfl | hy
    · exact rel_one h.1 r1
    · exact relL_one h.2 r2 y hy
/-- the cells of an address that are promised -/
theorem relA_list {M : Pm} {b : Nat} : ∀ {ts : List T} {o : Nat}, RelA M b ts o → ∃ us, RelL M ts us ∧ ∀ j u, us[j]? = some u → M b (o + j) = some u
  | [], o, _ => ⟨[], by simp only [RelL], by simp⟩
  | t :: ts, o, r => by
    simp only [RelA] at r
    obtain ⟨⟨u, h1, h2⟩, r⟩ := r
    obtain ⟨us, h3, h4⟩ := relA_list r
    refine ⟨u :: us, by simp only [RelL]; exact ⟨u, us, rfl, h2, h3⟩, fun j v hv => ?_⟩
    cases j with
    | zero => simp at hv; subst hv; exact h1
    | succ j =>
      have := h4 j v (by simpa using hv)
      rwa [show o + 1 + j = o + (j + 1) from by omega] at this
theorem relE_list {M : Pm} {k b : Nat} : ∀ {es : List T} {o : Nat}, El elCells k es → RelE M k b es o → ∃ us, RelL M (es.flatMap elCells) us ∧ us.length = es.length * k ∧ ∀ j u, us[j]? = some u → M b (o + j) = some u
  | [], o, _, _ => ⟨[], by simp only [List.flatMap_nil, RelL], by simp, by simp⟩
  | e :: es, o, hl, r => by
    have h0 := r.el (i := 0) (e := e) (by simp)
    have h1 := r.drop 1
    simp only [List.drop_succ_cons, List.drop_zero, Nat.one_mul] at h1
    rw [Nat.zero_mul, Nat.add_zero] at h0
    obtain ⟨us, a1, a2⟩ := relA_list h0
    obtain ⟨vs, b1, b2, b3⟩ := relE_list (fun x hx => hl x (List.mem_cons_of_mem _ hx)) h1
    have hk : us.length = k := by rw [a1.len]; exact hl e (by simp)
    refine ⟨us ++ vs, by rw [List.flatMap_cons]; exact a1.append b1, by rw [List.length_append, hk, b2, List.length_cons, Nat.add_mul]; omega, fun j u hu => ?_⟩
    rw [List.getElem?_append] at hu
    split at hu
    · exact a2 j u hu
    · have := b3 _ u hu
      rwa [show o + k + (j - us.length) = o + j from by omega] at this
theorem relE_of_list {M : Pm} {k b : Nat} : ∀ {es : List T} {o : Nat} {us : List Value}, El elCells k es → RelL M (es.flatMap elCells) us → (∀ j u, us[j]? = some u → M b (o + j) = some u) → RelE M k b es o
  | [], o, us, _, _, _ => by simp only [RelE]
  | e :: es, o, us, hl, r, hm => by
    have hk := hl e (by simp)
    rw [List.flatMap_cons] at r
    have ha : RelA M b (elCells e) o := RelA.of_get fun i t ht => by
      have hi : i < (elCells e).length := (List.getElem?_eq_some_iff.1 ht).1
      obtain ⟨y, h1, h2⟩ := r.get (i := i) (t := t) (by rw [List.getElem?_append_left hi]; exact ht)
      exact ⟨y, hm i y h1, h2⟩
    have hd := r.drop k
    rw [← hk, List.drop_left, hk] at hd
    have hr : RelE M k b es (o + k) := relE_of_list (fun x hx => hl x (List.mem_cons_of_mem _ hx)) hd fun j u hu => by
      rw [List.getElem?_drop] at hu
      have := hm _ u hu
      rwa [show o + (k + j) = o + k + j from by omega] at this
    refine RelE.of_el fun i e' he' => ?_
    cases i with
    | zero => simp at he'; subst he'; simpa using ha
    | succ i =>
      have := hr.el (i := i) (by simpa using he')
      rwa [show o + k + i * k = o + (i + 1) * k from by rw [Nat.add_mul]; omega] at this
theorem relE_append {M : Pm} {k b : Nat} {es fs : List T} {o : Nat} (h1 : RelE M k b es o) (h2 : RelE M k b fs (o + es.length * k)) : RelE M k b (es ++ fs) o := RelE.of_el fun i e he => by
  rw [List.getElem?_append] at he
  split at he
  · exact h1.el he
  · rename_i hlt
    have := h2.el he
    rwa [show o + es.length * k + (i - es.length) * k = o + i * k from by
      rw [Nat.add_assoc, ← Nat.add_mul]; congr 2; omega] at this

section
variable {M M' : Pm} {w w' : World}
theorem cell_of_heap {b : Nat} (h : w'.heap[b]? = w.heap[b]?) (o : Nat) : w'.cell? ⟨b, o, none⟩ = w.cell? ⟨b, o, none⟩ := World.cell?_of_block (w := w) h
theorem Hc.lt {b : Nat} {C : Array Value} {t : TypeId} (h : Hc w b C t) : b < w.heap.size := by
  obtain ⟨fz, h, _⟩ := h
  exact (Array.getElem?_eq_some_iff.1 h).1
theorem Hc.of {b : Nat} {C : Array Value} {t : TypeId} (h : w.heap[b]? = some (.cells C t (0, 0))) : Hc w b C t := ⟨_, h, .inl rfl⟩
theorem Hc.keep {b : Nat} {C : Array Value} {t : TypeId} (h : Hc w b C t) (e : w'.heap[b]? = w.heap[b]?) : Hc w' b C t := by
  obtain ⟨fz, h, k⟩ := h
  exact ⟨fz, e.trans h, k⟩
theorem Hc.cell {b : Nat} {C : Array Value} {t : TypeId} (h : Hc w b C t) (i : Nat) : w.cell? ⟨b, i, none⟩ = C[i]? := by
  obtain ⟨fz, h, _⟩ := h
  exact cell_of_row _ _ _ _ _ _ h
theorem Hc.setRow {b : Nat} {C C' : Array Value} {t : TypeId} (h : Hc w b C t) (hs : C'.size = C.size) : Hc (w.setRow b C') b C' t := by
  obtain ⟨fz, h, k⟩ := h
  exact ⟨fz, setRow_heap w b C C' t fz h, by rw [hs]; exact k⟩
theorem Hc.self {b : Nat} {C : Array Value} {t : TypeId} (h : Hc w b C t) : w.setRow b C = w := by
  obtain ⟨fz, h, _⟩ := h
  exact setRow_self w b C t fz h
theorem Hc.uniq {b : Nat} {C C' : Array Value} {t t' : TypeId} (h : Hc w b C t) (h' : Hc w b C' t') : C = C' := by
  obtain ⟨fz, h, _⟩ := h
  obtain ⟨fz', h', _⟩ := h'
  rw [h] at h'
  injection h' with h'
  injection h'
/-- cells are laid where nothing is frozen -/
theorem run_storeCells_z (P : Program) (g o : Nat) (t : TypeId) : ∀ (vs : List Value) (i : Nat) (cur : Array Value) (w : World), Hc w g cur t → o + i + vs.length ≤ cur.size → (∀ v ∈ vs, v.oneCell' = true) →
    (storeCells ⟨g, o, none⟩ vs i).run P w = .ok () (w.setRow g (cur.toList.take (o + i) ++ vs ++ cur.toList.drop (o + i + vs.length)).toArray)
  | [], i, cur, w, hg, _, _ => by
    obtain ⟨fz, hg, _⟩ := hg
    simp only [storeCells, List.append_nil, List.length_nil, Nat.add_zero, List.take_append_drop, Array.toArray_toList]
    rw [setRow_self w g cur t fz hg]
    rfl
  | v :: rest, i, cur, w, hg, hl, h1 => by
    have hg0 := hg
    obtain ⟨fz, hg, hfz⟩ := hg
    have hi : o + i < cur.size := by simp at hl; omega
    have hadd : (⟨g, o, none⟩ : Addr).add i = ⟨g, o + i, none⟩ := by unfold Addr.add; split <;> simp_all
    have hcell : w.cell? ⟨g, o + i, none⟩ = some cur[o + i] := by simp [World.cell?, hg, hi]
    have hfro : w.frozen? ⟨g, o + i, none⟩ = false := by
      obtain ⟨lo, hi'⟩ := fz
      simp only [World.frozen?, hg, Bool.and_eq_false_iff, decide_eq_false_iff_not]
      rcases hfz with hfz | hfz
      · injection hfz with e1 e2; right; omega
      · simp only at hfz; left; omega
    have hst : (store ((⟨g, o, none⟩ : Addr).add i) v).run P w = .ok () (w.setRow g (cur.setIfInBounds (o + i) v)) := by
      rw [hadd, run_store P w _ v _ (h1 v (by simp)), hcell]
      simp [hfro, setCell_eq_setRow w g (o + i) cur t fz v hg]
    have ih := run_storeCells_z P g o t rest (i + 1) (cur.setIfInBounds (o + i) v) (w.setRow g (cur.setIfInBounds (o + i) v)) (hg0.setRow (by simp)) (by simp at hl ⊢; omega) (fun x hx => h1 x (by simp [hx]))
    simp only [storeCells, Sem.run_bind, hst, Result.andThen_ok, ih, setRow_setRow]
    congr 3
    have e := list_seg_step cur.toList (o + i) v rest (by simp at hl ⊢; omega)
    simpa [Array.toList_setIfInBounds, Nat.add_assoc] using e
theorem ObRel.lt {x : Nat × Ob} {b : Nat} (h : ObRel M w x) (hb : obBlk x = some b) : b < w.heap.size := by
  obtain ⟨c, x⟩ := x
  have key : ∀ {o : Obj} {g : Nat}, w.heap[g]? = some o → g < w.heap.size := fun h => (Array.getElem?_eq_some_iff.1 h).1
  cases x with
  | cells cs => simp only [obBlk, Option.some.injEq] at hb; subst hb; obtain ⟨C, t, h1, _⟩ := h; exact h1.lt
  | room k e n x =>
    simp only [obBlk] at hb
    rcases h with ⟨rfl, _⟩ | ⟨g, cap, C, tr, rfl, h1, _⟩
    · simp [Value.ownBlock] at hb
    · simp [Value.ownBlock] at hb; subst hb; exact h1.lt
  | map kd f es ck => simp only [obBlk, Option.some.injEq] at hb; subst hb; exact key h.1
  | iter i mb kd es ck l c =>
    simp only [obBlk, Option.some.injEq] at hb
    subst hb
    obtain ⟨seen, h1, _⟩ := h.1
    exact key h1
  | kv kt G f =>
    simp only [obBlk, Option.some.injEq] at hb
    subst hb
    obtain ⟨es, ck, fv, h1, _⟩ := h.1
    exact key h1
  | fix cs => simp [obBlk] at hb
  | siter z pos =>
    simp only [obBlk, Option.some.injEq] at hb
    subst hb
    exact key h.1
  | gone => simp [obBlk] at hb
theorem ObRel.keep {x : Nat × Ob} (h : ObRel M w x) (hk : ∀ b, obBlk x = some b → w'.heap[b]? = w.heap[b]?) (hm : ∀ b, obBlk x = some b → ∀ o, M' b o = M b o) (hl : M.le M') : ObRel M' w' x := by
  obtain ⟨c, x⟩ := x
  cases x with
  | cells cs =>
    obtain ⟨C, t, h1, h2, h3⟩ := h
    exact ⟨C, t, h1.keep (hk c rfl), h2.mono hl _ _, fun o => (hm c rfl o).trans (h3 o)⟩
  | room k e n x =>
    rcases h with h | ⟨g, cap, C, tr, rfl, h1, h2, h3, h4, h5⟩
    · exact .inl h
    · exact .inr ⟨g, cap, C, tr, rfl, h1.keep (hk g rfl), h2, h3, h4, fun j hj => (hm g rfl j).trans (h5 j hj)⟩
  | map kd f es ck =>
    obtain ⟨h1, ⟨fv, h2, h3, h4⟩, h5⟩ := h
    refine ⟨(hk c rfl).trans h1, ⟨fv, h2, fun z t hz => ?_, h4⟩, fun o => (hm c rfl o).trans (h5 o)⟩
    obtain ⟨v, h6, h7⟩ := h3 z t hz
    exact ⟨v, h6, h7.mono hl _ _⟩
  | iter i mb kd es ck l cu =>
    obtain ⟨⟨seen, h1, h2⟩, h5⟩ := h
    exact ⟨⟨seen, (hk c rfl).trans h1, h2⟩, fun o => (hm c rfl o).trans (h5 o)⟩
  | kv kt G f =>
    obtain ⟨⟨es, ck, fv, h1, h2, h3, h4⟩, h5⟩ := h
    refine ⟨⟨es, ck, fv, (hk c rfl).trans h1, h2, fun z t hz => ?_, h4⟩, fun o => (hm c rfl o).trans (h5 o)⟩
    obtain ⟨v, h6, h7⟩ := h3 z t hz
    exact ⟨v, h6, h7.mono hl _ _⟩
  | fix cs => exact RelA.mono hl c cs 0 h
  | siter z pos => exact ⟨(hk c rfl).trans h.1, fun o => (hm c rfl o).trans (h.2 o)⟩
  | gone => trivial
theorem no_promise (hp : ∀ b o v, M b o = some v → w.cell? ⟨b, o, none⟩ = some v ∧ v.oneCell' = true) {b : Nat} (hb : w.heap.size ≤ b) (o : Nat) : M b o = none := by
  cases h : M b o with
  | none => rfl
  | some v =>
    have := (hp b o v h).1
    have := World.block_lt_of_cell? w _ this
    simp only at this
    omega
theorem heap_new (w : World) (o : Obj) {b : Nat} (h : b < w.heap.size) : (w.alloc o).heap[b]? = w.heap[b]? := Below.heap_alloc w o b h
/-- only blocks that nothing lies in have turned -/
theorem HRel.still {ob : Obs} {gl : Glb} (h : HRel M ob gl w) (hk : ∀ b, b < w.heap.size → w'.heap[b]? = w.heap[b]?) : HRel M ob gl w' where
  promise := fun b o v hv => ⟨(cell_of_heap (hk b (by have := World.block_lt_of_cell? w _ (h.promise b o v hv).1; exact this)) o).trans (h.promise b o v hv).1, (h.promise b o v hv).2⟩
  objs := fun i x hx => (h.objs i x hx).keep (fun b hb => hk b ((h.objs i x hx).lt hb)) (fun _ _ _ => rfl) (Pm.le_refl _)
  apart := h.apart
  glob := fun b x hx => ⟨(h.glob b x hx).1, (h.glob b x hx).2.keep (fun c hc => hk c ((h.glob b x hx).2.lt hc)) (fun _ _ _ => rfl) (Pm.le_refl _)⟩
  sep := h.sep
theorem HRel.lt {ob : Obs} {gl : Glb} (h : HRel M ob gl w) {b : Nat} (hd : Dom ob gl b) : b < w.heap.size := by
  rcases hd with ⟨i, x, h1, h2⟩ | h1
  · exact (h.objs i x h1).lt h2
  · obtain ⟨x, hx⟩ := Option.isSome_iff_exists.1 h1
    exact (h.glob b x hx).2.lt (h.glob b x hx).1
/-- one thing more -/
theorem HRel.more {ob : Obs} {gl : Glb} (h : HRel M ob gl w) {x : Nat × Ob} (hx : ObRel M w x) (hn : ∀ b, obBlk x = some b → ¬ Dom ob gl b) : HRel M (ob ++ [x]) gl w where
  promise := h.promise
  objs := fun i y hy => by
    rw [List.getElem?_append] at hy
    split at hy
    · exact h.objs i y hy
    · have : y = x := by
        rw [List.getElem?_singleton] at hy
        split at hy
        · exact (Option.some.inj hy).symm
        · cases hy
      exact this ▸ hx
  apart := fun i j y z b hi hj hy hz => by
    rw [List.getElem?_append] at hi hj
    have one : ∀ {n : Nat} {y : Nat × Ob}, [x][n]? = some y → y = x ∧ n = 0 := fun {n y} hh => by
      rw [List.getElem?_singleton] at hh
      split at hh
      · exact ⟨(Option.some.inj hh).symm, by assumption⟩
      · cases hh
    split at hi <;> split at hj
    · exact h.apart i j y z b hi hj hy hz
    · obtain ⟨rfl, _⟩ := one hj; exact absurd (.inl ⟨i, y, hi, hy⟩) (hn b hz)
    · obtain ⟨rfl, _⟩ := one hi; exact absurd (.inl ⟨j, z, hj, hz⟩) (hn b hy)
    · obtain ⟨-, e1⟩ := one hi; obtain ⟨-, e2⟩ := one hj; omega
  glob := h.glob
  sep := fun i y b hi hy => by
    rw [List.getElem?_append] at hi
    split at hi
    · exact h.sep i y b hi hy
    · have : y = x := by
        rw [List.getElem?_singleton] at hi
        split at hi
        · exact (Option.some.inj hi).symm
        · cases hi
      subst this
      cases hg : gl b with
      | none => rfl
      | some z => exact absurd (.inr (by simp [hg])) (hn b hy)
/-- one thing has been turned -/
theorem HRel.turn {ob : Obs} {gl : Glb} (h : HRel M ob gl w) {i : Nat} {x y : Nat × Ob} (hi : ob[i]? = some x) (hl : M.le M')
    (hk : ∀ b, b < w.heap.size → obBlk x ≠ some b → w'.heap[b]? = w.heap[b]?) (hm : ∀ b, b < w.heap.size → obBlk x ≠ some b → ∀ o, M' b o = M b o)
    (hp : ∀ b o v, M' b o = some v → w'.cell? ⟨b, o, none⟩ = some v ∧ v.oneCell' = true) (hy : ObRel M' w' y) (hb : ∀ b, obBlk y = some b → obBlk x = some b ∨ w.heap.size ≤ b) : HRel M' (ob.set i y) gl w' := by
  have hil : i < ob.length := (List.getElem?_eq_some_iff.1 hi).1
  have get : ∀ {j : Nat} {z : Nat × Ob}, (ob.set i y)[j]? = some z → (j = i ∧ z = y) ∨ (j ≠ i ∧ ob[j]? = some z) := fun {j z} hz => by
    rw [List.getElem?_set] at hz
    split at hz
    · exact .inl ⟨by omega, (Option.some.inj hz).symm⟩
    · exact .inr ⟨by omega, hz⟩
  have far : ∀ {j : Nat} {z : Nat × Ob} {b : Nat}, j ≠ i → ob[j]? = some z → obBlk z = some b → obBlk x ≠ some b := fun {j z b} hj hz hbz e => hj (h.apart j i z x b hz hi hbz e)
  have gfar : ∀ {b : Nat} {z : Ob}, gl b = some z → obBlk x ≠ some b := fun {b z} hz e => by rw [h.sep i x b hi e] at hz; cases hz
  refine ⟨hp, fun j z hz => ?_, fun j l z u b hz hu h1 h2 => ?_, fun b z hz => ?_, fun j z b hz h1 => ?_⟩
  · rcases get hz with ⟨-, rfl⟩ | ⟨hj, hz⟩
    · exact hy
    · have ho := h.objs j z hz
      exact ho.keep (fun b hb => hk b (ho.lt hb) (far hj hz hb)) (fun b hb => hm b (ho.lt hb) (far hj hz hb)) hl
  · rcases get hz with ⟨ej, ez⟩ | ⟨hj, hz⟩ <;> rcases get hu with ⟨el, eu⟩ | ⟨hl', hu⟩
    · omega
    · exfalso
      have ho := (h.objs l u hu).lt h2
      rw [ez] at h1
      rcases hb b h1 with e | e
      · exact far hl' hu h2 e
      · omega
    · exfalso
      have ho := (h.objs j z hz).lt h1
      rw [eu] at h2
      rcases hb b h2 with e | e
      · exact far hj hz h1 e
      · omega
    · exact h.apart j l z u b hz hu h1 h2
  · have ho := h.glob b z hz
    exact ⟨ho.1, ho.2.keep (fun c hc => by have : c = b := by rw [ho.1] at hc; exact (Option.some.inj hc).symm
                                           subst this; exact hk c (ho.2.lt hc) (gfar hz)) (fun c hc => by
                                           have : c = b := by rw [ho.1] at hc; exact (Option.some.inj hc).symm
                                           subst this; exact hm c (ho.2.lt hc) (gfar hz)) hl⟩
  · rcases get hz with ⟨-, rfl⟩ | ⟨hj, hz⟩
    · rcases hb b h1 with e | e
      · exact h.sep i x b hi e
      · cases hg : gl b with
        | none => rfl
        | some u => have := (h.glob b u hg).2.lt (h.glob b u hg).1; omega
    · exact h.sep j z b hz h1
end
end Go.Proofs.YtaepgceodcdnhaaDoor.Vm
/- Trees: append. No program is named here. -/
namespace Go.Proofs.YtaepgceodcdnhaaDoor.Vm
open Go Go.RowKit

section
variable {P : Program} {M : Pm} {w : World}
theorem run_append_row (t tx ty e tr : TypeId) (i : TypeInfo) (ht : P.underlying t = some (.slice e)) (hi : P.info? e = some i) (g n cap : Nat) (C : Array Value) (hg : Hc w g C tr) (x : Value) (m : Nat) (news : List Value) (hs : Src P i.size tx x m news w)
    (hroom : n + m ≤ cap) (hfit : n * i.size + news.length ≤ C.size) :
    (Builtin.append_ #[t, tx] ty #[.slice (some ⟨g, 0, none⟩) n cap, x]).run P w = .ok (.slice (some ⟨g, 0, none⟩) (n + m) cap) (w.setRow g (C.toList.take (n * i.size) ++ news ++ C.toList.drop (n * i.size + news.length)).toArray) := by
  have hst := run_storeCells_z P g (n * i.size) tr news 0 C w hg (by simpa using hfit) hs.one
  simp only [Nat.add_zero] at hst
  rcases hs.kind with ⟨e', hk⟩ | hk <;> simp [Builtin.append_, run_underlying ht, run_underlying hk, sizeOf, typeInfo, hi, hs.len, hroom, hs.cells, Addr.add_lit, hst]

theorem relL_flat_bytes : ∀ (l : List UInt8), RelL M ((l.map fun c => T.v (.int .u8 c.toNat)).flatMap elCells) (l.map fun b => Value.int .u8 b.toNat)
  | [] => by simp only [List.map_nil, List.flatMap_nil, RelL]
  | c :: l => by
    simp only [List.map_cons, List.flatMap_cons, elCells, List.cons_append, List.nil_append, RelL]
    exact ⟨_, _, rfl, by simp only [Rel], relL_flat_bytes l⟩
theorem src_of {ob : Obs} {gl : Glb} {t : TypeId} {y : T} {v : Value} {k : Nat} {ys : List T} (hr : HRel M ob gl w) (hsrc : srcT P t y = true) (hsl : slOf k y = some ys) (r : Rel M y v) :
    El elCells k ys ∧ ∃ news, Src P k t v ys.length news w ∧ RelL M (ys.flatMap elCells) news := by
  have slice : ∀ (es : List T) (A : Option Addr) (cap : Nat), (∃ e', P.underlying t = some (.slice e')) → Hdr A es.length cap → El elCells k es → (∀ b o, A = some ⟨b, o, none⟩ → RelE M k b es o) → v = .slice A es.length cap →
      El elCells k es ∧ ∃ news, Src P k t v es.length news w ∧ RelL M (es.flatMap elCells) news := by
    rintro es A cap ⟨e', hu⟩ ⟨d1, d2, d3, d4⟩ hl hre rfl
    refine ⟨hl, ?_⟩
    cases A with
    | none =>
      have hn : es = [] := List.eq_nil_of_length_eq_zero (d3 rfl).1
      subst hn
      exact ⟨[], Src.ofNil w hu _, by simp only [List.flatMap_nil, RelL]⟩
    | some a =>
      rcases Nat.eq_zero_or_pos cap with hc | hc
      · have hn : es = [] := List.eq_nil_of_length_eq_zero (by omega)
        subst hn
        exact ⟨[], Src.ofSlice w hu _ _ _ [] (by simp) (by simp) (by simp), by simp only [List.flatMap_nil, RelL]⟩
      have := d4 a rfl hc
      obtain ⟨b, o, sp⟩ := a
      simp only at this
      subst this
      obtain ⟨us, h1, h2, h3⟩ := relE_list hl (hre b o rfl)
      exact ⟨us, Src.ofSlice w hu _ _ _ _ h2 (fun j u hu' => by rw [Addr.add_mid]; exact (hr.promise _ _ _ (h3 j u hu')).1) (fun u hu' => by
        obtain ⟨j, hj⟩ := List.getElem?_of_mem hu'
        exact (hr.promise _ _ _ (h3 j u hj)).2), h1⟩
  have hsl' : (∀ z, y ≠ .v (.string z)) → ∃ e', P.underlying t = some (.slice e') := fun hne => by
    unfold srcT at hsrc
    split at hsrc
    · exact absurd rfl (hne _)
    · cases hsrc
    · exact ⟨_, by assumption⟩
    · cases hsrc
  unfold slOf at hsl
  split at hsl
  · split at hsl
    · rename_i k' es hk
      injection hsl with hsl
      subst hsl hk
      simp only [Rel] at r
      obtain ⟨A, cap, e1, hd, hl, hr'⟩ := r
      exact slice _ A cap (hsl' (fun z e => by cases e)) hd hl hr' e1
    · cases hsl
  · split at hsl
    · rename_i k' i es x hk
      injection hsl with hsl
      subst hsl hk
      simp only [Rel] at r
      obtain ⟨e0, A, cap, e1, hd, hl, hr'⟩ := r
      exact slice _ A cap (hsl' (fun z e => by cases e)) hd hl hr' (e0.trans e1)
    · cases hsl
  · injection hsl with hsl
    subst hsl
    simp only [Rel] at r
    exact slice [] none 0 (hsl' (fun z e => by cases e)) ⟨Nat.le_refl _, by omega, fun _ => ⟨rfl, rfl⟩, fun a e => by cases e⟩ (fun e he => by simp at he) (fun b o e => by cases e) r
  · split at hsl
    · rename_i z hk
      injection hsl with hsl
      subst hsl hk
      simp only [Rel] at r
      subst r
      have hu : P.underlying t = some .string := by
        unfold srcT at hsrc
        split at hsrc
        · assumption
        · cases hsrc
        · rename_i h1 _ _; rename_i h2; exact absurd rfl (h2 _)
        · cases hsrc
      refine ⟨fun e he => by
        obtain ⟨c, _, rfl⟩ := List.mem_map.1 he
        rfl, byteCells z, ?_, relL_flat_bytes _⟩
      have := Src.ofString (P := P) w hu z
      rwa [show (z.data.toList.map fun c => T.v (.int .u8 c.toNat)).length = z.size from by simp]
    · cases hsl
  · cases hsl

/-- what an append leaves -/
structure Out (M : Pm) (w : World) (k : Nat) (e : TypeId) (i : Nat) (es : List T) (x x' : Value) (w' : World) (M' : Pm) : Prop where
  le : M.le M'
  rel : Rel M' (.slx k i es x') x'
  ob : ObRel M' w' (0, .room k e es.length x')
  hp : ∀ b o v, M' b o = some v → w'.cell? ⟨b, o, none⟩ = some v ∧ v.oneCell' = true
  hk : ∀ b, b < w.heap.size → x.ownBlock ≠ some b → w'.heap[b]? = w.heap[b]?
  hm : ∀ b, b < w.heap.size → x.ownBlock ≠ some b → ∀ o, M' b o = M b o
  hb : ∀ b, x'.ownBlock = some b → x.ownBlock = some b ∨ w.heap.size ≤ b
  os : w'.os = w.os
  tape : w'.tape = w.tape
  out : w'.output = w.output
  size : w.heap.size ≤ w'.heap.size
theorem append_run {ob : Obs} {gl : Glb} {t tx ty e : TypeId} {i : TypeInfo} {z : Value} {k n : Nat} {es ys : List T} {x v : Value} {news : List Value} (hr : HRel M ob gl w) (j : Nat)
    (ht : P.underlying t = some (.slice e)) (hi : P.info? e = some i) (hz : i.zero = some z) (hs : i.size = k) (hzk : z.cells.size = k) (hk : 0 < k)
    (hx : Rel M (.slx k j es x) x) (ho : ObRel M w (0, .room k e n x)) (hn : n = es.length) (hsrc : Src P k tx v ys.length news w) (hl : El elCells k ys) (hrel : RelL M (ys.flatMap elCells) news) (hf : Fits (es.length + ys.length) i.bytes) :
    ∃ x' w' M', (Builtin.append_ #[t, tx] ty #[x, v]).run P w = .ok x' w' ∧ Out M w k e j (es ++ ys) x x' w' M' := by
  subst hs hn
  obtain ⟨hf1, hf2⟩ := hf
  simp only [Rel] at hx
  obtain ⟨-, A, cap, ex, ⟨d1, d2, d3, d4⟩, hle, hre⟩ := hx
  have hnl := hsrc.newsLen
  have hone := hsrc.one
  have hlen : (es ++ ys).length = es.length + ys.length := List.length_append
  have hel : El elCells i.size (es ++ ys) := fun e he => by exact (List.mem_append.1 he).elim (hle e) (hl e)
  -- a new row
  have grown : ∀ (olds : List Value) (base : Option Addr), x = .slice base es.length cap → cap < es.length + ys.length → olds.length = es.length * i.size → RelL M (es.flatMap elCells) olds → (∀ u ∈ olds, u.oneCell' = true) →
      ((Builtin.firstCells i.size es.length (.slice base es.length cap)).run P w.drew = .ok olds.toArray w.drew) →
      ∃ x' w' M', (Builtin.append_ #[t, tx] ty #[x, v]).run P w = .ok x' w' ∧ Out M w i.size e j (es ++ ys) x x' w' M' := by
    intro olds base e0 hc hol hor ho1 hold
    have hmax : es.length + ys.length ≤ 9223372036854775807 := by unfold maxLen at hf2; omega
    have hrun := run_append_grow_src (P := P) w t tx ty e i z ht hi hz base es.length cap olds hold v ys.length news hsrc hc (by omega) (growslice_fits hc hf1)
    rw [← e0] at hrun
    have hge := grownCap_ge w (es.length + ys.length) cap e
    have hcm : grownCap w (es.length + ys.length) cap e ≤ maxLen := grownCap_le_maxLen w (es.length + ys.length) cap e hf2
    generalize grownCap w (es.length + ys.length) cap e = nc at *
    generalize hC : (olds ++ news).toArray ++ Builtin.zeroCells z.cells (nc - (es.length + ys.length)) = C at hrun
    have hCs : C.size = nc * i.size := by
      rw [← hC]
      simp only [Array.size_append, List.size_toArray, List.length_append, size_zeroCells, hzk, hol, hnl, ← Nat.add_mul]
      congr 1
      omega
    have hCg : ∀ (q : Nat) (u : Value), (olds ++ news)[q]? = some u → C[q]? = some u := fun q u hu => by
      have hq : q < (olds ++ news).length := (List.getElem?_eq_some_iff.1 hu).1
      rw [← hC, Array.getElem?_append_left (by simpa using hq)]
      simpa using hu
    have hlt : (olds ++ news).length = (es.length + ys.length) * i.size := by rw [List.length_append, hol, hnl, Nat.add_mul]
    have hsz : w.drew.heap.size = w.heap.size := rfl
    have hnew : Hc (w.drew.alloc (.cells C e)) w.heap.size C e := .of (heap_alloc_new w.drew _)
    have hold' : ∀ b, b < w.heap.size → (w.drew.alloc (.cells C e)).heap[b]? = w.heap[b]? := fun b hb => heap_new w.drew _ hb
    have hM : (M).le (fun b o => if b = w.heap.size then (olds ++ news)[o]? else M b o) := fun b o u hu => by
      have hb : b ≠ w.heap.size := fun e => by rw [e, no_promise hr.promise (Nat.le_refl _)] at hu; cases hu
      dsimp only; rw [if_neg hb]; exact hu
    refine ⟨_, _, fun b o => if b = w.heap.size then (olds ++ news)[o]? else M b o, hrun, ⟨hM, ?_, ?_, ?_, ?_, ?_, ?_, rfl, rfl, rfl, by simp⟩⟩
    · simp only [Rel]
      refine ⟨trivial, some ⟨w.heap.size, 0, none⟩, nc, by rw [hlen], ⟨by rw [hlen]; exact hge, hcm, (fun e => by cases e), fun a e _ => by injection e with e; rw [← e]⟩, hel, fun b o e => ?_⟩
      injection e with e
      injection e with e1 e2
      subst e1 e2
      refine relE_of_list hel (us := olds ++ news) ?_ (fun q u hu => by simp only [if_pos, Nat.zero_add]; exact hu)
      rw [List.flatMap_append]
      exact (hor.mono hM _ _).append (hrel.mono hM _ _)
    · refine .inr ⟨w.heap.size, nc, C, e, by rw [hlen], hnew, by rw [hlen]; exact hge, hcm, hCs, fun q hq => ?_⟩
      dsimp only
      rw [if_pos rfl]
      rw [hlen, ← hlt] at hq
      exact List.getElem?_eq_none hq
    · intro b o u hu
      by_cases hb : b = w.heap.size
      · subst hb
        rw [if_pos rfl] at hu
        refine ⟨by rw [hnew.cell]; exact hCg o u hu, ?_⟩
        rcases List.mem_append.1 (List.mem_of_getElem? hu) with h | h
        · exact ho1 u h
        · exact hone u h
      · rw [if_neg hb] at hu
        have h1 := hr.promise b o u hu
        exact ⟨(cell_of_heap (hold' b (by have := World.block_lt_of_cell? w _ h1.1; exact this)) o).trans h1.1, h1.2⟩
    · exact fun b hb _ => hold' b hb
    · exact fun b hb _ o => if_neg (by omega)
    · exact fun b hb => by simp only [Value.ownBlock, Option.some.injEq] at hb; right; omega
  rcases ho with ⟨rfl, h0⟩ | ⟨g, cap', C, tr, e1, hg, g1, g2, g3, g4⟩
  · -- nil
    injection ex with a1 a2 a3
    subst a1 a3
    have hes : es = [] := List.eq_nil_of_length_eq_zero h0
    subst hes
    by_cases hm : ys.length = 0
    · have hys : ys = [] := List.eq_nil_of_length_eq_zero hm
      subst hys
      have hnn : news = [] := List.eq_nil_of_length_eq_zero (by simpa using hnl)
      subst hnn
      refine ⟨_, w, M, run_append_nothing w t tx ty e i ht hi none 0 0 (Nat.le_refl _) v hsrc, ⟨Pm.le_refl _, ?_, .inl ⟨rfl, rfl⟩, hr.promise, fun _ _ _ => rfl, fun _ _ _ _ => rfl, fun b hb => by simp [Value.ownBlock] at hb, rfl, rfl, rfl, Nat.le_refl _⟩⟩
      simp only [Rel]
      exact ⟨trivial, none, 0, rfl, ⟨Nat.le_refl _, by omega, fun _ => ⟨rfl, rfl⟩, fun a e => by cases e⟩, fun e he => by simp at he, fun b o e => by cases e⟩
    · exact grown [] none rfl (by simp; omega) (by simp) (by simp only [List.flatMap_nil, RelL]) (by simp) (by simp [run_firstCells_none])
  · -- a row
    have e2 := ex.symm.trans e1
    injection e2 with a1 a2 a3
    subst a1 a3
    obtain ⟨olds, b1, b2, b3⟩ := relE_list hle (hre g 0 rfl)
    simp only [Nat.zero_add] at b3
    have bc : ∀ (q : Nat) (u : Value), olds[q]? = some u → C[q]? = some u := fun q u hu => by
      have := (hr.promise _ _ _ (b3 q u hu)).1
      rwa [hg.cell] at this
    have b1' : ∀ u ∈ olds, u.oneCell' = true := fun u hu => by
      obtain ⟨q, hq⟩ := List.getElem?_of_mem hu
      exact (hr.promise _ _ _ (b3 q u hq)).2
    by_cases hroom : es.length + ys.length ≤ cap
    · have hfit : es.length * i.size + news.length ≤ C.size := by
        rw [hnl, g3, ← Nat.add_mul]
        exact Nat.mul_le_mul_right _ hroom
      have hrun := run_append_row (P := P) t tx ty e tr i ht hi g es.length cap C hg v ys.length news hsrc hroom hfit
      rw [← e1] at hrun
      generalize hC' : C.toList.take (es.length * i.size) ++ news ++ C.toList.drop (es.length * i.size + news.length) = L at hrun
      have hgl : g < w.heap.size := hg.lt
      have hoth : ∀ b, b ≠ g → (w.setRow g L.toArray).heap[b]? = w.heap[b]? := fun b hb => setRow_other w g b L.toArray hb
      have htl : (C.toList.take (es.length * i.size)).length = es.length * i.size := by simp; omega
      have hL1 : ∀ q, q < es.length * i.size → L[q]? = C[q]? := fun q hq => by
        rw [← hC', List.append_assoc, List.getElem?_append_left (by omega), List.getElem?_take, if_pos hq, Array.getElem?_toList]
      have hL2 : ∀ (q : Nat) (u : Value), news[q]? = some u → L[es.length * i.size + q]? = some u := fun q u hu => by
        have hq : q < news.length := (List.getElem?_eq_some_iff.1 hu).1
        rw [← hC', List.append_assoc, List.getElem?_append_right (by omega), htl, Nat.add_sub_cancel_left, List.getElem?_append_left hq]
        exact hu
      have hLs : L.length = C.size := by rw [← hC']; simp; omega
      have hnew : Hc (w.setRow g L.toArray) g L.toArray tr := hg.setRow (by simpa using hLs)
      have hM : M.le (fun b o => if b = g ∧ es.length * i.size ≤ o then news[o - es.length * i.size]? else M b o) := fun b o u hu => by
        by_cases hc : b = g ∧ es.length * i.size ≤ o
        · rw [hc.1, g4 o hc.2] at hu; cases hu
        · dsimp only; rw [if_neg hc]; exact hu
      refine ⟨_, _, fun b o => if b = g ∧ es.length * i.size ≤ o then news[o - es.length * i.size]? else M b o, hrun, ⟨hM, ?_, ?_, ?_, ?_, ?_, ?_, rfl, rfl, rfl, by simp [World.setRow]⟩⟩
      · simp only [Rel]
        refine ⟨trivial, some ⟨g, 0, none⟩, cap, by rw [hlen], ⟨by rw [hlen]; exact hroom, d2, (fun e => by cases e), fun a e _ => by injection e with e; rw [← e]⟩, hel, fun b o e => ?_⟩
        injection e with e
        injection e with e1 e2
        subst e1 e2
        refine relE_append (RelE.mono hM _ _ _ _ (hre g 0 rfl)) ?_
        refine relE_of_list hl (us := news) (hrel.mono hM _ _) fun q u hu => ?_
        simp only [Nat.zero_add]
        rw [if_pos ⟨trivial, by omega⟩, Nat.add_sub_cancel_left]
        exact hu
      · refine .inr ⟨g, cap, L.toArray, tr, by rw [hlen], hnew, by rw [hlen]; exact hroom, g2, by simp [hLs, g3], fun q hq => ?_⟩
        have h1 : es.length * i.size + ys.length * i.size ≤ q := by rw [← Nat.add_mul, ← hlen]; exact hq
        dsimp only
        rw [if_pos ⟨rfl, by omega⟩]
        exact List.getElem?_eq_none (by omega)
      · intro b o u hu
        by_cases hc : b = g ∧ es.length * i.size ≤ o
        · rw [if_pos hc] at hu
          obtain ⟨rfl, hc⟩ := hc
          refine ⟨?_, hone u (List.mem_of_getElem? hu)⟩
          rw [hnew.cell]
          have := hL2 _ u hu
          rw [show es.length * i.size + (o - es.length * i.size) = o from by omega] at this
          simpa using this
        · rw [if_neg hc] at hu
          have h1 := hr.promise b o u hu
          refine ⟨?_, h1.2⟩
          by_cases hb : b = g
          · subst hb
            have ho : o < es.length * i.size := by omega
            have h2 := h1.1
            rw [hg.cell] at h2
            rw [hnew.cell]
            have := hL1 o ho
            rw [h2] at this
            simpa using this
          · exact (cell_of_heap (hoth b hb) o).trans h1.1
      · exact fun b _ hne => hoth b (fun e => hne (by rw [e1, e]; rfl))
      · exact fun b _ hne o => if_neg (fun h => hne (by rw [e1, h.1]; rfl))
      · exact fun b hb => .inl (by rw [e1]; exact hb)
    · exact grown olds (some ⟨g, 0, none⟩) e1 (by omega) b2 b1 b1' (run_firstCells_some (P := P) w.drew i.size es.length ⟨g, 0, none⟩ es.length cap olds b2 (fun q u hu => by rw [Addr.add_mid]; exact (hr.promise _ _ _ (by simpa using b3 q u hu)).1))
end
end Go.Proofs.YtaepgceodcdnhaaDoor.Vm
/- Trees: every operation of the run is sound. No program is named here. -/
namespace Go.Proofs.YtaepgceodcdnhaaDoor.Vm
open Go Go.RowKit

structure St (Γ : Ctx) (M : Pm) (s : S) (a : Act) (w : World) : Prop where
  df : a.defers = []
  fr : RelL M s.fr a.tmps.toList
  hp : HRel M s.ob s.gl w
  gr : Grew Γ M s.ob s.gl w
/-- what is asked behind a step -/
def Post (Γ : Ctx) (K : S → Prop) (a : Act) (w : World) : Prop := ∃ s M, K s ∧ St Γ M s a w

section
variable {P : Program} {Γ : Ctx} {M : Pm} {s : S} {a : Act} {w : World} {o : Oper} {h : Hint} {K : S → Prop} {Q : Exit → Act → World → Prop}
theorem put_ob (s : S) (d : Option Tmp) (t : T) : (s.put d t).ob = s.ob := by cases d <;> rfl
theorem put_gl (s : S) (d : Option Tmp) (t : T) : (s.put d t).gl = s.gl := by cases d <;> rfl
theorem put_defers (a : Act) (d : Option Tmp) (v : Value) : (a.put d v).defers = a.defers := by cases d <;> rfl
theorem St.put (hs : St Γ M s a w) (d : Option Tmp) {t : T} {v : Value} (r : Rel M t v) : St Γ M (s.put d t) (a.put d v) w :=
  ⟨by rw [put_defers]; exact hs.df, put_rel hs.fr d r, by rw [put_ob, put_gl]; exact hs.hp, by rw [put_ob, put_gl]; exact hs.gr⟩
theorem wp_of_run {v : Value} {w' : World} (hr : (execOp a.eval o).run P w = .ok (.value v) w') {N : Act → World → Prop} (hn : N (a.put o.dst v) w') : o.wp P a w N Q := by
  unfold Oper.wp
  rw [hr]
  exact hn
theorem value_sound {k : T → Prop} (hf : Found P o a M k) (hs : St Γ M s a w) (hk : ∀ t, k t → K (s.put o.dst t)) : o.wp P a w (Post Γ K) Q := by
  obtain ⟨v, t, h1, h2, h3⟩ := hf
  exact wp_of_run (h3 w) ⟨_, M, hk t h1, hs.put o.dst h2⟩

/-! ### Loads -/
theorem fixAt_some {b : Nat} {cs : List T} : ∀ {l : List (Nat × Ob)}, fixAt b l = some cs → ∃ i : Nat, l[i]? = some (b, .fix cs)
  | [], h => by cases h
  | (b', x) :: l, h => by
    have next : fixAt b l = some cs → ∃ i : Nat, ((b', x) :: l)[i]? = some (b, .fix cs) := fun h => by
      obtain ⟨i, hi⟩ := fixAt_some h
      exact ⟨i + 1, hi⟩
    cases x with
    | fix c =>
      unfold fixAt at h
      split at h
      · rename_i e
        injection h with h
        subst e h
        exact ⟨0, rfl⟩
      · exact next h
    | _ => exact next h
theorem cellsAt_sound {h : Hint} {x : Operand} {k : List T → Prop} (hc : cellsAt s h (s.eval x) k) (hs : St Γ M s a w) :
    ∃ (b off : Nat) (cs : List T), k cs ∧ a.eval x = .pointer (some ⟨b, off, none⟩) ∧ ∀ (i : Nat) (t : T), cs[i]? = some t → ∃ u, w.cell? ⟨b, off + i, none⟩ = some u ∧ Rel M t u := by
  have hr := eval_rel hs.fr x
  have obj : ∀ {b : Nat} {cs : List T}, ObRel M w (b, .cells cs) → ∀ (off i : Nat) (t : T), (cs.drop off)[i]? = some t → ∃ u, w.cell? ⟨b, off + i, none⟩ = some u ∧ Rel M t u := fun {b cs} ho off i t ht => by
    obtain ⟨C, ty, h1, h2, -⟩ := ho
    rw [List.getElem?_drop] at ht
    obtain ⟨u, h3, h4⟩ := h2.get ht
    exact ⟨u, by rw [h1.cell]; simpa using h3, h4⟩
  unfold cellsAt at hc
  split at hc
  · rename_i i b off hx
    rw [hx] at hr
    simp only [Rel] at hr
    split at hc
    · rename_i b' cs ho
      obtain ⟨rfl, hk⟩ := hc
      exact ⟨_, off, _, hk, hr, obj (hs.hp.objs _ _ ho) off⟩
    · exact hc.elim
  · rename_i b off hx
    rw [hx] at hr
    simp only [Rel] at hr
    split at hc
    · obtain ⟨ho, hk⟩ := hc
      exact ⟨_, off, _, hk, hr, obj (hs.hp.glob _ _ ho).2 off⟩
    · split at hc
      · rename_i cs hf
        obtain ⟨i, hi⟩ := fixAt_some hf
        have ho : RelA M b cs 0 := hs.hp.objs _ _ hi
        refine ⟨_, off, _, hc, hr, fun j t ht => ?_⟩
        rw [List.getElem?_drop] at ht
        obtain ⟨u, h1, h2⟩ := ho.get ht
        rw [Nat.zero_add] at h1
        exact ⟨u, (hs.hp.promise _ _ _ h1).1, h2⟩
      · exact hc.elim
  · rename_i cs hx
    rw [hx] at hr
    simp only [Rel] at hr
    obtain ⟨b, off, e, hr⟩ := hr
    exact ⟨b, off, _, hc, e, fun i t ht => by
      obtain ⟨u, h1, h2⟩ := hr.get ht
      exact ⟨u, (hs.hp.promise _ _ _ h1).1, h2⟩⟩
  · exact hc.elim
/-- the cells as a list of values -/
theorem cells_list {b off : Nat} : ∀ {cs : List T}, (∀ (i : Nat) (t : T), cs[i]? = some t → ∃ u, w.cell? ⟨b, off + i, none⟩ = some u ∧ Rel M t u) → ∃ us, RelL M cs us ∧ ∀ j u, us[j]? = some u → w.cell? ⟨b, off + j, none⟩ = some u
  | [], _ => ⟨[], by simp only [RelL], by simp⟩
  | t :: ts, hc => by
    obtain ⟨u, h1, h2⟩ := hc 0 t (by simp)
    obtain ⟨us, h3, h4⟩ := cells_list (b := b) (off := off + 1) (cs := ts) fun i t' ht => by
      obtain ⟨v, h5, h6⟩ := hc (i + 1) t' (by simpa using ht)
      exact ⟨v, by rwa [show off + 1 + i = off + (i + 1) from by omega], h6⟩
    refine ⟨u :: us, by simp only [RelL]; exact ⟨u, us, rfl, h2, h3⟩, fun j v hv => ?_⟩
    cases j with
    | zero => simp at hv; subst hv; exact h1
    | succ j =>
      have := h4 j v (by simpa using hv)
      rwa [show off + 1 + j = off + (j + 1) from by omega] at this
theorem load_run {t : TypeId} {b off : Nat} {cs : List T} {u : T} (hc : ∀ (i : Nat) (t : T), cs[i]? = some t → ∃ u, w.cell? ⟨b, off + i, none⟩ = some u ∧ Rel M t u)
    (hu : loadT P t cs = some u) :
    ∃ v, Rel M u v ∧ (Instr.loadAt t (.pointer (some ⟨b, off, none⟩))).run P w = .ok v w := by
  unfold loadT at hu
  split at hu
  · rename_i n ha
    split at hu
    · cases hu
    · rename_i hlt
      injection hu with hu
      subst hu
      obtain ⟨us, h1, h2⟩ := cells_list hc
      have hl : (us.take n).length = n := by rw [List.length_take, h1.len]; omega
      refine ⟨.agg (us.take n).toArray, by simp only [Rel]; exact ⟨_, rfl, h1.take n⟩, ?_⟩
      have hrun : (loadCells ⟨b, off, none⟩ n).run P w = .ok (us.take n).toArray w := by
        have := run_loadCells_list (P := P) w ⟨b, off, none⟩ (us.take n) fun j v hv => by
          rw [Addr.add_mid]
          refine h2 j v ?_
          rw [List.getElem?_take] at hv
          split at hv
          · exact hv
          · cases hv
        rwa [hl] at this
      have hs := (run_isAgg ha w).2 n rfl
      simp [Instr.loadAt, Instr.sureAddr, loadVar, (run_isAgg ha w).1, run_sizeOf hs, hrun]
  · rename_i ha
    obtain ⟨v, h1, h2⟩ := hc 0 u hu
    refine ⟨v, h2, ?_⟩
    rw [Nat.add_zero] at h1
    simp [Instr.loadAt, Instr.sureAddr, loadVar, (run_isAgg ha w).1, load, Sem.run, h1]
  · cases hu
theorem sLoad {t : TypeId} {x : Operand} (ho : o.op = .load t x) (H : vLoad P s h t x (fun t => K (s.put o.dst t))) (hs : St Γ M s a w) : o.wp P a w (Post Γ K) Q := by
  unfold vLoad at H
  obtain ⟨b, off, cs, hk, hx, hc⟩ := cellsAt_sound H hs
  obtain ⟨u, hu, hk⟩ := claim_some hk
  obtain ⟨v, h1, h2⟩ := load_run hc hu
  refine wp_of_run (v := v) (w' := w) ?_ ⟨_, M, hk, hs.put o.dst h1⟩
  unfold execOp
  rw [ho]
  refine run_value ?_
  rw [hx]
  exact h2

theorem run_valueW {f : Sem Value} {u : Value} {w' : World} (h : f.run P w = .ok u w') : (do pure (Next.value (← f)) : Sem Next).run P w = .ok (.value u) w' := by
  simp [h]
/-! ### New blocks -/
theorem no_dom (hs : St Γ M s a w) : ¬ Dom s.ob s.gl w.heap.size := fun hd => by have := hs.hp.lt hd; omega
theorem St.newObF (hs : St Γ M s a w) (C : Array Value) (ty : TypeId) (fz : Nat × Nat) (hfz : fz = (0, 0) ∨ C.size ≤ fz.1) {cs : List T} (r : RelL M cs C.toList) (d : Option Tmp) {u : T} {v : Value} (hu : Rel M u v) :
    St Γ M (({ s with ob := s.ob ++ [(w.heap.size, .cells cs)] } : S).put d u) (a.put d v) (w.alloc (.cells C ty fz)) := by
  refine St.put (s := { s with ob := s.ob ++ [(w.heap.size, .cells cs)] }) ⟨hs.df, hs.fr, ?_, ?_⟩ d hu
  · refine (hs.hp.still fun b hb => heap_new w _ hb).more ⟨C, ty, ⟨fz, heap_alloc_new w _, hfz⟩, r, fun o => no_promise hs.hp.promise (Nat.le_refl _) o⟩ fun b hb => ?_
    simp only [obBlk, Option.some.injEq] at hb
    subst hb
    exact no_dom hs
  · refine ⟨hs.gr.more, hs.gr.only, hs.gr.fr.alloc _, fun b hb => ?_⟩
    rcases hb with ⟨i, x, h1, h2⟩ | h1
    · simp only at h1
      rw [List.getElem?_append] at h1
      split at h1
      · exact hs.gr.own b (.inl ⟨i, x, h1, h2⟩)
      · rw [List.getElem?_singleton] at h1
        split at h1
        · injection h1 with h1
          subst h1
          simp only [obBlk, Option.some.injEq] at h2
          subst h2
          exact .inr hs.gr.fr.size
        · cases h1
    · exact hs.gr.own b (.inr h1)
theorem St.newOb (hs : St Γ M s a w) (C : Array Value) (ty : TypeId) {cs : List T} (r : RelL M cs C.toList) (d : Option Tmp) {u : T} {v : Value} (hu : Rel M u v) :
    St Γ M (({ s with ob := s.ob ++ [(w.heap.size, .cells cs)] } : S).put d u) (a.put d v) (w.alloc (.cells C ty)) := hs.newObF C ty (0, 0) (.inl rfl) r d hu
theorem sAlloc {t : TypeId} (ho : o.op = .alloc t) (H : eAlloc P s o.dst t K) (hs : St Γ M s a w) : o.wp P a w (Post Γ K) Q := by
  unfold eAlloc at H
  split at H
  rotate_left
  · exact H.elim
  rename_i z hz
  obtain ⟨y, hy, rz, -⟩ := zeroT_run (M := M) hz
  have hk := H w.heap.size
  refine wp_of_run (v := .pointer (some ⟨w.heap.size, 0, none⟩)) (w' := w.alloc (.cells y.cells t)) ?_ ⟨_, M, hk, hs.newOb y.cells t rz o.dst (by simp only [Rel])⟩
  unfold execOp
  rw [ho]
  refine run_valueW ?_
  simp [Instr.alloc, hy, newVar, newRow]
theorem sBox {t : TypeId} {x : Operand} (ho : o.op = .box t x) (H : eBox s o.dst h x K) (hs : St Γ M s a w) : o.wp P a w (Post Γ K) Q := by
  unfold eBox at H
  split at H
  · exact H.elim
  · rename_i u hu
    have rc := rel_cells (fun e => hu e) (eval_rel hs.fr x)
    have hrun : (execOp a.eval o).run P w = .ok (.value (.pointer (some ⟨w.heap.size, 0, none⟩))) (w.alloc (.cells (a.eval x).cells t)) := by
      unfold execOp
      rw [ho]
      refine run_valueW ?_
      simp [Instr.box, newVar, newRow]
    have hnd := no_dom hs
    have hgn : s.gl w.heap.size = none := by
      cases hg : s.gl w.heap.size with
      | none => rfl
      | some y => exact absurd (.inr (by simp [hg])) hnd
    split at H
    · have hk := H w.heap.size hgn
      refine wp_of_run hrun ⟨_, M, hk, St.put (s := { s with gl := fun j => if j = w.heap.size then some (.cells (s.eval x).cells) else s.gl j }) ⟨hs.df, hs.fr, ?_, ?_⟩ o.dst (by simp only [Rel])⟩
      · have hst := hs.hp.still (w' := w.alloc (.cells (a.eval x).cells t)) fun b hb => heap_new w _ hb
        refine ⟨hst.promise, hst.objs, hst.apart, fun b y hb => ?_, fun i y b h1 h2 => ?_⟩
        · simp only at hb
          by_cases hbb : b = w.heap.size
          · subst hbb
            rw [if_pos rfl] at hb
            injection hb with hb
            subst hb
            exact ⟨rfl, _, t, .of (heap_alloc_new w _), rc, fun o => no_promise hs.hp.promise (Nat.le_refl _) o⟩
          · rw [if_neg hbb] at hb
            exact hst.glob b y hb
        · simp only
          rw [if_neg (fun (e : b = w.heap.size) => hnd (.inl ⟨i, y, h1, by rw [← e]; exact h2⟩))]
          exact hs.hp.sep i y b h1 h2
      · refine ⟨hs.gr.more, hs.gr.only, hs.gr.fr.alloc _, fun b hb => ?_⟩
        rcases hb with h1 | h1
        · exact hs.gr.own b (.inl h1)
        · simp only at h1
          by_cases hbb : b = w.heap.size
          · subst hbb; exact .inr hs.gr.fr.size
          · rw [if_neg hbb] at h1
            exact hs.gr.own b (.inr h1)
    · have hk := H w.heap.size
      exact wp_of_run hrun ⟨_, M, hk, hs.newOb _ t rc o.dst (by simp only [Rel])⟩

/-! ### Stores -/
theorem run_store_row {t : TypeId} {b off n : Nat} {C : Array Value} {ty : TypeId} {v : Value} (hh : Hc w b C ty) (hs : sizeT P t = some n) (hv : v.cells.size = n) (hone : ∀ u ∈ v.cells.toList, u.oneCell' = true) (hfit : off + n ≤ C.size) :
    (Instr.storeAt t (.pointer (some ⟨b, off, none⟩)) v).run P w = .ok () (w.setRow b (C.toList.take off ++ v.cells.toList ++ C.toList.drop (off + n)).toArray) := by
  have hst := run_storeCells_z P b off ty v.cells.toList 0 C w hh (by simpa [hv] using hfit) hone
  simp only [Nat.add_zero, Array.length_toList, hv] at hst
  simp [Instr.storeAt, Instr.sureAddr, storeVar, run_sizeOf hs, hv, hst]
theorem relL_setCells {cs us : List T} {C vs : List Value} (r : RelL M cs C) (r' : RelL M us vs) (off n : Nat) (hn : us.length = n) : RelL M (setCells cs off us) (C.take off ++ vs ++ C.drop (off + n)) := by
  unfold setCells
  rw [hn]
  exact ((r.take off).append r').append (r.drop _)
theorem claimL_some {x : List T} {k : List T → Prop} (c : claimL h x k) : k x := by
  unfold claimL at c
  split at c
  · rw [c.1]; exact c.2
  · exact c
theorem Fr.setRow {S : Nat → Prop} {w0 w : World} (hf : Fr S w0 w) {b : Nat} (hb : w0.heap.size ≤ b ∨ S b) (C : Array Value) : Fr S w0 (w.setRow b C) :=
  ⟨hf.os, hf.tape, hf.output, by simpa [World.setRow] using hf.size, fun k hk hs => (setRow_other w b k C (by
    rintro rfl
    rcases hb with hb | hb
    · omega
    · exact hs hb)).trans (hf.block k hk hs)⟩
theorem sStore {t : TypeId} {x y : Operand} (ho : o.op = .store t x y) (H : eStore P s h t x y (fun s' => K (s'.put o.dst (.v undef)))) (hs : St Γ M s a w) : o.wp P a w (Post Γ K) Q := by
  unfold eStore at H
  split at H
  rotate_left
  · exact H.elim
  rename_i n hsz
  split at H
  · exact H.elim
  rename_i hund
  obtain ⟨⟨hlen, hall⟩, H⟩ := H
  have hr := eval_rel hs.fr x
  have rc := rel_cells (fun e => hund e) (eval_rel hs.fr y)
  have hone := relL_one hall rc
  have hvs : (a.eval y).cells.size = n := by rw [← hlen, ← rc.len]; simp
  have go : ∀ {b off : Nat} {C : Array Value} {ty : TypeId}, a.eval x = .pointer (some ⟨b, off, none⟩) → Hc w b C ty → off + n ≤ C.size → ∀ {N : Act → World → Prop}, N (a.put o.dst undef) (w.setRow b (C.toList.take off ++ (a.eval y).cells.toList ++ C.toList.drop (off + n)).toArray) → o.wp P a w N Q := fun {b off C ty} e hh hfit {N} hn => by
    unfold Oper.wp execOp
    rw [ho]
    simp only [Sem.run_bind, e, run_store_row hh hsz hvs hone hfit, Result.andThen_ok]
    exact hn
  split at H
  · rename_i i b off hx
    rw [hx] at hr
    simp only [Rel] at hr
    split at H
    · rename_i b' cs hob
      obtain ⟨rfl, hfit, H⟩ := H
      have hk := claimL_some H
      obtain ⟨C, ty, hh, rC, hM⟩ := hs.hp.objs _ _ hob
      have hCs : C.size = cs.length := by rw [← rC.len]; simp
      refine go hr hh (by omega) ⟨_, M, hk, St.put (s := { s with ob := s.ob.set i (b', .cells (setCells cs off _)) }) ⟨hs.df, hs.fr, ?_, ?_⟩ o.dst (by simp only [Rel])⟩
      · refine hs.hp.turn hob (Pm.le_refl _) (fun k _ hne => setRow_other w b' k _ (fun e => hne (by rw [e]; rfl))) (fun _ _ _ _ => rfl) (fun k q u hu => ?_) ⟨_, ty, hh.setRow (by simp only [List.size_toArray, List.length_append, List.length_take, List.length_drop, Array.length_toList, hvs]; omega), relL_setCells rC rc off n hlen, hM⟩ (fun k hk => .inl hk)
        have hne : k ≠ b' := fun e => by rw [e, hM] at hu; cases hu
        have h1 := hs.hp.promise k q u hu
        exact ⟨(cell_of_heap (setRow_other w b' k _ hne) q).trans h1.1, h1.2⟩
      · have hown := hs.gr.own b' (.inl ⟨i, _, hob, rfl⟩)
        refine ⟨hs.gr.more, hs.gr.only, Fr.setRow hs.gr.fr (hown.symm) _, fun k hk => ?_⟩
        rcases hk with ⟨j, z, h1, h2⟩ | h1
        · simp only at h1
          rw [List.getElem?_set] at h1
          split at h1
          · split at h1
            · injection h1 with h1
              subst h1
              simp only [obBlk, Option.some.injEq] at h2
              subst h2
              exact hown
            · cases h1
          · exact hs.gr.own k (.inl ⟨j, z, h1, h2⟩)
        · exact hs.gr.own k (.inr h1)
    · exact H.elim
  · rename_i b off hx
    rw [hx] at hr
    simp only [Rel] at hr
    split at H
    rotate_left
    · exact H.elim
    rename_i cs
    obtain ⟨hgl, hfit, hk⟩ := H
    obtain ⟨C, ty, hh, rC, hM⟩ := (hs.hp.glob _ _ hgl).2
    have hCs : C.size = cs.length := by rw [← rC.len]; simp
    have hown := hs.gr.own b (.inr (by simp [hgl]))
    have far : ∀ {i : Nat} {z : Nat × Ob} {k : Nat}, s.ob[i]? = some z → obBlk z = some k → k ≠ b := fun {i z k} h1 h2 e => by
      have := hs.hp.sep i z k h1 h2
      rw [e, hgl] at this
      cases this
    refine go hr hh (by omega) ⟨_, M, hk, St.put (s := { s with gl := fun j => if j = b then some (.cells (setCells cs off (s.eval y).cells)) else s.gl j }) ⟨hs.df, hs.fr, ⟨fun k q u hu => ?_, fun i z hz => ?_, hs.hp.apart, fun k z hz => ?_, fun i z k h1 h2 => ?_⟩, ?_⟩ o.dst (t := .v undef) (v := undef) (by simp only [Rel])⟩
    · have hne : k ≠ b := fun e => by rw [e, hM] at hu; cases hu
      have h1 := hs.hp.promise k q u hu
      exact ⟨(cell_of_heap (setRow_other w b k _ hne) q).trans h1.1, h1.2⟩
    · exact (hs.hp.objs i z hz).keep (fun k hk => setRow_other w b k _ (far hz hk)) (fun _ _ _ => rfl) (Pm.le_refl _)
    · simp only at hz
      by_cases hkb : k = b
      · subst hkb
        rw [if_pos rfl] at hz
        injection hz with hz
        subst hz
        exact ⟨rfl, _, ty, hh.setRow (by simp only [List.size_toArray, List.length_append, List.length_take, List.length_drop, Array.length_toList, hvs]; omega), relL_setCells rC rc off n hlen, hM⟩
      · rw [if_neg hkb] at hz
        have h1 := hs.hp.glob k z hz
        exact ⟨h1.1, h1.2.keep (fun c hc => setRow_other w b c _ (by rw [h1.1] at hc; injection hc with hc; omega)) (fun _ _ _ => rfl) (Pm.le_refl _)⟩
    · simp only
      rw [if_neg (far h1 h2)]
      exact hs.hp.sep i z k h1 h2
    · refine ⟨hs.gr.more, hs.gr.only, Fr.setRow hs.gr.fr hown.symm _, fun k hk => ?_⟩
      rcases hk with h1 | h1
      · exact hs.gr.own k (.inl h1)
      · simp only at h1
        by_cases hkb : k = b
        · subst hkb; exact hown
        · rw [if_neg hkb] at h1
          exact hs.gr.own k (.inr h1)
  · exact H.elim

/-! ### Slices written out -/
theorem chunk_len {ag : Bool} {k : Nat} : ∀ (n : Nat) (cs : List T), (chunk ag k n cs).length = n
  | 0, _ => rfl
  | n + 1, cs => by simp [chunk, chunk_len n]
theorem elCells_one {t : T} (h : t.one = true) : elCells t = [t] := by cases t <;> first | rfl | cases h
theorem chunk_rel {ag : Bool} {k b : Nat} (hag : ag = false → k = 1) : ∀ (n : Nat) (cs : List T) (o : Nat), cs.length = n * k → cs.all T.one = true → RelA M b cs o → RelE M k b (chunk ag k n cs) o ∧ El elCells k (chunk ag k n cs)
  | 0, cs, o, _, _, _ => by simp only [chunk, RelE]; exact ⟨trivial, fun e he => by simp at he⟩
  | n + 1, cs, o, hl, ha, r => by
    have hk : k ≤ cs.length := by rw [hl, Nat.add_mul]; omega
    have ih := chunk_rel hag n (cs.drop k) (o + k) (by rw [List.length_drop, hl, Nat.add_mul]; omega) (by
      rw [List.all_eq_true] at ha ⊢; exact fun x hx => ha x (List.mem_of_mem_drop hx)) (r.drop k)
    have hel : ∀ (e : T), (elCells e).length = k → RelA M b (elCells e) o → RelE M k b (e :: chunk ag k n (cs.drop k)) o ∧ El elCells k (e :: chunk ag k n (cs.drop k)) := fun e he hr => by
      refine ⟨RelE.of_el fun i x hx => ?_, fun x hx => ?_⟩
      · cases i with
        | zero => simp at hx; subst hx; simpa using hr
        | succ i =>
          have := ih.1.el (i := i) (by simpa using hx)
          rwa [show o + k + i * k = o + (i + 1) * k from by rw [Nat.add_mul]; omega] at this
      · rcases List.mem_cons.1 hx with rfl | hx
        · exact he
        · exact ih.2 x hx
    unfold chunk
    cases ag with
    | true =>
      refine hel _ (by simp [elCells]; omega) (RelA.of_get fun i t ht => ?_)
      simp only [if_pos, elCells] at ht
      rw [List.getElem?_take] at ht
      split at ht
      · exact r.get ht
      · cases ht
    | false =>
      have h1 := hag rfl
      cases cs with
      | nil => simp at hk; omega
      | cons c cs =>
        simp only [List.all_cons, Bool.and_eq_true] at ha
        have e1 := elCells_one ha.1
        refine hel _ (by simp [e1, h1]) ?_
        simp only [Bool.false_eq_true, if_false, List.headD_cons, e1]
        simp only [RelA] at r ⊢
        exact ⟨r.1, trivial⟩
theorem sBuildSlice {t : TypeId} {len : Nat} {parts : Array (Nat × Operand)} (ho : o.op = .buildSlice t len parts) (H : eBuildSlice P s o.dst t len parts K) (hs : St Γ M s a w) : o.wp P a w (Post Γ K) Q := by
  unfold eBuildSlice at H
  split at H
  rotate_left
  · exact H.elim
  rename_i e hel
  split at H
  rotate_left
  · exact H.elim
  rename_i k ag z hk hag hz
  split at H
  rotate_left
  · exact H.elim
  rename_i hc
  obtain ⟨hlen, hk0, hagk⟩ := hc
  split at H
  rotate_left
  · exact H.elim
  rename_i cs hf
  split at H
  rotate_left
  · exact H.elim
  rename_i hall
  have hu : P.underlying t = some (.slice e) := by
    unfold elemOfT at hel
    split at hel
    · injection hel with hel; injection hel with h1 h2; cases h1
    · rename_i hu; injection hel with hel; injection hel with h1 h2; subst h2; exact hu
    · cases hel
  obtain ⟨y, hy, -, -⟩ := zeroT_run (M := M) hz
  have zl : RelL M (List.replicate (len * k) T.und) (((Array.range (len * k)).map fun i => y.cells[i % y.cells.size]!)).toList := RelL.of_get (by simp) fun i t' y' h1 _ => by
    rw [List.getElem?_replicate] at h1
    split at h1
    · injection h1 with h1; subst h1; simp only [Rel]
    · cases h1
  obtain ⟨C, h1, h2⟩ := fillT_rel (ps := parts.toList.map fun p => (p.1, a.eval p.2)) (by simp [List.map_map, Function.comp_def]) (parts_rel hs.fr parts.toList) zl hf
  have e0 : (parts.map fun (i, x) => (i, a.eval x)).toList = parts.toList.map fun p => (p.1, a.eval p.2) := by rw [Array.toList_map]
  have hone := relL_one hall h2
  have hcl : cs.length = len * k := by
    have : ∀ (l : List (Nat × T)) (c c' : List T), fillT (fun i => some (i * k, k)) c l = some c' → c'.length = c.length := by
      intro l
      induction l with
      | nil => intro c c' h; simp only [fillT, Option.some.injEq] at h; rw [h]
      | cons p l ih =>
        intro c c' h
        obtain ⟨i, t⟩ := p
        simp only [fillT] at h
        split at h
        · cases h
        · rw [ih _ _ h]
          unfold setRange
          have fl : ∀ (l : List (T × Nat)) (c : List T), (l.foldl (fun cs (x : T × Nat) => cs.set (i * k + x.2) x.1) c).length = c.length := by
            intro l
            induction l with
            | nil => intro c; rfl
            | cons x l ih => intro c; rw [List.foldl_cons, ih]; simp
          exact fl _ _
    rw [this _ _ _ hf, List.length_replicate]
  have hCs : C.size = len * k := by rw [← hcl, ← h2.len]; simp
  have hnd := no_promise hs.hp.promise (Nat.le_refl w.heap.size)
  have hnew : (w.alloc (.cells C e)).heap[w.heap.size]? = some (.cells C e (0, 0)) := heap_alloc_new w _
  have hM : M.le (fun b q => if b = w.heap.size then C[q]? else M b q) := fun b q u hu => by
    have hb : b ≠ w.heap.size := fun e => by rw [e, hnd] at hu; cases hu
    dsimp only; rw [if_neg hb]; exact hu
  have hA : RelA (fun b q => if b = w.heap.size then C[q]? else M b q) w.heap.size cs 0 := RelA.of_get fun i t' ht => by
    obtain ⟨u, h3, h4⟩ := h2.get ht
    refine ⟨u, ?_, h4.mono hM _ _⟩
    rw [if_pos rfl, Nat.zero_add]
    simpa using h3
  obtain ⟨c1, c2⟩ := chunk_rel (ag := ag.isSome) (fun e => hagk (by cases ag <;> first | rfl | cases e)) len cs 0 hcl hall hA
  refine wp_of_run (v := .slice (some ⟨w.heap.size, 0, none⟩) len len) (w' := w.alloc (.cells C e)) ?_ ⟨_, fun b q => if b = w.heap.size then C[q]? else M b q, H, St.put ⟨hs.df, hs.fr.mono hM _ _, ?_, ?_⟩ o.dst ?_⟩
  · unfold execOp
    rw [ho]
    refine run_valueW ?_
    have hbig : ¬ (16777216 < len * k) := by omega
    have hfill : Instr.fill (fun i => some (i * k, k)) ((Array.range (len * k)).map fun i => (if len * k = 0 then #[] else y.cells)[i % (if len * k = 0 then #[] else y.cells).size]!) (parts.toList.map fun p => (p.1, a.eval p.2)) = some C := by
      by_cases h0 : len * k = 0
      · rw [if_pos h0]
        have : ((Array.range (len * k)).map fun i => (#[] : Array Value)[i % (#[] : Array Value).size]!) = ((Array.range (len * k)).map fun i => y.cells[i % y.cells.size]!) := by rw [h0]; simp
        rw [this]; exact h1
      · rw [if_neg h0]; exact h1
    by_cases h0 : len * k = 0
    · simp only [Instr.buildSlice, Sem.run_bind, run_underlying hu, run_sizeOf hk, Result.andThen_ok]
      rw [if_neg (by omega), if_pos h0]
      rw [if_pos h0] at hfill
      simp only [Sem.run_bind, Sem.run_pure, Result.andThen_ok]
      rw [e0, hfill]
      simp [newRow]
    · simp only [Instr.buildSlice, Sem.run_bind, run_underlying hu, run_sizeOf hk, Result.andThen_ok]
      rw [if_neg (by omega), if_neg h0]
      rw [if_neg h0] at hfill
      simp only [Sem.run_bind, hy, Sem.run_pure, Result.andThen_ok]
      rw [e0, hfill]
      simp [newRow]
  · refine ⟨fun b q u hu => ?_, fun i x hx => ?_, hs.hp.apart, fun b x hx => ?_, hs.hp.sep⟩
    · by_cases hb : b = w.heap.size
      · subst hb
        rw [if_pos rfl] at hu
        exact ⟨by rw [cell_of_row _ _ _ _ _ _ hnew]; exact hu, hone u (by
          rw [← Array.getElem?_toList] at hu
          exact List.mem_of_getElem? hu)⟩
      · rw [if_neg hb] at hu
        have h3 := hs.hp.promise b q u hu
        exact ⟨(cell_of_heap (heap_new w _ (by have := World.block_lt_of_cell? w _ h3.1; exact this)) q).trans h3.1, h3.2⟩
    · have h3 := hs.hp.objs i x hx
      exact h3.keep (fun b hb => heap_new w _ (h3.lt hb)) (fun b hb q => if_neg (by have := h3.lt hb; omega)) hM
    · have h3 := hs.hp.glob b x hx
      exact ⟨h3.1, h3.2.keep (fun c hc => heap_new w _ (h3.2.lt hc)) (fun c hc q => if_neg (by have := h3.2.lt hc; omega)) hM⟩
  · refine ⟨Pm.le_trans hs.gr.more hM, fun b q u hu => ?_, hs.gr.fr.alloc _, hs.gr.own⟩
    by_cases hb : b = w.heap.size
    · subst hb; exact .inr (.inr hs.gr.fr.size)
    · rw [if_neg hb] at hu
      exact hs.gr.only b q u hu
  · simp only [Rel, chunk_len]
    refine ⟨some ⟨w.heap.size, 0, none⟩, len, rfl, ⟨Nat.le_refl _, ?_, (fun e => by cases e), fun a e _ => by injection e with e; rw [← e]⟩, c2, fun b q e => ?_⟩
    · have : len ≤ len * k := Nat.le_mul_of_pos_right _ hk0
      omega
    · injection e with e
      injection e with e1 e2
      subst e1 e2
      exact c1
theorem sBuildNil {t : TypeId} {parts : Array (Nat × Operand)} (ho : o.op = .buildSlice t 0 parts) (H : eBuildNil P s o.dst t parts K) (hs : St Γ M s a w) : o.wp P a w (Post Γ K) Q := by
  unfold eBuildNil at H
  split at H
  rotate_left
  · exact H.elim
  rename_i e hel hp
  split at H
  rotate_left
  · exact H.elim
  rename_i k hk
  obtain ⟨hk0, H⟩ := H
  have hu : P.underlying t = some (.slice e) := by
    unfold elemOfT at hel
    split at hel
    · injection hel with hel; injection hel with h1 h2; cases h1
    · rename_i hu; injection hel with hel; injection hel with h1 h2; subst h2; exact hu
    · cases hel
  have hpp : parts = #[] := by rw [← Array.toArray_toList (xs := parts), hp]
  refine wp_of_run (v := .slice (some ⟨w.heap.size, 0, none⟩) 0 0) (w' := w.alloc (.cells #[] e)) ?_
    ⟨_, M, H (.slice (some ⟨w.heap.size, 0, none⟩) 0 0), St.put (s := { s with ob := s.ob ++ [(0, .room k e 0 (.slice (some ⟨w.heap.size, 0, none⟩) 0 0))] }) ⟨hs.df, hs.fr, ?_, ?_⟩ o.dst ?_⟩
  · unfold execOp
    rw [ho]
    refine run_valueW ?_
    simp only [Instr.buildSlice, Sem.run_bind, run_underlying hu, run_sizeOf hk, Result.andThen_ok, Nat.zero_mul]
    subst hpp
    simp [newRow, Instr.fill, show Array.range 0 = #[] from by decide]
  · refine (hs.hp.still fun b hb => heap_new w _ hb).more (.inr ⟨w.heap.size, 0, #[], e, rfl, .of (heap_alloc_new w _), Nat.le_refl _, Nat.zero_le _, by simp, fun j _ => no_promise hs.hp.promise (Nat.le_refl _) j⟩) fun b hb => ?_
    simp only [obBlk, Value.ownBlock, Option.some.injEq] at hb
    subst hb
    exact no_dom hs
  · refine ⟨hs.gr.more, hs.gr.only, hs.gr.fr.alloc _, fun b hb => ?_⟩
    rcases hb with ⟨i, x, h1, h2⟩ | h1
    · rw [List.getElem?_append] at h1
      split at h1
      · exact hs.gr.own b (.inl ⟨i, x, h1, h2⟩)
      · rw [List.getElem?_singleton] at h1
        split at h1
        · injection h1 with h1
          subst h1
          simp only [obBlk, Value.ownBlock, Option.some.injEq] at h2
          subst h2
          exact .inr hs.gr.fr.size
        · cases h1
    · exact hs.gr.own b (.inr h1)
  · simp only [Rel]
    refine ⟨trivial, some ⟨w.heap.size, 0, none⟩, 0, rfl, ⟨Nat.le_refl _, by omega, (fun e => by cases e), fun a e _ => by injection e with e; rw [← e]⟩, by simp [El], fun b q _ => by simp only [RelE]⟩
theorem St.alloc (hs : St Γ M s a w) (ob : Obj) : St Γ M s a (w.alloc ob) :=
  ⟨hs.df, hs.fr, hs.hp.still fun _ hb => heap_new w _ hb, ⟨hs.gr.more, hs.gr.only, hs.gr.fr.alloc _, hs.gr.own⟩⟩
theorem sBuild0 {t : TypeId} {parts : Array (Nat × Operand)} (ho : o.op = .buildSlice t 0 parts) (H : eBuild0 P s o.dst t parts K) (hs : St Γ M s a w) : o.wp P a w (Post Γ K) Q := by
  unfold eBuild0 at H
  split at H
  rotate_left
  · exact H.elim
  rename_i e hel hp
  split at H
  rotate_left
  · exact H.elim
  rename_i k hk
  have hu : P.underlying t = some (.slice e) := by
    unfold elemOfT at hel
    split at hel
    · injection hel with hel; injection hel with h1 h2; cases h1
    · rename_i hu; injection hel with hel; injection hel with h1 h2; subst h2; exact hu
    · cases hel
  have hpp : parts = #[] := by rw [← Array.toArray_toList (xs := parts), hp]
  refine wp_of_run (v := .slice (some ⟨w.heap.size, 0, none⟩) 0 0) (w' := w.alloc (.cells #[] e)) ?_ ⟨_, M, H, (hs.alloc _).put o.dst (by simp only [Rel]; exact ⟨_, rfl⟩)⟩
  unfold execOp
  rw [ho]
  refine run_valueW ?_
  simp only [Instr.buildSlice, Sem.run_bind, run_underlying hu, run_sizeOf hk, Result.andThen_ok, Nat.zero_mul]
  subst hpp
  simp [newRow, Instr.fill, show Array.range 0 = #[] from by decide]
end
end Go.Proofs.YtaepgceodcdnhaaDoor.Vm
/- Trees: append and calls in a run. No program is named here. -/
namespace Go.Proofs.YtaepgceodcdnhaaDoor.Vm
open Go Go.RowKit

section
variable {P : Program} {Γ : Ctx} {M M' : Pm} {s : S} {a : Act} {w w' : World} {o : Oper} {h : Hint} {K : S → Prop} {Q : Exit → Act → World → Prop}
theorem HRel.next {ob : Obs} {gl : Glb} (h : HRel M ob gl w) (hl : M.le M') (hk : ∀ b, b < w.heap.size → w'.heap[b]? = w.heap[b]?) (hm : ∀ b, b < w.heap.size → ∀ o, M' b o = M b o)
    (hp : ∀ b o v, M' b o = some v → w'.cell? ⟨b, o, none⟩ = some v ∧ v.oneCell' = true) : HRel M' ob gl w' :=
  ⟨hp, fun i x hx => (h.objs i x hx).keep (fun b hb => hk b ((h.objs i x hx).lt hb)) (fun b hb => hm b ((h.objs i x hx).lt hb)) hl, h.apart,
    fun b x hx => ⟨(h.glob b x hx).1, (h.glob b x hx).2.keep (fun c hc => hk c ((h.glob b x hx).2.lt hc)) (fun c hc => hm c ((h.glob b x hx).2.lt hc)) hl⟩, h.sep⟩
theorem St.grown (hs : St Γ M s a w) {i k : Nat} {e : TypeId} {es : List T} {x x' : Value} (ho : Out M w k e i es x x' w' M')
    (hi : (i = s.ob.length ∧ x.ownBlock = none) ∨ ∃ y, s.ob[i]? = some y ∧ obBlk y = x.ownBlock) (H : grow s o.dst i k e es K) : Post Γ K (a.put o.dst x') w' := by
  have hk := H x'
  have hown : ∀ b, x.ownBlock = some b → Γ.D b ∨ Γ.w0.heap.size ≤ b := fun b hb => by
    rcases hi with ⟨_, h0⟩ | ⟨y, h1, h2⟩
    · rw [h0] at hb; cases hb
    · exact hs.gr.own b (.inl ⟨i, y, h1, h2.trans hb⟩)
  have hob : HRel M' (if i < s.ob.length then s.ob.set i (0, .room k e es.length x') else s.ob ++ [(0, .room k e es.length x')]) s.gl w' ∧
      ∀ b, Dom (if i < s.ob.length then s.ob.set i (0, .room k e es.length x') else s.ob ++ [(0, .room k e es.length x')]) s.gl b → Dom s.ob s.gl b ∨ x'.ownBlock = some b := by
    rcases hi with ⟨rfl, h0⟩ | ⟨y, h1, h2⟩
    · rw [if_neg (Nat.lt_irrefl _)]
      refine ⟨(hs.hp.next ho.le (fun b hb => ho.hk b hb (by rw [h0]; simp)) (fun b hb => ho.hm b hb (by rw [h0]; simp)) ho.hp).more ho.ob fun b hb hd => ?_, fun b hd => ?_⟩
      · rcases ho.hb b hb with h3 | h3
        · rw [h0] at h3; cases h3
        · have := hs.hp.lt hd; omega
      · rcases hd with ⟨j, z, h3, h4⟩ | h3
        · rw [List.getElem?_append] at h3
          split at h3
          · exact .inl (.inl ⟨j, z, h3, h4⟩)
          · rw [List.getElem?_singleton] at h3
            split at h3
            · injection h3 with h3; subst h3; exact .inr h4
            · cases h3
        · exact .inl (.inr h3)
    · have hlt : i < s.ob.length := (List.getElem?_eq_some_iff.1 h1).1
      rw [if_pos hlt]
      refine ⟨hs.hp.turn h1 ho.le (fun b hb hn => ho.hk b hb (by rwa [← h2])) (fun b hb hn => ho.hm b hb (by rwa [← h2])) ho.hp ho.ob (fun b hb => by rw [h2]; exact ho.hb b hb), fun b hd => ?_⟩
      rcases hd with ⟨j, z, h3, h4⟩ | h3
      · rw [List.getElem?_set] at h3
        split at h3
        · injection h3 with h3; subst h3; exact .inr h4
        · exact .inl (.inl ⟨j, z, h3, h4⟩)
      · exact .inl (.inr h3)
  refine ⟨_, M', hk, St.put (s := { s with ob := if i < s.ob.length then s.ob.set i (0, .room k e es.length x') else s.ob ++ [(0, .room k e es.length x')] }) ⟨hs.df, hs.fr.mono ho.le _ _, hob.1, Pm.le_trans hs.gr.more ho.le, fun b q u hu => ?_, ?_, fun b hb => ?_⟩ o.dst ho.rel⟩
  · by_cases hb : w.heap.size ≤ b
    · exact .inr (.inr (Nat.le_trans hs.gr.fr.size hb))
    · by_cases hx : x.ownBlock = some b
      · exact .inr (hown b hx)
      · rw [ho.hm b (by omega) hx] at hu
        exact hs.gr.only b q u hu
  · refine hs.gr.fr.back (S' := fun b => x.ownBlock = some b) ⟨ho.os, ho.tape, ho.out, ho.size, fun b hb hn => ho.hk b hb hn⟩ fun b hb hx => (hown b hx).resolve_right (by omega)
  · rcases hob.2 b hb with h3 | h3
    · exact hs.gr.own b h3
    · rcases ho.hb b h3 with h4 | h4
      · exact hown b h4
      · exact .inr (Nat.le_trans hs.gr.fr.size h4)
theorem sAppend {c : Call} (ho : o.op = .call c) (hc : c.callee = .builtin .append) (H : eAppend P s o.dst (c.args.toList.map s.eval) c.argTypes.toList K) (hs : St Γ M s a w) : o.wp P a w (Post Γ K) Q := by
  obtain ⟨callee, ⟨args⟩, ⟨tys⟩⟩ := c
  simp only at hc H
  subst hc
  unfold eAppend at H
  split at H
  rotate_left
  · exact H.elim
  rename_i ta ty t t' hargs
  match args, hargs with
  | [x, y], hargs =>
  simp only [List.map_cons, List.map_nil, List.cons.injEq, and_true] at hargs
  obtain ⟨rfl, rfl⟩ := hargs
  split at H
  rotate_left
  · exact H.elim
  rename_i e hel
  split at H
  rotate_left
  · exact H.elim
  rename_i k bytes z hk hby hz
  split at H
  rotate_left
  · exact H.elim
  rename_i hcnd
  obtain ⟨hsrc, hk0, hzl⟩ := hcnd
  split at H
  rotate_left
  · exact H.elim
  rename_i ys hsl
  have hu : P.underlying t = some (.slice e) := by
    unfold elemOfT at hel
    split at hel
    · injection hel with hel; injection hel with h1 h2; cases h1
    · rename_i hu; injection hel with hel; injection hel with h1 h2; subst h2; exact hu
    · cases hel
  unfold sizeT at hk
  unfold bytesT at hby
  simp only [Option.map_eq_some_iff] at hk hby
  obtain ⟨ti, hi, hsz⟩ := hk
  obtain ⟨ti', hi', hby⟩ := hby
  rw [hi] at hi'
  injection hi' with hi'
  subst hi'
  unfold zeroT at hz
  simp only [hi, Option.bind_some, Option.map_eq_some_iff] at hz
  obtain ⟨zv, hzv, rfl⟩ := hz
  have hzk : zv.cells.size = k := by simpa using hzl
  obtain ⟨hl, news, hS, hrel⟩ := src_of hs.hp hsrc hsl (eval_rel hs.fr y)
  have hr := eval_rel hs.fr x
  have run : ∀ {x' : Value} {w' : World}, (Builtin.append_ #[t, t'] o.type #[a.eval x, a.eval y]).run P w = .ok x' w' → (execOp a.eval o).run P w = .ok (.value x') w' := fun {x' w'} hrun => by
    unfold execOp
    rw [ho]
    simp [resolve, invoke, builtin, hrun]
  split at H
  · rename_i hx
    rw [hx] at hr
    simp only [Rel] at hr
    obtain ⟨hf, H⟩ := H
    have hrx : Rel M (.slx k s.ob.length [] (a.eval x)) (a.eval x) := by
      simp only [Rel]
      exact ⟨trivial, none, 0, hr, ⟨Nat.le_refl _, by omega, fun _ => ⟨rfl, rfl⟩, (fun a e => by cases e)⟩, (fun e he => by simp at he), (fun b o e => by cases e)⟩
    obtain ⟨x', w', M', hrun, hout⟩ := append_run (tx := t') (ty := o.type) (n := 0) (es := []) hs.hp s.ob.length hu hi hzv hsz hzk hk0 hrx (.inl ⟨hr, rfl⟩) rfl hS hl hrel (by subst hby; simpa using hf)
    exact wp_of_run (run hrun) (hs.grown hout (.inl ⟨rfl, by rw [hr]; rfl⟩) H)
  · rename_i k2 i es xv hx
    rw [hx] at hr
    have hr' := hr
    simp only [Rel] at hr'
    obtain ⟨e0, hr'⟩ := hr'
    subst e0
    split at H
    rotate_left
    · exact H.elim
    rename_i b k3 e3 n x'' hob
    obtain ⟨⟨rfl, rfl⟩, hf, H⟩ := H
    split at H
    rotate_left
    · exact H.elim
    rename_i hkk
    obtain ⟨rfl, rfl, rfl⟩ := hkk
    have hob' : ObRel M w (0, .room k3 e3 es.length (a.eval x)) := by
      have h1 := hs.hp.objs _ _ hob
      exact h1
    obtain ⟨x', w', M', hrun, hout⟩ := append_run (tx := t') (ty := o.type) (n := es.length) hs.hp i hu hi hzv hsz hzk hk0 hr hob' rfl hS hl hrel (by subst hby; exact hf)
    exact wp_of_run (run hrun) (hs.grown hout (.inr ⟨_, hob, rfl⟩) H)
  · exact H.elim

/-! ### Calls -/
theorem weakC {t : T} {v : Value} (r : Rel M t v) : Rel M t.weak1 v := by
  cases t <;> first | exact r | skip
  simp only [T.weak1, Rel] at r ⊢
  obtain ⟨e0, A, cap, e1, h⟩ := r
  exact ⟨A, cap, e0.trans e1, h⟩
theorem weak_rel {t : T} {v : Value} (r : Rel M t v) : Rel M t.weak v := by
  cases t <;> first | exact weakC r | skip
  rename_i cs
  simp only [T.weak, Rel] at r ⊢
  obtain ⟨ys, e, r⟩ := r
  refine ⟨ys, e, RelL.of_get (by rw [r.len]; simp) fun i t y h1 h2 => ?_⟩
  rw [List.getElem?_map, Option.map_eq_some_iff] at h1
  obtain ⟨c, hc, rfl⟩ := h1
  obtain ⟨u, h3, h4⟩ := r.get hc
  rw [h3] at h2
  injection h2 with h2
  subst h2
  exact weakC h4
theorem weakL_rel : ∀ {ts : List T} {vs : List Value}, RelL M ts vs → RelL M (ts.map T.weak) vs
  | [], vs, r => by simpa only [List.map_nil, RelL] using r
  | t :: ts, vs, r => by
    simp only [RelL, List.map_cons] at r ⊢
    obtain ⟨u, us, e, r1, r2⟩ := r
    exact ⟨u, us, e, weak_rel r1, weakL_rel r2⟩
theorem filterMap_get {α β : Type} (f : α → Option β) : ∀ (l : List α), (∀ x ∈ l, (f x).isSome = true) → (l.filterMap f).length = l.length ∧ ∀ (j : Nat) (x : α), l[j]? = some x → (l.filterMap f)[j]? = f x
  | [], _ => ⟨rfl, by simp⟩
  | x :: l, h => by
    obtain ⟨y, hy⟩ := Option.isSome_iff_exists.1 (h x (by simp))
    obtain ⟨h1, h2⟩ := filterMap_get f l fun z hz => h z (List.mem_cons_of_mem _ hz)
    rw [List.filterMap_cons_some hy]
    refine ⟨by simp [h1], fun j z hz => ?_⟩
    cases j with
    | zero => simp at hz; subst hz; simp [hy]
    | succ j => simpa using h2 j z (by simpa using hz)
theorem idxOf_some {l : List Nat} {i j : Nat} (h : l.idxOf? i = some j) : l[j]? = some i := by
  rw [List.idxOf?, List.findIdx?_eq_some_iff_getElem] at h
  obtain ⟨h1, h2, _⟩ := h
  rw [List.getElem?_eq_getElem h1]
  simpa using h2
theorem idxOf_none {l : List Nat} {i : Nat} (h : l.idxOf? i = none) : i ∉ l := by
  rw [List.idxOf?, List.findIdx?_eq_none_iff] at h
  exact fun hm => by have := h i hm; simp at this
/-- where an entry of the merged list comes from -/
theorem merge_get {sel : List Nat} {ob' ob : Obs} (hlen : sel.length ≤ ob'.length) {i : Nat} {x : Nat × Ob} (h : (merge sel ob' ob)[i]? = some x) :
    (i ∉ sel ∧ ob[i]? = some x) ∨ (i < ob.length ∧ ∃ j : Nat, sel[j]? = some i ∧ ob'[j]? = some x) ∨ (ob.length ≤ i ∧ ob'[sel.length + (i - ob.length)]? = some x) := by
  unfold merge at h
  rw [List.getElem?_append] at h
  split at h
  · rename_i hlt
    rw [List.getElem?_map, Option.map_eq_some_iff] at h
    obtain ⟨⟨y, q⟩, hy, h⟩ := h
    rw [List.getElem?_zipIdx, Option.map_eq_some_iff] at hy
    obtain ⟨u, hu, e⟩ := hy
    injection e with e1 e2
    subst e1
    have : q = i := by omega
    subst this
    simp only at h
    split at h
    · rename_i j hj
      have h1 := idxOf_some hj
      have h2 : j < sel.length := (List.getElem?_eq_some_iff.1 h1).1
      refine .inr (.inl ⟨(List.getElem?_eq_some_iff.1 hu).1, j, h1, ?_⟩)
      rw [List.getElem?_eq_getElem (by omega), ← h]
      simp [List.getD_eq_getElem?_getD, show j < ob'.length from by omega]
    · rename_i hj
      exact .inl ⟨idxOf_none hj, by rw [hu, h]⟩
  · rename_i hlt
    simp only [List.length_map, List.length_zipIdx] at h hlt
    rw [List.getElem?_drop] at h
    exact .inr (.inr ⟨by omega, h⟩)
theorem relL_map {f : T → T} (hf : ∀ {t : T} {v : Value}, Rel M t v → Rel M (f t) v) : ∀ {ts : List T} {vs : List Value}, RelL M ts vs → RelL M (ts.map f) vs
  | [], vs, r => by simpa only [List.map_nil, RelL] using r
  | t :: ts, vs, r => by
    simp only [RelL, List.map_cons] at r ⊢
    obtain ⟨u, us, e, r1, r2⟩ := r
    exact ⟨u, us, e, hf r1, relL_map hf r2⟩
theorem ix0_rel {f : Nat → Nat} {t : T} {v : Value} (r : Rel M t v) : Rel M (ix0 f t) v := by
  cases t <;> first | exact r | (simp only [ix0, Rel] at r ⊢; exact r)
theorem ix1_rel {f : Nat → Nat} {t : T} {v : Value} (r : Rel M t v) : Rel M (ix1 f t) v := by
  cases t <;> first | exact ix0_rel (f := f) r | skip
  all_goals
    simp only [ix1, Rel] at r ⊢
    obtain ⟨ys, e, r⟩ := r
    exact ⟨ys, e, relL_map ix0_rel r⟩
theorem ix2_rel {f : Nat → Nat} {t : T} {v : Value} (r : Rel M t v) : Rel M (ix2 f t) v := by
  cases t <;> first | exact ix1_rel (f := f) r | skip
  simp only [ix2, Rel] at r ⊢
  obtain ⟨ys, e, r⟩ := r
  exact ⟨ys, e, relL_map ix1_rel r⟩
theorem ix3_rel {f : Nat → Nat} {t : T} {v : Value} (r : Rel M t v) : Rel M (ix3 f t) v := by
  cases t <;> first | exact ix2_rel (f := f) r | skip
  simp only [ix3, Rel] at r ⊢
  obtain ⟨ys, e, r⟩ := r
  exact ⟨ys, e, relL_map ix2_rel r⟩
theorem ixOb_blk {f : Nat → Nat} {x : Nat × Ob} : obBlk (ixOb f x) = obBlk x := by
  obtain ⟨b, x⟩ := x
  cases x <;> rfl
theorem ixOb_rel {f : Nat → Nat} {w : World} {x : Nat × Ob} (h : ObRel M w x) : ObRel M w (ixOb f x) := by
  obtain ⟨b, x⟩ := x
  cases x <;> first | exact h | skip
  obtain ⟨C, t, h1, h2, h3⟩ := h
  exact ⟨C, t, h1, relL_map ix1_rel h2, h3⟩
theorem reix_rel {keep : List Nat} {t : T} {v : Value} (r : Rel M t v) : Rel M (reix keep t) v := ix3_rel r
theorem reixOb_blk {keep : List Nat} {x : Nat × Ob} : obBlk (reixOb keep x) = obBlk x := ixOb_blk
theorem reixOb_rel {keep : List Nat} {w : World} {x : Nat × Ob} (h : ObRel M w x) : ObRel M w (reixOb keep x) := ixOb_rel h
/-- maps that say the same -/
structure SameT (F : T → T) (G : Nat × Ob → Nat × Ob) : Prop where
  rel : ∀ {M t v}, Rel M t v → Rel M (F t) v
  blk : ∀ {x}, obBlk (G x) = obBlk x
  ob : ∀ {M w x}, ObRel M w x → ObRel M w (G x)
theorem SameT.fwd (sel : List Nat) : SameT (fwdT sel) (fwdO sel) := by
  unfold fwdT fwdO
  split
  · exact ⟨fun h => h, rfl, fun h => h⟩
  · exact ⟨ix3_rel, ixOb_blk, ixOb_rel⟩
theorem SameT.bk (sel : List Nat) (n m : Nat) : SameT (bkT sel n m) (bkO sel n m) := by
  unfold bkT bkO
  split
  · exact ⟨fun h => h, rfl, fun h => h⟩
  · exact ⟨ix3_rel, ixOb_blk, ixOb_rel⟩
theorem HRel.same {F : T → T} {G : Nat × Ob → Nat × Ob} (hG : SameT F G) {ob : Obs} {gl : Glb} {w : World} (h : HRel M ob gl w) : HRel M (ob.map G) gl w := by
  have get : ∀ {i : Nat} {x : Nat × Ob}, (ob.map G)[i]? = some x → ∃ y, ob[i]? = some y ∧ x = G y := fun {i x} hx => by
    rw [List.getElem?_map, Option.map_eq_some_iff] at hx
    obtain ⟨y, h1, h2⟩ := hx
    exact ⟨y, h1, h2.symm⟩
  refine ⟨h.promise, fun i x hx => ?_, fun i j x y b h1 h2 h3 h4 => ?_, h.glob, fun i x b h1 h2 => ?_⟩
  · obtain ⟨y, g1, rfl⟩ := get hx
    exact hG.ob (h.objs i y g1)
  · obtain ⟨x', g1, rfl⟩ := get h1
    obtain ⟨y', g2, rfl⟩ := get h2
    exact h.apart i j x' y' b g1 g2 (hG.blk ▸ h3) (hG.blk ▸ h4)
  · obtain ⟨x', g1, rfl⟩ := get h1
    exact h.sep i x' b g1 (hG.blk ▸ h2)
theorem dom_same {F : T → T} {G : Nat × Ob → Nat × Ob} (hG : SameT F G) {ob : Obs} {gl : Glb} {b : Nat} : Dom (ob.map G) gl b ↔ Dom ob gl b := by
  constructor
  · rintro (⟨i, x, h1, h2⟩ | h)
    · rw [List.getElem?_map, Option.map_eq_some_iff] at h1
      obtain ⟨y, h3, rfl⟩ := h1
      exact .inl ⟨i, y, h3, hG.blk ▸ h2⟩
    · exact .inr h
  · rintro (⟨i, x, h1, h2⟩ | h)
    · exact .inl ⟨i, G x, by rw [List.getElem?_map, h1]; rfl, by rw [hG.blk]; exact h2⟩
    · exact .inr h
theorem TCalls.same {f : FuncId} {ts : List T} {ob : Obs} {gl : Glb} {Q : T → Obs → Glb → Prop} {F : T → T} {G : Nat × Ob → Nat × Ob} (hG : SameT F G)
    (h : TCalls P f (ts.map F) (ob.map G) gl Q) : TCalls P f ts ob gl Q :=
  ⟨h.can, fun M w xs hp hx => (h.calls M w xs (hp.same hG) (relL_map hG.rel hx)).mono fun _ _ ⟨x, r, M', ob', gl', h1, h2, h3, h4, h5⟩ =>
    ⟨x, r, M', ob', gl', h1, h2, h3, ⟨h4.more, fun b o v hv => by
      rcases h4.only b o v hv with h6 | h6 | h6
      · exact .inl h6
      · exact .inr (.inl ((dom_same hG).1 h6))
      · exact .inr (.inr h6), h4.fr.mono fun b _ hb => (dom_same hG).1 hb, fun b hb => by
      rcases h4.own b hb with h6 | h6
      · exact .inl ((dom_same hG).1 h6)
      · exact .inr h6⟩, h5⟩⟩
theorem ix1_plain {f : Nat → Nat} : ∀ {t : T}, noIx t = true → ix1 f t = t := fun {t} h => by cases t <;> first | rfl | simp [noIx] at h
theorem ixOb_plain {f : Nat → Nat} : ∀ {l : List (Nat × Ob)}, plainO l → l.map (ixOb f) = l
  | [], _ => rfl
  | (b, x) :: l, h => by
    cases x <;> first | (simp only [plainO] at h; rw [List.map_cons, ixOb_plain h]; rfl) | skip
    rename_i cs
    simp only [plainO] at h
    rw [List.map_cons, ixOb_plain h.2]
    have : cs.map (ix1 f) = cs := by
      have h1 := List.all_eq_true.1 h.1
      exact (List.map_congr_left (g := id) fun t ht => ix1_plain (h1 t ht)).trans (List.map_id _)
    simp only [ixOb, this]
theorem fwdO_plain {sel : List Nat} {l : List (Nat × Ob)} (h : plainO l) : l.map (fwdO sel) = l := by
  unfold fwdO
  split
  · exact List.map_id _
  · exact ixOb_plain h
theorem bkO_plain {sel : List Nat} {n m : Nat} {l : List (Nat × Ob)} (h : plainO l) : l.map (bkO sel n m) = l := by
  unfold bkO
  split
  · exact List.map_id _
  · exact ixOb_plain h
theorem eCall_one {f : FuncId} {ts : List T} {d : Option Tmp} (H : eCall P s d h f ts K) : ∃ h', eCall1 P s d h' f ts K := by
  unfold eCall at H
  split at H
  · rename_i h' _
    refine ⟨h', ?_⟩
    unfold eCallP at H
    unfold eCall1
    split at H
    rotate_left
    · exact H.elim
    split at H
    rotate_left
    · exact H.elim
    rename_i hs
    rw [if_pos hs, fwdO_plain H.1]
    refine ⟨H.2.1, fun a ha => ?_⟩
    rw [bkO_plain (H.2.2 a ha).1]
    exact (H.2.2 a ha).2
  · exact ⟨_, H⟩
theorem sCall {f : FuncId} {ts : List T} {xs : Array Value} (hrun : CanCall P f → (execOp a.eval o).run P w = .ok (.enter f xs) w) (H : eCall P s o.dst h f ts K) (hs : St Γ M s a w) (hx : RelL M ts xs.toList) : o.wp P a w (Post Γ K) Q := by
  obtain ⟨h, H⟩ := eCall_one H
  unfold eCall1 at H
  split at H
  rotate_left
  · exact H.elim
  rename_i wk α post sel g r ob gl
  split at H
  rotate_left
  · exact H.elim
  rename_i hsel
  obtain ⟨hnd, hin⟩ := hsel
  rw [List.all_eq_true] at hin
  obtain ⟨hT, hK⟩ := H
  replace hT := TCalls.same (SameT.fwd sel) hT
  have hsome : ∀ i ∈ sel, (s.ob[i]?).isSome = true := fun i hi => by
    have := hin i hi
    simp only [decide_eq_true_eq] at this
    simp [this]
  obtain ⟨sl1, sl2⟩ := filterMap_get (fun i => s.ob[i]?) sel hsome
  -- an entry that is handed on
  have sl3 : ∀ (j : Nat) (x : Nat × Ob), (sel.filterMap fun i => s.ob[i]?)[j]? = some x → ∃ i, sel[j]? = some i ∧ s.ob[i]? = some x := fun j x hx => by
    have hj : j < sel.length := by rw [← sl1]; exact (List.getElem?_eq_some_iff.1 hx).1
    have h1 : sel[j]? = some sel[j] := List.getElem?_eq_getElem hj
    exact ⟨sel[j], h1, by rw [← sl2 j _ h1]; exact hx⟩
  have selInj : ∀ {j l i : Nat}, sel[j]? = some i → sel[l]? = some i → j = l := fun {j l i} h1 h2 => by
    have hj : j < sel.length := (List.getElem?_eq_some_iff.1 h1).1
    have hl : l < sel.length := (List.getElem?_eq_some_iff.1 h2).1
    rw [List.getElem?_eq_getElem hj] at h1
    rw [List.getElem?_eq_getElem hl] at h2
    exact (List.getElem_inj hnd).1 (Option.some.inj (h1.trans h2.symm))
  generalize hob0 : (sel.filterMap fun i => s.ob[i]?) = ob0 at hT sl1 sl2 sl3
  generalize hgl0 : (if g then s.gl else fun _ => none) = gl0 at hT
  have hgl1 : ∀ b x, gl0 b = some x → s.gl b = some x := fun b x hb => by
    rw [← hgl0] at hb
    split at hb
    · exact hb
    · cases hb
  have h0 : HRel M ob0 gl0 w := by
    refine ⟨hs.hp.promise, fun j x hx => ?_, fun j l x y b h1 h2 h3 h4 => ?_, fun b x hb => hs.hp.glob b x (hgl1 b x hb), fun j x b h1 h2 => ?_⟩
    · obtain ⟨i, _, hi⟩ := sl3 j x hx
      exact hs.hp.objs i x hi
    · obtain ⟨i, i1, i2⟩ := sl3 j x h1
      obtain ⟨i', i3, i4⟩ := sl3 l y h2
      have := hs.hp.apart i i' x y b i2 i4 h3 h4
      subst this
      exact selInj i1 i3
    · obtain ⟨i, _, hi⟩ := sl3 j x h1
      have := hs.hp.sep i x b hi h2
      rw [← hgl0]
      split
      · exact this
      · rfl
  have hd0 : ∀ b, Dom ob0 gl0 b → Dom s.ob s.gl b := fun b hb => by
    rcases hb with ⟨j, x, h1, h2⟩ | h1
    · obtain ⟨i, _, hi⟩ := sl3 j x h1
      exact .inl ⟨i, x, hi, h2⟩
    · obtain ⟨x, hx⟩ := Option.isSome_iff_exists.1 h1
      exact .inr (by rw [hgl1 b x hx]; rfl)
  -- what is not handed on
  have far : ∀ {i : Nat} {x : Nat × Ob} {b : Nat}, i ∉ sel → s.ob[i]? = some x → obBlk x = some b → ¬ Dom ob0 gl0 b := fun {i x b} hi h1 h2 hd => by
    rcases hd with ⟨j, y, h3, h4⟩ | h3
    · obtain ⟨i', i1, i2⟩ := sl3 j y h3
      have := hs.hp.apart i i' x y b h1 i2 h2 h4
      subst this
      exact hi (List.mem_of_getElem? i1)
    · obtain ⟨y, hy⟩ := Option.isSome_iff_exists.1 h3
      have := hgl1 b y hy
      rw [hs.hp.sep i x b h1 h2] at this
      cases this
  unfold Oper.wp
  rw [hrun hT.can, Oper.upon_enter]
  have hargs : RelL M (if wk = true then ts.map T.weak else ts) xs.toList := by
    split
    · exact weakL_rel hx
    · exact hx
  refine (hT.calls M w xs h0 hargs).mono ?_
  rintro e w' ⟨x, r', M', ob', gl', rfl, hrel, hp', hg', α0, hpost, e1, e2, hlen, hgl'⟩
  subst e1 e2
  have hbk := SameT.bk sel s.ob.length (ob α0).length
  replace hrel := hbk.rel hrel
  replace hp' := hp'.same hbk
  replace hg' : Grew _ _ ((ob α0).map (bkO sel s.ob.length (ob α0).length)) gl' w' := ⟨hg'.more, hg'.only, hg'.fr, fun b hb => hg'.own b ((dom_same hbk).1 hb)⟩
  replace hlen : sel.length ≤ ((ob α0).map (bkO sel s.ob.length (ob α0).length)).length := by rw [List.length_map]; exact hlen
  have hk := hK α0 hpost
  generalize hob2 : (ob α0).map (bkO sel s.ob.length (ob α0).length) = ob2 at hp' hg' hlen hk
  have hgr := hg'.more
  have keepB : ∀ b, b < w.heap.size → ¬ Dom ob0 gl0 b → w'.heap[b]? = w.heap[b]? := fun b hb hd => hg'.fr.block b hb hd
  have keepM : ∀ b, b < w.heap.size → ¬ Dom ob0 gl0 b → ∀ q, M' b q = M b q := fun b hb hd q => by
    cases hm : M b q with
    | some u => exact hgr b q u hm
    | none =>
      cases hm' : M' b q with
      | none => rfl
      | some u =>
        rcases hg'.only b q u hm' with h1 | h1 | h1
        · simp only at h1; rw [hm] at h1; cases h1
        · exact absurd h1 hd
        · simp only at h1; omega
  have keep : ∀ {i : Nat} {x : Nat × Ob}, i ∉ sel → s.ob[i]? = some x → ObRel M' w' x := fun {i x} hi h1 => by
    have h2 := hs.hp.objs i x h1
    exact h2.keep (fun b hb => keepB b (h2.lt hb) (far hi h1 hb)) (fun b hb => keepM b (h2.lt hb) (far hi h1 hb)) hgr
  -- blocks of what comes back
  have back : ∀ {j : Nat} {x : Nat × Ob} {b : Nat}, ob2[j]? = some x → obBlk x = some b → Dom ob0 gl0 b ∨ w.heap.size ≤ b := fun {j x b} h1 h2 => hg'.own b (.inl ⟨j, x, h1, h2⟩)
  generalize hgl2 : (if g then gl α0 else s.gl) = gl2
  have hgl3 : g = true → gl2 = gl' ∧ gl0 = s.gl := fun hg => by subst hg; simp at hgl2 hgl0; exact ⟨by rw [← hgl2, hgl' rfl], hgl0.symm⟩
  have hgl4 : g = false → gl2 = s.gl ∧ ∀ b, gl0 b = none := fun hg => by subst hg; simp at hgl2 hgl0; exact ⟨hgl2.symm, fun b => by rw [← hgl0]⟩
  have hmg : HRel M' (merge sel ob2 s.ob) gl2 w' := by
    refine ⟨hp'.promise, fun i x hx => ?_, fun i j x y b h1 h2 h3 h4 => ?_, fun b x hb => ?_, fun i x b h1 h2 => ?_⟩
    · rcases merge_get hlen hx with ⟨hi, h1⟩ | ⟨_, j, _, h1⟩ | ⟨_, h1⟩
      · exact keep hi h1
      · exact hp'.objs _ _ h1
      · exact hp'.objs _ _ h1
    · have cross : ∀ {i j : Nat} {x y : Nat × Ob} {b : Nat}, i ∉ sel → s.ob[i]? = some x → ob2[j]? = some y → obBlk x = some b → obBlk y = some b → False := fun {i j x y b} hi g1 g2 g3 g4 => by
        rcases back g2 g4 with g5 | g5
        · exact far hi g1 g3 g5
        · have := (hs.hp.objs i x g1).lt g3; omega
      rcases merge_get hlen h1 with ⟨hi, g1⟩ | ⟨i1, ji, g0, g1⟩ | ⟨i1, g1⟩ <;> rcases merge_get hlen h2 with ⟨hj, k1⟩ | ⟨j1, jj, k0, k1⟩ | ⟨j1, k1⟩
      · exact hs.hp.apart i j x y b g1 k1 h3 h4
      · exact (cross hi g1 k1 h3 h4).elim
      · exact (cross hi g1 k1 h3 h4).elim
      · exact (cross hj k1 g1 h4 h3).elim
      · have := hp'.apart _ _ _ _ b g1 k1 h3 h4
        subst this
        rw [g0] at k0
        exact Option.some.inj k0
      · have := hp'.apart _ _ _ _ b g1 k1 h3 h4
        have hl : ji < sel.length := (List.getElem?_eq_some_iff.1 g0).1
        omega
      · exact (cross hj k1 g1 h4 h3).elim
      · have := hp'.apart _ _ _ _ b g1 k1 h3 h4
        have hl : jj < sel.length := (List.getElem?_eq_some_iff.1 k0).1
        omega
      · have := hp'.apart _ _ _ _ b g1 k1 h3 h4
        omega
    · cases g with
      | true =>
        rw [(hgl3 rfl).1] at hb
        exact hp'.glob b x hb
      | false =>
        rw [(hgl4 rfl).1] at hb
        have h1 := hs.hp.glob b x hb
        have hnd' : ∀ c, obBlk (b, x) = some c → ¬ Dom ob0 gl0 c := fun c hc hd => by
          have e : c = b := by rw [h1.1] at hc; exact (Option.some.inj hc).symm
          subst e
          rcases hd with ⟨j, y, h3, h4⟩ | h3
          · obtain ⟨i', _, i2⟩ := sl3 j y h3
            have := hs.hp.sep i' y c i2 h4
            rw [hb] at this; cases this
          · rw [(hgl4 rfl).2 c] at h3; cases h3
        exact ⟨h1.1, h1.2.keep (fun c hc => keepB c (h1.2.lt hc) (hnd' c hc)) (fun c hc => keepM c (h1.2.lt hc) (hnd' c hc)) hgr⟩
    · cases g with
      | true =>
        rw [(hgl3 rfl).1]
        rcases merge_get hlen h1 with ⟨hi, g1⟩ | ⟨_, j, _, g1⟩ | ⟨_, g1⟩
        · cases hb : gl' b with
          | none => rfl
          | some y =>
            rcases hg'.own b (.inr (by rw [hb]; rfl)) with g2 | g2
            · exact absurd g2 (far hi g1 h2)
            · have := (hs.hp.objs i x g1).lt h2; simp only at g2; omega
        · exact hp'.sep _ _ _ g1 h2
        · exact hp'.sep _ _ _ g1 h2
      | false =>
        rw [(hgl4 rfl).1]
        have other : ∀ {j : Nat}, ob2[j]? = some x → s.gl b = none := fun {j} g1 => by
          rcases back g1 h2 with g2 | g2
          · rcases g2 with ⟨l, y, h3, h4⟩ | h3
            · obtain ⟨i', _, i2⟩ := sl3 l y h3
              exact hs.hp.sep i' y b i2 h4
            · rw [(hgl4 rfl).2 b] at h3; cases h3
          · cases hb : s.gl b with
            | none => rfl
            | some y => have := (hs.hp.glob b y hb).2.lt (hs.hp.glob b y hb).1; omega
        rcases merge_get hlen h1 with ⟨hi, g1⟩ | ⟨_, j, _, g1⟩ | ⟨_, g1⟩
        · exact hs.hp.sep i x b g1 h2
        · exact other g1
        · exact other g1
  have hdm : ∀ b, Dom (merge sel ob2 s.ob) gl2 b → Dom s.ob s.gl b ∨ w.heap.size ≤ b := fun b hb => by
    rcases hb with ⟨i, x, h1, h2⟩ | h1
    · rcases merge_get hlen h1 with ⟨hi, g1⟩ | ⟨_, j, _, g1⟩ | ⟨_, g1⟩
      · exact .inl (.inl ⟨i, x, g1, h2⟩)
      · exact (back g1 h2).imp (hd0 b) id
      · exact (back g1 h2).imp (hd0 b) id
    · cases g with
      | true =>
        rw [(hgl3 rfl).1] at h1
        exact (hg'.own b (.inr h1)).imp (hd0 b) id
      | false => rw [(hgl4 rfl).1] at h1; exact .inl (.inr h1)
  rw [hgl2] at hk
  refine ⟨_, M', hk, St.put (s := { s with ob := merge sel ob2 s.ob, gl := gl2 }) ⟨hs.df, hs.fr.mono hgr _ _, hmg, Pm.le_trans hs.gr.more hgr, fun b q u hu => ?_, ?_, fun b hb => ?_⟩ o.dst hrel⟩
  · rcases hg'.only b q u hu with h1 | h1 | h1
    · exact hs.gr.only b q u h1
    · exact .inr (hs.gr.own b (hd0 b h1))
    · exact .inr (.inr (Nat.le_trans hs.gr.fr.size h1))
  · exact hs.gr.fr.back hg'.fr fun b hb hd => (hs.gr.own b (hd0 b hd)).resolve_right (by omega)
  · rcases hdm b hb with h1 | h1
    · exact hs.gr.own b h1
    · exact .inr (Nat.le_trans hs.gr.fr.size h1)

/-! ### Maps -/
theorem mapOf_some {t : TypeId} {kd : IntKind} {e : TypeId} (h : mapOf P t = some (kd, e)) : ∃ k, P.underlying t = some (.map k e) ∧ P.underlying k = some (.int kd) := by
  unfold mapOf at h
  split at h
  · rename_i k e' hu
    split at h
    · rename_i kd' hk
      injection h with h
      injection h with h1 h2
      subst h1 h2
      exact ⟨k, hu, hk⟩
    · cases h
  · cases h
theorem zeroVal_run {e : TypeId} {t : T} (h : zeroVal P e = some t) : ∃ y, (∀ w, (zeroValue e).run P w = .ok y w) ∧ Rel M t y := by
  unfold zeroVal at h
  simp only [Option.map_eq_some_iff, Option.bind_eq_some_iff] at h
  obtain ⟨y, ⟨i, h1, h2⟩, rfl⟩ := h
  exact ⟨y, fun w => by simp [zeroValue, typeInfo, h1, h2], rel_ofC y⟩
/-- a look-up's value: the same in all worlds in which the map's block stands -/
theorem lookup_found {t : TypeId} {x ix : Operand} {ok : Bool} {k : T → Prop} {i b b' : Nat} {kd kd' : IntKind} {e : TypeId} {z : Int} {f : Int → Option T} {es : Array MapEntry} {ck : Nat} {zt : T} (ho : o.op = .lookup t x ix ok) (hx : a.eval x = .map (some b)) (hix : a.eval ix = .int kd z)
    (hob : s.ob[i]? = some (b', .map kd f es ck)) (hmo : mapOf P t = some (kd', e)) (hkd : kd' = kd) (hbb : b' = b) (hz : zeroVal P e = some zt) (hs : St Γ M s a w) (H : claim h (some (if ok then .tup [(f z).getD zt, .v (.bool (f z).isSome)] else (f z).getD zt)) k) :
    ∃ v u, k u ∧ Rel M u v ∧ ∀ w', w'.heap[b']? = w.heap[b']? → (execOp a.eval o).run P w' = .ok (.value v) w' := by
  subst hkd hbb
  obtain ⟨u, hu, hk⟩ := claim_some H
  injection hu with hu
  obtain ⟨kt, hm, hd⟩ := mapOf_some hmo
  obtain ⟨y, hy, hry⟩ := zeroVal_run (M := M) hz
  obtain ⟨hh, ⟨fv, hE, hF1, hF2⟩, -⟩ := hs.hp.objs _ _ hob
  have hrel : Rel M ((f z).getD zt) ((fv z).getD y) ∧ (f z).isSome = (fv z).isSome := by
    cases hfz : f z with
    | none => rw [hF2 z hfz]; exact ⟨hry, rfl⟩
    | some t' =>
      obtain ⟨v, h1, h2⟩ := hF1 z t' hfz
      rw [h1]
      exact ⟨h2, rfl⟩
  have hM : ∀ w', w'.heap[b']? = w.heap[b']? → MapI w' b' kd' fv := fun w' hw' => .of (hw'.trans hh) hE
  cases ok with
  | true =>
    refine ⟨.tuple #[(fv z).getD y, .bool (fv z).isSome], u, hk, ?_, fun w' hw' => ?_⟩
    · rw [← hu]
      simp only [if_pos, Rel, RelL]
      exact ⟨_, rfl, _, _, rfl, hrel.1, _, _, rfl, by rw [hrel.2], rfl⟩
    · unfold execOp
      rw [ho]
      refine run_value ?_
      rw [hx, hix]
      exact (hM w' hw').lookup_ok hm hd (hy w') z
  | false =>
    refine ⟨(fv z).getD y, u, hk, by rw [← hu]; exact hrel.1, fun w' hw' => ?_⟩
    unfold execOp
    rw [ho]
    refine run_value ?_
    rw [hx, hix]
    exact (hM w' hw').lookup hm hd (hy w') z
theorem sLookup {t : TypeId} {x ix : Operand} {ok : Bool} (ho : o.op = .lookup t x ix ok) (H : vLookup P s o h t x ix ok (fun t => K (s.put o.dst t))) (hs : St Γ M s a w) : o.wp P a w (Post Γ K) Q := by
  unfold vLookup at H
  have hr := eval_rel hs.fr x
  split at H
  · rename_i i b hx
    rw [hx] at hr
    simp only [Rel] at hr
    split at H
    rotate_left
    · exact H.elim
    rename_i b' kd f es ck kd' e kd'' z hob hmo hiz
    split at H
    rotate_left
    · exact H.elim
    rename_i zt hz
    split at H
    rotate_left
    · exact H.elim
    rename_i hc
    obtain ⟨hbb, H⟩ := H
    have hix := intT_rel hiz (eval_rel hs.fr ix)
    rw [hc.2] at hix
    obtain ⟨v, u, h1, h2, h3⟩ := lookup_found ho hr hix hob hmo hc.1 hbb hz hs H
    exact wp_of_run (h3 w rfl) ⟨_, M, h1, hs.put o.dst h2⟩
  · exact value_sound (flatK_sound H hs.fr) hs fun t ht => ht
theorem sMakeMap {t : TypeId} (ho : o.op = .makeMap t none) (H : eMakeMap P s o.dst t K) (hs : St Γ M s a w) : o.wp P a w (Post Γ K) Q := by
  unfold eMakeMap at H
  split at H
  rotate_left
  · exact H.elim
  rename_i kd e hmo
  have hk := H w.heap.size
  refine wp_of_run (v := .map (some w.heap.size)) (w' := w.alloc (.map #[] 0)) ?_ ⟨_, M, hk, St.put (s := { s with ob := s.ob ++ [(w.heap.size, .map kd (fun _ => none) #[] 0)] }) ⟨hs.df, hs.fr, ?_, ?_⟩ o.dst (by simp only [Rel])⟩
  · unfold execOp
    rw [ho]
    refine run_valueW ?_
    simp [Instr.makeMap]
  · refine (hs.hp.still fun b hb => heap_new w _ hb).more ⟨heap_alloc_new w _, ⟨fun _ => none, ⟨MapKept.stamped_empty 0, by simp, by simp⟩, fun z t h => (by cases h), fun _ _ => rfl⟩, fun o => no_promise hs.hp.promise (Nat.le_refl _) o⟩ fun b hb => ?_
    simp only [obBlk, Option.some.injEq] at hb
    subst hb
    exact no_dom hs
  · refine ⟨hs.gr.more, hs.gr.only, hs.gr.fr.alloc _, fun b hb => ?_⟩
    rcases hb with ⟨i, x, h1, h2⟩ | h1
    · simp only at h1
      rw [List.getElem?_append] at h1
      split at h1
      · exact hs.gr.own b (.inl ⟨i, x, h1, h2⟩)
      · rw [List.getElem?_singleton] at h1
        split at h1
        · injection h1 with h1
          subst h1
          simp only [obBlk, Option.some.injEq] at h2
          subst h2
          exact .inr hs.gr.fr.size
        · cases h1
    · exact hs.gr.own b (.inr h1)
/-- one object has been turned where it lies -/
theorem St.turned (hs : St Γ M s a w) {i b : Nat} {x y : Nat × Ob} {w' : World} (hob : s.ob[i]? = some x) (hb : obBlk x = some b) (hM : ∀ o, M b o = none) (hf : Go.Proofs.YtaepgceodcdnhaaDoor.Fr (· = b) w w') (hy : ObRel M w' y) (hyb : obBlk y = some b) : St Γ M { s with ob := s.ob.set i y } a w' := by
  have hlt := (hs.hp.objs i x hob).lt hb
  have hown := hs.gr.own b (.inl ⟨i, x, hob, hb⟩)
  refine ⟨hs.df, hs.fr, hs.hp.turn hob (Pm.le_refl _) (fun k hk hne => hf.block k hk (fun e => hne (by rw [e]; exact hb))) (fun _ _ _ _ => rfl) (fun k q u hu => ?_) hy (fun k hk => .inl (by rw [hyb] at hk; rw [hb]; exact hk)), hs.gr.more, hs.gr.only, hs.gr.fr.back hf (fun k hk e => by
    have e : k = b := e
    subst e
    exact hown.resolve_right (by omega)), fun k hk => ?_⟩
  · have h1 := hs.hp.promise k q u hu
    have hne : k ≠ b := fun e => by rw [e, hM] at hu; cases hu
    exact ⟨(cell_of_heap (hf.block k (by have := World.block_lt_of_cell? w _ h1.1; exact this) hne) q).trans h1.1, h1.2⟩
  · rcases hk with ⟨j, z, h1, h2⟩ | h1
    · simp only at h1
      rw [List.getElem?_set] at h1
      split at h1
      · split at h1
        · injection h1 with h1
          subst h1
          rw [hyb] at h2
          injection h2 with h2
          subst h2
          exact hown
        · cases h1
      · exact hs.gr.own k (.inl ⟨j, z, h1, h2⟩)
    · exact hs.gr.own k (.inr h1)
theorem claimF_some {f : Int → Option T} {k : (Int → Option T) → Prop} (c : claimF h f k) : ∃ g, (∀ z, g z = f z) ∧ k g := by
  unfold claimF at c
  split at c
  · exact ⟨_, c.1, c.2⟩
  · exact ⟨f, fun _ => rfl, c⟩
theorem turnMap_sound {i b : Nat} {kd : IntKind} {f g : Int → Option T} {es : Array MapEntry} {ck : Nat} {gv : Int → Option Value} {v : Value} {t : T} (hs : St Γ M s a w) (hob : s.ob[i]? = some (b, .map kd f es ck)) (hm : MapI w' b kd gv) (hf : Go.Proofs.YtaepgceodcdnhaaDoor.Fr (· = b) w w') (hg : FRel M g gv) (H : turnMap s i b kd g (fun s' => K (s'.put o.dst t))) (ht : Rel M t v) : Post Γ K (a.put o.dst v) w' := by
  obtain ⟨es', ck', h1, h2⟩ := hm.out
  have hx := hs.hp.objs _ _ hob
  refine ⟨_, M, H es' ck', St.put (s := { s with ob := s.ob.set i (b, .map kd g es' ck') }) (hs.turned hob rfl hx.2.2 hf ⟨h1, ⟨gv, h2, hg⟩, hx.2.2⟩ rfl) o.dst ht⟩
theorem sUpdate {t : TypeId} {x ix y : Operand} (ho : o.op = .mapUpdate t x ix y) (H : eUpdate P s h t x ix y (fun s' => K (s'.put o.dst (.v undef)))) (hs : St Γ M s a w) : o.wp P a w (Post Γ K) Q := by
  unfold eUpdate at H
  have hr := eval_rel hs.fr x
  split at H
  rotate_left
  · exact H.elim
  rename_i i b hx
  rw [hx] at hr
  simp only [Rel] at hr
  split at H
  rotate_left
  · exact H.elim
  rename_i b' kd f es ck kd' e kd'' z hob hmo hiz
  split at H
  rotate_left
  · exact H.elim
  rename_i hc
  obtain ⟨rfl, H⟩ := H
  obtain ⟨hc1, hc2⟩ := hc
  subst hc1 hc2
  obtain ⟨g, hg, H⟩ := claimF_some H
  have hix := intT_rel hiz (eval_rel hs.fr ix)
  obtain ⟨kt, hm, hd⟩ := mapOf_some hmo
  obtain ⟨hh, ⟨fv, hE, hF1, hF2⟩, hM⟩ := hs.hp.objs _ _ hob
  obtain ⟨w', es', ck', hrun, h1, h2, hU, hfr, -⟩ := hE.update hh hm hd z (a.eval y)
  have hgr : FRel M g (upd fv z (a.eval y)) := by
    refine ⟨fun q u hq => ?_, fun q hq => ?_⟩
    · rw [hg] at hq
      unfold updT at hq
      unfold upd
      split at hq
      · rename_i e; rw [if_pos e]; injection hq with hq; subst hq; exact ⟨_, rfl, eval_rel hs.fr y⟩
      · rename_i e; rw [if_neg e]; exact hF1 q u hq
    · rw [hg] at hq
      unfold updT at hq
      unfold upd
      split at hq
      · cases hq
      · rename_i e; rw [if_neg e]; exact hF2 q hq
  have hx' := hs.hp.objs _ _ hob
  have hpost : Post Γ K (a.put o.dst undef) w' := ⟨_, M, H es' ck' hU, St.put (s := { s with ob := s.ob.set i (b', .map _ g es' ck') }) (hs.turned hob rfl hx'.2.2 hfr ⟨h1, ⟨_, h2, hgr⟩, hx'.2.2⟩ rfl) o.dst (by simp only [Rel])⟩
  unfold Oper.wp execOp
  rw [ho]
  simp only [Sem.run_bind, hr, hix, hrun, Result.andThen_ok]
  exact hpost
theorem sDelete {c : Call} (ho : o.op = .call c) (hc : c.callee = .builtin .delete) (H : eDelete P s h (c.args.toList.map s.eval) c.argTypes.toList (fun s' => K (s'.put o.dst (.tup [])))) (hs : St Γ M s a w) : o.wp P a w (Post Γ K) Q := by
  obtain ⟨callee, ⟨args⟩, ⟨tys⟩⟩ := c
  simp only at hc H
  subst hc
  unfold eDelete at H
  split at H
  rotate_left
  · exact H.elim
  rename_i i b ixT t kt' hargs
  have hal : args.length = 2 := by have := congrArg List.length hargs; simpa using this
  match args, hal with
  | [x, ix], _ =>
  simp only [List.map_cons, List.map_nil, List.cons.injEq, and_true] at hargs
  obtain ⟨hx, rfl⟩ := hargs
  have hr := eval_rel hs.fr x
  rw [hx] at hr
  simp only [Rel] at hr
  split at H
  rotate_left
  · exact H.elim
  rename_i b' kd f es ck kd' e kd'' z hob hmo hiz
  split at H
  rotate_left
  · exact H.elim
  rename_i hc
  obtain ⟨rfl, H⟩ := H
  obtain ⟨hc1, hc2⟩ := hc
  subst hc1 hc2
  obtain ⟨g, hg, H⟩ := claimF_some H
  have hix := intT_rel hiz (eval_rel hs.fr ix)
  obtain ⟨kt, hm, hd⟩ := mapOf_some hmo
  obtain ⟨hh, ⟨fv, hE, hF1, hF2⟩, hM⟩ := hs.hp.objs _ _ hob
  obtain ⟨w', es', hrun, hh', hE', hdel, hfr, -⟩ := hE.delete hh hm hd z o.type kt'
  have hgr : FRel M g (fun y => if y = z then none else fv y) := by
    refine ⟨fun q u hq => ?_, fun q hq => ?_⟩
    · rw [hg] at hq
      unfold delT at hq
      split at hq
      · cases hq
      · rename_i e
        obtain ⟨v, h1, h2⟩ := hF1 q u hq
        exact ⟨v, by show (if q = z then none else fv q) = some v; rw [if_neg e]; exact h1, h2⟩
    · rw [hg] at hq
      unfold delT at hq
      by_cases e : q = z
      · exact if_pos e
      · rw [if_neg e] at hq; show (if q = z then none else fv q) = none; rw [if_neg e]; exact hF2 q hq
  have hpost : Post Γ K (a.put o.dst (.tuple #[])) w' := ⟨_, M, H es' hdel, St.put (s := { s with ob := s.ob.set i (b', .map kd'' g es' ck) }) (hs.turned hob rfl hM hfr ⟨hh', ⟨_, hE', hgr⟩, hM⟩ rfl) o.dst (by simp only [Rel, RelL]; exact ⟨_, rfl, rfl⟩)⟩
  unfold Oper.wp execOp
  rw [ho]
  simp only [resolve, invoke, builtin, Sem.run_bind, Sem.run_pure, Result.andThen_ok, List.map_toArray, List.map_cons, List.map_nil, hr, hix, hrun]
  exact hpost
theorem sClear {c : Call} (ho : o.op = .call c) (hc : c.callee = .builtin .clear) (H : eClear P s (c.args.toList.map s.eval) c.argTypes.toList (fun s' => K (s'.put o.dst (.tup [])))) (hs : St Γ M s a w) : o.wp P a w (Post Γ K) Q := by
  obtain ⟨callee, ⟨args⟩, ⟨tys⟩⟩ := c
  simp only at hc H
  subst hc
  unfold eClear at H
  split at H
  rotate_left
  · exact H.elim
  rename_i i b t hargs
  have hal : args.length = 1 := by have := congrArg List.length hargs; simpa using this
  match args, hal with
  | [x], _ =>
  simp only [List.map_cons, List.map_nil, List.cons.injEq, and_true] at hargs
  have hr := eval_rel hs.fr x
  rw [hargs] at hr
  simp only [Rel] at hr
  split at H
  rotate_left
  · exact H.elim
  rename_i b' kd f es ck kde hob hmo
  obtain ⟨rfl, H⟩ := H
  obtain ⟨kt, hm, hd⟩ := mapOf_some (kd := kde.1) (e := kde.2) hmo
  obtain ⟨hh, ⟨fv, hE, -⟩, hM⟩ := hs.hp.objs _ _ hob
  obtain ⟨w', hrun, hm', hfr, -⟩ := (MapI.of hh hE).clear hm o.type
  have hpost := turnMap_sound (o := o) (K := K) (t := .tup []) (v := .tuple #[]) hs hob hm' hfr ⟨fun z t h => (by cases h), fun _ _ => rfl⟩ H (by simp only [Rel, RelL]; exact ⟨_, rfl, rfl⟩)
  unfold Oper.wp execOp
  rw [ho]
  simp only [resolve, invoke, builtin, Sem.run_bind, Sem.run_pure, Result.andThen_ok, List.map_toArray, List.map_cons, List.map_nil, hr, hrun]
  exact hpost
theorem sLenMap {c : Call} {other : Prop} (ho : o.op = .call c) (hc : c.callee = .builtin .len) (H : eLen P s h (c.args.toList.map s.eval) c.argTypes.toList (fun t => K (s.put o.dst t)) other) (hother : other → o.wp P a w (Post Γ K) Q) (hs : St Γ M s a w) : o.wp P a w (Post Γ K) Q := by
  obtain ⟨callee, ⟨args⟩, ⟨tys⟩⟩ := c
  simp only at hc H
  subst hc
  unfold eLen at H
  split at H
  rotate_left
  · exact hother H
  rename_i i b t hargs
  have hal : args.length = 1 := by have := congrArg List.length hargs; simpa using this
  match args, hal with
  | [x], _ =>
  simp only [List.map_cons, List.map_nil, List.cons.injEq, and_true] at hargs
  have hr := eval_rel hs.fr x
  rw [hargs] at hr
  simp only [Rel] at hr
  split at H
  rotate_left
  · exact H.elim
  rename_i b' kd f es ck kde n hob hmo
  obtain ⟨rfl, ⟨ks, hn, hks, rfl⟩, hk⟩ := H
  obtain ⟨kt, hm, hd⟩ := mapOf_some (kd := kde.1) (e := kde.2) hmo
  obtain ⟨hh, ⟨fv, hE, hF1, hF2⟩, hM⟩ := hs.hp.objs _ _ hob
  have hlen := len_of hE hn fun z => by
    rw [hks]
    cases hfz : f z with
    | none => rw [hF2 z hfz]; exact Iff.rfl
    | some t' => obtain ⟨v, h1, _⟩ := hF1 z t' hfz; rw [h1]; exact Iff.rfl
  refine wp_of_run (v := .int .i64 es.size) (w' := w) ?_ ⟨_, M, hk, hs.put o.dst (by simp only [Rel, hlen])⟩
  unfold execOp
  rw [ho]
  simp only [resolve, invoke, builtin, Sem.run_bind, Sem.run_pure, Result.andThen_ok, List.map_toArray, List.map_cons, List.map_nil, hr, run_len_map hm hh]
theorem sRange {t : TypeId} {x : Operand} (ho : o.op = .range t x) (H : eRange P s o.dst t x K) (hs : St Γ M s a w) : o.wp P a w (Post Γ K) Q := by
  unfold eRange at H
  have hr := eval_rel hs.fr x
  split at H
  rotate_left
  · exact H.elim
  rename_i i b hx
  rw [hx] at hr
  simp only [Rel] at hr
  split at H
  rotate_left
  · exact H.elim
  rename_i b' kd f es ck kde hob hmo
  obtain ⟨rfl, H⟩ := H
  obtain ⟨kt, hm, hd⟩ := mapOf_some (kd := kde.1) (e := kde.2) hmo
  obtain ⟨hh, ⟨fv, hE, hF1, hF2⟩, hM⟩ := hs.hp.objs _ _ hob
  obtain ⟨left, h1, h2, h3⟩ := IterE.start (w := w.alloc (.mapIter (some b') ck #[] ck)) (r := b') hE (heap_alloc_new w _)
  have hk := H w.heap.size left h2 fun z => by
    rw [h3]
    cases hfz : f z with
    | none => rw [hF2 z hfz]; exact Iff.rfl
    | some t' => obtain ⟨v, h1, _⟩ := hF1 z t' hfz; rw [h1]; exact Iff.rfl
  refine wp_of_run (v := .pointer (some ⟨w.heap.size, 0, none⟩)) (w' := w.alloc (.mapIter (some b') ck #[] ck)) ?_ ⟨_, M, hk, St.put (s := { s with ob := s.ob ++ [(w.heap.size, .iter i b' kd es ck left none)] }) ⟨hs.df, hs.fr, ?_, ?_⟩ o.dst (by simp only [Rel])⟩
  · unfold execOp
    rw [ho]
    refine run_valueW ?_
    rw [hr]
    exact run_range hm hh
  · refine (hs.hp.still fun b hb => heap_new w _ hb).more ⟨h1, fun o => no_promise hs.hp.promise (Nat.le_refl _) o⟩ fun b hb => ?_
    simp only [obBlk, Option.some.injEq] at hb
    subst hb
    exact no_dom hs
  · refine ⟨hs.gr.more, hs.gr.only, hs.gr.fr.alloc _, fun b hb => ?_⟩
    rcases hb with ⟨i, x, h1, h2⟩ | h1
    · simp only at h1
      rw [List.getElem?_append] at h1
      split at h1
      · exact hs.gr.own b (.inl ⟨i, x, h1, h2⟩)
      · rw [List.getElem?_singleton] at h1
        split at h1
        · injection h1 with h1
          subst h1
          simp only [obBlk, Option.some.injEq] at h2
          subst h2
          exact .inr hs.gr.fr.size
        · cases h1
    · exact hs.gr.own b (.inr h1)
theorem sNext {x : Operand} (ho : o.op = .next x false) (H : eNext s o.dst x K) (hs : St Γ M s a w) : o.wp P a w (Post Γ K) Q := by
  unfold eNext at H
  have hr := eval_rel hs.fr x
  split at H
  rotate_left
  · exact H.elim
  rename_i j c hx
  rw [hx] at hr
  simp only [Rel] at hr
  split at H
  rotate_left
  · exact H.elim
  rename_i c' i mb kd es ck left cur hj
  split at H
  rotate_left
  · exact H.elim
  rename_i b' kd' f es' ck' hi
  split at H
  rotate_left
  · exact H.elim
  rename_i hkd
  subst hkd
  obtain ⟨⟨rfl, rfl, rfl, rfl⟩, H1, H2⟩ := H
  obtain ⟨hh, ⟨fv, hE, hF1, hF2⟩, hM⟩ := hs.hp.objs _ _ hi
  obtain ⟨hI, hMc⟩ := hs.hp.objs _ _ hj
  have wpr : ∀ {v : Value} {w' : World}, (Instr.next (.pointer (some ⟨c', 0, none⟩)) false o.type).run P w = .ok v w' → (execOp a.eval o).run P w = .ok (.value v) w' := fun {v w'} hrun => by
    unfold execOp
    rw [ho]
    refine run_valueW ?_
    rw [hr]
    exact hrun
  rcases hI.next (P := P) hE hh o.type with ⟨hl, w', hrun, e1, e2, e3, e4⟩ | ⟨z, v, w', hz, hv, hrun, hI', hfr, -⟩
  · refine wp_of_run (wpr hrun) ⟨_, M, H1 hl, St.put ⟨hs.df, hs.fr, hs.hp.still fun b _ => by rw [e1], ⟨hs.gr.more, hs.gr.only, ⟨e2.trans hs.gr.fr.os, e3.trans hs.gr.fr.tape, e4.trans hs.gr.fr.output, by rw [e1]; exact hs.gr.fr.size, fun k hk hn => by rw [e1]; exact hs.gr.fr.block k hk hn⟩, hs.gr.own⟩⟩ o.dst ?_⟩
    simp only [Rel, RelL]
    exact ⟨_, rfl, _, _, rfl, rfl, rfl⟩
  · cases hfz : f z with
    | none => rw [hF2 z hfz] at hv; cases hv
    | some t =>
      obtain ⟨v', h1, h2⟩ := hF1 z t hfz
      rw [hv] at h1
      injection h1 with h1
      subst h1
      refine wp_of_run (wpr hrun) ⟨_, M, H2 z t hz hfz, St.put (s := { s with ob := s.ob.set j (c', .iter i b' kd' es' ck' (left.erase z) (some z)) }) (hs.turned hj rfl hMc hfr ⟨hI', hMc⟩ rfl) o.dst ?_⟩
      simp only [Rel, RelL]
      exact ⟨_, rfl, _, _, rfl, rfl, _, _, rfl, rfl, _, _, rfl, h2, rfl⟩
theorem sEntry {x : Operand} (ho : o.op = .entry x) (H : eEntry s h o.dst x K) (hs : St Γ M s a w) : o.wp P a w (Post Γ K) Q := by
  unfold eEntry at H
  have hr := eval_rel hs.fr x
  split at H
  rotate_left
  · exact H.elim
  rename_i j c hx
  rw [hx] at hr
  simp only [Rel] at hr
  split at H
  rotate_left
  · exact H.elim
  rename_i c' i mb kd es ck left cur hj
  split at H
  rotate_left
  · exact H.elim
  rename_i b' kd' f es' ck' z hi
  split at H
  rotate_left
  · exact H.elim
  rename_i hkd
  subst hkd
  obtain ⟨⟨rfl, rfl, rfl, rfl⟩, H⟩ := H
  obtain ⟨hh, ⟨fv, hE, hF1, hF2⟩, hM⟩ := hs.hp.objs _ _ hi
  obtain ⟨hI, hMc⟩ := hs.hp.objs _ _ hj
  obtain ⟨v, hv, hrun⟩ := hI.entry (P := P) hE hh
  cases hfz : f z with
  | none => rw [hF2 z hfz] at hv; cases hv
  | some t =>
    obtain ⟨v', h1, h2⟩ := hF1 z t hfz
    rw [hv] at h1
    injection h1 with h1
    subst h1
    refine wp_of_run (v := .tuple #[.int kd' z, v]) (w' := w) ?_ ⟨_, M, resT_out H hfz, hs.put o.dst ?_⟩
    · unfold execOp
      rw [ho]
      refine run_value ?_
      rw [hr]
      exact hrun
    · simp only [Rel, RelL]
      exact ⟨_, rfl, _, _, rfl, rfl, _, _, rfl, h2, rfl⟩
end
end Go.Proofs.YtaepgceodcdnhaaDoor.Vm
