/- Texts of this claim: Vm3. -/
import Derived.Test.YtafcbipmmjegcaaMg4
namespace Go.Proofs.Ytafcbipmmjegcaa.Vm
open Go Go.RowKit
def T.one : T → Bool
 | .v x => x.oneCell'
 | .agg _ => false
 | .tup _ => false
 | .und => false
 | _ => true
def fixAt (b : Nat) : List (Nat × Ob) → Option (List T)
 | [] => none
 | (b', .fix cs) :: l => if b' = b then some cs else fixAt b l
 | _ :: l => fixAt b l
def cellsAt (s : S) (h : Hint) (a : T) (k : List T → Prop) : Prop :=
 match a with
 | .ptr i b o => (match s.ob[i]? with | some (b', .cells cs) => b' = b ∧ k (cs.drop o) | _ => False)
 | .gp b o => (match h with | .gl cs => s.gl b = some (.cells cs) ∧ k (cs.drop o) | _ => (match fixAt b s.ob with | some cs => k (cs.drop o) | none => False))
 | .pim cs => k cs
 | _ => False
def loadT (P : Program) (t : TypeId) (cs : List T) : Option T := match aggOf P t with | some (some n) => if cs.length < n then none else some (.agg (cs.take n)) | some none => cs[0]? | none => none
def vLoad (P : Program) (s : S) (h : Hint) (t : TypeId) (x : Operand) (k : T → Prop) : Prop := cellsAt s h (s.eval x) fun cs => claim h (loadT P t cs) k
def setCells (cs : List T) (o : Nat) (ts : List T) : List T := cs.take o ++ ts ++ cs.drop (o + ts.length)
def claimL (h : Hint) (x : List T) (k : List T → Prop) : Prop := match h with | .obj cs => x = cs ∧ k cs | _ => k x
def setGl (gl : Nat → Option Ob) (b : Nat) (cs : List T) : Nat → Option Ob := fun j => if j = b then some (.cells cs) else gl j
def eStore (P : Program) (s : S) (h : Hint) (t : TypeId) (x y : Operand) (K : S → Prop) : Prop :=
 match sizeT P t with
 | some n => (match s.eval y with
  | .und => False
  | u => (u.cells.length = n ∧ u.cells.all T.one = true) ∧ (match s.eval x with
   | .ptr i b o => (match s.ob[i]? with | some (b', .cells cs) => b' = b ∧ o + n ≤ cs.length ∧ claimL h (setCells cs o u.cells) (fun cs' => K { s with ob := s.ob.set i (b', .cells cs') }) | _ => False)
   | .gp b o => (match h with | .gl cs => s.gl b = some (.cells cs) ∧ o + n ≤ cs.length ∧ K { s with gl := setGl s.gl b (setCells cs o u.cells) } | _ => False)
   | _ => False))
 | none => False
def newOb (s : S) (d : Option Tmp) (x : Ob) (f : Nat → T) (K : S → Prop) : Prop := ∀ b, K (({ s with ob := s.ob ++ [(b, x)] } : S).put d (f b))
def eAlloc (P : Program) (s : S) (d : Option Tmp) (t : TypeId) (K : S → Prop) : Prop := match zeroT P t with | some z => newOb s d (.cells z) (fun b => .ptr s.ob.length b 0) K | none => False
def eBox (s : S) (d : Option Tmp) (h : Hint) (x : Operand) (K : S → Prop) : Prop := match s.eval x with
 | .und => False
 | u => (match h with
  | .glob => ∀ b, s.gl b = none → K (({ s with gl := setGl s.gl b u.cells } : S).put d (.gp b 0))
  | _ => newOb s d (.cells u.cells) (fun b => .ptr s.ob.length b 0) K)
def chunk (agg : Bool) (k : Nat) : Nat → List T → List T
 | 0, _ => []
 | n + 1, cs => (if agg then .agg (cs.take k) else cs.headD .und) :: chunk agg k n (cs.drop k)
def eBuildSlice (P : Program) (s : S) (d : Option Tmp) (t : TypeId) (len : Nat) (parts : Array (Nat × Operand)) (K : S → Prop) : Prop :=
 match elemOfT P t with
 | some (none, e) => (match sizeT P e, aggOf P e, zeroT P e with
  | some k, some ag, some _ => if len * k ≤ 1000 ∧ 0 < k ∧ (ag = none → k = 1) then (match fillT (fun i => some (i * k, k)) (List.replicate (len * k) .und) (parts.toList.map fun p => (p.1, s.eval p.2)) with
   | some cs => if cs.all T.one = true then K (s.put d (.sl k (chunk ag.isSome k len cs))) else False
   | none => False) else False
  | _, _, _ => False)
 | _ => False
def eBuildNil (P : Program) (s : S) (d : Option Tmp) (t : TypeId) (parts : Array (Nat × Operand)) (K : S → Prop) : Prop :=
 match elemOfT P t, parts.toList with
 | some (none, e), [] => (match sizeT P e with
  | some k => 0 < k ∧ ∀ x : Value, K (({ s with ob := s.ob ++ [(0, .room k e 0 x)] } : S).put d (.slx k s.ob.length [] x))
  | none => False)
 | _, _ => False
def obBlk : Nat × Ob → Option Nat
 | (b, .cells _) => some b
 | (_, .room _ _ _ x) => x.ownBlock
 | (b, .map ..) => some b
 | (b, .iter ..) => some b
 | (b, .kv ..) => some b
 | (_, .fix _) => none
 | (b, .siter ..) => some b
 | (b, .whole ..) => some b
 | (_, .gone) => none
def FRel (M : Pm) (f : Int → Option T) (fv : Int → Option Value) : Prop := (∀ z t, f z = some t → ∃ v, fv z = some v ∧ Rel M t v) ∧ ∀ z, f z = none → fv z = none
def Hc (w : World) (b : Nat) (C : Array Value) (t : TypeId) : Prop := ∃ fz : Nat × Nat, w.heap[b]? = some (.cells C t fz) ∧ (fz = (0, 0) ∨ C.size ≤ fz.1)
def MapV (es : Array MapEntry) (clock : Nat) (G : Value → Prop) (f : Value → Option Value) : Prop :=
 MapKept.Stamped es clock ∧ (∀ x ∈ es.toList, G x.key) ∧ ∀ k v, f k = some v ↔ ∃ x ∈ es.toList, x.key = k ∧ x.val = v
def FRelV (M : Pm) (f : Value → Option T) (fv : Value → Option Value) : Prop := (∀ k t, f k = some t → ∃ v, fv k = some v ∧ Rel M t v) ∧ ∀ k, f k = none → fv k = none
def ObRel (M : Pm) (w : World) : Nat × Ob → Prop
 | (b, .cells cs) => ∃ (C : Array Value) (t : TypeId), Hc w b C t ∧ RelL M cs C.toList ∧ ∀ o, M b o = none
 | (_, .room k _ n x) => (x = .slice none 0 0 ∧ n = 0) ∨ ∃ (g z cap : Nat) (C : Array Value) (tr : TypeId), x = .slice (some ⟨g, z, none⟩) n cap ∧ Hc w g C tr ∧ n ≤ cap ∧ cap ≤ maxLen ∧ C.size = z + cap * k ∧ ∀ j, z + n * k ≤ j → M g j = none
 | (b, .map kd f es ck) => w.heap[b]? = some (.map es ck) ∧ (∃ fv, MapE es ck kd fv ∧ FRel M f fv) ∧ ∀ o, M b o = none
 | (b, .iter _ mb kd es ck left cur) => IterE w b mb es ck kd left cur ∧ ∀ o, M b o = none
 | (b, .kv _ G f) => (∃ es ck fv, w.heap[b]? = some (.map es ck) ∧ MapV es ck G fv ∧ FRelV M f fv) ∧ ∀ o, M b o = none
 | (b, .fix cs) => RelA M b cs 0
 | (b, .siter z pos) => w.heap[b]? = some (.stringIter z pos) ∧ ∀ o, M b o = none
 | (b, .whole C t fz) => w.heap[b]? = some (.cells C t fz)
 | (_, .gone) => True
abbrev Obs := List (Nat × Ob)
abbrev Glb := Nat → Option Ob
def Dom (ob : Obs) (gl : Glb) (b : Nat) : Prop := (∃ (i : Nat) (x : Nat × Ob), ob[i]? = some x ∧ obBlk x = some b) ∨ (gl b).isSome = true
structure HRel (M : Pm) (ob : Obs) (gl : Glb) (w : World) : Prop where
 promise : ∀ b o v, M b o = some v → w.cell? ⟨b, o, none⟩ = some v ∧ v.oneCell' = true
 objs : ∀ (i : Nat) (x : Nat × Ob), ob[i]? = some x → ObRel M w x
 apart : ∀ (i j : Nat) (x y : Nat × Ob) (b : Nat), ob[i]? = some x → ob[j]? = some y → obBlk x = some b → obBlk y = some b → i = j
 glob : ∀ (b : Nat) (x : Ob), gl b = some x → obBlk (b, x) = some b ∧ ObRel M w (b, x)
 sep : ∀ (i : Nat) (x : Nat × Ob) (b : Nat), ob[i]? = some x → obBlk x = some b → gl b = none
structure Ctx where
 w0 : World
 D : Nat → Prop
 M0 : Pm
structure Grew (Γ : Ctx) (M : Pm) (ob : Obs) (gl : Glb) (w : World) : Prop where
 more : Γ.M0.le M
 only : ∀ b o v, M b o = some v → Γ.M0 b o = some v ∨ Γ.D b ∨ Γ.w0.heap.size ≤ b
 fr : Fr Γ.D Γ.w0 w
 own : ∀ b, Dom ob gl b → Γ.D b ∨ Γ.w0.heap.size ≤ b
def CanCall (P : Program) (f : FuncId) : Prop := ∀ (args : Array Value) (w : World), (callFunc f args).run P w = .ok (.enter f args) w
structure TCalls (P : Program) (f : FuncId) (ts : List T) (ob : Obs) (gl : Glb) (Q : T → Obs → Glb → Prop) : Prop where
 can : CanCall P f
 calls : ∀ (M : Pm) (w : World) (xs : Array Value), HRel M ob gl w → RelL M ts xs.toList →
  Calls P f xs w fun e w' => ∃ x r M' ob' gl', e = .returned x ∧ Rel M' r x ∧ HRel M' ob' gl' w' ∧ Grew ⟨w, Dom ob gl, M⟩ M' ob' gl' w' ∧ Q r ob' gl'
def T.weak1 : T → T
 | .slx k _ es _ => .sl k es
 | t => t
def T.weak : T → T
 | .agg cs => .agg (cs.map T.weak1)
 | t => t.weak1
def merge (sel : List Nat) (ob' ob : Obs) : Obs := ob.zipIdx.map (fun p => match sel.idxOf? p.2 with | some j => ob'.getD j p.1 | none => p.1) ++ ob'.drop sel.length
def ix0 (f : Nat → Nat) : T → T
 | .ptr i b o => .ptr (f i) b o
 | .slx k i es x => .slx k (f i) es x
 | .mp i b => .mp (f i) b
 | .sa i b o n cap => .sa (f i) b o n cap
 | t => t
def ix1 (f : Nat → Nat) : T → T
 | .fn g cs => .fn g (cs.map (ix0 f))
 | .fb g bs => .fb g (bs.map (ix0 f))
 | t => ix0 f t
def ix2 (f : Nat → Nat) : T → T
 | .agg cs => .agg (cs.map (ix1 f))
 | t => ix1 f t
def ix3 (f : Nat → Nat) : T → T
 | .tup ts => .tup (ts.map (ix2 f))
 | t => ix2 f t
def ixOb (f : Nat → Nat) : Nat × Ob → Nat × Ob
 | (b, .cells cs) => (b, .cells (cs.map (ix1 f)))
 | x => x
def reix (keep : List Nat) : T → T := ix3 fun i => keep.idxOf i
def reixOb (keep : List Nat) : Nat × Ob → Nat × Ob := ixOb fun i => keep.idxOf i
def fwdT (sel : List Nat) : T → T := if sel = List.range sel.length then id else ix3 fun i => sel.idxOf i
def fwdO (sel : List Nat) : Nat × Ob → Nat × Ob := if sel = List.range sel.length then id else ixOb fun i => sel.idxOf i
def bkIx (sel : List Nat) (n i : Nat) : Nat := match sel[i]? with | some j => j | none => n + (i - sel.length)
def bkT (sel : List Nat) (n m : Nat) : T → T := if sel = List.range sel.length ∧ (n = sel.length ∨ m = sel.length) then id else ix3 (bkIx sel n)
def bkO (sel : List Nat) (n m : Nat) : Nat × Ob → Nat × Ob := if sel = List.range sel.length ∧ (n = sel.length ∨ m = sel.length) then id else ixOb (bkIx sel n)
def callPost : Hint → T → Obs → Glb → Prop
 | .call _ α post sel g r ob gl, r', ob', gl' => ∃ a : α, post a ∧ r' = r a ∧ ob' = ob a ∧ sel.length ≤ ob'.length ∧ (g = true → gl' = gl a)
 | _, _, _, _ => False
def Hint.at (s : S) (args : List T) : Hint → Hint
 | .withB f => f (s.ob.map (·.1))
 | .withA f => f s.ob args
 | h => h
def eCall1 (P : Program) (s : S) (d : Option Tmp) (h : Hint) (f : FuncId) (args : List T) (K : S → Prop) : Prop :=
 match h with
 | .call wk α post sel g r ob gl =>
  if sel.Nodup ∧ sel.all (fun i => decide (i < s.ob.length)) = true then
   TCalls P f ((if wk then args.map T.weak else args).map (fwdT sel)) ((sel.filterMap (fun i => s.ob[i]?)).map (fwdO sel)) (if g then s.gl else fun _ => none) (callPost h) ∧
   ∀ a : α, post a → K (({ s with ob := merge sel ((ob a).map (bkO sel s.ob.length (ob a).length)) s.ob, gl := if g then gl a else s.gl } : S).put d (bkT sel s.ob.length (ob a).length (r a)))
  else False
 | _ => False
def noIx : T → Bool
 | .ptr .. => false
 | .slx .. => false
 | .mp .. => false
 | .sa .. => false
 | .fn .. => false
 | .fb .. => false
 | _ => true
def plainO : List (Nat × Ob) → Prop
 | [] => True
 | (_, .cells cs) :: l => cs.all noIx = true ∧ plainO l
 | _ :: l => plainO l
def eCallP (P : Program) (s : S) (d : Option Tmp) (h : Hint) (f : FuncId) (args : List T) (K : S → Prop) : Prop :=
 match h with
 | .call wk α post sel g r ob gl =>
  if sel.Nodup ∧ sel.all (fun i => decide (i < s.ob.length)) = true then
   plainO (sel.filterMap (fun i => s.ob[i]?)) ∧ TCalls P f ((if wk then args.map T.weak else args).map (fwdT sel)) (sel.filterMap (fun i => s.ob[i]?)) (if g then s.gl else fun _ => none) (callPost h) ∧
   ∀ a : α, post a → plainO (ob a) ∧ K (({ s with ob := merge sel (ob a) s.ob, gl := if g then gl a else s.gl } : S).put d (bkT sel s.ob.length (ob a).length (r a)))
  else False
 | _ => False
def plainX : Nat × Ob → Prop
 | (_, .cells cs) => cs.all noIx = true
 | _ => True
def plainN (N : List Nat) : Nat → List (Nat × Ob) → Prop
 | _, [] => True
 | i, x :: l => match N.contains i with | true => plainX x ∧ plainN N (i + 1) l | false => plainN N (i + 1) l
def mapN (N : List Nat) (g : Nat × Ob → Nat × Ob) : Nat → List (Nat × Ob) → List (Nat × Ob)
 | _, [] => []
 | i, x :: l => (match N.contains i with | true => x | false => g x) :: mapN N g (i + 1) l
def eCallN (P : Program) (s : S) (d : Option Tmp) (N : List Nat) (h : Hint) (f : FuncId) (args : List T) (K : S → Prop) : Prop :=
 match h with
 | .call wk α post sel g r ob gl =>
  if sel.Nodup ∧ sel.all (fun i => decide (i < s.ob.length)) = true then
   plainN N 0 (sel.filterMap (fun i => s.ob[i]?)) ∧ TCalls P f ((if wk then args.map T.weak else args).map (fwdT sel)) (mapN N (fwdO sel) 0 (sel.filterMap (fun i => s.ob[i]?))) (if g then s.gl else fun _ => none) (callPost h) ∧
   ∀ a : α, post a → plainN N 0 (ob a) ∧ K (({ s with ob := merge sel (mapN N (bkO sel s.ob.length (ob a).length) 0 (ob a)) s.ob, gl := if g then gl a else s.gl } : S).put d (bkT sel s.ob.length (ob a).length (r a)))
  else False
 | _ => False
def eCall (P : Program) (s : S) (d : Option Tmp) (h : Hint) (f : FuncId) (args : List T) (K : S → Prop) : Prop :=
 match h.at s args with
 | .plain h => eCallP P s d h f args K
 | .plainAt N h => eCallN P s d N h f args K
 | h => eCall1 P s d h f args K
def mapOf (P : Program) (t : TypeId) : Option (IntKind × TypeId) := match P.underlying t with | some (.map k e) => (match P.underlying k with | some (.int kd) => some (kd, e) | _ => none) | _ => none
def zeroVal (P : Program) (e : TypeId) : Option T := ((P.info? e).bind (·.zero)).map ofC
def vLookup (P : Program) (s : S) (o : Oper) (h : Hint) (t : TypeId) (x ix : Operand) (ok : Bool) (k : T → Prop) : Prop :=
 match s.eval x with
 | .mp i b => (match s.ob[i]?, mapOf P t, intT (s.eval ix) with
  | some (b', .map kd f _ _), some (kd', e), some (kd'', z) => (match zeroVal P e with
   | some zt => if kd' = kd ∧ kd'' = kd then b' = b ∧ claim h (some (if ok then .tup [(f z).getD zt, .v (.bool (f z).isSome)] else (f z).getD zt)) k else False
   | none => False)
  | _, _, _ => False)
 | _ => flatK P s o k
def eMakeMap (P : Program) (s : S) (d : Option Tmp) (t : TypeId) (K : S → Prop) : Prop := match mapOf P t with
 | some (kd, _) => ∀ b, K (({ s with ob := s.ob ++ [(b, .map kd (fun _ => none) #[] 0)] } : S).put d (.mp s.ob.length b))
 | none => False
def updT (f : Int → Option T) (z : Int) (t : T) : Int → Option T := fun y => if y = z then some t else f y
def delT (f : Int → Option T) (z : Int) : Int → Option T := fun y => if y = z then none else f y
def turnMap (s : S) (i b : Nat) (kd : IntKind) (f : Int → Option T) (K : S → Prop) : Prop := ∀ es ck, K { s with ob := s.ob.set i (b, .map kd f es ck) }
def claimF (h : Hint) (f : Int → Option T) (k : (Int → Option T) → Prop) : Prop := match h with | .fn g => (∀ z, g z = f z) ∧ k g | _ => k f
def turnDel (s : S) (i b : Nat) (kd : IntKind) (f : Int → Option T) (es : Array MapEntry) (ck : Nat) (z : Int) (K : S → Prop) : Prop := ∀ es', DelE es es' (.int kd z) → K { s with ob := s.ob.set i (b, .map kd f es' ck) }
def turnUpd (s : S) (i b : Nat) (kd : IntKind) (f : Int → Option T) (es : Array MapEntry) (ck : Nat) (z : Int) (K : S → Prop) : Prop := ∀ es' ck', UpdE es ck es' ck' (.int kd z) → K { s with ob := s.ob.set i (b, .map kd f es' ck') }
def eUpdate (P : Program) (s : S) (h : Hint) (t : TypeId) (x ix y : Operand) (K : S → Prop) : Prop :=
 match s.eval x with
 | .mp i b => (match s.ob[i]?, mapOf P t, intT (s.eval ix) with
  | some (b', .map kd f es ck), some (kd', _), some (kd'', z) => if kd' = kd ∧ kd'' = kd then b' = b ∧ claimF h (updT f z (s.eval y)) (fun g => turnUpd s i b' kd g es ck z K) else False
  | _, _, _ => False)
 | _ => False
def eDelete (P : Program) (s : S) (h : Hint) (args : List T) (tys : List TypeId) (K : S → Prop) : Prop :=
 match args, tys with
 | [.mp i b, ix], [t, _] => (match s.ob[i]?, mapOf P t, intT ix with
  | some (b', .map kd f es ck), some (kd', _), some (kd'', z) => if kd' = kd ∧ kd'' = kd then b' = b ∧ claimF h (delT f z) (fun g => turnDel s i b' kd g es ck z K) else False
  | _, _, _ => False)
 | _, _ => False
def eClear (P : Program) (s : S) (args : List T) (tys : List TypeId) (K : S → Prop) : Prop :=
 match args, tys with
 | [.mp i b], [t] => (match s.ob[i]?, mapOf P t with
  | some (b', .map kd _ _ _), some _ => b' = b ∧ turnMap s i b' kd (fun _ => none) K
  | _, _ => False)
 | _, _ => False
def eLen (P : Program) (s : S) (h : Hint) (args : List T) (tys : List TypeId) (k : T → Prop) (other : Prop) : Prop :=
 match args, tys with
 | [.mp i b], [t] => (match s.ob[i]?, mapOf P t, h with
  | some (b', .map _ f _ _), some _, .num n => b' = b ∧ (∃ ks : List Int, ks.Nodup ∧ (∀ z, z ∈ ks ↔ (f z).isSome = true) ∧ n = ks.length) ∧ k (.v (.int .i64 n))
  | _, _, _ => False)
 | _, _ => other
def eRange (P : Program) (s : S) (d : Option Tmp) (t : TypeId) (x : Operand) (K : S → Prop) : Prop :=
 match s.eval x with
 | .mp i b => (match s.ob[i]?, mapOf P t with
  | some (b', .map kd f es ck), some _ => b' = b ∧ ∀ c : Nat, ∀ ks : List Int, ks.Nodup → (∀ z, z ∈ ks ↔ (f z).isSome = true) → K (({ s with ob := s.ob ++ [(c, .iter i b' kd es ck ks none)] } : S).put d (.ptr s.ob.length c 0))
  | _, _ => False)
 | _ => False
def eNext (s : S) (d : Option Tmp) (x : Operand) (K : S → Prop) : Prop :=
 match s.eval x with
 | .ptr j c 0 => (match s.ob[j]? with
  | some (c', .iter i mb kd es ck left _) => (match s.ob[i]? with
   | some (b', .map kd' f es' ck') => if kd' = kd then (c' = c ∧ b' = mb ∧ es' = es ∧ ck' = ck) ∧
     (left = [] → K (s.put d (.tup [.v (.bool false)]))) ∧
     ∀ z t, z ∈ left → f z = some t → K (({ s with ob := s.ob.set j (c', .iter i mb kd es ck (left.erase z) (some z)) } : S).put d (.tup [.v (.bool true), .v (.int kd z), t])) else False
   | _ => False)
  | _ => False)
 | _ => False
def resT (h : Hint) (f : Int → Option T) (z : Int) (K : T → Prop) : Prop :=
 match h with
 | .res t => f z = some t ∧ K t
 | _ => ∀ t, f z = some t → K t
theorem resT_out {h : Hint} {f : Int → Option T} {z : Int} {K : T → Prop} (H : resT h f z K) {t : T} (ht : f z = some t) : K t := by
 unfold resT at H
 split at H
 ·obtain ⟨h1, h2⟩ := H
  rw [ht] at h1
  injection h1 with h1
  exact h1 ▸ h2
 ·exact H t ht
def eEntry (s : S) (h : Hint) (d : Option Tmp) (x : Operand) (K : S → Prop) : Prop :=
 match s.eval x with
 | .ptr j c 0 => (match s.ob[j]? with
  | some (c', .iter i mb kd es ck _ cur) => (match s.ob[i]?, cur with
   | some (b', .map kd' f es' ck'), some z => if kd' = kd then (c' = c ∧ b' = mb ∧ es' = es ∧ ck' = ck) ∧ resT h f z fun t => K (s.put d (.tup [.v (.int kd z), t])) else False
   | _, _ => False)
  | _ => False)
 | _ => False
def slOf (k : Nat) : T → Option (List T)
 | .sl k' es => if k' = k then some es else none
 | .slx k' _ es _ => if k' = k then some es else none
 | .v (.slice none 0 0) => some []
 | .v (.string z) => if k = 1 then some (z.data.toList.map fun c => T.v (.int .u8 c.toNat)) else none
 | _ => none
def srcT (P : Program) (t : TypeId) (y : T) : Bool :=
 match P.underlying t, y with
 | some .string, .v (.string _) => true
 | some (.slice _), .v (.string _) => false
 | some (.slice _), _ => true
 | _, _ => false
def bytesT (P : Program) (e : TypeId) : Option Nat := (P.info? e).map (·.bytes)
def Fits (n bytes : Nat) : Prop := n * bytes ≤ 140737488355328 ∧ n ≤ maxLen
def grow (s : S) (d : Option Tmp) (i k : Nat) (e : TypeId) (es : List T) (K : S → Prop) : Prop :=
 ∀ x : Value, K (({ s with ob := if i < s.ob.length then s.ob.set i (0, .room k e es.length x) else s.ob ++ [(0, .room k e es.length x)] } : S).put d (.slx k i es x))
def eAppend (P : Program) (s : S) (d : Option Tmp) (args : List T) (tys : List TypeId) (K : S → Prop) : Prop :=
 match args, tys with
 | [a, y], [t, t'] => (match elemOfT P t with
  | some (none, e) => (match sizeT P e, bytesT P e, zeroT P e with
   | some k, some bytes, some z => if srcT P t' y = true ∧ 0 < k ∧ z.length = k then (match slOf k y with
    | some ys => (match a with
     | .v (.slice none 0 0) => Fits ys.length bytes ∧ grow s d s.ob.length k e ys K
     | .slx k2 i es x => (match s.ob[i]? with
      | some (_, .room k3 e3 n x') => (x' = x ∧ n = es.length) ∧ Fits (es.length + ys.length) bytes ∧ (if k2 = k ∧ k3 = k ∧ e3 = e then grow s d i k e (es ++ ys) K else False)
      | _ => False)
     | _ => False)
    | none => False) else False
   | _, _, _ => False)
  | _ => False)
 | _, _ => False
def eBuild0 (P : Program) (s : S) (d : Option Tmp) (t : TypeId) (parts : Array (Nat × Operand)) (K : S → Prop) : Prop :=
 match elemOfT P t, parts.toList with
 | some (none, e), [] => (match sizeT P e with
  | some _ => K (s.put d .s0)
  | none => False)
 | _, _ => False
def srcM (s : S) (k : Nat) (y : T) (K : Nat → List T → Prop) : Prop :=
 match y with
 | .sa j b o n _ => (match s.ob[j]? with
  | some (b', .cells cs) => b' = b ∧ (o + n * k ≤ cs.length ∧ ((cs.drop o).take (n * k)).all T.one = true) ∧ K n ((cs.drop o).take (n * k))
  | _ => False)
 | .s0 => K 0 []
 | _ => (match slOf k y with
  | some ys => K ys.length (ys.flatMap elCells)
  | none => False)
def newArr (s : S) (d : Option Tmp) (k m : Nat) (us : List T) (K : S → Prop) : Prop :=
 ∀ g cap : Nat, m ≤ cap → cap ≤ 9223372036854775807 → K (({ s with ob := s.ob ++ [(g, .cells (us ++ List.replicate ((cap - m) * k) .und))] } : S).put d (.sa s.ob.length g 0 m cap))
def toArr (s : S) (d : Option Tmp) (h : Hint) (a : T) (k bytes m : Nat) (us : List T) (K : S → Prop) : Prop :=
 match a with
 | .sa i b o n cap => (match s.ob[i]? with
  | some (b', .cells cs) => b' = b ∧ (n + m ≤ cap → o + n * k + m * k ≤ cs.length ∧ claimL h (setCells cs (o + n * k) us) fun cs' => K (({ s with ob := s.ob.set i (b', .cells cs') } : S).put d (.sa i b o (n + m) cap))) ∧
    (cap < n + m → (o + n * k ≤ cs.length ∧ ((cs.drop o).take (n * k)).all T.one = true) ∧ Fits (n + m) bytes ∧ newArr s d k (n + m) ((cs.drop o).take (n * k) ++ us) K)
  | _ => False)
 | .s0 => (m = 0 → K (s.put d .s0)) ∧ (m ≠ 0 → Fits m bytes ∧ newArr s d k m us K)
 | .v (.slice none 0 0) => (m = 0 → K (s.put d a)) ∧ (m ≠ 0 → Fits m bytes ∧ newArr s d k m us K)
 | _ => False
def eAppendM (P : Program) (s : S) (d : Option Tmp) (h : Hint) (args : List T) (tys : List TypeId) (K : S → Prop) : Prop :=
 match args, tys with
 | [a, y], [t, t'] => (match elemOfT P t with
  | some (none, e) => (match sizeT P e, bytesT P e, zeroT P e with
   | some k, some bytes, some z => if srcT P t' y = true ∧ 0 < k ∧ z.length = k then srcM s k y fun m us => toArr s d h a k bytes m us K else False
   | _, _, _ => False)
  | _ => False)
 | _, _ => False
def isM (h : Hint) : List T → Bool
 | [.sa .., _] => true
 | [.s0, _] => true
 | [_, .sa ..] => true
 | [.v (.slice none 0 0), _] => (match h with | .glob => true | _ => false)
 | _ => false
def eClearM (P : Program) (s : S) (h : Hint) (args : List T) (tys : List TypeId) (K : S → Prop) : Prop :=
 match args, tys with
 | [.sa i b o n _], [t] => (match elemOfT P t with
  | some (none, e) => (match sizeT P e, zeroT P e, s.ob[i]? with
   | some k, some z, some (b', .cells cs) => if z.length = k ∧ z.all T.one = true then b' = b ∧ o + n * k ≤ cs.length ∧ claimL h (setCells cs o ((List.range (n * k)).map fun j => z.getD (j % k) .und)) fun cs' => K { s with ob := s.ob.set i (b', .cells cs') } else False
   | _, _, _ => False)
  | _ => False)
 | _, _ => False
def isMc : List T → Bool
 | [.sa ..] => true
 | _ => false
def eBuildSlx (P : Program) (s : S) (d : Option Tmp) (t : TypeId) (len : Nat) (parts : Array (Nat × Operand)) (K : S → Prop) : Prop :=
 match elemOfT P t with
 | some (none, e) => (match sizeT P e, aggOf P e, zeroT P e with
  | some k, some ag, some _ => if len * k ≤ 1000 ∧ 0 < k ∧ (ag = none → k = 1) then (match fillT (fun i => some (i * k, k)) (List.replicate (len * k) .und) (parts.toList.map fun p => (p.1, s.eval p.2)) with
   | some cs => if cs.all T.one = true then grow s d s.ob.length k e (chunk ag.isSome k len cs) K else False
   | none => False) else False
  | _, _, _ => False)
 | _ => False
def bytesL (z : ByteArray) : List T := z.data.toList.map fun c => T.v (.int .u8 c.toNat)
def convT (P : Program) (t u : TypeId) : Nat :=
 match P.underlying t, P.underlying u with
 | some (.slice e), some .string => (match P.underlying e with | some (.int .u8) => 1 | _ => 0)
 | some .string, some (.slice e) => (match P.underlying e with | some (.int .u8) => 2 | _ => 0)
 | _, _ => 0
def bytesOfT (s : S) (t : T) (k : List T → Prop) : Prop :=
 match t with
 | .sl kk es => if kk = 1 then k es else False
 | .slx kk _ es _ => if kk = 1 then k es else False
 | .s0 => k []
 | .v (.slice none 0 0) => k []
 | .sa j b o n _ => (match s.ob[j]? with | some (b', .cells cs) => b' = b ∧ o + n ≤ cs.length ∧ k ((cs.drop o).take n) | _ => False)
 | _ => False
def strT : List T → Option (List UInt8)
 | [] => some []
 | .v (.int .u8 n) :: ts => (strT ts).map (UInt8.ofNat n.toNat :: ·)
 | _ :: _ => none
def eToStr (s : S) (h : Hint) (x : Operand) (k : T → Prop) : Prop := bytesOfT s (s.eval x) fun es =>
 match h with
 | .res (.v (.string z)) => es = bytesL z ∧ k (.v (.string z))
 | _ => (match strT es with | some l => k (.v (.string ⟨l.toArray⟩)) | none => False)
def eToBytes (P : Program) (s : S) (d : Option Tmp) (h : Hint) (u : TypeId) (x : Operand) (K : S → Prop) : Prop :=
 match s.eval x with
 | .v (.string z) => z.size ≤ 140737488355328 ∧ (match h with
  | .glob => newArr s d 1 z.size (bytesL z) K
  | .plain _ => (match elemOfT P u with | some (none, e) => grow s d s.ob.length 1 e (bytesL z) K | _ => False)
  | _ => K (s.put d (.sl 1 (bytesL z))))
 | _ => False
def eMake (P : Program) (s : S) (d : Option Tmp) (h : Hint) (t : TypeId) (x y : Operand) (K : S → Prop) : Prop :=
 match elemOfT P t with
 | some (none, e) => (match sizeT P e, bytesT P e, zeroT P e, intT (s.eval x), intT (s.eval y) with
  | some k, some bytes, some z, some (_, n), some (_, c) => (0 ≤ n ∧ n ≤ c ∧ c * bytes ≤ 140737488355328 ∧ c ≤ 9223372036854775807 ∧ z.length = k) ∧
    claimL h ((List.range (c.toNat * k)).map fun j => z.getD (j % k) .und) fun cs => ∀ g, K (({ s with ob := s.ob ++ [(g, .cells cs)] } : S).put d (.sa s.ob.length g 0 n.toNat c.toNat))
  | _, _, _, _, _ => False)
 | _ => False
def compD : TypeDesc → Bool
 | .array .. => true
 | .struct .. => true
 | _ => false
structure KeyOk (P : Program) (kt : TypeId) (G : Value → Prop) : Prop where
 td : ∃ d, P.underlying kt = some d ∧ compD d = true
 eq : ∀ a b, G a → G b → ∃ q, eqV P 8 kt a b = some q ∧ (q = true ↔ a = b)
 ck : ∀ a, G a → ∀ e w, (Instr.checkKey e 10000 kt a).run P w = .ok () w
 same : ∀ a, G a → Instr.sameBits 10000 a a = true
def UpdK (g f : Value → Option T) (k : Value) (t : T) : Prop := g k = some t ∧ ∀ z, z ≠ k → g z = f z
def HasK (G : Value → Prop) (k : Value) : Prop := G k
def isKv (s : S) (x : Operand) : Bool :=
 match s.eval x with
 | .mp i _ => (match s.ob[i]? with | some (_, .kv ..) => true | _ => false)
 | _ => false
def eMakeV (P : Program) (s : S) (d : Option Tmp) (t : TypeId) (G : Value → Prop) (K : S → Prop) : Prop := match P.underlying t with
 | some (.map kt _) => ∀ b, K (({ s with ob := s.ob ++ [(b, .kv kt G (fun _ => none))] } : S).put d (.mp s.ob.length b))
 | _ => False
def vLookupV (P : Program) (s : S) (h : Hint) (t : TypeId) (x ix : Operand) (ok : Bool) (k : T → Prop) : Prop :=
 match s.eval x with
 | .mp i b => (match s.ob[i]?, P.underlying t, (s.eval ix).flat with
  | some (b', .kv kt G f), some (.map kt' e), some z => (match zeroVal P e with
   | some zt => if kt' = kt then (b' = b ∧ KeyOk P kt G ∧ HasK G z) ∧ claim h (some (if ok then .tup [(f z).getD zt, .v (.bool (f z).isSome)] else (f z).getD zt)) k else False
   | none => False)
  | _, _, _ => False)
 | _ => False
def eUpdateV (P : Program) (s : S) (h : Hint) (t : TypeId) (x ix y : Operand) (K : S → Prop) : Prop :=
 match s.eval x with
 | .mp i b => (match s.ob[i]?, P.underlying t, (s.eval ix).flat, h with
  | some (b', .kv kt G f), some (.map kt' _), some z, .kf g => if kt' = kt then (b' = b ∧ KeyOk P kt G ∧ HasK G z ∧ UpdK g f z (s.eval y)) ∧ K { s with ob := s.ob.set i (b', .kv kt G g) } else False
  | _, _, _, _ => False)
 | _ => False
def isStr (s : S) (x : Operand) : Bool :=
 match s.eval x with
 | .v (.string _) => true
 | _ => false
def eRangeS (P : Program) (s : S) (d : Option Tmp) (t : TypeId) (x : Operand) (K : S → Prop) : Prop :=
 match s.eval x with
 | .v (.string z) => (match P.underlying t with
  | some .string => ∀ c : Nat, K (({ s with ob := s.ob ++ [(c, .siter z 0)] } : S).put d (.ptr s.ob.length c 0))
  | _ => False)
 | _ => False
def AsciiAt (z : ByteArray) (pos r : Nat) : Prop := pos < z.size ∧ (z.get! pos).toNat = r ∧ r < 128
def eNextS (s : S) (d : Option Tmp) (x : Operand) (K : S → Prop) : Prop :=
 match s.eval x with
 | .ptr j c 0 => (match s.ob[j]? with
  | some (c', .siter z pos) => c' = c ∧ (pos < z.size → (∃ r, AsciiAt z pos r) ∧ ∀ r : Nat, AsciiAt z pos r → K (({ s with ob := s.ob.set j (c', .siter z (pos + 1)) } : S).put d (.tup [.v (.bool true), .v (.int .i64 pos), .v (.int .i32 r)]))) ∧ (z.size ≤ pos → K (s.put d (.tup [.v (.bool false)])))
  | _ => False)
 | _ => False
def eCopy (P : Program) (s : S) (d : Option Tmp) (h : Hint) (args : List T) (tys : List TypeId) (K : S → Prop) : Prop :=
 match args, tys with
 | [.sa i b o n _, .v (.string z)], [t, _] => (match elemOfT P t with
  | some (none, e) => (match sizeT P e, s.ob[i]? with
   | some 1, some (b', .cells cs) => b' = b ∧ (z.size ≤ n ∧ o + z.size ≤ cs.length) ∧ claimL h (setCells cs o (bytesL z)) fun cs' => K (({ s with ob := s.ob.set i (b', .cells cs') } : S).put d (.v (.int .i64 z.size)))
   | _, _ => False)
  | _ => False)
 | _, _ => False
def BornE (es : Array MapEntry) (kd : IntKind) (q z : Int) : Prop := ∃ x ∈ es.toList, (x.born : Int) = q ∧ x.key = .int kd z
def eMapEntry (P : Program) (s : S) (d : Option Tmp) (t : TypeId) (x ix : Operand) (K : S → Prop) : Prop :=
 match s.eval x with
 | .mp i b => (match s.ob[i]?, mapOf P t, intT (s.eval ix) with
  | some (b', .map kd f _ _), some (kd', e), some (kd'', z) => (match zeroVal P e with
   | some zt => if kd' = kd ∧ kd'' = kd then b' = b ∧ ∀ (q : Nat) (es : Array MapEntry) (ck : Nat), BornE es kd q z → K (({ s with ob := s.ob.set i (b', .map kd (updT f z ((f z).getD zt)) es ck) } : S).put d (.tup [(f z).getD zt, .v (.int .i64 q)])) else False
   | none => False)
  | _, _, _ => False)
 | _ => False
def eEntryStore (s : S) (h : Hint) (x ix y : Operand) (K : S → Prop) : Prop :=
 match s.eval x, h, s.eval ix with
 | .mp i b, .num z, .v (.int .i64 q) => (match s.ob[i]? with
  | some (b', .map kd f es _) => b' = b ∧ BornE es kd q z ∧ ∀ (es' : Array MapEntry) (ck' : Nat), K { s with ob := s.ob.set i (b', .map kd (updT f z (s.eval y)) es' ck') }
  | _ => False)
 | _, _, _ => False
def ex (P : Program) (o : Oper) (h : Hint) (s : S) (K : S → Prop) : Prop :=
 match o.op with
 | .load t x => vLoad P s h t x (fun t => K (s.put o.dst t))
 | .store t x y => eStore P s h t x y (fun s' => K (s'.put o.dst (.v undef)))
 | .alloc t => eAlloc P s o.dst t K
 | .box _ x => eBox s o.dst h x K
 | .buildSlice t len parts => if len = 0 then (match h with | .glob => eBuild0 P s o.dst t parts K | _ => eBuildNil P s o.dst t parts K) else (match h with | .plain _ => eBuildSlx P s o.dst t len parts K | _ => eBuildSlice P s o.dst t len parts K)
 | .makeMap t none => (match h with | .kv G => eMakeV P s o.dst t G K | _ => eMakeMap P s o.dst t K)
 | .makeSlice t x y => eMake P s o.dst h t x y K
 | .convert t u x => (match convT P t u with
  | 1 => eToStr s h x (fun t => K (s.put o.dst t))
  | 2 => eToBytes P s o.dst h u x K
  | _ => pv P s o h (fun t => K (s.put o.dst t)))
 | .lookup t x ix ok => if isKv s x = true then vLookupV P s h t x ix ok (fun t => K (s.put o.dst t)) else vLookup P s o h t x ix ok (fun t => K (s.put o.dst t))
 | .mapUpdate t x ix y => if isKv s x = true then eUpdateV P s h t x ix y (fun s' => K (s'.put o.dst (.v undef))) else eUpdate P s h t x ix y (fun s' => K (s'.put o.dst (.v undef)))
 | .mapEntry t x ix => eMapEntry P s o.dst t x ix K
 | .entryStore _ x ix y => eEntryStore s h x ix y (fun s' => K (s'.put o.dst (.v undef)))
 | .range t x => if isStr s x = true then eRangeS P s o.dst t x K else eRange P s o.dst t x K
 | .next x false => eNext s o.dst x K
 | .next x true => eNextS s o.dst x K
 | .entry x => eEntry s h o.dst x K
 | .call c => (match c.callee with
  | .builtin .append => if isM h (c.args.toList.map s.eval) = true then eAppendM P s o.dst h (c.args.toList.map s.eval) c.argTypes.toList K else eAppend P s o.dst (c.args.toList.map s.eval) c.argTypes.toList K
  | .builtin .copy => eCopy P s o.dst h (c.args.toList.map s.eval) c.argTypes.toList K
  | .builtin .delete => eDelete P s h (c.args.toList.map s.eval) c.argTypes.toList (fun s' => K (s'.put o.dst (.tup [])))
  | .builtin .clear => if isMc (c.args.toList.map s.eval) = true then eClearM P s h (c.args.toList.map s.eval) c.argTypes.toList (fun s' => K (s'.put o.dst (.tup []))) else eClear P s (c.args.toList.map s.eval) c.argTypes.toList (fun s' => K (s'.put o.dst (.tup [])))
  | .builtin .len => eLen P s h (c.args.toList.map s.eval) c.argTypes.toList (fun t => K (s.put o.dst t)) (pv P s o h (fun t => K (s.put o.dst t)))
  | .builtin _ => pv P s o h (fun t => K (s.put o.dst t))
  | .value f => (match s.eval f with
   | .fn g caps => eCall P s o.dst h g (c.args.toList.map s.eval ++ caps) K
   | .fb g bs => eCall P s o.dst h g (bs ++ c.args.toList.map s.eval) K
   | _ => False)
  | .invoke .. => False)
 | _ => pv P s o h (fun t => K (s.put o.dst t))
def exg (P : Program) (ops : List Oper) (o : Oper) (h : Hint) (s : S) (K : S → Prop) : Prop :=
 match o.guard with
 | none => ex P o h s K
 | some (g, want) => (match (ops[g]?).bind (·.dst) with
  | some t => (match s.fr.getD t .und with
   | .v (.bool b) => bsplit b (if want then ex P o h (s.put (some t) (.v (.bool true))) K else K ((s.put (some t) (.v (.bool true))).put o.dst (.v undef)))
     (if want then K ((s.put (some t) (.v (.bool false))).put o.dst (.v undef)) else ex P o h (s.put (some t) (.v (.bool false))) K)
   | .v (.tuple _) => K (s.put o.dst (.v undef))
   | _ => False)
  | none => False)
def exL (P : Program) (ops : List Oper) (H : Nat → Hint) : Nat → List Oper → S → (S → Prop) → Prop
 | _, [], s, K => K s
 | i, o :: os, s, K => exg P ops o (H i) s fun s' => exL P ops H (i + 1) os s' K
def exq (P : Program) (N : List Nat) (held fst : Bool) (o : Oper) (h : Hint) (s : S) (k : T → Prop) : Prop :=
 match o.op with
 | .load t x => if held then (match s.eval x with
  | .ptr i _ _ => if N.contains i then vLoad P s h t x k else False
  | .pim _ => if fst then vLoad P s h t x k else False
  | _ => False) else False
 | .lookup t x ix ok => if held then (match s.eval x with
  | .mp i _ => if N.contains i then vLookup P s o h t x ix ok k else False
  | _ => False) else False
 | _ => pv P s o h k
def exqg (P : Program) (ops : List Oper) (N : List Nat) (held fst : Bool) (o : Oper) (h : Hint) (s : S) (K : S → Prop) : Prop :=
 match o.guard with
 | none => exq P N held fst o h s (fun t => K (s.put o.dst t))
 | some (g, want) => (match (ops[g]?).bind (·.dst) with
  | some t => (match s.fr.getD t .und with
   | .v (.bool b) => bsplit b (if want then exq P N held fst o h (s.put (some t) (.v (.bool true))) (fun u => K ((s.put (some t) (.v (.bool true))).put o.dst u)) else K ((s.put (some t) (.v (.bool true))).put o.dst (.v undef)))
     (if want then K ((s.put (some t) (.v (.bool false))).put o.dst (.v undef)) else exq P N held fst o h (s.put (some t) (.v (.bool false))) (fun u => K ((s.put (some t) (.v (.bool false))).put o.dst u)))
   | .v (.tuple _) => K (s.put o.dst (.v undef))
   | _ => False)
  | none => False)
def exQ (P : Program) (ops : List Oper) (H : Nat → Hint) (N : List Nat) (held fst : Bool) : List Nat → S → (S → Prop) → Prop
 | [], s, K => K s
 | i :: is, s, K => (match ops[i]? with
  | some o => exqg P ops N held fst o (H i) s (fun s' => exQ P ops H N held fst is s' K)
  | none => False)
def exr (P : Program) (o : Oper) (h : Hint) (s : S) (k : T → Prop) : Prop :=
 match o.op with
 | .load t x => vLoad P s h t x k
 | .lookup t x ix ok => (match s.eval x with
  | .mp _ _ => vLookup P s o h t x ix ok k
  | _ => False)
 | _ => pv P s o h k
def exrg (P : Program) (ops : List Oper) (o : Oper) (h : Hint) (s : S) (K : S → Prop) : Prop :=
 match o.guard with
 | none => exr P o h s (fun t => K (s.put o.dst t))
 | some (g, want) => (match (ops[g]?).bind (·.dst) with
  | some t => (match s.fr.getD t .und with
   | .v (.bool b) => bsplit b (if want then exr P o h (s.put (some t) (.v (.bool true))) (fun u => K ((s.put (some t) (.v (.bool true))).put o.dst u)) else K ((s.put (some t) (.v (.bool true))).put o.dst (.v undef)))
     (if want then K ((s.put (some t) (.v (.bool false))).put o.dst (.v undef)) else exr P o h (s.put (some t) (.v (.bool false))) (fun u => K ((s.put (some t) (.v (.bool false))).put o.dst u)))
   | .v (.tuple _) => K (s.put o.dst (.v undef))
   | _ => False)
  | none => False)
def exR (P : Program) (ops : List Oper) (H : Nat → Hint) : List Nat → S → (S → Prop) → Prop
 | [], s, K => K s
 | i :: is, s, K => (match ops[i]? with
  | some o => exrg P ops o (H i) s (fun s' => exR P ops H is s' K)
  | none => False)
def hide (N : List Nat) (ob : Obs) : Obs := ob.zipIdx.map fun p => if N.contains p.2 then (0, .gone) else p.1
def back (N : List Nat) (ob ob' : Obs) : Obs := (ob.zipIdx.map fun p => if N.contains p.2 then p.1 else ob'.getD p.2 (0, .gone)) ++ ob'.drop ob.length
def exN (P : Program) (ops : List Oper) (N : List Nat) (b : Bool) (o : Oper) (h : Hint) (s : S) (K : S → Prop) : Prop :=
 if b then exg P ops o h { s with ob := hide N s.ob } (fun s' => K { s' with ob := back N s.ob s'.ob }) else exg P ops o h s K
def runPlan (P : Program) (ops : List Oper) (H : Nat → Hint) (N lax : List Nat) : Reg.Plan → Bool → Bool → S → (S → Prop) → Prop
 | .done, _, _, s, K => K s
 | .take held is p, b, f, s, K => exQ P ops H N held f is s fun s' => runPlan P ops H N lax p b f s' K
 | .one n p, b, _, s, K => (match ops[n]? with
  | some o => exN P ops N (b && !Reg.isIn lax n) o (H n) s fun s' => runPlan P ops H N lax p (b && !Reg.isIn lax n) false s' K
  | none => False)
 | .two n m p q, b, _, s, K => (match ops[n]?, ops[m]? with
  | some o, some o' => (exN P ops N (b && !Reg.isIn lax n) o (H n) s fun s' => runPlan P ops H N lax p (b && !Reg.isIn lax n) false s' K) ∧
    (exN P ops N (b && !Reg.isIn lax m) o' (H m) s fun s' => runPlan P ops H N lax q (b && !Reg.isIn lax m) false s' K)
  | _, _ => False)
 | .three n m l p q r, b, _, s, K => (match ops[n]?, ops[m]?, ops[l]? with
  | some o, some o', some o'' => (exN P ops N (b && !Reg.isIn lax n) o (H n) s fun s' => runPlan P ops H N lax p (b && !Reg.isIn lax n) false s' K) ∧
    (exN P ops N (b && !Reg.isIn lax m) o' (H m) s fun s' => runPlan P ops H N lax q (b && !Reg.isIn lax m) false s' K) ∧
    (exN P ops N (b && !Reg.isIn lax l) o'' (H l) s fun s' => runPlan P ops H N lax r (b && !Reg.isIn lax l) false s' K)
  | _, _, _ => False)
structure RPlan where
 N : List Nat
 lax : List Nat
 p : Reg.Plan
def planOk (P : Program) (ops : List Oper) (pl : RPlan) : Bool :=
 P.follows .mixedOrders && Region.noSelect ops.toArray && pl.p.ok .any ops.toArray (Reg.isIn pl.lax) (Array.replicate ops.length false) true && decide (pl.p.len ≤ ops.length)
inductive It where
 | code (c : Code)
 | blk (id : Nat)
def key : Code → Nat × Nat
 | .region id _ _ => (0, id)
 | .seq a _ => key a
 | .block id _ => (1, id)
 | .loop c => (2, (key c).2)
 | .cond _ a _ => (3, (key a).2)
 | .exit id => (4, id)
 | .ret => (5, 0)
 | _ => (6, 0)
def unwind (id : Nat) : List It → Option (List It)
 | [] => none
 | .blk i :: k => if i = id then some k else unwind id k
 | _ :: k => unwind id k
def S.know (s : S) (x : Operand) (b : Bool) : S := match x with | .tmp t => s.put (some t) (.v (.bool b)) | _ => s
def trim (live : List Nat) (n : Nat) (s : S) : S := { s with fr := s.fr.zipIdx.map (fun p => if live.contains p.2 then p.1 else .und), ob := s.ob.take n }
structure Hs where
 op : Nat → Nat → Hint
 cuts : List ((Nat × Nat) × (List Nat × Nat))
 plan : Nat → Option RPlan := fun _ => none
def Hs.cut (H : Hs) (c : Code) : Option (List Nat × Nat) := H.cuts.lookup (key c)
def run (P : Program) (H : Hs) (R : S → Prop) (L : List It → S → Prop) : Nat → Bool → List It → S → Prop
 | 0, _, k, s => L k s
 | _ + 1, _, [], s => R s
 | n + 1, f, .blk _ :: k, s => run P H R L n f k s
 | n + 1, f, .code c :: k, s =>
  match (if f then none else H.cut c) with
  | some (live, m) => L (.code c :: k) (trim live m s)
  | none =>
   match c with
   | .skip => run P H R L n f k s
   | .label _ => run P H R L n f k s
   | .seq a b => run P H R L n f (.code a :: .code b :: k) s
   | .block id b => run P H R L n f (.code b :: .blk id :: k) s
   | .loop b => run P H R L n false (.code b :: .code (.loop b) :: k) s
   | .exit id => (match unwind id k with | some k' => run P H R L n false k' s | none => False)
   | .ret => R s
   | .cond x a b => (match s.eval x with
    | .v (.bool t) => bsplit t (run P H R L n false (.code a :: k) (s.know x true)) (run P H R L n false (.code b :: k) (s.know x false))
    | _ => False)
   | .region id ops d => if d then (match H.plan id with
     | some pl => if planOk P ops.toList pl && pl.N.all (fun i => decide (i < s.ob.length)) then runPlan P ops.toList (H.op id) pl.N pl.lax pl.p true true s fun s' => run P H R L n false k s' else False
     | none => if planOk P ops.toList ⟨[], [], .take true (List.range ops.size) .done⟩ then exR P ops.toList (H.op id) (List.range ops.size) s fun s' => run P H R L n false k s' else False) else exL P ops.toList (H.op id) 0 ops.toList s fun s' => run P H R L n false k s'
   | _ => False
def T.weak1K (keep : List Nat) : T → T
 | .slx k i es x => if keep.contains i then .slx k i es x else .sl k es
 | t => t
def T.weakK (keep : List Nat) : T → T
 | .agg cs => .agg (cs.map (T.weak1K keep))
 | t => t.weak1K keep
def finR (P : Program) (keep : List Nat) (s : S) : List ResultVar → (List T → Prop) → Prop
 | [], k => k []
 | .tmp t :: rs, k => finR P keep s rs fun ts => k ((s.fr.getD t .und).weakK keep :: ts)
 | .cell a t :: rs, k => cellsAt s .no (s.fr.getD a .und) fun cs => claim .no (loadT P t cs) fun u => finR P keep s rs fun ts => k (u.weakK keep :: ts)
def fin (P : Program) (fn : Func) (keep : List Nat) (Q : T → Obs → Glb → Prop) (s : S) : Prop :=
 if keep.Nodup ∧ keep.all (fun i => decide (i < s.ob.length)) = true then
  finR P keep s fn.results.toList fun ts => if keep = List.range keep.length then Q (match ts with | [t] => t | ts => .tup ts) (keep.filterMap fun i => s.ob[i]?) s.gl else Q (match ts with | [t] => reix keep t | ts => reix keep (.tup ts)) ((keep.filterMap fun i => s.ob[i]?).map (reixOb keep)) s.gl
 else False
def bd (fn : Func) : Code := fn.body.getD .skip
def sub : Code → List Nat → Code
 | c, [] => c
 | .seq a b, i :: l => if i = 0 then sub a l else sub b l
 | .cond _ a b, i :: l => if i = 0 then sub a l else sub b l
 | .block _ a, _ :: l => sub a l
 | .loop a, _ :: l => sub a l
 | c, _ => c
def st0 (fn : Func) (ts : List T) (ob : Obs) (gl : Glb) : S := { fr := ts ++ List.replicate (fn.ntmps - ts.length) (.v undef), ob := ob, gl := gl }
end Go.Proofs.Ytafcbipmmjegcaa.Vm
