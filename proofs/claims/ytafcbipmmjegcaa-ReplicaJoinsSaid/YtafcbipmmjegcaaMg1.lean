/- Texts of this claim: Base, Region, BaseB, BaseC. -/
import Derived.WalkKit
import Derived.WalkSpells
import Derived.WalkLawsBesides
import Derived.Lib.Hide
import Derived.Deep.Draws
import Derived.Lib.AppendStr
import Derived.Deep.LoopGhost
import Derived.ChangeSame
import Derived.OrdersHeld
import Derived.StillTail
import Derived.Deep.QuietTactic
import Derived.BigQuiet
import Derived.Deep.RegionHeld3
import Derived.Below
import Derived.Deep.AppendLies
namespace Go.Proofs.Ytafcbipmmjegcaa
open Go.RowKit Go.ChangeShapes Go.WideShapes
def Blk (w : World) (g : Nat) (t : TypeId) (cs : Array Value) : Prop := w.heap[g]? = some (.cells cs t (0, 0))
section
variable {w w' : World} {g : Nat} {t : TypeId} {cs : Array Value}
theorem Blk.lt (h : Blk w g t cs) : g < w.heap.size := by
 rcases Nat.lt_or_ge g w.heap.size with hlt | hge
 ·exact hlt
 ·unfold Blk at h; rw [Array.getElem?_eq_none hge] at h; cases h
theorem Blk.cell (h : Blk w g t cs) (i : Nat) : w.cell? ⟨g, i, none⟩ = cs[i]? := cell_of_row w g i cs t (0, 0) h
theorem Blk.frozen (h : Blk w g t cs) (i : Nat) : w.frozen? ⟨g, i, none⟩ = false := by
 unfold Blk at h
 simp [World.frozen?, h]
theorem Blk.new (w : World) (t : TypeId) (cs : Array Value) : Blk (w.alloc (.cells cs t)) w.heap.size t cs := heap_alloc_new w _
theorem Blk.drew (h : Blk w g t cs) : Blk w.drew g t cs := h
theorem Blk.alloc (h : Blk w g t cs) (o : Obj) : Blk (w.alloc o) g t cs := (Below.heap_alloc w o g h.lt).trans h
theorem Blk.far (h : Blk w g t cs) {p : Addr} (hp : g ≠ p.block) (u : Value) : Blk (w.setCell p u) g t cs := (Below.heap_setCell w p u g hp).trans h
theorem Blk.below {B : Nat} (h : Blk w g t cs) (hb : Below B w w') (hg : g < B) : Blk w' g t cs := (hb.block g hg).trans h
end
structure Fr (S : Nat → Prop) (w w' : World) : Prop where
 os : w'.os = w.os
 tape : w'.tape = w.tape
 output : w'.output = w.output
 size : w.heap.size ≤ w'.heap.size
 block : ∀ k, k < w.heap.size → ¬ S k → w'.heap[k]? = w.heap[k]?
section
variable {S S' : Nat → Prop} {a b c w w' : World}
theorem Fr.refl (S : Nat → Prop) (w : World) : Fr S w w := ⟨rfl, rfl, rfl, Nat.le_refl _, fun _ _ _ => rfl⟩
theorem Fr.trans (h : Fr S a b) (k : Fr S b c) : Fr S a c :=
 ⟨k.os.trans h.os, k.tape.trans h.tape, k.output.trans h.output, Nat.le_trans h.size k.size, fun i hi hs => (k.block i (Nat.lt_of_lt_of_le hi h.size) hs).trans (h.block i hi hs)⟩
theorem Fr.mono (h : Fr S a b) (hs : ∀ k, k < a.heap.size → S k → S' k) : Fr S' a b := ⟨h.os, h.tape, h.output, h.size, fun k hk hn => h.block k hk (fun x => hn (hs k hk x))⟩
theorem Fr.drew (h : Fr S a w) : Fr S a w.drew := ⟨h.os, h.tape, h.output, h.size, h.block⟩
theorem Fr.alloc (h : Fr S a w) (o : Obj) : Fr S a (w.alloc o) :=
 ⟨h.os, h.tape, h.output, Nat.le_trans h.size (by simp), fun k hk hs => (Below.heap_alloc w o k (Nat.lt_of_lt_of_le hk h.size)).trans (h.block k hk hs)⟩
theorem Fr.setCell (h : Fr S a w) {p : Addr} (hp : a.heap.size ≤ p.block ∨ S p.block) (u : Value) : Fr S a (w.setCell p u) :=
 ⟨h.os, h.tape, h.output, by simpa [World.setCell] using h.size, fun k hk hs => (Below.heap_setCell w p u k (by
  rintro rfl
  rcases hp with hp | hp
  ·omega
  ·exact hs hp)).trans (h.block k hk hs)⟩
theorem Fr.own {g : Nat} (h : Fr (· = g) a w) (i : Nat) (u : Value) : Fr (· = g) a (w.setCell ⟨g, i, none⟩ u) := Fr.setCell (p := ⟨g, i, none⟩) h (.inr rfl) u
theorem Fr.to_below (h : Fr (fun _ => False) a b) : Below a.heap.size a b := ⟨h.os, h.tape, h.output, h.size, fun k hk => h.block k hk id⟩
theorem Fr.back (h : Fr S a b) (k : Fr S' b c) (hs : ∀ i, i < a.heap.size → S' i → S i) : Fr S a c :=
 ⟨k.os.trans h.os, k.tape.trans h.tape, k.output.trans h.output, Nat.le_trans h.size k.size, fun i hi hn => (k.block i (Nat.lt_of_lt_of_le hi h.size) (fun x => hn (hs i hi x))).trans (h.block i hi hn)⟩
theorem Fr.blk (h : Fr S a b) {g : Nat} {t : TypeId} {cs : Array Value} (hb : Blk a g t cs) (hg : ¬ S g) : Blk b g t cs := (h.block g hb.lt hg).trans hb
theorem Fr.heap (h : Fr S a b) {g : Nat} (hlt : g < a.heap.size) (hg : ¬ S g) : b.heap[g]? = a.heap[g]? := h.block g hlt hg
end
def u8s (l : List UInt8) : Array Value := (l.map fun c => Value.int .u8 (c.toNat : Int)).toArray
def RowsAt (w : World) (B size : Nat) (A : Option Addr) (rows : List (List Value)) : Prop :=
 rows ≠ [] → ∃ b off, A = some ⟨b, off, none⟩ ∧ b < B ∧ ∀ (k : Nat) (row : List Value), rows[k]? = some row → ∀ (j : Nat) (u : Value), row[j]? = some u → w.cell? ⟨b, off + k * size + j, none⟩ = some u
section
variable {w w' : World} {B B' size : Nat} {A : Option Addr} {rows : List (List Value)}
theorem RowsAt.none_ : RowsAt w B size A [] := fun h => absurd rfl h
theorem RowsAt.keep (h : RowsAt w B size A rows) (hk : ∀ p : Addr, p.block < B → w'.cell? p = w.cell? p) : RowsAt w' B size A rows := fun hn => by
 obtain ⟨b, off, e, hb, hc⟩ := h hn
 exact ⟨b, off, e, hb, fun k row hr j u hu => (hk _ hb).trans (hc k row hr j u hu)⟩
theorem RowsAt.more (h : RowsAt w B size A rows) (hB : B ≤ B') : RowsAt w B' size A rows := fun hn => by
 obtain ⟨b, off, e, hb, hc⟩ := h hn
 exact ⟨b, off, e, by omega, hc⟩
theorem RowsAt.below (h : RowsAt w B size A rows) (hb : Below B w w') : RowsAt w' B size A rows := h.keep fun _ hp => hb.cell hp
theorem RowsAt.new (w : World) (size : Nat) (t : TypeId) (cs : Array Value) (rows : List (List Value)) (h : ∀ (k : Nat) (row : List Value), rows[k]? = some row → ∀ (j : Nat) (u : Value), row[j]? = some u → cs[k * size + j]? = some u) :
  RowsAt (w.alloc (.cells cs t)) (w.heap.size + 1) size (some ⟨w.heap.size, 0, none⟩) rows := fun _ => ⟨_, _, rfl, by omega, fun k row hr j u hu => by
 rw [Nat.zero_add, (Blk.new w t cs).cell]
 exact h k row hr j u hu⟩
end
theorem bs_ext {a b : ByteArray} (h : a.data.toList = b.data.toList) : a = b := by
 cases a; cases b; simp only [ByteArray.mk.injEq]; exact Array.ext' h
theorem bs_self (s : ByteArray) : (⟨s.data.toList.toArray⟩ : ByteArray) = s := bs_ext (by simp)
theorem bs_size (s : ByteArray) : s.data.toList.length = s.size := by rw [Array.length_toList]; rfl
inductive Stop (p : Prop) : Prop where
 | mk (h : p) : Stop p
theorem Stop.out {p : Prop} (h : Stop p) : p := by cases h; assumption
end Go.Proofs.Ytafcbipmmjegcaa
namespace Go.Proofs.Ytafcbipmmjegcaa.Reg
open Go Go.RowKit
section
variable {P : Program} {ops : Array Oper} {md : Region.Mode} {S : World → Prop} {lax : Nat → Bool} {Q : Exit → Act → World → Prop}
def NoLax (lax : Nat → Bool) (listed : Array Bool) : Prop := ∀ j, lax j = true → listed.getD j false = false
def wpAnyK (P : Program) (md : Region.Mode) (ops : Array Oper) (lax : Nat → Bool) (S : World → Prop) (Q : Exit → Act → World → Prop) : Nat → Array Bool → Act → World → Prop
 | 0, listed, a, w => Region.ready md ops listed = [] ∧ Q .normal a w
 | fuel + 1, listed, a, w =>
  (Region.ready md ops listed = [] → Q .normal a w) ∧
  ∀ i ∈ Region.ready md ops listed, wpOp P ops Q i (fun a' w' => (lax i = false → NoLax lax listed → S w → S w') ∧ wpAnyK P md ops lax S Q fuel (listed.setIfInBounds i true) a' w') a w
theorem any_of_K : ∀ (fuel : Nat) (listed : Array Bool) (a : Act) (w : World), wpAnyK P md ops lax S Q fuel listed a w → wpAny P md ops Q fuel listed a w
 | 0, _, _, _, h => h
 | fuel + 1, _, _, _, h => ⟨h.1, fun i hi => wpOp_mono (fun a' w' h' => any_of_K fuel _ a' w' h'.2) (h.2 i hi)⟩
def Closed (md : Region.Mode) (ops : Array Oper) (listed : Array Bool) : Prop :=
 listed.size = ops.size ∧ ∀ j oj, ops[j]? = some oj → listed.getD j false = true → ∀ e ∈ oj.after, Region.binds md e = true → listed.getD e.on false = true
theorem Closed.set {i : Nat} {listed : Array Bool} (inv : Closed md ops listed) (hi : i ∈ Region.ready md ops listed) : Closed md ops (listed.setIfInBounds i true) := by
 obtain ⟨_, oi, hoi, hall⟩ := mem_ready.1 hi
 refine ⟨by rw [Array.size_setIfInBounds]; exact inv.1, ?_⟩
 intro j oj hj hl e he hb
 by_cases hij : i = j
 ·subst hij
  have : oj = oi := Option.some.inj (hj.symm.trans hoi)
  subst this
  exact getD_set_true (hall e he hb)
 ·rw [getD_set_ne false hij] at hl
  exact getD_set_true (inv.2 j oj hj hl e he hb)
def mask (md : Region.Mode) : List Edge → Nat
 | [] => 0
 | e :: es => (if Region.binds md e then 2 ^ e.on else 0) ||| mask md es
theorem mask_spec {i : Nat} : ∀ (es : List Edge), (mask md es).testBit i = true → ∃ e ∈ es, Region.binds md e = true ∧ e.on = i
 | [], h => by simp [mask] at h
 | e :: es, h => by
  unfold mask at h
  rw [Nat.testBit_or, Bool.or_eq_true] at h
  rcases h with h | h
  ·cases hb : Region.binds md e with
   | false => rw [hb] at h; simp at h
   | true =>
    rw [hb, if_pos rfl, Nat.testBit_two_pow] at h
    exact ⟨e, by simp, hb, by simpa using h⟩
  ·obtain ⟨e', he, hx⟩ := mask_spec es h
   exact ⟨e', by simp [he], hx⟩
def down (md : Region.Mode) (ops : Array Oper) : Nat → Nat → Nat
 | 0, m => m
 | k + 1, m => down md ops k (match ops[k]? with | some o => if m.testBit k then m ||| mask md o.after.toList else m | none => m)
theorem down_spec {listed : Array Bool} (hc : Closed md ops listed) {j : Nat} (hj : ∀ o, ops[j]? = some o → ∀ e ∈ o.after, Region.binds md e = true → listed.getD e.on false = true) :
  ∀ (k m : Nat), (∀ i, m.testBit i = true → i = j ∨ listed.getD i false = true) → ∀ i, (down md ops k m).testBit i = true → i = j ∨ listed.getD i false = true
 | 0, _, hm, i, h => hm i h
 | k + 1, m, hm, i, h => by
  unfold down at h
  refine down_spec hc hj k _ ?_ i h
  intro i hi
  split at hi
  ·rename_i o ho
   split at hi
   ·rename_i hk
    rw [Nat.testBit_or, Bool.or_eq_true] at hi
    rcases hi with hi | hi
    ·exact hm i hi
    ·obtain ⟨e, he, hb, rfl⟩ := mask_spec _ hi
     rcases hm k hk with rfl | hl
     ·exact .inr (hj o ho e (by simpa using he) hb)
     ·exact .inr (hc.2 k o ho hl e (by simpa using he) hb)
   ·exact hm i hi
  ·exact hm i hi
def Keeps (md : Region.Mode) (ops : Array Oper) (lax : Nat → Bool) (S T : World → Prop) (i : Nat) : Prop :=
 ∀ j listed, Closed md ops listed → listed.getD i false = false → j ∈ Region.ready md ops listed → j ≠ i → ∀ w w', T w → (lax j = false → NoLax lax listed → S w → S w') → T w'
theorem keeps_true (i : Nat) : Keeps md ops lax S (fun _ => True) i := fun _ _ _ _ _ _ _ _ _ _ => trivial
def heldB (md : Region.Mode) (ops : Array Oper) (lax : Nat → Bool) (i : Nat) : Bool := (List.range ops.size).all fun j => !lax j || (down md ops ops.size (2 ^ j)).testBit i
theorem held_lax {i : Nat} (h : heldB md ops lax i = true) {j : Nat} (hx : lax j = true) (hjs : j < ops.size) : (down md ops ops.size (2 ^ j)).testBit i = true := by
 have h1 := List.all_eq_true.1 h j (List.mem_range.2 hjs)
 rw [hx] at h1
 simpa using h1
theorem bit_self {j i : Nat} (hi : (2 ^ j).testBit i = true) : i = j := by rw [Nat.testBit_two_pow] at hi; simpa using (of_decide_eq_true hi).symm
theorem keeps_held {i : Nat} (hli : lax i = false) (h : heldB md ops lax i = true) : Keeps md ops lax S S i := by
 intro j listed hc hl hj hne w w' hT hS
 obtain ⟨_, oj, hoj, hall⟩ := mem_ready.1 hj
 have hjs : j < ops.size := (Array.getElem?_eq_some_iff.1 hoj).1
 cases hx : lax j with
 | false =>
  refine hS hx (fun k hk => ?_) hT
  cases hlk : listed.getD k false with
  | false => rfl
  | true =>
   exfalso
   rcases Nat.lt_or_ge k ops.size with hks | hks
   ·rcases down_spec hc (fun o ho e he hb => hc.2 k o ho hlk e he hb) ops.size (2 ^ k) (fun i hi => .inl (bit_self hi)) i (held_lax h hk hks) with h2 | h2
    ·rw [h2, hk] at hli; cases hli
    ·rw [hl] at h2; cases h2
   ·rw [← hc.1] at hks
    simp [Array.getElem?_eq_none hks] at hlk
 | true =>
  exfalso
  rcases down_spec hc (fun o ho => by have : oj = o := Option.some.inj (hoj.symm.trans ho); subst this; exact hall) ops.size (2 ^ j) (fun i hi => .inl (bit_self hi)) i (held_lax h hx hjs) with h2 | h2
  ·exact hne h2.symm
  ·rw [hl] at h2; cases h2
theorem anyK_first {T : World → Prop} {i : Nat} {oi : Oper} {v : Value} (hi : ops[i]? = some oi) (hsel : ∀ (j : Nat) (o : Oper) cs b, ops[j]? = some o → o.op ≠ .select cs b)
  (hQ : ∀ c a w, Q (.panic c) (a.put oi.dst v) w → Q (.panic c) a w) (hli : lax i = false) (hT : Keeps md ops lax S T i) :
  ∀ (fuel : Nat) (listed : Array Bool) (a : Act) (w : World), Closed md ops listed →
   (∀ j oj, ops[j]? = some oj → j ≠ i → listed.getD j true = false → (∀ e ∈ oj.after, Region.binds md e = true → e.on ≠ i) → oi.apart ops oj = true) →
   i ∈ Region.ready md ops listed → YieldsIf P ops T oi v a → T w →
   wpAnyK P md ops lax S Q fuel (listed.setIfInBounds i true) (a.put oi.dst v) w → wpAnyK P md ops lax S Q (fuel + 1) listed a w := by
 intro fuel
 induction fuel with
 | zero =>
  intro listed a w _ _ hr hy hw H
  refine ⟨fun h => (by rw [h] at hr; cases hr), fun j hj => ?_⟩
  by_cases hji : j = i
  ·subst hji; exact hy.wpOp hi hw ⟨fun _ _ hs => hs, H⟩
  ·have := ready_mono hj hji
   rw [H.1] at this
   cases this
 | succ fuel ih =>
  intro listed a w hc hfree hr hy hw H
  refine ⟨fun h => (by rw [h] at hr; cases hr), fun j hj => ?_⟩
  by_cases hji : j = i
  ·subst hji; exact hy.wpOp hi hw ⟨fun _ _ hs => hs, H⟩
  ·have h1 := H.2 j (ready_mono hj hji)
   have hiun := getD_both (mem_ready.1 hr).1
   obtain ⟨hjun, oj, hoj, hall⟩ := mem_ready.1 hj
   have hnot : ∀ e ∈ oj.after, Region.binds md e = true → e.on ≠ i := fun e he hb heq => by
    have h1 := hall e he hb
    rw [heq, hiun] at h1
    cases h1
   have h2 := wpOp_putIf hoj (hfree j oj hoj hji hjun hnot) (fun cs b => hsel i oi cs b hi) (fun cs b => hsel j oj cs b hoj) hQ hy h1
   have hfree' : ∀ k ok, ops[k]? = some ok → k ≠ i → (listed.setIfInBounds j true).getD k true = false →
     (∀ e ∈ ok.after, Region.binds md e = true → e.on ≠ i) → oi.apart ops ok = true := fun k ok hk hki hun hno => by
    refine hfree k ok hk hki ?_ hno
    by_cases hjk : j = k
    ·subst hjk; exact hjun
    ·rw [getD_set_ne true hjk] at hun; exact hun
   have hset : NoLax lax listed → NoLax lax (listed.setIfInBounds i true) := fun hn k hk => by
    rw [getD_set_ne false (fun e => by rw [e, hk] at hli; cases hli)]; exact hn k hk
   refine wpOp_mono (fun a' w' h3 => ⟨fun h1 h2 h4 => h3.2.1 h1 (hset h2) h4, ih (listed.setIfInBounds j true) a' w' (hc.set hj) hfree' (ready_mono hr (Ne.symm hji)) h3.1 (hT j listed hc hiun hj hji w w' hw (fun h1 h2 h4 => h3.2.1 h1 (hset h2) h4)) ?_⟩) h2
   rw [Array.setIfInBounds_comm _ _ hji]
   exact h3.2.2
def valOp : Op → Bool
 | .move _ | .assign _ | .pick .. | .build .. | .load .. | .binOp .. | .unOp .. | .convert .. | .fieldAddr .. | .field .. | .indexAddr .. | .index .. | .lookup .. | .slice .. | .extract .. | .makeInterface .. | .nilCheck _ => true
 | .call { callee := .builtin .len, .. } | .call { callee := .builtin .cap, .. } | .call { callee := .builtin .max, .. } | .call { callee := .builtin .min, .. } => true
 | _ => false
theorem run_val {α : Type} (s : Sem α) (f : α → Value) (w : World) : (∃ v w', (s >>= fun x => pure (Next.value (f x)) : Sem Next).run P w = .ok (.value v) w') ∨ ∃ h w', (s >>= fun x => pure (Next.value (f x)) : Sem Next).run P w = .halt h w' := by
 rw [Sem.run_bind]
 cases s.run P w with
 | ok v w' => exact .inl ⟨f v, w', rfl⟩
 | halt x w' => exact .inr ⟨x, w', rfl⟩
theorem run_nilDeref (w : World) : ∃ h w', (runtimePanic .nilDeref : Sem Next).run P w = .halt h w' := ⟨_, _, rfl⟩
theorem run_ahead {β : Type} (s : Program → Sem β) (k : β → Sem Next) (hk : ∀ b w, (∃ v w', (k b).run P w = .ok (.value v) w') ∨ ∃ h w', (k b).run P w = .halt h w') (w : World) :
  (∃ v w', (program >>= fun p => s p >>= k : Sem Next).run P w = .ok (.value v) w') ∨ ∃ h w', (program >>= fun p => s p >>= k : Sem Next).run P w = .halt h w' := by
 rw [Sem.run_bind, show (program : Sem Program).run P w = .ok P w from rfl]
 dsimp only [Result.andThen]
 rw [Sem.run_bind]
 cases (s P).run P w with
 | halt h w' => exact .inr ⟨_, _, rfl⟩
 | ok b w' => exact hk b w'
theorem run_valOp {ρ : Operand → Value} {o : Oper} (h : valOp o.op = true) (w : World) : (∃ v w', (execOp ρ o).run P w = .ok (.value v) w') ∨ ∃ h w', (execOp ρ o).run P w = .halt h w' := by
 unfold valOp at h
 split at h
 all_goals first | cases h | skip
 all_goals
  rename_i heq
  unfold execOp
  rw [heq]
  dsimp only
  first
   | (split
      ·exact .inr (run_nilDeref w)
      ·exact .inr (run_nilDeref w)
      ·exact .inr (run_nilDeref w)
      ·split
       ·exact .inr (run_nilDeref w)
       ·exact run_ahead _ _ (fun b w => by split <;> first | exact .inl ⟨_, _, rfl⟩ | exact .inr ⟨_, _, rfl⟩) w
       ·exact .inl ⟨_, w, rfl⟩
      ·exact .inl ⟨_, w, rfl⟩)
   | exact .inl ⟨_, w, rfl⟩
   | exact run_val _ (fun x => x) w
   | (rename_i c a b; exact run_val (asBool (ρ c)) (fun x => if x = true then ρ a else ρ b) w)
   | exact run_val (Builtin.len_ _ _ _) (fun x => x) w
   | exact run_val (Builtin.cap_ _ _ _) (fun x => x) w
   | exact run_val (Builtin.max_ _ _ _) (fun x => x) w
   | exact run_val (Builtin.min_ _ _ _) (fun x => x) w
theorem yields_of_quiet {C : World → Prop} {o : Oper} {a : Act} {v : Value} (hv : valOp o.op = true) (h : ∀ w, C w → o.quietAt P a C w v) (w : World) (hw : C w) : (execOp a.eval o).run P w = .ok (.value v) w := by
 have h1 := h w hw
 unfold Oper.quietAt at h1
 rcases run_valOp (P := P) (ρ := a.eval) hv w with ⟨u, w', e⟩ | ⟨x, w', e⟩
 ·rw [e] at h1 ⊢
  obtain ⟨rfl, rfl⟩ := h1
  rfl
 ·rw [e] at h1
  exact h1.elim
inductive Plan where
 | done
 | take (held : Bool) (is : List Nat) (p : Plan)
 | one (n : Nat) (p : Plan)
 | two (n m : Nat) (p q : Plan)
 | three (n m k : Nat) (p q r : Plan)
def Plan.len : Plan → Nat
 | .done => 0
 | .take _ is p => is.length + p.len
 | .one _ p => p.len + 1
 | .two _ _ p q => max p.len q.len + 1
 | .three _ _ _ p q r => max p.len (max q.len r.len) + 1
def lists (listed : Array Bool) : List Nat → Array Bool
 | [] => listed
 | i :: is => lists (listed.setIfInBounds i true) is
def takeB (md : Region.Mode) (ops : Array Oper) (lax : Nat → Bool) (held : Bool) : Array Bool → List Nat → Bool
 | _, [] => true
 | listed, i :: is => (Region.ready md ops listed).contains i && Region.free md ops listed i && ((ops[i]?).map fun o => valOp o.op).getD false && !lax i && (!held || heldB md ops lax i) && takeB md ops lax held (listed.setIfInBounds i true) is
def Plan.ok (md : Region.Mode) (ops : Array Oper) (lax : Nat → Bool) : Plan → Array Bool → Bool → Bool
 | .done, listed, _ => (Region.ready md ops listed).isEmpty
 | .take held is p, listed, s => (!held || s) && takeB md ops lax held listed is && p.ok md ops lax (lists listed is) s
 | .one n p, listed, s => decide (Region.ready md ops listed = [n]) && p.ok md ops lax (listed.setIfInBounds n true) (s && !lax n)
 | .two n m p q, listed, s => decide (Region.ready md ops listed = [n, m]) && p.ok md ops lax (listed.setIfInBounds n true) (s && !lax n) && q.ok md ops lax (listed.setIfInBounds m true) (s && !lax m)
 | .three n m k p q r, listed, s => decide (Region.ready md ops listed = [n, m, k]) && p.ok md ops lax (listed.setIfInBounds n true) (s && !lax n) && q.ok md ops lax (listed.setIfInBounds m true) (s && !lax m) && r.ok md ops lax (listed.setIfInBounds k true) (s && !lax k)
def pick (l : List Oper) : List Nat → List Oper
 | [] => []
 | i :: is => (l[i]?).toList ++ pick l is
def cls (S : World → Prop) : Bool → World → Prop
 | true => S
 | false => fun _ => True
def behind (S : World → Prop) (b : Bool) (w : World) (p : Prop) : Prop := (b = true → S w) ∧ p
def wpPlan (P : Program) (l : List Oper) (lax : Nat → Bool) (S : World → Prop) (Q : Exit → Act → World → Prop) : Plan → Bool → Act → World → Prop
 | .done, _, a, w => Q .normal a w
 | .take held is p, s, a, w => wpQuiet P l.toArray (cls S held) (fun a' => wpPlan P l lax S Q p s a' w) (pick l is) a
 | .one n p, s, a, w => wpList P l.toArray (Exit.then (fun a' w' => behind S (s && !lax n) w' (wpPlan P l lax S Q p (s && !lax n) a' w')) Q) (l[n]?).toList a w
 | .two n m p q, s, a, w => wpList P l.toArray (Exit.then (fun a' w' => behind S (s && !lax n) w' (wpPlan P l lax S Q p (s && !lax n) a' w')) Q) (l[n]?).toList a w ∧ wpList P l.toArray (Exit.then (fun a' w' => behind S (s && !lax m) w' (wpPlan P l lax S Q q (s && !lax m) a' w')) Q) (l[m]?).toList a w
 | .three n m k p q r, s, a, w => wpList P l.toArray (Exit.then (fun a' w' => behind S (s && !lax n) w' (wpPlan P l lax S Q p (s && !lax n) a' w')) Q) (l[n]?).toList a w ∧ wpList P l.toArray (Exit.then (fun a' w' => behind S (s && !lax m) w' (wpPlan P l lax S Q q (s && !lax m) a' w')) Q) (l[m]?).toList a w ∧ wpList P l.toArray (Exit.then (fun a' w' => behind S (s && !lax k) w' (wpPlan P l lax S Q r (s && !lax k) a' w')) Q) (l[k]?).toList a w
theorem wp_then {o : Oper} {a : Act} {w : World} {K K' next : Act → World → Prop} (hn : ∀ a w, next a w → K' a w) (h : o.wp P a w next (Exit.then K Q)) : o.wp P a w K' Q := by
 unfold Oper.wp at *
 generalize (execOp a.eval o).run P w = r at *
 cases r with
 | ok n w' =>
  cases n <;> simp only [Oper.upon] at h ⊢ <;>
   first
    | exact hn _ _ h
    | exact Calls.mono h (fun e w'' he => by cases e <;> first | exact hn _ _ he | exact he)
    | exact Rows.mono h (fun _ _ he => hn _ _ he)
 | halt x w' => cases x <;> simp only [Oper.upon] at h ⊢ <;> exact h
theorem op_of_list {l : List Oper} {n : Nat} {a : Act} {w : World} {K K' : Act → World → Prop} (hn : n < l.length) (hk : ∀ a w, K a w → K' a w) (h : wpList P l.toArray (Exit.then K Q) (l[n]?).toList a w) : wpOp P l.toArray Q n K' a w := by
 have ho : l[n]? = some l[n] := by simp [hn]
 rw [ho] at h
 unfold wpOp
 simp only [List.getElem?_toArray, ho]
 unfold Option.toList wpList at h
 split at h
 ·rename_i hw
  rw [if_pos hw]
  rcases h with h | ⟨h1, h2⟩
  ·exact .inl (wp_then (fun a'' w'' hx => hk a'' w'' hx) h)
  ·exact .inr ⟨h1, h2⟩
 ·rename_i hw
  rw [if_neg hw]
  exact hk _ _ h
theorem ready_lt {i : Nat} {listed : Array Bool} (h : i ∈ Region.ready md ops listed) : i < ops.size := by
 obtain ⟨_, o, ho, _⟩ := mem_ready.1 h
 exact (Array.getElem?_eq_some_iff.1 ho).1
theorem take_sound {l : List Oper} (hsel : Region.noSelect l.toArray = true) (hQ : ∀ d c a v w, Q (.panic c) (a.put d v) w → Q (.panic c) a w) {held : Bool} {fuel : Nat} {w : World} (hw : cls S held w) :
  ∀ (is : List Nat) (listed : Array Bool) (a : Act), Closed md l.toArray listed → takeB md l.toArray lax held listed is = true →
   wpQuiet P l.toArray (cls S held) (fun a' => wpAnyK P md l.toArray lax S Q fuel (lists listed is) a' w) (pick l is) a → wpAnyK P md l.toArray lax S Q (fuel + is.length) listed a w
 | [], _, _, _, _, h => h
 | i :: is, listed, a, hc, hB, h => by
  simp only [takeB, Bool.and_eq_true] at hB
  obtain ⟨⟨⟨⟨⟨hr, hf⟩, hv⟩, hlx⟩, hh⟩, hB'⟩ := hB
  have hlx : lax i = false := by simpa using hlx
  have hr' : i ∈ Region.ready md l.toArray listed := by simpa using hr
  have hil : i < l.length := by have := ready_lt hr'; simpa using this
  have ho : l[i]? = some l[i] := by simp [hil]
  have ho' : l.toArray[i]? = some l[i] := by simp [hil]
  have hv' : valOp l[i].op = true := by simpa [ho'] using hv
  unfold pick at h
  rw [ho] at h
  have hT : Keeps md l.toArray lax S (cls S held) i := by
   cases held with
   | true => exact keeps_held hlx (by simpa using hh)
   | false => exact keeps_true i
  have key : ∃ v, YieldsIf P l.toArray (cls S held) l[i] v a ∧ wpQuiet P l.toArray (cls S held) (fun a' => wpAnyK P md l.toArray lax S Q fuel (lists (listed.setIfInBounds i true) is) a' w) (pick l is) (a.put l[i].dst v) := by
   change wpQuiet P l.toArray (cls S held) _ (l[i] :: pick l is) a at h
   unfold wpQuiet at h
   split at h
   ·rename_i hwant
    obtain ⟨v, h1, h2⟩ := h
    exact ⟨v, .inl ⟨hwant, fun w' hw' => yields_of_quiet hv' h1 w' hw'⟩, h2⟩
   ·rename_i hwant
    exact ⟨undef, .inr ⟨by simpa using hwant, rfl⟩, h⟩
  obtain ⟨v, hy, hrest⟩ := key
  have hnext := take_sound hsel hQ hw is (listed.setIfInBounds i true) (a.put l[i].dst v) (hc.set hr') hB' hrest
  exact anyK_first ho' (Region.noSelect_spec hsel) (fun c a w => hQ _ c a _ w) hlx hT (fuel + is.length) listed a w hc (Region.free_spec ho' hf) hr' hy hw hnext
theorem keep_of {s : Bool} {n : Nat} {listed : Array Bool} {w w' : World} (hs' : s = false → ∃ j, lax j = true ∧ listed.getD j false = true) (h : (s && !lax n) = true → S w') : lax n = false → NoLax lax listed → S w → S w' := fun h1 h2 _ => by
 refine h ?_
 rw [h1]
 cases s with
 | true => rfl
 | false =>
  obtain ⟨j, h3, h4⟩ := hs' rfl
  rw [h2 j h3] at h4
  cases h4
theorem gone_of {s : Bool} {n : Nat} {listed : Array Bool} (hs' : s = false → ∃ j, lax j = true ∧ listed.getD j false = true) (hn : n < listed.size) : (s && !lax n) = false → ∃ j, lax j = true ∧ (listed.setIfInBounds n true).getD j false = true := fun h => by
 cases hx : lax n with
 | true => exact ⟨n, hx, by simp [hn]⟩
 | false =>
  rw [hx] at h
  obtain ⟨j, h3, h4⟩ := hs' (by simpa using h)
  exact ⟨j, h3, getD_set_true h4⟩
theorem gone_lists {is : List Nat} : ∀ {listed : Array Bool}, (∃ j, lax j = true ∧ listed.getD j false = true) → ∃ j, lax j = true ∧ (lists listed is).getD j false = true := by
 induction is with
 | nil => exact fun h => h
 | cons i is ih => exact fun ⟨j, h1, h2⟩ => ih ⟨j, h1, getD_set_true h2⟩
theorem plan_sound {l : List Oper} (hsel : Region.noSelect l.toArray = true) (hQ : ∀ d c a v w, Q (.panic c) (a.put d v) w → Q (.panic c) a w) :
  ∀ (p : Plan) (fuel : Nat) (listed : Array Bool) (s : Bool) (a : Act) (w : World), p.len ≤ fuel → Closed md l.toArray listed → (s = true → S w) → (s = false → ∃ j, lax j = true ∧ listed.getD j false = true) → p.ok md l.toArray lax listed s = true →
   wpPlan P l lax S Q p s a w → wpAnyK P md l.toArray lax S Q fuel listed a w
 | .done, fuel, listed, s, a, w, _, _, _, _, hok, h => by
  have hr : Region.ready md l.toArray listed = [] := by simpa [Plan.ok] using hok
  cases fuel with
  | zero => exact ⟨hr, h⟩
  | succ f => exact ⟨fun _ => h, by rw [hr]; intro i hi; cases hi⟩
 | .take held is p, fuel, listed, s, a, w, hl, hc, hs, hs', hok, h => by
  simp only [Plan.ok, Bool.and_eq_true] at hok
  obtain ⟨⟨h1, h2⟩, h3⟩ := hok
  simp only [Plan.len] at hl
  have hw : cls S held w := by
   cases held with
   | true => exact hs (by simpa using h1)
   | false => trivial
  have hcl : ∀ (is : List Nat) (listed : Array Bool), Closed md l.toArray listed → takeB md l.toArray lax held listed is = true → Closed md l.toArray (lists listed is) := by
   intro is
   induction is with
   | nil => exact fun _ hc _ => hc
   | cons i is ih =>
    intro listed hc hB
    simp only [takeB, Bool.and_eq_true] at hB
    exact ih _ (hc.set (by simpa using hB.1.1.1.1.1)) hB.2
  have := take_sound (P := P) (fuel := fuel - is.length) hsel hQ hw is listed a hc h2 (by
   have hm : ∀ (os : List Oper) (a : Act), wpQuiet P l.toArray (cls S held) (fun a' => wpPlan P l lax S Q p s a' w) os a → wpQuiet P l.toArray (cls S held) (fun a' => wpAnyK P md l.toArray lax S Q (fuel - is.length) (lists listed is) a' w) os a := by
    intro os
    induction os with
    | nil => exact fun a h => plan_sound hsel hQ p _ _ s a w (by omega) (hcl is listed hc h2) hs (fun h => gone_lists (hs' h)) h3 h
    | cons o os ih =>
     intro a h
     unfold wpQuiet at h ⊢
     split at h
     ·rename_i hx
      rw [if_pos hx]
      exact Oper.quiet_mono (fun a h => ih a h) h
     ·rename_i hx
      rw [if_neg hx]
      exact ih _ h
   exact hm _ _ h)
  rwa [Nat.sub_add_cancel (by omega)] at this
 | .one n p, fuel, listed, s, a, w, hl, hc, hs, hs', hok, h => by
  simp only [Plan.ok, Bool.and_eq_true, decide_eq_true_eq] at hok
  obtain ⟨hr, h3⟩ := hok
  simp only [Plan.len] at hl
  obtain ⟨f, rfl⟩ : ∃ f, fuel = f + 1 := ⟨fuel - 1, by omega⟩
  have hn : n ∈ Region.ready md l.toArray listed := by rw [hr]; simp
  refine ⟨fun h0 => (by rw [h0] at hr; cases hr), fun i hi => ?_⟩
  rw [hr] at hi
  obtain rfl : i = n := by simpa using hi
  exact op_of_list (by simpa using ready_lt hn) (fun a' w' hx => ⟨keep_of hs' hx.1, plan_sound hsel hQ p f _ _ a' w' (by omega) (hc.set hn) hx.1 (gone_of hs' (by rw [hc.1]; exact ready_lt hn)) h3 hx.2⟩) h
 | .two n m p q, fuel, listed, s, a, w, hl, hc, hs, hs', hok, h => by
  simp only [Plan.ok, Bool.and_eq_true, decide_eq_true_eq] at hok
  obtain ⟨⟨hr, h3⟩, h4⟩ := hok
  simp only [Plan.len] at hl
  obtain ⟨f, rfl⟩ : ∃ f, fuel = f + 1 := ⟨fuel - 1, by omega⟩
  have hn : n ∈ Region.ready md l.toArray listed := by rw [hr]; simp
  have hm : m ∈ Region.ready md l.toArray listed := by rw [hr]; simp
  refine ⟨fun h0 => (by rw [h0] at hr; cases hr), fun i hi => ?_⟩
  rw [hr] at hi
  simp only [List.mem_cons, List.not_mem_nil, or_false] at hi
  rcases hi with rfl|rfl
  ·exact op_of_list (by simpa using ready_lt hn) (fun a' w' hx => ⟨keep_of hs' hx.1, plan_sound hsel hQ p f _ _ a' w' (by omega) (hc.set hn) hx.1 (gone_of hs' (by rw [hc.1]; exact ready_lt hn)) h3 hx.2⟩) h.1
  ·exact op_of_list (by simpa using ready_lt hm) (fun a' w' hx => ⟨keep_of hs' hx.1, plan_sound hsel hQ q f _ _ a' w' (by omega) (hc.set hm) hx.1 (gone_of hs' (by rw [hc.1]; exact ready_lt hm)) h4 hx.2⟩) h.2
 | .three n m k p q r, fuel, listed, s, a, w, hl, hc, hs, hs', hok, h => by
  simp only [Plan.ok, Bool.and_eq_true, decide_eq_true_eq] at hok
  obtain ⟨⟨⟨hr, h3⟩, h4⟩, h5⟩ := hok
  simp only [Plan.len] at hl
  obtain ⟨f, rfl⟩ : ∃ f, fuel = f + 1 := ⟨fuel - 1, by omega⟩
  have hn : n ∈ Region.ready md l.toArray listed := by rw [hr]; simp
  have hm : m ∈ Region.ready md l.toArray listed := by rw [hr]; simp
  have hk : k ∈ Region.ready md l.toArray listed := by rw [hr]; simp
  refine ⟨fun h0 => (by rw [h0] at hr; cases hr), fun i hi => ?_⟩
  rw [hr] at hi
  simp only [List.mem_cons, List.not_mem_nil, or_false] at hi
  rcases hi with rfl|rfl|rfl
  ·exact op_of_list (by simpa using ready_lt hn) (fun a' w' hx => ⟨keep_of hs' hx.1, plan_sound hsel hQ p f _ _ a' w' (by omega) (hc.set hn) hx.1 (gone_of hs' (by rw [hc.1]; exact ready_lt hn)) h3 hx.2⟩) h.1
  ·exact op_of_list (by simpa using ready_lt hm) (fun a' w' hx => ⟨keep_of hs' hx.1, plan_sound hsel hQ q f _ _ a' w' (by omega) (hc.set hm) hx.1 (gone_of hs' (by rw [hc.1]; exact ready_lt hm)) h4 hx.2⟩) h.2.1
  ·exact op_of_list (by simpa using ready_lt hk) (fun a' w' hx => ⟨keep_of hs' hx.1, plan_sound hsel hQ r f _ _ a' w' (by omega) (hc.set hk) hx.1 (gone_of hs' (by rw [hc.1]; exact ready_lt hk)) h5 hx.2⟩) h.2.2
structure Later (w0 : World) where
 w : World
 h : Below w0.heap.size w0 w
def Later.here (w0 : World) : Later w0 := ⟨w0.drew, (Below.refl _ _).drew⟩
structure Far (S : Nat → Prop) (w0 : World) where
 w : World
 h : Fr S w0 w
def Far.here (S : Nat → Prop) (w0 : World) : Far S w0 := ⟨w0.drew, (Fr.refl S w0).drew⟩
instance (S : Nat → Prop) (w0 : World) : Nonempty (Far S w0) := ⟨Far.here S w0⟩
instance (w0 : World) : Nonempty (Later w0) := ⟨Later.here w0⟩
def isIn (l : List Nat) (n : Nat) : Bool := l.contains n
theorem region {id : Nat} {a : Act} {w : World} {l : List Oper} (S : World → Prop) (lax : List Nat) (p : Plan) (hm : P.follows .mixedOrders = true) (hsel : Region.noSelect l.toArray = true)
  (hok : p.ok .any l.toArray (isIn lax) (Array.replicate l.length false) true = true) (hlen : decide (p.len ≤ l.length) = true) (hS : S w.drew)
  (h : wpPlan P l (isIn lax) S (NoPanic Q) p true a w.drew) : (Code.region id l.toArray true).wp P Q a w := by
 refine wp_region_noPanic (wp_region_any hm (any_of_K (lax := isIn lax) (S := S) _ _ _ _ ?_))
 have := plan_sound (P := P) (md := .any) (lax := isIn lax) (S := S) (Q := NoPanic Q) hsel (fun _ _ _ _ _ h => h) p l.toArray.size (Array.replicate l.toArray.size false) true a w.drew (by simpa using of_decide_eq_true hlen)
  ⟨by simp, fun j oj _ hl => by rw [getD_replicate_false] at hl; cases hl⟩ (fun _ => hS) (fun h => by cases h) (by simpa using hok) h
 exact this
end
end Go.Proofs.Ytafcbipmmjegcaa.Reg
namespace Go.Proofs.Ytafcbipmmjegcaa
open Go.RowKit
section
variable {w w1 w2 : World} {S : Nat → Prop}
end
theorem RowsAt.take {w : World} {B size : Nat} {A : Option Addr} {rows : List (List Value)} (h : RowsAt w B size A rows) (n : Nat) : RowsAt w B size A (rows.take n) := fun hne => by
 obtain ⟨b, off, e, hb, hc⟩ := h (by intro h0; subst h0; simp at hne)
 refine ⟨b, off, e, hb, fun k row hk j u hu => hc k row ?_ j u hu⟩
 rw [List.getElem?_take] at hk
 split at hk
 ·exact hk
 ·cases hk
theorem RowsAt.one {w : World} {B : Nat} {A : Option Addr} {α : Type} {f : α → Value} {xs : List α} (h : RowsAt w B 1 A (xs.map fun x => [f x])) {k : Nat} (hk : k < xs.length) :
  ∃ b off, A = some ⟨b, off, none⟩ ∧ b < B ∧ w.cell? ⟨b, off + k, none⟩ = some (f xs[k]) := by
 obtain ⟨b, off, e, hb, hc⟩ := h (by intro h; rw [List.map_eq_nil_iff] at h; subst h; simp at hk)
 refine ⟨b, off, e, hb, ?_⟩
 have := hc k [f xs[k]] (by simp [hk]) 0 _ rfl
 rwa [Nat.mul_one, Nat.add_zero] at this
end Go.Proofs.Ytafcbipmmjegcaa
namespace Go.Proofs.Ytafcbipmmjegcaa
open Go.RowKit
section
variable {w w' : World} {base base' : Nat} {e e' : TypeId} {size size' : Nat} {v v' : Value} {n n' : Nat} {xs xs' : List Value}
theorem Blk.grown {g : Nat} {t : TypeId} {cs : Array Value} {row : Option Nat} (h : Blk w g t cs) (hb : w.grownBy w' row) (hg : some g ≠ row) : Blk w' g t cs := (hb.block g h.lt hg).trans h
end
theorem RowsAt.up {w : World} {size : Nat} {A : Option Addr} {rows : List (List Value)} (h : RowsAt w w.heap.size size A rows) (o : Obj) : RowsAt (w.alloc o) (w.alloc o).heap.size size A rows :=
 (h.below ((Below.refl _ _).alloc (Nat.le_refl _) o)).more (by simp)
theorem RowsAt.drew {w : World} {B size : Nat} {A : Option Addr} {rows : List (List Value)} (h : RowsAt w B size A rows) : RowsAt w.drew B size A rows := h.keep fun p _ => World.cell?_drew w p
theorem Blk.two {w : World} {g : Nat} {t : TypeId} {a0 a1 : Value} (h : Blk w g t #[a0, a1]) : w.cell? ⟨g, 0, none⟩ = some a0 ∧ w.cell? ⟨g, 1, none⟩ = some a1 := ⟨h.cell 0, h.cell 1⟩
theorem Blk.three {w : World} {g : Nat} {t : TypeId} {a0 a1 a2 : Value} (h : Blk w g t #[a0, a1, a2]) : w.cell? ⟨g, 0, none⟩ = some a0 ∧ w.cell? ⟨g, 1, none⟩ = some a1 ∧ w.cell? ⟨g, 2, none⟩ = some a2 := ⟨h.cell 0, h.cell 1, h.cell 2⟩
theorem Blk.after {w w' : World} {g : Nat} {t : TypeId} {cs : Array Value} (h : Blk w g t cs) (hb : Below w.drew.heap.size w.drew w') : Blk w' g t cs := h.drew.below hb h.drew.lt
theorem Blk.behind {w w' : World} {g : Nat} {t : TypeId} {cs : Array Value} (h : Blk w g t cs) (hb : Below w.heap.size w w') : Blk w' g t cs := h.below hb h.lt
end Go.Proofs.Ytafcbipmmjegcaa
