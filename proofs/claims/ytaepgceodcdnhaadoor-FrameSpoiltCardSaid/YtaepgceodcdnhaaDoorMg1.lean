/- Texts of this claim, one behind the other: Base, BaseB, BaseC, Region, Map, VmMap, Vm1, Vm2. -/
import Derived.WalkKit
import Derived.WalkSpells
import Derived.WalkLawsBesides
import Derived.Lib.Hide
import Derived.Deep.Draws
import Derived.Lib.AppendStr
import Derived.Deep.LoopGhost
import Derived.ChangeSame
import Derived.Deep.AppendLies
import Derived.OrdersHeld
import Derived.StillTail
import Derived.Deep.QuietTactic
import Derived.BigQuiet
import Derived.Deep.RegionHeld3
import Derived.Below
import Derived.MapKept
import Derived.ChangeKeysEq
import Derived.Deep.MidRow
/- Plain lemmas on memory that the walks share: blocks known whole, frames, bytes. No program is named here. -/
namespace Go.Proofs.YtaepgceodcdnhaaDoor
open Go.RowKit Go.ChangeShapes Go.WideShapes

/-! ### Blocks known whole -/
def Blk (w : World) (g : Nat) (t : TypeId) (cs : Array Value) : Prop := w.heap[g]? = some (.cells cs t (0, 0))

section
variable {w w' : World} {g : Nat} {t : TypeId} {cs : Array Value}
theorem Blk.lt (h : Blk w g t cs) : g < w.heap.size := by
  rcases Nat.lt_or_ge g w.heap.size with hlt | hge
  · exact hlt
  · unfold Blk at h; rw [Array.getElem?_eq_none hge] at h; cases h
theorem Blk.cell (h : Blk w g t cs) (i : Nat) : w.cell? ⟨g, i, none⟩ = cs[i]? := cell_of_row w g i cs t (0, 0) h
theorem Blk.frozen (h : Blk w g t cs) (i : Nat) : w.frozen? ⟨g, i, none⟩ = false := by
  unfold Blk at h
  simp [World.frozen?, h]
theorem Blk.new (w : World) (t : TypeId) (cs : Array Value) : Blk (w.alloc (.cells cs t)) w.heap.size t cs := heap_alloc_new w _
theorem Blk.drew (h : Blk w g t cs) : Blk w.drew g t cs := h
theorem Blk.drewN (h : Blk w g t cs) (n : Nat) : Blk (w.drewN n) g t cs := h
theorem Blk.alloc (h : Blk w g t cs) (o : Obj) : Blk (w.alloc o) g t cs := (Below.heap_alloc w o g h.lt).trans h
theorem Blk.set_ (h : Blk w g t cs) (i : Nat) (u : Value) : Blk (w.setCell ⟨g, i, none⟩ u) g t (cs.setIfInBounds i u) := by
  unfold Blk at h ⊢
  simp [World.setCell, Array.getElem?_modify, h]
theorem Blk.far (h : Blk w g t cs) {p : Addr} (hp : g ≠ p.block) (u : Value) : Blk (w.setCell p u) g t cs := (Below.heap_setCell w p u g hp).trans h
theorem Blk.below {B : Nat} (h : Blk w g t cs) (hb : Below B w w') (hg : g < B) : Blk w' g t cs := (hb.block g hg).trans h
end

/-! ### Frames: only the blocks in S, and new ones, may have turned -/
structure Fr (S : Nat → Prop) (w w' : World) : Prop where
  os : w'.os = w.os
  tape : w'.tape = w.tape
  output : w'.output = w.output
  size : w.heap.size ≤ w'.heap.size
  block : ∀ k, k < w.heap.size → ¬ S k → w'.heap[k]? = w.heap[k]?

section
variable {S S' : Nat → Prop} {a b c w w' : World}
theorem Fr.refl (S : Nat → Prop) (w : World) : Fr S w w := ⟨rfl, rfl, rfl, Nat.le_refl _, fun _ _ _ => rfl⟩
theorem Fr.trans (h : Fr S a b) (k : Fr S b c) : Fr S a c :=
  ⟨k.os.trans h.os, k.tape.trans h.tape, k.output.trans h.output, Nat.le_trans h.size k.size, fun i hi hs => (k.block i (Nat.lt_of_lt_of_le hi h.size) hs).trans (h.block i hi hs)⟩
theorem Fr.mono (h : Fr S a b) (hs : ∀ k, k < a.heap.size → S k → S' k) : Fr S' a b := ⟨h.os, h.tape, h.output, h.size, fun k hk hn => h.block k hk (fun x => hn (hs k hk x))⟩
theorem Fr.drew (h : Fr S a w) : Fr S a w.drew := ⟨h.os, h.tape, h.output, h.size, h.block⟩
theorem Fr.drewN (h : Fr S a w) (n : Nat) : Fr S a (w.drewN n) := ⟨h.os, h.tape, h.output, h.size, h.block⟩
theorem Fr.alloc (h : Fr S a w) (o : Obj) : Fr S a (w.alloc o) :=
  ⟨h.os, h.tape, h.output, Nat.le_trans h.size (by simp), fun k hk hs => (Below.heap_alloc w o k (Nat.lt_of_lt_of_le hk h.size)).trans (h.block k hk hs)⟩
theorem Fr.setCell (h : Fr S a w) {p : Addr} (hp : a.heap.size ≤ p.block ∨ S p.block) (u : Value) : Fr S a (w.setCell p u) :=
  ⟨h.os, h.tape, h.output, by simpa [World.setCell] using h.size, fun k hk hs => (Below.heap_setCell w p u k (by
    rintro rfl
    rcases hp with hp | hp
    · omega
    · exact hs hp)).trans (h.block k hk hs)⟩
theorem Fr.own {g : Nat} (h : Fr (· = g) a w) (i : Nat) (u : Value) : Fr (· = g) a (w.setCell ⟨g, i, none⟩ u) := Fr.setCell (p := ⟨g, i, none⟩) h (.inr rfl) u
theorem Fr.of_below (h : Below a.heap.size a b) : Fr S a b := ⟨h.os, h.tape, h.output, h.size, fun k hk _ => h.block k hk⟩
theorem Fr.to_below (h : Fr (fun _ => False) a b) : Below a.heap.size a b := ⟨h.os, h.tape, h.output, h.size, fun k hk => h.block k hk id⟩
/-- what has been made since a may turn -/
theorem Fr.back (h : Fr S a b) (k : Fr S' b c) (hs : ∀ i, i < a.heap.size → S' i → S i) : Fr S a c :=
  ⟨k.os.trans h.os, k.tape.trans h.tape, k.output.trans h.output, Nat.le_trans h.size k.size, fun i hi hn => (k.block i (Nat.lt_of_lt_of_le hi h.size) (fun x => hn (hs i hi x))).trans (h.block i hi hn)⟩
theorem Fr.blk (h : Fr S a b) {g : Nat} {t : TypeId} {cs : Array Value} (hb : Blk a g t cs) (hg : ¬ S g) : Blk b g t cs := (h.block g hb.lt hg).trans hb
theorem Fr.heap (h : Fr S a b) {g : Nat} (hlt : g < a.heap.size) (hg : ¬ S g) : b.heap[g]? = a.heap[g]? := h.block g hlt hg
end
theorem below_drewN {B : Nat} {a w : World} (h : Below B a w) (n : Nat) : Below B a (w.drewN n) := ⟨h.os, h.tape, h.output, h.size, h.block⟩

/-! ### Bytes -/
/-- the cells of some bytes -/
def u8s (l : List UInt8) : Array Value := (l.map fun c => Value.int .u8 (c.toNat : Int)).toArray
theorem size_u8s (l : List UInt8) : (u8s l).size = l.length := by simp [u8s]
theorem getElem?_u8s (l : List UInt8) (i : Nat) : (u8s l)[i]? = (l[i]?).map fun c => Value.int .u8 (c.toNat : Int) := by simp [u8s]
theorem strOfNums_u8 (l : List UInt8) : strOfNums (l.map fun c => (c.toNat : Int)) = ⟨l.toArray⟩ := by
  unfold strOfNums
  rw [List.map_map]
  congr 2
  conv => rhs; rw [← List.map_id l]
  exact List.map_congr_left fun c _ => by simp
theorem run_string_u8s {P : Program} {w : World} (src e dst : TypeId) (hs : P.underlying src = some (.slice e)) (he : P.underlying e = some (.int .u8)) (hd : P.underlying dst = some .string)
    (g len cap : Nat) (l : List UInt8) (hlen : len ≤ l.length) (t : TypeId) (h : Blk w g t (u8s l)) :
    (convert src dst (.slice (some ⟨g, 0, none⟩) len cap)).run P w = .ok (.string ⟨(l.take len).toArray⟩) w := by
  have := run_convert_bytes_arg (P := P) w src e hs he g 0 len cap ((l.take len).map fun c => (c.toNat : Int)) (by simp; omega) (fun i hi => by
    rw [Nat.zero_add, h.cell i, getElem?_u8s]
    have h1 : i < (l.take len).length := by simp; omega
    have h2 : i < l.length := by omega
    simp [List.getD, List.getElem?_eq_getElem h2, hi]) dst hd
  rw [strOfNums_u8] at this
  exact this
/-- a string of one byte that the call has just laid -/
theorem run_string_one {P : Program} (src e dst : TypeId) (hs : P.underlying src = some (.slice e)) (he : P.underlying e = some (.int .u8)) (hd : P.underlying dst = some .string) (w : World) (n : Nat) (hn : n < 256) (o : Obj) :
    (convert src dst (.slice (some ⟨w.heap.size + 1, 0, none⟩) 1 1)).run P ((w.alloc o).alloc (.cells #[.int .u8 (n : Int)] e)) = .ok (.string ⟨#[UInt8.ofNat n]⟩) ((w.alloc o).alloc (.cells #[.int .u8 (n : Int)] e)) := by
  have hb : Blk ((w.alloc o).alloc (.cells (u8s [UInt8.ofNat n]) e)) (w.heap.size + 1) e (u8s [UInt8.ofNat n]) := by
    have := Blk.new (w.alloc o) e (u8s [UInt8.ofNat n])
    rwa [show (w.alloc o).heap.size = w.heap.size + 1 from by simp] at this
  have h := run_string_u8s (P := P) src e dst hs he hd (w.heap.size + 1) 1 1 [UInt8.ofNat n] (by simp) e hb
  have e1 : u8s [UInt8.ofNat n] = #[Value.int .u8 (n : Int)] := by
    have : (UInt8.ofNat n).toNat = n := by rw [UInt8.toNat_ofNat']; omega
    simp [u8s, this]
  rw [e1] at h
  simpa using h

/-! ### A slice whose elements are rows of cells, nil let in -/
def RowsAt (w : World) (B size : Nat) (A : Option Addr) (rows : List (List Value)) : Prop :=
  rows ≠ [] → ∃ b off, A = some ⟨b, off, none⟩ ∧ b < B ∧ ∀ (k : Nat) (row : List Value), rows[k]? = some row → ∀ (j : Nat) (u : Value), row[j]? = some u → w.cell? ⟨b, off + k * size + j, none⟩ = some u
section
variable {w w' : World} {B B' size : Nat} {A : Option Addr} {rows : List (List Value)}
theorem RowsAt.none_ : RowsAt w B size A [] := fun h => absurd rfl h
theorem RowsAt.keep (h : RowsAt w B size A rows) (hk : ∀ p : Addr, p.block < B → w'.cell? p = w.cell? p) : RowsAt w' B size A rows := fun hn => by
  obtain ⟨b, off, e, hb, hc⟩ := h hn
  exact ⟨b, off, e, hb, fun k row hr j u hu => (hk _ hb).trans (hc k row hr j u hu)⟩
theorem RowsAt.more (h : RowsAt w B size A rows) (hB : B ≤ B') : RowsAt w B' size A rows := fun hn => by
  obtain ⟨b, off, e, hb, hc⟩ := h hn
  exact ⟨b, off, e, by omega, hc⟩
theorem RowsAt.below (h : RowsAt w B size A rows) (hb : Below B w w') : RowsAt w' B size A rows := h.keep fun _ hp => hb.cell hp
theorem RowsAt.new (w : World) (size : Nat) (t : TypeId) (cs : Array Value) (rows : List (List Value)) (h : ∀ (k : Nat) (row : List Value), rows[k]? = some row → ∀ (j : Nat) (u : Value), row[j]? = some u → cs[k * size + j]? = some u) :
    RowsAt (w.alloc (.cells cs t)) (w.heap.size + 1) size (some ⟨w.heap.size, 0, none⟩) rows := fun _ => ⟨_, _, rfl, by omega, fun k row hr j u hu => by
  rw [Nat.zero_add, (Blk.new w t cs).cell]
  exact h k row hr j u hu⟩
end
theorem wrap64_byte (c : UInt8) : wrap64 (c.toNat : Int) = (c.toNat : Int) := IntWalk.wrap64_in _ (by have := c.toNat_lt; omega)
theorem bs_ext {a b : ByteArray} (h : a.data.toList = b.data.toList) : a = b := by
  cases a; cases b; simp only [ByteArray.mk.injEq]; exact Array.ext' h
theorem bs_append (a b : ByteArray) : (a ++ b).data.toList = a.data.toList ++ b.data.toList := by
  rw [ByteArray.data_append, Array.toList_append]
theorem bs_cat (a b : List UInt8) : (⟨a.toArray⟩ : ByteArray) ++ ⟨b.toArray⟩ = ⟨(a ++ b).toArray⟩ := bs_ext (by rw [bs_append])
theorem bs_cut (l : List UInt8) (a b : Nat) : (⟨l.toArray⟩ : ByteArray).extract a b = ⟨((l.take b).drop a).toArray⟩ := bs_ext (by
  rw [ByteArray.data_extract]; simp [List.extract_eq_take_drop, List.drop_take])
theorem bs_len (l : List UInt8) : (⟨l.toArray⟩ : ByteArray).size = l.length := by show l.toArray.size = _; simp
theorem bs_self (s : ByteArray) : (⟨s.data.toList.toArray⟩ : ByteArray) = s := bs_ext (by simp)
theorem bs_size (s : ByteArray) : s.data.toList.length = s.size := by rw [Array.length_toList]; rfl
theorem ret_int {k : IntKind} {a b : Int} (h : a = b) : Ending.returned (.int k a) = .returned (.int k b) := by rw [h]
theorem ret_str {a b : ByteArray} (h : a = b) : Ending.returned (.string a) = .returned (.string b) := by rw [h]
theorem ret_bool {a b : Bool} (h : a = b) : Ending.returned (.bool a) = .returned (.bool b) := by rw [h]
theorem ret_si {a b : ByteArray} {k : IntKind} {x y : Int} (h : a = b) (h' : x = y) : Ending.returned (.tuple #[.string a, .int k x]) = .returned (.tuple #[.string b, .int k y]) := by rw [h, h']

/-! ### The walk is stopped ahead of an operation: 'go_wp2_with (first | (at_builtin; refine Stop.out ?_) | ..)'; then 'refine Stop.mk ?_' and the law -/
inductive Stop (p : Prop) : Prop where
  | mk (h : p) : Stop p
theorem Stop.out {p : Prop} (h : Stop p) : p := by cases h; assumption

/-! ### A row of the call's own, kept -/
theorem ownsRow_below {w w' : World} {base : Nat} {e : TypeId} {size : Nat} {v : Value} {n : Nat} {xs : List Value} {B : Nat} (h : w.ownsRow base e size v n xs) (hb : Below B w w') (hB : w.heap.size ≤ B) : w'.ownsRow base e size v n xs := by
  obtain ⟨h1, h2⟩ := h
  refine ⟨h1, ?_⟩
  rcases h2 with h2 | ⟨g, cap, cur, hv, hg, hh, r⟩
  · exact Or.inl h2
  · have hlt : g < w.heap.size := Blk.lt (t := e) (cs := cur) hh
    exact Or.inr ⟨g, cap, cur, hv, hg, by rw [hb.block g (by omega)]; exact hh, r⟩
theorem ownBlock_base {w : World} {base : Nat} {e : TypeId} {size : Nat} {v : Value} {n : Nat} {xs : List Value} (h : w.ownsRow base e size v n xs) : ∀ k, v.ownBlock = some k → base ≤ k := fun k hk => (h.lt k hk).1
theorem cells_of_strs (l : List UInt8) : Lib.strCells ⟨l.toArray⟩ = l.map fun b => Value.int .u8 (b.toNat : Int) := by simp [Lib.strCells]
/-- a row of bytes of the call's own, as a string -/
theorem run_string_own {P : Program} {w : World} (src e dst : TypeId) (hs : P.underlying src = some (.slice e)) (he : P.underlying e = some (.int .u8)) (hd : P.underlying dst = some .string)
    {base : Nat} {v : Value} {n : Nat} {l : List UInt8} (hown : w.ownsRow base e 1 v n (l.map fun b => Value.int .u8 (b.toNat : Int))) :
    (convert src dst v).run P w = .ok (.string ⟨l.toArray⟩) w := by
  have hlen : l.length = n := by have := hown.1; simpa using this
  rcases hown.2 with ⟨rfl, hn⟩ | ⟨g, cap, cur, rfl, hg, hh, hcap, hm, hcs, ht⟩
  · have : l = [] := List.eq_nil_of_length_eq_zero (by omega)
    subst this
    exact run_convert_bytes_nil w src e hs he 0 0 dst hd
  · have h := run_convert_bytes_arg (P := P) w src e hs he g 0 n cap (l.map fun c => (c.toNat : Int)) (by simp [hlen]) (fun i hi => by
      have hc := hown.cells (g := g) rfl i (.int .u8 ((l[i]'(by omega)).toNat : Int)) (by simp [hlen, hi])
      have e1 : (⟨g, 0, none⟩ : Addr).add i = ⟨g, 0 + i, none⟩ := by unfold Addr.add; split <;> simp_all
      rw [e1] at hc
      rw [hc]
      simp [List.getD, hlen, hi]) dst hd
    rw [strOfNums_u8] at h
    exact h

/-! ### '[]byte(s)' -/
theorem run_bytes_new {P : Program} (w : World) (src dst e : TypeId) (l : List UInt8) (hs : P.underlying src = some .string) (hd : P.underlying dst = some (.slice e)) (he : P.underlying e = some (.int .u8)) :
    ∃ (cap : Nat) (w1 : World), (convert src dst (.string ⟨l.toArray⟩)).run P w = .ok (.slice (some ⟨w.heap.size, 0, none⟩) l.length cap) w1 ∧
      (∀ i c, l[i]? = some c → w1.cell? ⟨w.heap.size, i, none⟩ = some (.int .u8 (c.toNat : Int))) ∧ Below w.heap.size w w1 ∧ w.heap.size < w1.heap.size := by
  have h := run_bytes_of_string (P := P) w src dst e ⟨l.toArray⟩ hs hd he
  have hsz : (⟨l.toArray⟩ : ByteArray).size = l.length := by show l.toArray.size = _; simp
  rw [hsz] at h
  refine ⟨_, _, h, fun i c hc => ?_, (Below.refl _ _).drew.alloc (Nat.le_refl _) _, by simp⟩
  have hi : i < l.length := (List.getElem?_eq_some_iff.1 hc).1
  have hx : l[i] = c := (List.getElem?_eq_some_iff.1 hc).2
  rw [show w.heap.size = w.drew.heap.size from rfl, World.cell?_alloc_mark]
  simp [bytesRow, hi, hx, Array.getElem?_append]
end Go.Proofs.YtaepgceodcdnhaaDoor
/- More small lemmas for the walks. No program is named here. -/
namespace Go.Proofs.YtaepgceodcdnhaaDoor
open Go.RowKit
theorem below_fr {B g : Nat} {w w1 w2 : World} (h : Below B w w1) (hf : Fr (· = g) w1 w2) (hg : B ≤ g) (hB : B ≤ w1.heap.size) : Below B w w2 :=
  h.trans ⟨hf.os, hf.tape, hf.output, hf.size, fun k hk => hf.block k (by omega) (by omega)⟩
section
variable {w w1 w2 : World} {S : Nat → Prop}
theorem bl_fr (h : Below w.heap.size w w1) (hf : Fr S w1 w2) (hS : ∀ k, S k → w.heap.size ≤ k) : Below w.heap.size w w2 :=
  h.trans ⟨hf.os, hf.tape, hf.output, hf.size, fun k hk => hf.block k (by have := h.size; omega) (fun x => by have := hS k x; omega)⟩
theorem bl_next (h : Below w.heap.size w w1) (k : Below w1.heap.size w1 w2) : Below w.heap.size w w2 := h.trans (k.mono h.size)
theorem bl_alloc (h : Below w.heap.size w w1) (o : Obj) : Below w.heap.size w (w1.alloc o) := h.alloc h.size o
end
theorem Blk.new_ {w : World} {g : Nat} {t : TypeId} {cs : Array Value} (hg : g = w.heap.size) : Blk (w.alloc (.cells cs t)) g t cs := by subst hg; exact Blk.new w t cs
theorem RowsAt.take {w : World} {B size : Nat} {A : Option Addr} {rows : List (List Value)} (h : RowsAt w B size A rows) (n : Nat) : RowsAt w B size A (rows.take n) := fun hne => by
  obtain ⟨b, off, e, hb, hc⟩ := h (by intro h0; subst h0; simp at hne)
  refine ⟨b, off, e, hb, fun k row hk j u hu => hc k row ?_ j u hu⟩
  rw [List.getElem?_take] at hk
  split at hk
  · exact hk
  · cases hk
/-- the first cells of a row -/
theorem RowsAt.one {w : World} {B : Nat} {A : Option Addr} {α : Type} {f : α → Value} {xs : List α} (h : RowsAt w B 1 A (xs.map fun x => [f x])) {k : Nat} (hk : k < xs.length) :
    ∃ b off, A = some ⟨b, off, none⟩ ∧ b < B ∧ w.cell? ⟨b, off + k, none⟩ = some (f xs[k]) := by
  obtain ⟨b, off, e, hb, hc⟩ := h (by intro h; rw [List.map_eq_nil_iff] at h; subst h; simp at hk)
  refine ⟨b, off, e, hb, ?_⟩
  have := hc k [f xs[k]] (by simp [hk]) 0 _ rfl
  rwa [Nat.mul_one, Nat.add_zero] at this
end Go.Proofs.YtaepgceodcdnhaaDoor
/- More small lemmas for the walks: rows of the call's own. No program is named here. -/
namespace Go.Proofs.YtaepgceodcdnhaaDoor
open Go.RowKit
section
variable {w w' : World} {base base' : Nat} {e e' : TypeId} {size size' : Nat} {v v' : Value} {n n' : Nat} {xs xs' : List Value}
/-- rows of unlike elements never share a block -/
theorem own_apart (h : w.ownsRow base e size v n xs) (h' : w.ownsRow base' e' size' v' n' xs') (hne : e ≠ e') : v.ownBlock = none ∨ v.ownBlock ≠ v'.ownBlock := by
  rcases h.2 with ⟨rfl, _⟩ | ⟨g, cap, cur, rfl, _, hh, _⟩
  · exact .inl rfl
  · rcases h'.2 with ⟨rfl, _⟩ | ⟨g', cap', cur', rfl, _, hh', _⟩
    · exact .inr (by simp [Value.ownBlock])
    · refine .inr (fun he => ?_)
      simp only [Value.ownBlock, Option.some.injEq] at he
      subst he
      rw [hh] at hh'
      injection hh' with hh'
      injection hh' with _ ht
      exact hne ht
theorem own_far {g : Nat} {t : TypeId} {cs : Array Value} (h : w.ownsRow base e size v n xs) (hg : Blk w g t cs) (hne : e ≠ t) : some g ≠ v.ownBlock := by
  rcases h.2 with ⟨rfl, _⟩ | ⟨g', cap, cur, rfl, _, hh, _⟩
  · simp [Value.ownBlock]
  · intro he
    simp only [Value.ownBlock, Option.some.injEq] at he
    subst he
    unfold Blk at hg
    rw [hg] at hh
    injection hh with hh
    injection hh with _ ht
    exact hne ht.symm
theorem Blk.grown {g : Nat} {t : TypeId} {cs : Array Value} {row : Option Nat} (h : Blk w g t cs) (hb : w.grownBy w' row) (hg : some g ≠ row) : Blk w' g t cs := (hb.block g h.lt hg).trans h
theorem below_grown {B : Nat} {w0 : World} (h : Below B w0 w) (hB : w0.heap.size ≤ w.heap.size) (hg : w.grownBy w' v.ownBlock) (ho : ∀ k, v.ownBlock = some k → B ≤ k) (hBw : B ≤ w.heap.size) : Below B w0 w' :=
  ⟨hg.os.trans h.os, hg.tape.trans h.tape, hg.output.trans h.output, Nat.le_trans hB hg.size, fun k hk => (hg.block k (by omega) (fun e => by have := ho k e.symm; omega)).trans (h.block k hk)⟩
theorem flat_get {α : Type} {f : α → List Value} {size : Nat} (hf : ∀ a, (f a).length = size) : ∀ (l : List α) (k : Nat) (a : α), l[k]? = some a → ∀ (j : Nat) (u : Value), (f a)[j]? = some u → (l.flatMap f)[k * size + j]? = some u
  | [], k, a, h, _, _, _ => by simp at h
  | b :: l, 0, a, h, j, u, hu => by
    simp only [List.getElem?_cons_zero, Option.some.injEq] at h
    subst h
    rw [List.flatMap_cons, Nat.zero_mul, Nat.zero_add, List.getElem?_append_left (List.getElem?_eq_some_iff.1 hu).1]
    exact hu
  | b :: l, k + 1, a, h, j, u, hu => by
    rw [List.flatMap_cons, List.getElem?_append_right (by rw [hf]; rw [Nat.add_mul]; omega), hf]
    have := flat_get hf l k a (by simpa using h) j u hu
    rw [show (k + 1) * size + j - size = k * size + j by rw [Nat.add_mul]; omega]
    exact this
/-- a row of the call's own is a slice of rows of cells -/
theorem rows_of_own {α : Type} {f : α → List Value} (hf : ∀ a, (f a).length = size) (hs : 0 < size) {l : List α} (h : w.ownsRow base e size v n (l.flatMap f)) :
    ∃ A c, v = .slice A l.length c ∧ l.length ≤ c ∧ RowsAt w w.heap.size size A (l.map f) := by
  have hlen : (l.flatMap f).length = l.length * size := by
    clear h
    induction l with
    | nil => simp
    | cons a l ih => rw [List.flatMap_cons, List.length_append, hf, ih, List.length_cons, Nat.succ_mul]; omega
  have hn : l.length = n := by
    have h1 := h.1
    rw [hlen] at h1
    exact Nat.eq_of_mul_eq_mul_right hs h1
  subst hn
  rcases h.2 with ⟨rfl, h0⟩ | ⟨g, cap, cur, rfl, hg, hh, hc, hm, hcs, ht⟩
  · have : l = [] := List.eq_nil_of_length_eq_zero h0
    subst this
    exact ⟨none, 0, rfl, by simp, RowsAt.none_⟩
  · refine ⟨some ⟨g, 0, none⟩, cap, rfl, hc, fun _ => ⟨g, 0, rfl, Blk.lt (t := e) (cs := cur) hh, fun k row hk j u hu => ?_⟩⟩
    rw [List.getElem?_map] at hk
    obtain ⟨a, ha, rfl⟩ := Option.map_eq_some_iff.1 hk
    have hx := flat_get hf l k a ha j u hu
    have hj : k * size + j < l.length * size := by rw [← hlen]; exact (List.getElem?_eq_some_iff.1 hx).1
    rw [Nat.zero_add, h.cellAt (g := g) (cap := cap) _ hj]
    exact hx
end
theorem RowsAt.up {w : World} {size : Nat} {A : Option Addr} {rows : List (List Value)} (h : RowsAt w w.heap.size size A rows) (o : Obj) : RowsAt (w.alloc o) (w.alloc o).heap.size size A rows :=
  (h.below ((Below.refl _ _).alloc (Nat.le_refl _) o)).more (by simp)
theorem below_set {B : Nat} {w w' : World} (h : Below B w w') {g : Nat} (i : Nat) (hg : B ≤ g) (a : Value) : Below B w (w'.setCell ⟨g, i, none⟩ a) := Below.setCell h (p := ⟨g, i, none⟩) hg a
theorem below_set3 {B : Nat} {w w' : World} (h : Below B w w') {g : Nat} (hg : B ≤ g) (a b c : Value) : Below B w (((w'.setCell ⟨g, 0, none⟩ a).setCell ⟨g, 1, none⟩ b).setCell ⟨g, 2, none⟩ c) :=
  below_set (below_set (below_set h 0 hg a) 1 hg b) 2 hg c
theorem below_set10 {B : Nat} {w w' : World} (h : Below B w w') {g : Nat} (hg : B ≤ g) (a0 a1 a2 a3 a4 a5 a6 a7 a8 a9 : Value) : Below B w ((((((((((w'.setCell ⟨g, 0, none⟩ a0).setCell ⟨g, 1, none⟩ a1).setCell ⟨g, 2, none⟩ a2).setCell ⟨g, 3, none⟩ a3).setCell ⟨g, 4, none⟩ a4).setCell ⟨g, 5, none⟩ a5).setCell ⟨g, 6, none⟩ a6).setCell ⟨g, 7, none⟩ a7).setCell ⟨g, 8, none⟩ a8).setCell ⟨g, 9, none⟩ a9) :=
  below_set (below_set (below_set (below_set (below_set (below_set (below_set (below_set (below_set (below_set h 0 hg a0) 1 hg a1) 2 hg a2) 3 hg a3) 4 hg a4) 5 hg a5) 6 hg a6) 7 hg a7) 8 hg a8) 9 hg a9
theorem bcell {W w1 : World} (hb : Below W.heap.size W w1) : (∀ b o, b < W.heap.size → w1.cell? ⟨b, o, none⟩ = W.cell? ⟨b, o, none⟩) ∧ (∀ b o, b < W.heap.size → w1.frozen? ⟨b, o, none⟩ = W.frozen? ⟨b, o, none⟩) :=
  ⟨fun b o h => hb.cell (p := ⟨b, o, none⟩) h, fun b o h => hb.frozen (p := ⟨b, o, none⟩) h⟩
theorem RowsAt.lift {w w' : World} {size : Nat} {A : Option Addr} {rows : List (List Value)} (h : RowsAt w w.heap.size size A rows) (hb : Below w.heap.size w w') : RowsAt w' w'.heap.size size A rows := (h.below hb).more hb.size
theorem rows_keep {w w' : World} {B B' size g o : Nat} {rows : List (List Value)} (h : RowsAt w B size (some ⟨g, o, none⟩) rows) (hk : ∀ q, w'.cell? ⟨g, q, none⟩ = w.cell? ⟨g, q, none⟩) (hB : g < B') : RowsAt w' B' size (some ⟨g, o, none⟩) rows := fun hn => by
  obtain ⟨b, off, e, hb, hc⟩ := h hn
  injection e with e
  injection e with e1 e2
  subst e1 e2
  exact ⟨g, o, rfl, hB, fun k row hr j u hu => (hk _).trans (hc k row hr j u hu)⟩
theorem cell_set {w : World} {g r : Nat} (h : g ≠ r) (i : Nat) (u : Value) (q : Nat) : (w.setCell ⟨r, i, none⟩ u).cell? ⟨g, q, none⟩ = w.cell? ⟨g, q, none⟩ := World.cell?_setCell_other _ _ _ _ (fun e => h (by injection e with e1; exact e1.symm))
theorem cell_set10 {w : World} {g r : Nat} (h : g ≠ r) (a0 a1 a2 a3 a4 a5 a6 a7 a8 a9 : Value) (q : Nat) : ((((((((((w.setCell ⟨r, 0, none⟩ a0).setCell ⟨r, 1, none⟩ a1).setCell ⟨r, 2, none⟩ a2).setCell ⟨r, 3, none⟩ a3).setCell ⟨r, 4, none⟩ a4).setCell ⟨r, 5, none⟩ a5).setCell ⟨r, 6, none⟩ a6).setCell ⟨r, 7, none⟩ a7).setCell ⟨r, 8, none⟩ a8).setCell ⟨r, 9, none⟩ a9).cell? ⟨g, q, none⟩ = w.cell? ⟨g, q, none⟩ := by
  rw [cell_set h, cell_set h, cell_set h, cell_set h, cell_set h, cell_set h, cell_set h, cell_set h, cell_set h, cell_set h]
theorem size_set (w : World) (p : Addr) (u : Value) : (w.setCell p u).heap.size = w.heap.size := by simp [World.setCell]
theorem size_set10' (w : World) (r : Nat) (a0 a1 a2 a3 a4 a5 a6 a7 a8 a9 : Value) : ((((((((((w.setCell ⟨r, 0, none⟩ a0).setCell ⟨r, 1, none⟩ a1).setCell ⟨r, 2, none⟩ a2).setCell ⟨r, 3, none⟩ a3).setCell ⟨r, 4, none⟩ a4).setCell ⟨r, 5, none⟩ a5).setCell ⟨r, 6, none⟩ a6).setCell ⟨r, 7, none⟩ a7).setCell ⟨r, 8, none⟩ a8).setCell ⟨r, 9, none⟩ a9).heap.size = w.heap.size := by
  rw [size_set, size_set, size_set, size_set, size_set, size_set, size_set, size_set, size_set, size_set]
theorem rows_set10 {w : World} {B size g o r : Nat} {rows : List (List Value)} (h : RowsAt w B size (some ⟨g, o, none⟩) rows) (hB : g < w.heap.size) (hne : g ≠ r) (a0 a1 a2 a3 a4 a5 a6 a7 a8 a9 : Value) : RowsAt ((((((((((w.setCell ⟨r, 0, none⟩ a0).setCell ⟨r, 1, none⟩ a1).setCell ⟨r, 2, none⟩ a2).setCell ⟨r, 3, none⟩ a3).setCell ⟨r, 4, none⟩ a4).setCell ⟨r, 5, none⟩ a5).setCell ⟨r, 6, none⟩ a6).setCell ⟨r, 7, none⟩ a7).setCell ⟨r, 8, none⟩ a8).setCell ⟨r, 9, none⟩ a9) ((((((((((w.setCell ⟨r, 0, none⟩ a0).setCell ⟨r, 1, none⟩ a1).setCell ⟨r, 2, none⟩ a2).setCell ⟨r, 3, none⟩ a3).setCell ⟨r, 4, none⟩ a4).setCell ⟨r, 5, none⟩ a5).setCell ⟨r, 6, none⟩ a6).setCell ⟨r, 7, none⟩ a7).setCell ⟨r, 8, none⟩ a8).setCell ⟨r, 9, none⟩ a9).heap.size size (some ⟨g, o, none⟩) rows :=
  rows_keep h (cell_set10 hne a0 a1 a2 a3 a4 a5 a6 a7 a8 a9) (by rw [size_set10']; exact hB)
theorem RowsAt.drew {w : World} {B size : Nat} {A : Option Addr} {rows : List (List Value)} (h : RowsAt w B size A rows) : RowsAt w.drew B size A rows := h.keep fun p _ => World.cell?_drew w p
theorem RowsAt.drewN {w : World} {B size : Nat} {A : Option Addr} {rows : List (List Value)} (h : RowsAt w B size A rows) (n : Nat) : RowsAt (w.drewN n) B size A rows := h.keep fun _ _ => rfl
theorem Blk.two {w : World} {g : Nat} {t : TypeId} {a0 a1 : Value} (h : Blk w g t #[a0, a1]) : w.cell? ⟨g, 0, none⟩ = some a0 ∧ w.cell? ⟨g, 1, none⟩ = some a1 := ⟨h.cell 0, h.cell 1⟩
theorem Blk.three {w : World} {g : Nat} {t : TypeId} {a0 a1 a2 : Value} (h : Blk w g t #[a0, a1, a2]) : w.cell? ⟨g, 0, none⟩ = some a0 ∧ w.cell? ⟨g, 1, none⟩ = some a1 ∧ w.cell? ⟨g, 2, none⟩ = some a2 := ⟨h.cell 0, h.cell 1, h.cell 2⟩
theorem Blk.four {w : World} {g : Nat} {t : TypeId} {a0 a1 a2 a3 : Value} (h : Blk w g t #[a0, a1, a2, a3]) : w.cell? ⟨g, 0, none⟩ = some a0 ∧ w.cell? ⟨g, 1, none⟩ = some a1 ∧ w.cell? ⟨g, 2, none⟩ = some a2 ∧ w.cell? ⟨g, 3, none⟩ = some a3 := ⟨h.cell 0, h.cell 1, h.cell 2, h.cell 3⟩
theorem Blk.five {w : World} {g : Nat} {t : TypeId} {a0 a1 a2 a3 a4 : Value} (h : Blk w g t #[a0, a1, a2, a3, a4]) : w.cell? ⟨g, 0, none⟩ = some a0 ∧ w.cell? ⟨g, 1, none⟩ = some a1 ∧ w.cell? ⟨g, 2, none⟩ = some a2 ∧ w.cell? ⟨g, 3, none⟩ = some a3 ∧ w.cell? ⟨g, 4, none⟩ = some a4 := ⟨h.cell 0, h.cell 1, h.cell 2, h.cell 3, h.cell 4⟩
theorem Blk.ten {w : World} {g : Nat} {t : TypeId} {a0 a1 a2 a3 a4 a5 a6 a7 a8 a9 : Value} (h : Blk w g t #[a0, a1, a2, a3, a4, a5, a6, a7, a8, a9]) : w.cell? ⟨g, 0, none⟩ = some a0 ∧ w.cell? ⟨g, 1, none⟩ = some a1 ∧ w.cell? ⟨g, 2, none⟩ = some a2 ∧ w.cell? ⟨g, 3, none⟩ = some a3 ∧ w.cell? ⟨g, 4, none⟩ = some a4 ∧ w.cell? ⟨g, 5, none⟩ = some a5 ∧ w.cell? ⟨g, 6, none⟩ = some a6 ∧ w.cell? ⟨g, 7, none⟩ = some a7 ∧ w.cell? ⟨g, 8, none⟩ = some a8 ∧ w.cell? ⟨g, 9, none⟩ = some a9 := ⟨h.cell 0, h.cell 1, h.cell 2, h.cell 3, h.cell 4, h.cell 5, h.cell 6, h.cell 7, h.cell 8, h.cell 9⟩
theorem Blk.after {w w' : World} {g : Nat} {t : TypeId} {cs : Array Value} (h : Blk w g t cs) (hb : Below w.drew.heap.size w.drew w') : Blk w' g t cs := h.drew.below hb h.drew.lt
theorem Blk.behind {w w' : World} {g : Nat} {t : TypeId} {cs : Array Value} (h : Blk w g t cs) (hb : Below w.heap.size w w') : Blk w' g t cs := h.below hb h.lt
theorem own_mono {w : World} {base base' : Nat} {e : TypeId} {size : Nat} {v : Value} {n : Nat} {xs : List Value} (h : w.ownsRow base e size v n xs) (hb : base' ≤ base) : w.ownsRow base' e size v n xs :=
  ⟨h.1, h.2.imp id fun ⟨g, cap, cur, a, b, r⟩ => ⟨g, cap, cur, a, Nat.le_trans hb b, r⟩⟩
theorem Blk.grownFar {w w' : World} {g : Nat} {t : TypeId} {cs : Array Value} {base : Nat} {e : TypeId} {size : Nat} {v : Value} {n : Nat} {xs : List Value} (hg : w.grownBy w' v.ownBlock) (h : Blk w g t cs) (ho : w.ownsRow base e size v n xs) (hne : e ≠ t) : Blk w' g t cs := h.grown hg (own_far ho h hne)
theorem Blk.new1 (w : World) (o : Obj) (t : TypeId) (cs : Array Value) : Blk ((w.alloc o).alloc (.cells cs t)) (w.heap.size + 1) t cs := Blk.new_ (by simp)
theorem own_setCell {w : World} {base : Nat} {e : TypeId} {size : Nat} {v : Value} {n : Nat} {xs : List Value} (h : w.ownsRow base e size v n xs) {g : Nat} (hne : some g ≠ v.ownBlock) (i : Nat) (u : Value) : (w.setCell ⟨g, i, none⟩ u).ownsRow base e size v n xs := by
  refine ⟨h.1, h.2.imp id ?_⟩
  rintro ⟨g', cap, cur, rfl, b, hh, r⟩
  have hgg : g' ≠ g := fun e => hne (by rw [e]; rfl)
  exact ⟨g', cap, cur, rfl, b, (Below.heap_setCell w ⟨g, i, none⟩ u g' hgg).trans hh, r⟩
end Go.Proofs.YtaepgceodcdnhaaDoor
/- A drawn region by a plan: operations that only yield a value are taken in a given order, the others are met as they come up. No program is named here. -/
namespace Go.Proofs.YtaepgceodcdnhaaDoor.Reg
open Go Go.RowKit

section
variable {P : Program} {ops : Array Oper} {md : Region.Mode} {S : World → Prop} {lax : Nat → Bool} {Q : Exit → Act → World → Prop}

def NoLax (lax : Nat → Bool) (listed : Array Bool) : Prop := ∀ j, lax j = true → listed.getD j false = false
/-- whatever order is picked from here on; what holds of the world (S) is kept by each operation that is not lax -/
def wpAnyK (P : Program) (md : Region.Mode) (ops : Array Oper) (lax : Nat → Bool) (S : World → Prop) (Q : Exit → Act → World → Prop) : Nat → Array Bool → Act → World → Prop
  | 0, listed, a, w => Region.ready md ops listed = [] ∧ Q .normal a w
  | fuel + 1, listed, a, w =>
    (Region.ready md ops listed = [] → Q .normal a w) ∧
    ∀ i ∈ Region.ready md ops listed, wpOp P ops Q i (fun a' w' => (lax i = false → NoLax lax listed → S w → S w') ∧ wpAnyK P md ops lax S Q fuel (listed.setIfInBounds i true) a' w') a w

theorem any_of_K : ∀ (fuel : Nat) (listed : Array Bool) (a : Act) (w : World), wpAnyK P md ops lax S Q fuel listed a w → wpAny P md ops Q fuel listed a w
  | 0, _, _, _, h => h
  | fuel + 1, _, _, _, h => ⟨h.1, fun i hi => wpOp_mono (fun a' w' h' => any_of_K fuel _ a' w' h'.2) (h.2 i hi)⟩

/-- what is listed is closed under 'comes behind' -/
def Closed (md : Region.Mode) (ops : Array Oper) (listed : Array Bool) : Prop :=
  listed.size = ops.size ∧ ∀ j oj, ops[j]? = some oj → listed.getD j false = true → ∀ e ∈ oj.after, Region.binds md e = true → listed.getD e.on false = true
theorem Closed.set {i : Nat} {listed : Array Bool} (inv : Closed md ops listed) (hi : i ∈ Region.ready md ops listed) : Closed md ops (listed.setIfInBounds i true) := by
  obtain ⟨_, oi, hoi, hall⟩ := mem_ready.1 hi
  refine ⟨by rw [Array.size_setIfInBounds]; exact inv.1, ?_⟩
  intro j oj hj hl e he hb
  by_cases hij : i = j
  · subst hij
    have : oj = oi := Option.some.inj (hj.symm.trans hoi)
    subst this
    exact getD_set_true (hall e he hb)
  · rw [getD_set_ne false hij] at hl
    exact getD_set_true (inv.2 j oj hj hl e he hb)

def mask (md : Region.Mode) : List Edge → Nat
  | [] => 0
  | e :: es => (if Region.binds md e then 2 ^ e.on else 0) ||| mask md es
theorem mask_spec {i : Nat} : ∀ (es : List Edge), (mask md es).testBit i = true → ∃ e ∈ es, Region.binds md e = true ∧ e.on = i
  | [], h => by simp [mask] at h
  | e :: es, h => by
    unfold mask at h
    rw [Nat.testBit_or, Bool.or_eq_true] at h
    rcases h with h | h
    · cases hb : Region.binds md e with
      | false => rw [hb] at h; simp at h
      | true =>
        rw [hb, if_pos rfl, Nat.testBit_two_pow] at h
        exact ⟨e, by simp, hb, by simpa using h⟩
    · obtain ⟨e', he, hx⟩ := mask_spec es h
      exact ⟨e', by simp [he], hx⟩
/-- all that must come before what is in the mask -/
def down (md : Region.Mode) (ops : Array Oper) : Nat → Nat → Nat
  | 0, m => m
  | k + 1, m => down md ops k (match ops[k]? with | some o => if m.testBit k then m ||| mask md o.after.toList else m | none => m)
theorem down_spec {listed : Array Bool} (hc : Closed md ops listed) {j : Nat} (hj : ∀ o, ops[j]? = some o → ∀ e ∈ o.after, Region.binds md e = true → listed.getD e.on false = true) :
    ∀ (k m : Nat), (∀ i, m.testBit i = true → i = j ∨ listed.getD i false = true) → ∀ i, (down md ops k m).testBit i = true → i = j ∨ listed.getD i false = true
  | 0, _, hm, i, h => hm i h
  | k + 1, m, hm, i, h => by
    unfold down at h
    refine down_spec hc hj k _ ?_ i h
    intro i hi
    split at hi
    · rename_i o ho
      split at hi
      · rename_i hk
        rw [Nat.testBit_or, Bool.or_eq_true] at hi
        rcases hi with hi | hi
        · exact hm i hi
        · obtain ⟨e, he, hb, rfl⟩ := mask_spec _ hi
          rcases hm k hk with rfl | hl
          · exact .inr (hj o ho e (by simpa using he) hb)
          · exact .inr (hc.2 k o ho hl e (by simpa using he) hb)
      · exact hm i hi
    · exact hm i hi

/-- what is asked of a class of worlds, so that an operation that yields its value in all of them may be taken first -/
def Keeps (md : Region.Mode) (ops : Array Oper) (lax : Nat → Bool) (S T : World → Prop) (i : Nat) : Prop :=
  ∀ j listed, Closed md ops listed → listed.getD i false = false → j ∈ Region.ready md ops listed → j ≠ i → ∀ w w', T w → (lax j = false → NoLax lax listed → S w → S w') → T w'
theorem keeps_true (i : Nat) : Keeps md ops lax S (fun _ => True) i := fun _ _ _ _ _ _ _ _ _ _ => trivial
def heldB (md : Region.Mode) (ops : Array Oper) (lax : Nat → Bool) (i : Nat) : Bool := (List.range ops.size).all fun j => !lax j || (down md ops ops.size (2 ^ j)).testBit i
theorem held_lax {i : Nat} (h : heldB md ops lax i = true) {j : Nat} (hx : lax j = true) (hjs : j < ops.size) : (down md ops ops.size (2 ^ j)).testBit i = true := by
  have h1 := List.all_eq_true.1 h j (List.mem_range.2 hjs)
  rw [hx] at h1
  simpa using h1
theorem bit_self {j i : Nat} (hi : (2 ^ j).testBit i = true) : i = j := by rw [Nat.testBit_two_pow] at hi; simpa using (of_decide_eq_true hi).symm
theorem keeps_held {i : Nat} (hli : lax i = false) (h : heldB md ops lax i = true) : Keeps md ops lax S S i := by
  intro j listed hc hl hj hne w w' hT hS
  obtain ⟨_, oj, hoj, hall⟩ := mem_ready.1 hj
  have hjs : j < ops.size := (Array.getElem?_eq_some_iff.1 hoj).1
  cases hx : lax j with
  | false =>
    refine hS hx (fun k hk => ?_) hT
    cases hlk : listed.getD k false with
    | false => rfl
    | true =>
      exfalso
      rcases Nat.lt_or_ge k ops.size with hks | hks
      · rcases down_spec hc (fun o ho e he hb => hc.2 k o ho hlk e he hb) ops.size (2 ^ k) (fun i hi => .inl (bit_self hi)) i (held_lax h hk hks) with h2 | h2
        · rw [h2, hk] at hli; cases hli
        · rw [hl] at h2; cases h2
      · rw [← hc.1] at hks
        simp [Array.getElem?_eq_none hks] at hlk
  | true =>
    exfalso
    rcases down_spec hc (fun o ho => by have : oj = o := Option.some.inj (hoj.symm.trans ho); subst this; exact hall) ops.size (2 ^ j) (fun i hi => .inl (bit_self hi)) i (held_lax h hx hjs) with h2 | h2
    · exact hne h2.symm
    · rw [hl] at h2; cases h2

theorem anyK_first {T : World → Prop} {i : Nat} {oi : Oper} {v : Value} (hi : ops[i]? = some oi) (hsel : ∀ (j : Nat) (o : Oper) cs b, ops[j]? = some o → o.op ≠ .select cs b)
    (hQ : ∀ c a w, Q (.panic c) (a.put oi.dst v) w → Q (.panic c) a w) (hli : lax i = false) (hT : Keeps md ops lax S T i) :
    ∀ (fuel : Nat) (listed : Array Bool) (a : Act) (w : World), Closed md ops listed →
      (∀ j oj, ops[j]? = some oj → j ≠ i → listed.getD j true = false → (∀ e ∈ oj.after, Region.binds md e = true → e.on ≠ i) → oi.apart ops oj = true) →
      i ∈ Region.ready md ops listed → YieldsIf P ops T oi v a → T w →
      wpAnyK P md ops lax S Q fuel (listed.setIfInBounds i true) (a.put oi.dst v) w → wpAnyK P md ops lax S Q (fuel + 1) listed a w := by
  intro fuel
  induction fuel with
  | zero =>
    intro listed a w _ _ hr hy hw H
    refine ⟨fun h => (by rw [h] at hr; cases hr), fun j hj => ?_⟩
    by_cases hji : j = i
    · subst hji; exact hy.wpOp hi hw ⟨fun _ _ hs => hs, H⟩
    · have := ready_mono hj hji
      rw [H.1] at this
      cases this
  | succ fuel ih =>
    intro listed a w hc hfree hr hy hw H
    refine ⟨fun h => (by rw [h] at hr; cases hr), fun j hj => ?_⟩
    by_cases hji : j = i
    · subst hji; exact hy.wpOp hi hw ⟨fun _ _ hs => hs, H⟩
    · have h1 := H.2 j (ready_mono hj hji)
      have hiun := getD_both (mem_ready.1 hr).1
      obtain ⟨hjun, oj, hoj, hall⟩ := mem_ready.1 hj
      have hnot : ∀ e ∈ oj.after, Region.binds md e = true → e.on ≠ i := fun e he hb heq => by
        have h1 := hall e he hb
        rw [heq, hiun] at h1
        cases h1
      have h2 := wpOp_putIf hoj (hfree j oj hoj hji hjun hnot) (fun cs b => hsel i oi cs b hi) (fun cs b => hsel j oj cs b hoj) hQ hy h1
      have hfree' : ∀ k ok, ops[k]? = some ok → k ≠ i → (listed.setIfInBounds j true).getD k true = false →
          (∀ e ∈ ok.after, Region.binds md e = true → e.on ≠ i) → oi.apart ops ok = true := fun k ok hk hki hun hno => by
        refine hfree k ok hk hki ?_ hno
        by_cases hjk : j = k
        · subst hjk; exact hjun
        · rw [getD_set_ne true hjk] at hun; exact hun
      have hset : NoLax lax listed → NoLax lax (listed.setIfInBounds i true) := fun hn k hk => by
        rw [getD_set_ne false (fun e => by rw [e, hk] at hli; cases hli)]; exact hn k hk
      refine wpOp_mono (fun a' w' h3 => ⟨fun h1 h2 h4 => h3.2.1 h1 (hset h2) h4, ih (listed.setIfInBounds j true) a' w' (hc.set hj) hfree' (ready_mono hr (Ne.symm hji)) h3.1 (hT j listed hc hiun hj hji w w' hw (fun h1 h2 h4 => h3.2.1 h1 (hset h2) h4)) ?_⟩) h2
      rw [Array.setIfInBounds_comm _ _ hji]
      exact h3.2.2

/-! ### Operations that yield a value -/
def valOp : Op → Bool
  | .move _ | .assign _ | .pick .. | .build .. | .load .. | .binOp .. | .unOp .. | .convert .. | .fieldAddr .. | .field .. | .indexAddr .. | .index .. | .lookup .. | .slice .. | .extract .. | .makeInterface .. | .nilCheck _ => true
  | .call { callee := .builtin .len, .. } | .call { callee := .builtin .cap, .. } | .call { callee := .builtin .max, .. } | .call { callee := .builtin .min, .. } => true
  | _ => false
theorem run_val {α : Type} (s : Sem α) (f : α → Value) (w : World) : (∃ v w', (s >>= fun x => pure (Next.value (f x)) : Sem Next).run P w = .ok (.value v) w') ∨ ∃ h w', (s >>= fun x => pure (Next.value (f x)) : Sem Next).run P w = .halt h w' := by
  rw [Sem.run_bind]
  cases s.run P w with
  | ok v w' => exact .inl ⟨f v, w', rfl⟩
  | halt x w' => exact .inr ⟨x, w', rfl⟩
theorem run_nilDeref (w : World) : ∃ h w', (runtimePanic .nilDeref : Sem Next).run P w = .halt h w' := ⟨_, _, rfl⟩
theorem run_ahead {β : Type} (s : Program → Sem β) (k : β → Sem Next) (hk : ∀ b w, (∃ v w', (k b).run P w = .ok (.value v) w') ∨ ∃ h w', (k b).run P w = .halt h w') (w : World) :
    (∃ v w', (program >>= fun p => s p >>= k : Sem Next).run P w = .ok (.value v) w') ∨ ∃ h w', (program >>= fun p => s p >>= k : Sem Next).run P w = .halt h w' := by
  rw [Sem.run_bind, show (program : Sem Program).run P w = .ok P w from rfl]
  dsimp only [Result.andThen]
  rw [Sem.run_bind]
  cases (s P).run P w with
  | halt h w' => exact .inr ⟨_, _, rfl⟩
  | ok b w' => exact hk b w'
theorem run_valOp {ρ : Operand → Value} {o : Oper} (h : valOp o.op = true) (w : World) : (∃ v w', (execOp ρ o).run P w = .ok (.value v) w') ∨ ∃ h w', (execOp ρ o).run P w = .halt h w' := by
  unfold valOp at h
  split at h
  all_goals first | cases h | skip
  all_goals
    rename_i heq
    unfold execOp
    rw [heq]
    dsimp only
    first
      | (split
         · exact .inr (run_nilDeref w)
         · exact .inr (run_nilDeref w)
         · exact .inr (run_nilDeref w)
         · split
           · exact .inr (run_nilDeref w)
           · exact run_ahead _ _ (fun b w => by split <;> first | exact .inl ⟨_, _, rfl⟩ | exact .inr ⟨_, _, rfl⟩) w
           · exact .inl ⟨_, w, rfl⟩
         · exact .inl ⟨_, w, rfl⟩)
      | exact .inl ⟨_, w, rfl⟩
      | exact run_val _ (fun x => x) w
      | (rename_i c a b; exact run_val (asBool (ρ c)) (fun x => if x = true then ρ a else ρ b) w)
      | exact run_val (Builtin.len_ _ _ _) (fun x => x) w
      | exact run_val (Builtin.cap_ _ _ _) (fun x => x) w
      | exact run_val (Builtin.max_ _ _ _) (fun x => x) w
      | exact run_val (Builtin.min_ _ _ _) (fun x => x) w
theorem yields_of_quiet {C : World → Prop} {o : Oper} {a : Act} {v : Value} (hv : valOp o.op = true) (h : ∀ w, C w → o.quietAt P a C w v) (w : World) (hw : C w) : (execOp a.eval o).run P w = .ok (.value v) w := by
  have h1 := h w hw
  unfold Oper.quietAt at h1
  rcases run_valOp (P := P) (ρ := a.eval) hv w with ⟨u, w', e⟩ | ⟨x, w', e⟩
  · rw [e] at h1 ⊢
    obtain ⟨rfl, rfl⟩ := h1
    rfl
  · rw [e] at h1
    exact h1.elim

/-! ### Plans -/
inductive Plan where
  | done
  | take (held : Bool) (is : List Nat) (p : Plan)
  | one (n : Nat) (p : Plan)
  | two (n m : Nat) (p q : Plan)
  | three (n m k : Nat) (p q r : Plan)
def Plan.len : Plan → Nat
  | .done => 0
  | .take _ is p => is.length + p.len
  | .one _ p => p.len + 1
  | .two _ _ p q => max p.len q.len + 1
  | .three _ _ _ p q r => max p.len (max q.len r.len) + 1
def lists (listed : Array Bool) : List Nat → Array Bool
  | [] => listed
  | i :: is => lists (listed.setIfInBounds i true) is
def takeB (md : Region.Mode) (ops : Array Oper) (lax : Nat → Bool) (held : Bool) : Array Bool → List Nat → Bool
  | _, [] => true
  | listed, i :: is => (Region.ready md ops listed).contains i && Region.free md ops listed i && ((ops[i]?).map fun o => valOp o.op).getD false && !lax i && (!held || heldB md ops lax i) && takeB md ops lax held (listed.setIfInBounds i true) is
def Plan.ok (md : Region.Mode) (ops : Array Oper) (lax : Nat → Bool) : Plan → Array Bool → Bool → Bool
  | .done, listed, _ => (Region.ready md ops listed).isEmpty
  | .take held is p, listed, s => (!held || s) && takeB md ops lax held listed is && p.ok md ops lax (lists listed is) s
  | .one n p, listed, s => decide (Region.ready md ops listed = [n]) && p.ok md ops lax (listed.setIfInBounds n true) (s && !lax n)
  | .two n m p q, listed, s => decide (Region.ready md ops listed = [n, m]) && p.ok md ops lax (listed.setIfInBounds n true) (s && !lax n) && q.ok md ops lax (listed.setIfInBounds m true) (s && !lax m)
  | .three n m k p q r, listed, s => decide (Region.ready md ops listed = [n, m, k]) && p.ok md ops lax (listed.setIfInBounds n true) (s && !lax n) && q.ok md ops lax (listed.setIfInBounds m true) (s && !lax m) && r.ok md ops lax (listed.setIfInBounds k true) (s && !lax k)
def pick (l : List Oper) : List Nat → List Oper
  | [] => []
  | i :: is => (l[i]?).toList ++ pick l is
def cls (S : World → Prop) : Bool → World → Prop
  | true => S
  | false => fun _ => True
/-- behind an operation that is met -/
def behind (S : World → Prop) (b : Bool) (w : World) (p : Prop) : Prop := (b = true → S w) ∧ p
def wpPlan (P : Program) (l : List Oper) (lax : Nat → Bool) (S : World → Prop) (Q : Exit → Act → World → Prop) : Plan → Bool → Act → World → Prop
  | .done, _, a, w => Q .normal a w
  | .take held is p, s, a, w => wpQuiet P l.toArray (cls S held) (fun a' => wpPlan P l lax S Q p s a' w) (pick l is) a
  | .one n p, s, a, w => wpList P l.toArray (Exit.then (fun a' w' => behind S (s && !lax n) w' (wpPlan P l lax S Q p (s && !lax n) a' w')) Q) (l[n]?).toList a w
  | .two n m p q, s, a, w => wpList P l.toArray (Exit.then (fun a' w' => behind S (s && !lax n) w' (wpPlan P l lax S Q p (s && !lax n) a' w')) Q) (l[n]?).toList a w ∧ wpList P l.toArray (Exit.then (fun a' w' => behind S (s && !lax m) w' (wpPlan P l lax S Q q (s && !lax m) a' w')) Q) (l[m]?).toList a w
  | .three n m k p q r, s, a, w => wpList P l.toArray (Exit.then (fun a' w' => behind S (s && !lax n) w' (wpPlan P l lax S Q p (s && !lax n) a' w')) Q) (l[n]?).toList a w ∧ wpList P l.toArray (Exit.then (fun a' w' => behind S (s && !lax m) w' (wpPlan P l lax S Q q (s && !lax m) a' w')) Q) (l[m]?).toList a w ∧ wpList P l.toArray (Exit.then (fun a' w' => behind S (s && !lax k) w' (wpPlan P l lax S Q r (s && !lax k) a' w')) Q) (l[k]?).toList a w

theorem wp_then {o : Oper} {a : Act} {w : World} {K K' next : Act → World → Prop} (hn : ∀ a w, next a w → K' a w) (h : o.wp P a w next (Exit.then K Q)) : o.wp P a w K' Q := by
  unfold Oper.wp at *
  generalize (execOp a.eval o).run P w = r at *
  cases r with
  | ok n w' =>
    cases n <;> simp only [Oper.upon] at h ⊢ <;>
      first
        | exact hn _ _ h
        | exact Calls.mono h (fun e w'' he => by cases e <;> first | exact hn _ _ he | exact he)
        | exact Rows.mono h (fun _ _ he => hn _ _ he)
  | halt x w' => cases x <;> simp only [Oper.upon] at h ⊢ <;> exact h
theorem op_of_list {l : List Oper} {n : Nat} {a : Act} {w : World} {K K' : Act → World → Prop} (hn : n < l.length) (hk : ∀ a w, K a w → K' a w) (h : wpList P l.toArray (Exit.then K Q) (l[n]?).toList a w) : wpOp P l.toArray Q n K' a w := by
  have ho : l[n]? = some l[n] := by simp [hn]
  rw [ho] at h
  unfold wpOp
  simp only [List.getElem?_toArray, ho]
  unfold Option.toList wpList at h
  split at h
  · rename_i hw
    rw [if_pos hw]
    rcases h with h | ⟨h1, h2⟩
    · exact .inl (wp_then (fun a'' w'' hx => hk a'' w'' hx) h)
    · exact .inr ⟨h1, h2⟩
  · rename_i hw
    rw [if_neg hw]
    exact hk _ _ h

theorem nlax {s l : Bool} (h : (s && !l) = true) : l = false := by cases s <;> cases l <;> simp_all
theorem ready_lt {i : Nat} {listed : Array Bool} (h : i ∈ Region.ready md ops listed) : i < ops.size := by
  obtain ⟨_, o, ho, _⟩ := mem_ready.1 h
  exact (Array.getElem?_eq_some_iff.1 ho).1

theorem take_sound {l : List Oper} (hsel : Region.noSelect l.toArray = true) (hQ : ∀ d c a v w, Q (.panic c) (a.put d v) w → Q (.panic c) a w) {held : Bool} {fuel : Nat} {w : World} (hw : cls S held w) :
    ∀ (is : List Nat) (listed : Array Bool) (a : Act), Closed md l.toArray listed → takeB md l.toArray lax held listed is = true →
      wpQuiet P l.toArray (cls S held) (fun a' => wpAnyK P md l.toArray lax S Q fuel (lists listed is) a' w) (pick l is) a → wpAnyK P md l.toArray lax S Q (fuel + is.length) listed a w
  | [], _, _, _, _, h => h
  | i :: is, listed, a, hc, hB, h => by
    simp only [takeB, Bool.and_eq_true] at hB
    obtain ⟨⟨⟨⟨⟨hr, hf⟩, hv⟩, hlx⟩, hh⟩, hB'⟩ := hB
    have hlx : lax i = false := by simpa using hlx
    have hr' : i ∈ Region.ready md l.toArray listed := by simpa using hr
    have hil : i < l.length := by have := ready_lt hr'; simpa using this
    have ho : l[i]? = some l[i] := by simp [hil]
    have ho' : l.toArray[i]? = some l[i] := by simp [hil]
    have hv' : valOp l[i].op = true := by simpa [ho'] using hv
    unfold pick at h
    rw [ho] at h
    have hT : Keeps md l.toArray lax S (cls S held) i := by
      cases held with
      | true => exact keeps_held hlx (by simpa using hh)
      | false => exact keeps_true i
    have key : ∃ v, YieldsIf P l.toArray (cls S held) l[i] v a ∧ wpQuiet P l.toArray (cls S held) (fun a' => wpAnyK P md l.toArray lax S Q fuel (lists (listed.setIfInBounds i true) is) a' w) (pick l is) (a.put l[i].dst v) := by
      change wpQuiet P l.toArray (cls S held) _ (l[i] :: pick l is) a at h
      unfold wpQuiet at h
      split at h
      · rename_i hwant
        obtain ⟨v, h1, h2⟩ := h
        exact ⟨v, .inl ⟨hwant, fun w' hw' => yields_of_quiet hv' h1 w' hw'⟩, h2⟩
      · rename_i hwant
        exact ⟨undef, .inr ⟨by simpa using hwant, rfl⟩, h⟩
    obtain ⟨v, hy, hrest⟩ := key
    have hnext := take_sound hsel hQ hw is (listed.setIfInBounds i true) (a.put l[i].dst v) (hc.set hr') hB' hrest
    exact anyK_first ho' (Region.noSelect_spec hsel) (fun c a w => hQ _ c a _ w) hlx hT (fuel + is.length) listed a w hc (Region.free_spec ho' hf) hr' hy hw hnext

theorem keep_of {s : Bool} {n : Nat} {listed : Array Bool} {w w' : World} (hs' : s = false → ∃ j, lax j = true ∧ listed.getD j false = true) (h : (s && !lax n) = true → S w') : lax n = false → NoLax lax listed → S w → S w' := fun h1 h2 _ => by
  refine h ?_
  rw [h1]
  cases s with
  | true => rfl
  | false =>
    obtain ⟨j, h3, h4⟩ := hs' rfl
    rw [h2 j h3] at h4
    cases h4
theorem gone_of {s : Bool} {n : Nat} {listed : Array Bool} (hs' : s = false → ∃ j, lax j = true ∧ listed.getD j false = true) (hn : n < listed.size) : (s && !lax n) = false → ∃ j, lax j = true ∧ (listed.setIfInBounds n true).getD j false = true := fun h => by
  cases hx : lax n with
  | true => exact ⟨n, hx, by simp [hn]⟩
  | false =>
    rw [hx] at h
    obtain ⟨j, h3, h4⟩ := hs' (by simpa using h)
    exact ⟨j, h3, getD_set_true h4⟩
theorem gone_lists {is : List Nat} : ∀ {listed : Array Bool}, (∃ j, lax j = true ∧ listed.getD j false = true) → ∃ j, lax j = true ∧ (lists listed is).getD j false = true := by
  induction is with
  | nil => exact fun h => h
  | cons i is ih => exact fun ⟨j, h1, h2⟩ => ih ⟨j, h1, getD_set_true h2⟩
theorem plan_sound {l : List Oper} (hsel : Region.noSelect l.toArray = true) (hQ : ∀ d c a v w, Q (.panic c) (a.put d v) w → Q (.panic c) a w) :
    ∀ (p : Plan) (fuel : Nat) (listed : Array Bool) (s : Bool) (a : Act) (w : World), p.len ≤ fuel → Closed md l.toArray listed → (s = true → S w) → (s = false → ∃ j, lax j = true ∧ listed.getD j false = true) → p.ok md l.toArray lax listed s = true →
      wpPlan P l lax S Q p s a w → wpAnyK P md l.toArray lax S Q fuel listed a w
  | .done, fuel, listed, s, a, w, _, _, _, _, hok, h => by
    have hr : Region.ready md l.toArray listed = [] := by simpa [Plan.ok] using hok
    cases fuel with
    | zero => exact ⟨hr, h⟩
    | succ f => exact ⟨fun _ => h, by rw [hr]; intro i hi; cases hi⟩
  | .take held is p, fuel, listed, s, a, w, hl, hc, hs, hs', hok, h => by
    simp only [Plan.ok, Bool.and_eq_true] at hok
    obtain ⟨⟨h1, h2⟩, h3⟩ := hok
    simp only [Plan.len] at hl
    have hw : cls S held w := by
      cases held with
      | true => exact hs (by simpa using h1)
      | false => trivial
    have hcl : ∀ (is : List Nat) (listed : Array Bool), Closed md l.toArray listed → takeB md l.toArray lax held listed is = true → Closed md l.toArray (lists listed is) := by
      intro is
      induction is with
      | nil => exact fun _ hc _ => hc
      | cons i is ih =>
        intro listed hc hB
        simp only [takeB, Bool.and_eq_true] at hB
        exact ih _ (hc.set (by simpa using hB.1.1.1.1.1)) hB.2
    have := take_sound (P := P) (fuel := fuel - is.length) hsel hQ hw is listed a hc h2 (by
      have hm : ∀ (os : List Oper) (a : Act), wpQuiet P l.toArray (cls S held) (fun a' => wpPlan P l lax S Q p s a' w) os a → wpQuiet P l.toArray (cls S held) (fun a' => wpAnyK P md l.toArray lax S Q (fuel - is.length) (lists listed is) a' w) os a := by
        intro os
        induction os with
        | nil => exact fun a h => plan_sound hsel hQ p _ _ s a w (by omega) (hcl is listed hc h2) hs (fun h => gone_lists (hs' h)) h3 h
        | cons o os ih =>
          intro a h
          unfold wpQuiet at h ⊢
          split at h
          · rename_i hx
            rw [if_pos hx]
            exact Oper.quiet_mono (fun a h => ih a h) h
          · rename_i hx
            rw [if_neg hx]
            exact ih _ h
      exact hm _ _ h)
    rwa [Nat.sub_add_cancel (by omega)] at this
  | .one n p, fuel, listed, s, a, w, hl, hc, hs, hs', hok, h => by
    simp only [Plan.ok, Bool.and_eq_true, decide_eq_true_eq] at hok
    obtain ⟨hr, h3⟩ := hok
    simp only [Plan.len] at hl
    obtain ⟨f, rfl⟩ : ∃ f, fuel = f + 1 := ⟨fuel - 1, by omega⟩
    have hn : n ∈ Region.ready md l.toArray listed := by rw [hr]; simp
    refine ⟨fun h0 => (by rw [h0] at hr; cases hr), fun i hi => ?_⟩
    rw [hr] at hi
    obtain rfl : i = n := by simpa using hi
    exact op_of_list (by simpa using ready_lt hn) (fun a' w' hx => ⟨keep_of hs' hx.1, plan_sound hsel hQ p f _ _ a' w' (by omega) (hc.set hn) hx.1 (gone_of hs' (by rw [hc.1]; exact ready_lt hn)) h3 hx.2⟩) h
  | .two n m p q, fuel, listed, s, a, w, hl, hc, hs, hs', hok, h => by
    simp only [Plan.ok, Bool.and_eq_true, decide_eq_true_eq] at hok
    obtain ⟨⟨hr, h3⟩, h4⟩ := hok
    simp only [Plan.len] at hl
    obtain ⟨f, rfl⟩ : ∃ f, fuel = f + 1 := ⟨fuel - 1, by omega⟩
    have hn : n ∈ Region.ready md l.toArray listed := by rw [hr]; simp
    have hm : m ∈ Region.ready md l.toArray listed := by rw [hr]; simp
    refine ⟨fun h0 => (by rw [h0] at hr; cases hr), fun i hi => ?_⟩
    rw [hr] at hi
    simp only [List.mem_cons, List.not_mem_nil, or_false] at hi
    rcases hi with rfl | rfl
    · exact op_of_list (by simpa using ready_lt hn) (fun a' w' hx => ⟨keep_of hs' hx.1, plan_sound hsel hQ p f _ _ a' w' (by omega) (hc.set hn) hx.1 (gone_of hs' (by rw [hc.1]; exact ready_lt hn)) h3 hx.2⟩) h.1
    · exact op_of_list (by simpa using ready_lt hm) (fun a' w' hx => ⟨keep_of hs' hx.1, plan_sound hsel hQ q f _ _ a' w' (by omega) (hc.set hm) hx.1 (gone_of hs' (by rw [hc.1]; exact ready_lt hm)) h4 hx.2⟩) h.2
  | .three n m k p q r, fuel, listed, s, a, w, hl, hc, hs, hs', hok, h => by
    simp only [Plan.ok, Bool.and_eq_true, decide_eq_true_eq] at hok
    obtain ⟨⟨⟨hr, h3⟩, h4⟩, h5⟩ := hok
    simp only [Plan.len] at hl
    obtain ⟨f, rfl⟩ : ∃ f, fuel = f + 1 := ⟨fuel - 1, by omega⟩
    have hn : n ∈ Region.ready md l.toArray listed := by rw [hr]; simp
    have hm : m ∈ Region.ready md l.toArray listed := by rw [hr]; simp
    have hk : k ∈ Region.ready md l.toArray listed := by rw [hr]; simp
    refine ⟨fun h0 => (by rw [h0] at hr; cases hr), fun i hi => ?_⟩
    rw [hr] at hi
    simp only [List.mem_cons, List.not_mem_nil, or_false] at hi
    rcases hi with rfl | rfl | rfl
    · exact op_of_list (by simpa using ready_lt hn) (fun a' w' hx => ⟨keep_of hs' hx.1, plan_sound hsel hQ p f _ _ a' w' (by omega) (hc.set hn) hx.1 (gone_of hs' (by rw [hc.1]; exact ready_lt hn)) h3 hx.2⟩) h.1
    · exact op_of_list (by simpa using ready_lt hm) (fun a' w' hx => ⟨keep_of hs' hx.1, plan_sound hsel hQ q f _ _ a' w' (by omega) (hc.set hm) hx.1 (gone_of hs' (by rw [hc.1]; exact ready_lt hm)) h4 hx.2⟩) h.2.1
    · exact op_of_list (by simpa using ready_lt hk) (fun a' w' hx => ⟨keep_of hs' hx.1, plan_sound hsel hQ r f _ _ a' w' (by omega) (hc.set hk) hx.1 (gone_of hs' (by rw [hc.1]; exact ready_lt hk)) h5 hx.2⟩) h.2.2

/-- the worlds that have only grown since -/
structure Later (w0 : World) where
  w : World
  h : Below w0.heap.size w0 w
def Later.here (w0 : World) : Later w0 := ⟨w0.drew, (Below.refl _ _).drew⟩
/-- the worlds in which only the blocks in S, and new ones, have turned since -/
structure Far (S : Nat → Prop) (w0 : World) where
  w : World
  h : Fr S w0 w
def Far.here (S : Nat → Prop) (w0 : World) : Far S w0 := ⟨w0.drew, (Fr.refl S w0).drew⟩
instance (S : Nat → Prop) (w0 : World) : Nonempty (Far S w0) := ⟨Far.here S w0⟩
instance (w0 : World) : Nonempty (Later w0) := ⟨Later.here w0⟩
def isIn (l : List Nat) (n : Nat) : Bool := l.contains n
/-- THE WAY IN: the region must be shown not to panic -/
theorem region {id : Nat} {a : Act} {w : World} {l : List Oper} (S : World → Prop) (lax : List Nat) (p : Plan) (hm : P.follows .mixedOrders = true) (hsel : Region.noSelect l.toArray = true)
    (hok : p.ok .any l.toArray (isIn lax) (Array.replicate l.length false) true = true) (hlen : decide (p.len ≤ l.length) = true) (hS : S w.drew)
    (h : wpPlan P l (isIn lax) S (NoPanic Q) p true a w.drew) : (Code.region id l.toArray true).wp P Q a w := by
  refine wp_region_noPanic (wp_region_any hm (any_of_K (lax := isIn lax) (S := S) _ _ _ _ ?_))
  have := plan_sound (P := P) (md := .any) (lax := isIn lax) (S := S) (Q := NoPanic Q) hsel (fun _ _ _ _ _ h => h) p l.toArray.size (Array.replicate l.toArray.size false) true a w.drew (by simpa using of_decide_eq_true hlen)
    ⟨by simp, fun j oj _ hl => by rw [getD_replicate_false] at hl; cases hl⟩ (fun _ => hS) (fun h => by cases h) (by simpa using hok) h
  exact this
end
end Go.Proofs.YtaepgceodcdnhaaDoor.Reg
/- Maps with keys of an integer kind that the call itself made: what a look-up answers, what a store leaves. No program is named here. -/
namespace Go.Proofs.YtaepgceodcdnhaaDoor
open Go.RowKit Go.MapKept

/-- block r is a map with keys of kind kd that holds f -/
def MapI (w : World) (r : Nat) (kd : IntKind) (f : Int → Option Value) : Prop :=
  ∃ es clock, w.heap[r]? = some (.map es clock) ∧ Stamped es clock ∧ (∀ x ∈ es.toList, IsKey (.int kd) x.key) ∧ ∀ z v, f z = some v ↔ ∃ x ∈ es.toList, x.key = .int kd z ∧ x.val = v
/-- the entry of the key z bears this stamp -/
def BornI (w : World) (r : Nat) (kd : IntKind) (stamp : Nat) (z : Int) : Prop := ∃ es clock, w.heap[r]? = some (.map es clock) ∧ ∃ x ∈ es.toList, x.born = stamp ∧ x.key = .int kd z
def upd (f : Int → Option Value) (z : Int) (v : Value) : Int → Option Value := fun y => if y = z then some v else f y

section
variable {P : Program} {w w' : World} {r : Nat} {kd : IntKind} {f : Int → Option Value} {mty kt et : TypeId}
theorem MapI.keep (h : MapI w r kd f) (hb : w'.heap[r]? = w.heap[r]?) : MapI w' r kd f := by
  obtain ⟨es, c, hh, rest⟩ := h
  exact ⟨es, c, by rw [hb]; exact hh, rest⟩
theorem BornI.keep {s : Nat} {z : Int} (h : BornI w r kd s z) (hb : w'.heap[r]? = w.heap[r]?) : BornI w' r kd s z := by
  obtain ⟨es, c, hh, rest⟩ := h
  exact ⟨es, c, by rw [hb]; exact hh, rest⟩
theorem MapI.lt (h : MapI w r kd f) : r < w.heap.size := by
  obtain ⟨es, c, hh, _⟩ := h
  exact (Array.getElem?_eq_some_iff.1 hh).1
theorem MapI.new (w : World) (kd : IntKind) : MapI (w.alloc (.map #[] 0)) w.heap.size kd (fun _ => none) :=
  ⟨#[], 0, (MapKept.heap_alloc w _).1, stamped_empty 0, by simp, by simp⟩
theorem MapI.congr {g : Int → Option Value} (h : MapI w r kd f) (e : ∀ z, g z = f z) : MapI w r kd g := by
  have : g = f := funext e
  rw [this]; exact h

theorem findNow_none {es : Array MapEntry} {z : Int} (h : ∀ x ∈ es.toList, x.key ≠ .int kd z) (hf : ∀ z v, f z = some v ↔ ∃ x ∈ es.toList, x.key = .int kd z ∧ x.val = v) : f z = none := by
  cases hz : f z with
  | none => rfl
  | some v =>
    obtain ⟨x, hx, hk, _⟩ := (hf z v).1 hz
    exact absurd hk (h x hx)

theorem MapI.lookup (h : MapI w r kd f) (hm : P.underlying mty = some (.map kt et)) (hd : P.underlying kt = some (.int kd)) {zero : Value} (hz : (zeroValue et).run P w = .ok zero w) (z : Int) :
    (Instr.lookup mty (.map (some r)) (.int kd z) false).run P w = .ok ((f z).getD zero) w := by
  obtain ⟨es, c, hb, hs, hks, hf⟩ := h
  have hk : IsKey (.int kd) (.int kd z) := rfl
  rcases findNow_spec hk es.toList 0 hks with ⟨h1, h2⟩ | ⟨j, e, h1, h2, h3⟩
  · rw [findNow_none h2 hf]
    simp [Instr.lookup, run_underlying hm, MapKept.run_getObj_map hb, MapKept.run_checkKey hd hk, MapKept.run_findKey hd h1, Result.andThen, hz]
  · rw [(hf z e.val).2 ⟨e, List.mem_of_getElem? h2, h3, rfl⟩]
    simp [Instr.lookup, run_underlying hm, MapKept.run_getObj_map hb, MapKept.run_checkKey hd hk, MapKept.run_findKey hd h1, Result.andThen]
theorem MapI.lookup_ok (h : MapI w r kd f) (hm : P.underlying mty = some (.map kt et)) (hd : P.underlying kt = some (.int kd)) {zero : Value} (hz : (zeroValue et).run P w = .ok zero w) (z : Int) :
    (Instr.lookup mty (.map (some r)) (.int kd z) true).run P w = .ok (.tuple #[(f z).getD zero, .bool (f z).isSome]) w := by
  obtain ⟨es, c, hb, hs, hks, hf⟩ := h
  have hk : IsKey (.int kd) (.int kd z) := rfl
  rcases findNow_spec hk es.toList 0 hks with ⟨h1, h2⟩ | ⟨j, e, h1, h2, h3⟩
  · rw [findNow_none h2 hf]
    simp [Instr.lookup, run_underlying hm, MapKept.run_getObj_map hb, MapKept.run_checkKey hd hk, MapKept.run_findKey hd h1, Result.andThen, hz]
  · rw [(hf z e.val).2 ⟨e, List.mem_of_getElem? h2, h3, rfl⟩]
    simp [Instr.lookup, run_underlying hm, MapKept.run_getObj_map hb, MapKept.run_checkKey hd hk, MapKept.run_findKey hd h1, Result.andThen]

theorem fr_set {o o' : Obj} (hb : w.heap[r]? = some o) : Fr (· = r) w { w with heap := w.heap.setIfInBounds r o' } :=
  ⟨rfl, rfl, rfl, by simp, fun k _ hk => (MapKept.heap_set hb).2 k hk⟩

/-- what a push leaves -/
theorem push_holds {es : Array MapEntry} {c : Nat} {z : Int} {v : Value} (h2 : ∀ x ∈ es.toList, x.key ≠ .int kd z) (hf : ∀ z v, f z = some v ↔ ∃ x ∈ es.toList, x.key = .int kd z ∧ x.val = v) :
    ∀ y u, upd f z v y = some u ↔ ∃ x ∈ (es.push { key := .int kd z, val := v, born := c }).toList, x.key = .int kd y ∧ x.val = u := by
  intro y u
  unfold upd
  simp only [Array.toList_push, List.mem_append, List.mem_singleton]
  by_cases hy : y = z
  · subst hy
    rw [if_pos rfl]
    constructor
    · intro e; cases e; exact ⟨_, .inr rfl, rfl, rfl⟩
    · rintro ⟨x, hx | rfl, hk, hv⟩
      · exact absurd hk (h2 x hx)
      · exact congrArg some hv
  · rw [if_neg hy, hf]
    constructor
    · rintro ⟨x, hx, hk, hv⟩; exact ⟨x, .inl hx, hk, hv⟩
    · rintro ⟨x, hx | rfl, hk, hv⟩
      · exact ⟨x, hx, hk, hv⟩
      · simp only [Value.int.injEq, true_and] at hk; exact absurd hk.symm hy

/-- what a change of the one entry of a key leaves -/
theorem modify_holds {es : Array MapEntry} {c j : Nat} {e : MapEntry} {z : Int} {v : Value} (hs : Stamped es c) (hj : es[j]? = some e) (h3 : e.key = .int kd z) (g : MapEntry → MapEntry) (hgk : ∀ x, (g x).key = x.key ∨ (x.key = .int kd z → (g x).key = .int kd z)) (hgv : (g e).val = v)
    (hf : ∀ z v, f z = some v ↔ ∃ x ∈ es.toList, x.key = .int kd z ∧ x.val = v) :
    ∀ y u, upd f z v y = some u ↔ ∃ x ∈ (es.modify j g).toList, x.key = .int kd y ∧ x.val = u := by
  have hkey : (g e).key = .int kd z := by
    rcases hgk e with h | h
    · rw [h, h3]
    · exact h h3
  have hmem : ∀ x, x ∈ (es.modify j g).toList ↔ ∃ i, ∃ y, es[i]? = some y ∧ x = if i = j then g y else y := by
    intro x
    rw [List.mem_iff_getElem?]
    constructor
    · rintro ⟨i, hi⟩
      rw [Array.getElem?_toList, Array.getElem?_modify] at hi
      cases hy : es[i]? with
      | none => rw [hy] at hi; split at hi <;> simp at hi
      | some y =>
        rw [hy] at hi
        refine ⟨i, y, hy, ?_⟩
        by_cases hij : j = i
        · rw [if_pos hij] at hi; rw [if_pos hij.symm]; simpa using hi.symm
        · rw [if_neg hij] at hi; rw [if_neg (fun h => hij h.symm)]; simpa using hi.symm
    · rintro ⟨i, y, hy, rfl⟩
      refine ⟨i, ?_⟩
      rw [Array.getElem?_toList, Array.getElem?_modify]
      by_cases hij : j = i
      · rw [if_pos hij, if_pos hij.symm, hy]; rfl
      · rw [if_neg hij, if_neg (fun h => hij h.symm), hy]
  have huniq : ∀ i y, es[i]? = some y → y.key = .int kd z → i = j := by
    intro i y hy hk
    have hn := hs.2.2
    have h1 : (es.toList.map (·.key))[i]? = some (.int kd z) := by simp [hy, hk]
    have h2 : (es.toList.map (·.key))[j]? = some (.int kd z) := by simp [hj, h3]
    exact (List.getElem?_inj (List.getElem?_eq_some_iff.1 h1).1 hn).1 (h1.trans h2.symm)
  intro y u
  unfold upd
  by_cases hy : y = z
  · subst hy
    rw [if_pos rfl]
    constructor
    · intro e'; cases e'
      exact ⟨g e, (hmem _).2 ⟨j, e, hj, by rw [if_pos rfl]⟩, hkey, hgv⟩
    · rintro ⟨x, hx, hk, hv⟩
      obtain ⟨i, y', hi, rfl⟩ := (hmem _).1 hx
      by_cases hij : i = j
      · subst hij
        rw [hj] at hi; cases hi
        rw [if_pos rfl] at hv
        rw [← hv, hgv]
      · rw [if_neg hij] at hk
        exact absurd (huniq i y' hi hk) hij
  · rw [if_neg hy, hf]
    constructor
    · rintro ⟨x, hx, hk, hv⟩
      obtain ⟨i, hi⟩ := List.mem_iff_getElem?.1 hx
      have hij : i ≠ j := by
        rintro rfl
        rw [Array.getElem?_toList, hj] at hi; cases hi
        rw [h3] at hk; simp only [Value.int.injEq, true_and] at hk; exact hy hk.symm
      exact ⟨x, (hmem _).2 ⟨i, x, by simpa using hi, by rw [if_neg hij]⟩, hk, hv⟩
    · rintro ⟨x, hx, hk, hv⟩
      obtain ⟨i, y', hi, rfl⟩ := (hmem _).1 hx
      by_cases hij : i = j
      · subst hij
        rw [hj] at hi; cases hi
        rw [if_pos rfl, hkey] at hk
        simp only [Value.int.injEq, true_and] at hk; exact absurd hk.symm hy
      · rw [if_neg hij] at hk hv
        exact ⟨y', List.mem_of_getElem? (by simpa using hi), hk, hv⟩

theorem MapI.update (h : MapI w r kd f) (hm : P.underlying mty = some (.map kt et)) (hd : P.underlying kt = some (.int kd)) (z : Int) (v : Value) :
    ∃ w', (Instr.mapUpdate mty (.map (some r)) (.int kd z) v).run P w = .ok () w' ∧ MapI w' r kd (upd f z v) ∧ Fr (· = r) w w' ∧ w'.heap.size = w.heap.size := by
  obtain ⟨es, c, hb, hs, hks, hf⟩ := h
  have hk : IsKey (.int kd) (.int kd z) := rfl
  rcases findNow_spec hk es.toList 0 hks with ⟨h1, h2⟩ | ⟨j, e, h1, h2, h3⟩
  · refine ⟨{ w with heap := w.heap.setIfInBounds r (.map (es.push { key := .int kd z, val := v, born := c }) (c + 1)) }, ?_, ⟨_, _, (MapKept.heap_set hb).1, stamped_push hs h2, ?_, push_holds h2 hf⟩, fr_set hb, by simp⟩
    · simp [Instr.mapUpdate, run_underlying hm, MapKept.run_getObj_map hb, MapKept.run_checkKey hd hk, MapKept.run_findKey hd h1, MapKept.run_setObj_map _ hb, Result.andThen]
    · intro x hx
      simp only [Array.toList_push, List.mem_append, List.mem_singleton] at hx
      rcases hx with hx | rfl
      · exact hks x hx
      · exact hk
  · have hj : es[j]? = some e := by simpa using h2
    have hkey : ∀ e', es[j]? = some e' → ({ e' with key := Value.int kd z, val := v } : MapEntry).key = e'.key := fun e' he' => by rw [hj] at he'; cases he'; exact h3.symm
    refine ⟨{ w with heap := w.heap.setIfInBounds r (.map (es.modify j fun e => { e with key := .int kd z, val := v }) c) }, ?_, ⟨_, _, (MapKept.heap_set hb).1, stamped_modify hs _ _ (fun _ _ => rfl) (fun e' _ he' => hkey e' he'), isKey_modify hks _ _ hkey, modify_holds hs hj h3 _ (fun x => .inr (fun _ => rfl)) rfl hf⟩, fr_set hb, by simp⟩
    simp [Instr.mapUpdate, run_underlying hm, MapKept.run_getObj_map hb, MapKept.run_checkKey hd hk, MapKept.run_findKey hd h1, hj, h3, MapKept.run_keyThatStays hk, MapKept.run_setObj_map _ hb, Result.andThen]

theorem MapI.entry (h : MapI w r kd f) (hm : P.underlying mty = some (.map kt et)) (hd : P.underlying kt = some (.int kd)) {zero : Value} (hz : (zeroValue et).run P w = .ok zero w) (z : Int) :
    ∃ (s : Nat) (w' : World), (Instr.mapEntry mty (.map (some r)) (.int kd z)).run P w = .ok (.tuple #[(f z).getD zero, .int .i64 (s : Int)]) w' ∧ MapI w' r kd (upd f z ((f z).getD zero)) ∧ BornI w' r kd s z ∧ Fr (· = r) w w' ∧ w'.heap.size = w.heap.size := by
  obtain ⟨es, c, hb, hs, hks, hf⟩ := h
  have hk : IsKey (.int kd) (.int kd z) := rfl
  rcases findNow_spec hk es.toList 0 hks with ⟨h1, h2⟩ | ⟨j, e, h1, h2, h3⟩
  · rw [findNow_none h2 hf]
    refine ⟨c, { w with heap := w.heap.setIfInBounds r (.map (es.push { key := .int kd z, val := zero, born := c }) (c + 1)) }, ?_, ⟨_, _, (MapKept.heap_set hb).1, stamped_push hs h2, ?_, push_holds h2 hf⟩, ⟨_, _, (MapKept.heap_set hb).1, { key := .int kd z, val := zero, born := c }, by simp, rfl, rfl⟩, fr_set hb, by simp⟩
    · simp [Instr.mapEntry, run_underlying hm, MapKept.run_getObj_map hb, MapKept.run_checkKey hd hk, MapKept.run_findKey hd h1, MapKept.run_setObj_map _ hb, Result.andThen, hz, goInt]
    · intro x hx
      simp only [Array.toList_push, List.mem_append, List.mem_singleton] at hx
      rcases hx with hx | rfl
      · exact hks x hx
      · exact hk
  · have hj : es[j]? = some e := by simpa using h2
    have hkey : ∀ e', es[j]? = some e' → ({ e' with key := Value.int kd z } : MapEntry).key = e'.key := fun e' he' => by rw [hj] at he'; cases he'; exact h3.symm
    have hfz : f z = some e.val := (hf z e.val).2 ⟨e, List.mem_of_getElem? h2, h3, rfl⟩
    rw [hfz]
    refine ⟨e.born, { w with heap := w.heap.setIfInBounds r (.map (es.modify j fun e => { e with key := .int kd z }) c) }, ?_, ⟨_, _, (MapKept.heap_set hb).1, stamped_modify hs _ _ (fun _ _ => rfl) (fun e' _ he' => hkey e' he'), isKey_modify hks _ _ hkey, modify_holds hs hj h3 _ (fun x => .inr (fun _ => rfl)) rfl hf⟩, ⟨_, _, (MapKept.heap_set hb).1, { e with key := .int kd z }, ?_, rfl, rfl⟩, fr_set hb, by simp⟩
    · simp [Instr.mapEntry, run_underlying hm, MapKept.run_getObj_map hb, MapKept.run_checkKey hd hk, MapKept.run_findKey hd h1, hj, h3, MapKept.run_keyThatStays hk, MapKept.run_setObj_map _ hb, Result.andThen, goInt]
    · rw [List.mem_iff_getElem?]
      exact ⟨j, by rw [Array.getElem?_toList, Array.getElem?_modify, if_pos rfl, hj]; rfl⟩

theorem MapI.store (h : MapI w r kd f) {s : Nat} {z : Int} (hb : BornI w r kd s z) (v : Value) :
    ∃ w', (Instr.entryStore mty (.map (some r)) (.int .i64 (s : Int)) v).run P w = .ok () w' ∧ MapI w' r kd (upd f z v) ∧ Fr (· = r) w w' ∧ w'.heap.size = w.heap.size := by
  obtain ⟨es, c, hb', hs, hks, hf⟩ := h
  obtain ⟨es2, c2, hb2, x, hx, hxb, hxk⟩ := hb
  rw [hb'] at hb2
  cases hb2
  obtain ⟨j, hj⟩ := List.mem_iff_getElem?.1 hx
  rw [Array.getElem?_toList] at hj
  have hfind : es.findIdx? (fun e => (e.born : Int) == (s : Int)) = some j := by
    rw [Array.findIdx?_eq_some_iff_getElem]
    have hlt := (Array.getElem?_eq_some_iff.1 hj).1
    have hje := (Array.getElem?_eq_some_iff.1 hj).2
    refine ⟨hlt, by rw [hje, hxb]; simp, fun i hi => ?_⟩
    have hne : es[i].born ≠ s := by
      intro he
      have hn := hs.2.1
      have h1 : (es.toList.map (·.born))[i]? = some s := by simp [he, show i < es.size by omega]
      have h2 : (es.toList.map (·.born))[j]? = some s := by simp [hlt, hje, hxb]
      have := (List.getElem?_inj (List.getElem?_eq_some_iff.1 h1).1 hn).1 (h1.trans h2.symm)
      omega
    simp only [beq_iff_eq]; omega
  refine ⟨{ w with heap := w.heap.setIfInBounds r (.map (es.modify j fun e => { e with val := v }) c) }, ?_, ⟨_, _, (MapKept.heap_set hb').1, stamped_modify hs _ _ (fun _ _ => rfl) (fun _ _ _ => rfl), isKey_modify hks _ _ (fun _ _ => rfl), modify_holds hs hj hxk _ (fun x => .inl rfl) rfl hf⟩, fr_set hb', by simp⟩
  simp [Instr.entryStore, MapKept.run_getObj_map hb', asInt, asIntOf, hfind, MapKept.run_setObj_map _ hb', Result.andThen]
end
end Go.Proofs.YtaepgceodcdnhaaDoor
/- Maps with keys of an integer kind: delete, clear, ranging. No program is named here. -/
namespace Go.Proofs.YtaepgceodcdnhaaDoor
open Go Go.RowKit Go.MapKept

/-- entries that hold f -/
def MapE (es : Array MapEntry) (clock : Nat) (kd : IntKind) (f : Int → Option Value) : Prop :=
  Stamped es clock ∧ (∀ x ∈ es.toList, IsKey (.int kd) x.key) ∧ ∀ z v, f z = some v ↔ ∃ x ∈ es.toList, x.key = .int kd z ∧ x.val = v
/-- an iterator over such entries: these keys are left, that one was the last -/
def IterE (w : World) (b mb : Nat) (es : Array MapEntry) (clock : Nat) (kd : IntKind) (left : List Int) (cur : Option Int) : Prop :=
  ∃ seen : Array Nat, w.heap[b]? = some (.mapIter (some mb) clock seen clock) ∧ left.Nodup ∧ (∀ z, z ∈ left ↔ ∃ x ∈ es.toList, x.key = .int kd z ∧ x.born ∉ seen) ∧ ∀ z, cur = some z → ∃ x ∈ es.toList, x.key = .int kd z ∧ seen.back? = some x.born
section
variable {P : Program} {w w' : World} {r b : Nat} {kd : IntKind} {f : Int → Option Value} {mty kt et : TypeId} {es : Array MapEntry} {clock : Nat}
theorem MapI.of (hb : w.heap[r]? = some (.map es clock)) (h : MapE es clock kd f) : MapI w r kd f := ⟨es, clock, hb, h⟩
theorem MapI.out (h : MapI w r kd f) : ∃ es clock, w.heap[r]? = some (.map es clock) ∧ MapE es clock kd f := h
theorem key_inj {x y : MapEntry} (h : MapE es clock kd f) (hx : x ∈ es.toList) (hy : y ∈ es.toList) (e : x.key = y.key) : x = y := by
  obtain ⟨i, hi⟩ := List.mem_iff_getElem?.1 hx
  obtain ⟨j, hj⟩ := List.mem_iff_getElem?.1 hy
  have hn := h.1.2.2
  have h1 : (es.toList.map (·.key))[i]? = some x.key := by simp only [List.getElem?_map, hi, Option.map_some]
  have h2 : (es.toList.map (·.key))[j]? = some x.key := by simp only [List.getElem?_map, hj, Option.map_some, e]
  have := (List.getElem?_inj (List.getElem?_eq_some_iff.1 h1).1 hn).1 (h1.trans h2.symm)
  subst this
  rw [hi] at hj
  exact Option.some.inj hj
theorem born_inj {x y : MapEntry} (h : MapE es clock kd f) (hx : x ∈ es.toList) (hy : y ∈ es.toList) (e : x.born = y.born) : x = y := by
  obtain ⟨i, hi⟩ := List.mem_iff_getElem?.1 hx
  obtain ⟨j, hj⟩ := List.mem_iff_getElem?.1 hy
  have hn := h.1.2.1
  have h1 : (es.toList.map (·.born))[i]? = some x.born := by simp only [List.getElem?_map, hi, Option.map_some]
  have h2 : (es.toList.map (·.born))[j]? = some x.born := by simp only [List.getElem?_map, hj, Option.map_some, e]
  have := (List.getElem?_inj (List.getElem?_eq_some_iff.1 h1).1 hn).1 (h1.trans h2.symm)
  subst this
  rw [hi] at hj
  exact Option.some.inj hj
/-- entries behind a deletion -/
def DelE (es es' : Array MapEntry) (k : Value) : Prop := ∀ x, x ∈ es'.toList ↔ x ∈ es.toList ∧ x.key ≠ k
theorem MapE.delete (hb : w.heap[r]? = some (.map es clock)) (hE : MapE es clock kd f) (hm : P.underlying mty = some (.map kt et)) (hd : P.underlying kt = some (.int kd)) (z : Int) (ty kt' : TypeId) :
    ∃ w' es', (Builtin.delete_ #[mty, kt'] ty #[.map (some r), .int kd z]).run P w = .ok (.tuple #[]) w' ∧ w'.heap[r]? = some (.map es' clock) ∧ MapE es' clock kd (fun y => if y = z then none else f y) ∧ DelE es es' (.int kd z) ∧ Fr (· = r) w w' ∧ w'.heap.size = w.heap.size := by
  have hE' := hE
  obtain ⟨hs, hks, hf⟩ := hE
  have hk : IsKey (.int kd) (.int kd z) := rfl
  have fin : ∀ es', Stamped es' clock → DelE es es' (.int kd z) → MapE es' clock kd (fun y => if y = z then none else f y) := fun es' h1 h2 => by
    refine ⟨h1, fun x hx => hks x ((h2 x).1 hx).1, fun y v => ?_⟩
    by_cases hy : y = z
    · subst hy
      show (if y = y then none else f y) = some v ↔ _
      rw [if_pos rfl]
      exact ⟨(fun e => by cases e), fun ⟨x, hx, hk', _⟩ => absurd hk' ((h2 x).1 hx).2⟩
    · show (if y = z then none else f y) = some v ↔ _
      rw [if_neg hy, hf y v]
      constructor
      · rintro ⟨x, hx, hk', hv⟩
        refine ⟨x, (h2 x).2 ⟨hx, fun e => ?_⟩, hk', hv⟩
        rw [hk'] at e
        simp only [Value.int.injEq, true_and] at e
        exact hy e
      · rintro ⟨x, hx, hk', hv⟩
        exact ⟨x, ((h2 x).1 hx).1, hk', hv⟩
  rcases findNow_spec hk es.toList 0 hks with ⟨h1, h2⟩ | ⟨j, e, h1, h2, h3⟩
  · have hdel : DelE es es (.int kd z) := fun x => ⟨fun hx => ⟨hx, h2 x hx⟩, fun hx => hx.1⟩
    refine ⟨{ w with heap := w.heap.setIfInBounds r (.map es clock) }, es, ?_, (MapKept.heap_set hb).1, fin es hs hdel, hdel, fr_set hb, by simp⟩
    simp [Builtin.delete_, run_underlying hm, MapKept.run_getObj_map hb, MapKept.run_checkKey hd hk, MapKept.run_findKey hd h1, MapKept.run_setObj_map _ hb, Result.andThen]
  · have hj : es[j]? = some e := by simpa using h2
    have hlt : j < es.size := (Array.getElem?_eq_some_iff.1 hj).1
    have hel : (es.eraseIdxIfInBounds j).toList = es.toList.eraseIdx j := by
      unfold Array.eraseIdxIfInBounds
      rw [dif_pos hlt, Array.toList_eraseIdx]
    have hsub : ∀ x ∈ (es.eraseIdxIfInBounds j).toList, x ∈ es.toList := fun x hx => by rw [hel] at hx; exact (List.eraseIdx_sublist _ _).subset hx
    have hdel : DelE es (es.eraseIdxIfInBounds j) (.int kd z) := by
      intro x
      constructor
      · intro hx
        refine ⟨hsub x hx, fun hk' => ?_⟩
        have hxe : x = e := key_inj hE' (hsub x hx) (List.mem_of_getElem? h2) (hk'.trans h3.symm)
        subst hxe
        rw [hel] at hx
        obtain ⟨i, hi⟩ := List.mem_iff_getElem?.1 hx
        rw [List.getElem?_eraseIdx] at hi
        have hn := hs.2.2
        have h4 : (es.toList.map (·.key))[j]? = some x.key := by simp only [List.getElem?_map, h2, Option.map_some]
        split at hi
        · have h5 : (es.toList.map (·.key))[i]? = some x.key := by simp only [List.getElem?_map, hi, Option.map_some]
          have := (List.getElem?_inj (List.getElem?_eq_some_iff.1 h5).1 hn).1 (h5.trans h4.symm)
          omega
        · have h5 : (es.toList.map (·.key))[i + 1]? = some x.key := by simp only [List.getElem?_map, hi, Option.map_some]
          have := (List.getElem?_inj (List.getElem?_eq_some_iff.1 h5).1 hn).1 (h5.trans h4.symm)
          omega
      · rintro ⟨hx, hk'⟩
        rw [hel]
        obtain ⟨i, hi⟩ := List.mem_iff_getElem?.1 hx
        have hij : i ≠ j := fun e' => by
          subst e'
          rw [h2] at hi
          have : e = x := Option.some.inj hi
          subst this
          exact hk' h3
        rw [List.mem_iff_getElem?]
        rcases Nat.lt_or_gt_of_ne hij with hlt' | hlt'
        · exact ⟨i, by rw [List.getElem?_eraseIdx, if_pos hlt']; exact hi⟩
        · exact ⟨i - 1, by rw [List.getElem?_eraseIdx, if_neg (by omega), show i - 1 + 1 = i from by omega]; exact hi⟩
    refine ⟨{ w with heap := w.heap.setIfInBounds r (.map (es.eraseIdxIfInBounds j) clock) }, _, ?_, (MapKept.heap_set hb).1, fin _ (stamped_erase hs j) hdel, hdel, fr_set hb, by simp⟩
    simp [Builtin.delete_, run_underlying hm, MapKept.run_getObj_map hb, MapKept.run_checkKey hd hk, MapKept.run_findKey hd h1, MapKept.run_setObj_map _ hb, Result.andThen]
/-- an iterator goes on over what a deletion leaves -/
theorem IterE.del {es' : Array MapEntry} {left : List Int} {cur : Option Int} {z : Int} (h : IterE w b r es clock kd left cur) (hd : DelE es es' (.int kd z)) : IterE w b r es' clock kd (left.filter (· ≠ z)) none := by
  obtain ⟨seen, h1, h2, h3, h4⟩ := h
  refine ⟨seen, h1, h2.sublist List.filter_sublist, fun y => ?_, fun y e => by cases e⟩
  rw [List.mem_filter, h3 y]
  simp only [decide_eq_true_eq]
  constructor
  · rintro ⟨⟨x, hx, hk, hb⟩, hy⟩
    refine ⟨x, (hd x).2 ⟨hx, fun e => ?_⟩, hk, hb⟩
    rw [hk] at e
    simp only [Value.int.injEq, true_and] at e
    exact hy e
  · rintro ⟨x, hx, hk, hb⟩
    have := (hd x).1 hx
    refine ⟨⟨x, this.1, hk, hb⟩, fun e => this.2 ?_⟩
    rw [hk, e]
/-- entries behind an update: where the key was there, the same keys with the same stamps -/
def UpdE (es : Array MapEntry) (ck : Nat) (es' : Array MapEntry) (ck' : Nat) (k : Value) : Prop :=
  (∃ x ∈ es.toList, x.key = k) → ck' = ck ∧ ∀ (y : Value) (n : Nat), (∃ x ∈ es'.toList, x.key = y ∧ x.born = n) ↔ ∃ x ∈ es.toList, x.key = y ∧ x.born = n
theorem modify_keys {k : Value} {v : Value} {j : Nat} {e : MapEntry} (hj : es[j]? = some e) (hk : e.key = k) (y : Value) (n : Nat) : (∃ x ∈ (es.modify j fun e => { e with key := k, val := v }).toList, x.key = y ∧ x.born = n) ↔ ∃ x ∈ es.toList, x.key = y ∧ x.born = n := by
  constructor
  · rintro ⟨x, hx, h1, h2⟩
    obtain ⟨i, hi⟩ := List.mem_iff_getElem?.1 hx
    rw [Array.getElem?_toList, Array.getElem?_modify] at hi
    by_cases hij : j = i
    · subst hij
      rw [if_pos rfl, hj] at hi
      cases hi
      exact ⟨e, List.mem_of_getElem? (by rw [Array.getElem?_toList]; exact hj), hk.trans h1, h2⟩
    · rw [if_neg hij] at hi
      exact ⟨x, List.mem_of_getElem? (by rw [Array.getElem?_toList]; exact hi), h1, h2⟩
  · rintro ⟨x, hx, h1, h2⟩
    obtain ⟨i, hi⟩ := List.mem_iff_getElem?.1 hx
    rw [Array.getElem?_toList] at hi
    by_cases hij : j = i
    · subst hij
      rw [hj] at hi
      cases hi
      refine ⟨{ e with key := k, val := v }, List.mem_of_getElem? (i := j) ?_, hk.symm.trans h1, h2⟩
      rw [Array.getElem?_toList, Array.getElem?_modify, if_pos rfl, hj]
      rfl
    · refine ⟨x, List.mem_of_getElem? (i := i) ?_, h1, h2⟩
      rw [Array.getElem?_toList, Array.getElem?_modify, if_neg hij]
      exact hi
theorem MapE.update (hb : w.heap[r]? = some (.map es clock)) (hE : MapE es clock kd f) (hm : P.underlying mty = some (.map kt et)) (hd : P.underlying kt = some (.int kd)) (z : Int) (v : Value) :
    ∃ w' es' ck', (Instr.mapUpdate mty (.map (some r)) (.int kd z) v).run P w = .ok () w' ∧ w'.heap[r]? = some (.map es' ck') ∧ MapE es' ck' kd (upd f z v) ∧ UpdE es clock es' ck' (.int kd z) ∧ Fr (· = r) w w' ∧ w'.heap.size = w.heap.size := by
  obtain ⟨hs, hks, hf⟩ := hE
  have hk : IsKey (.int kd) (.int kd z) := rfl
  rcases findNow_spec hk es.toList 0 hks with ⟨h1, h2⟩ | ⟨j, e, h1, h2, h3⟩
  · refine ⟨{ w with heap := w.heap.setIfInBounds r (.map (es.push { key := .int kd z, val := v, born := clock }) (clock + 1)) }, _, _, ?_, (MapKept.heap_set hb).1, ⟨stamped_push hs h2, ?_, push_holds h2 hf⟩, fun ⟨x, hx, hk'⟩ => absurd hk' (h2 x hx), fr_set hb, by simp⟩
    · simp [Instr.mapUpdate, run_underlying hm, MapKept.run_getObj_map hb, MapKept.run_checkKey hd hk, MapKept.run_findKey hd h1, MapKept.run_setObj_map _ hb, Result.andThen]
    · intro x hx
      simp only [Array.toList_push, List.mem_append, List.mem_singleton] at hx
      rcases hx with hx | rfl
      · exact hks x hx
      · exact hk
  · have hj : es[j]? = some e := by simpa using h2
    have hkey : ∀ e', es[j]? = some e' → ({ e' with key := Value.int kd z, val := v } : MapEntry).key = e'.key := fun e' he' => by rw [hj] at he'; cases he'; exact h3.symm
    refine ⟨{ w with heap := w.heap.setIfInBounds r (.map (es.modify j fun e => { e with key := .int kd z, val := v }) clock) }, _, _, ?_, (MapKept.heap_set hb).1, ⟨stamped_modify hs _ _ (fun _ _ => rfl) (fun e' _ he' => hkey e' he'), isKey_modify hks _ _ hkey, modify_holds hs hj h3 _ (fun x => .inr (fun _ => rfl)) rfl hf⟩, fun _ => ⟨rfl, modify_keys hj h3⟩, fr_set hb, by simp⟩
    simp [Instr.mapUpdate, run_underlying hm, MapKept.run_getObj_map hb, MapKept.run_checkKey hd hk, MapKept.run_findKey hd h1, hj, h3, MapKept.run_keyThatStays hk, MapKept.run_setObj_map _ hb, Result.andThen]
/-- an iterator goes on over what an update of the entry under it leaves -/
theorem IterE.upd {es' : Array MapEntry} {ck' : Nat} {left : List Int} {z : Int} (h : IterE w b r es clock kd left (some z)) (hu : UpdE es clock es' ck' (.int kd z)) : IterE w b r es' ck' kd left (some z) := by
  obtain ⟨seen, h1, h2, h3, h4⟩ := h
  obtain ⟨x, hx, hk, _⟩ := h4 z rfl
  obtain ⟨rfl, hv⟩ := hu ⟨x, hx, hk⟩
  refine ⟨seen, h1, h2, fun y => ?_, fun y e => ?_⟩
  · rw [h3 y]
    constructor
    · rintro ⟨x, hx, hk, hb⟩
      obtain ⟨x', a, b, c⟩ := (hv (Value.int kd y) x.born).2 ⟨x, hx, hk, rfl⟩
      exact ⟨x', a, b, by rw [c]; exact hb⟩
    · rintro ⟨x, hx, hk, hb⟩
      obtain ⟨x', a, b, c⟩ := (hv (Value.int kd y) x.born).1 ⟨x, hx, hk, rfl⟩
      exact ⟨x', a, b, by rw [c]; exact hb⟩
  · obtain ⟨x, hx, hk, hb⟩ := h4 y e
    obtain ⟨x', a, b, c⟩ := (hv (Value.int kd y) x.born).2 ⟨x, hx, hk, rfl⟩
    exact ⟨x', a, b, by rw [c]; exact hb⟩
theorem MapI.clear (h : MapI w r kd f) (hm : P.underlying mty = some (.map kt et)) (ty : TypeId) :
    ∃ w', (Builtin.clear_ #[mty] ty #[.map (some r)]).run P w = .ok (.tuple #[]) w' ∧ MapI w' r kd (fun _ => none) ∧ Fr (· = r) w w' ∧ w'.heap.size = w.heap.size := by
  obtain ⟨es, c, hb, _⟩ := h
  refine ⟨{ w with heap := w.heap.setIfInBounds r (.map #[] c) }, ?_, ⟨#[], c, (MapKept.heap_set hb).1, stamped_empty c, by simp, by simp⟩, fr_set hb, by simp⟩
  simp [Builtin.clear_, run_underlying hm, MapKept.run_getObj_map hb, MapKept.run_setObj_map _ hb, Result.andThen]
theorem run_range (hm : P.underlying mty = some (.map kt et)) (hb : w.heap[r]? = some (.map es clock)) :
    (Instr.range mty (.map (some r))).run P w = .ok (.pointer (some ⟨w.heap.size, 0, none⟩)) (w.alloc (.mapIter (some r) clock #[] clock)) := by
  simp [Instr.range, run_underlying hm, MapKept.run_getObj_map hb]
theorem nodup_map {α β : Type} (g : α → β) : ∀ (l : List α), (∀ x ∈ l, ∀ y ∈ l, g x = g y → x = y) → l.Nodup → (l.map g).Nodup
  | [], _, _ => by simp
  | x :: l, hi, hn => by
    rw [List.nodup_cons] at hn
    rw [List.map_cons, List.nodup_cons]
    refine ⟨fun hm => ?_, nodup_map g l (fun a ha b hb => hi a (List.mem_cons_of_mem _ ha) b (List.mem_cons_of_mem _ hb)) hn.2⟩
    obtain ⟨y, hy, e⟩ := List.mem_map.1 hm
    have := hi y (List.mem_cons_of_mem _ hy) x (by simp) e
    subst this
    exact hn.1 hy
theorem nodup_of_map {α β : Type} (g : α → β) : ∀ (l : List α), (l.map g).Nodup → l.Nodup
  | [], _ => by simp
  | x :: l, hn => by
    rw [List.map_cons, List.nodup_cons] at hn
    rw [List.nodup_cons]
    exact ⟨fun hm => hn.1 (List.mem_map.2 ⟨x, hm, rfl⟩), nodup_of_map g l hn.2⟩
def keyZ (x : MapEntry) : Int := match x.key with | .int _ z => z | _ => 0
theorem key_of {x : MapEntry} (hE : MapE es clock kd f) (hx : x ∈ es.toList) : x.key = .int kd (keyZ x) := by
  have := hE.2.1 x hx
  unfold keyZ
  cases hk : x.key <;> rw [hk] at this <;> simp [IsKey] at this ⊢
  exact this
theorem IterE.start (hE : MapE es clock kd f) (hb : w.heap[b]? = some (.mapIter (some r) clock #[] clock)) : ∃ left : List Int, IterE w b r es clock kd left none ∧ left.Nodup ∧ ∀ z, z ∈ left ↔ (f z).isSome = true := by
  have hn : (es.toList.map keyZ).Nodup := nodup_map keyZ _ (fun x hx y hy e => key_inj hE hx hy (by rw [key_of hE hx, key_of hE hy, e])) (nodup_of_map _ _ hE.1.2.2)
  have hm : ∀ z, z ∈ es.toList.map keyZ ↔ ∃ x ∈ es.toList, x.key = .int kd z := fun z => by
    rw [List.mem_map]
    constructor
    · rintro ⟨x, hx, rfl⟩; exact ⟨x, hx, key_of hE hx⟩
    · rintro ⟨x, hx, e⟩
      refine ⟨x, hx, ?_⟩
      have := key_of hE hx
      rw [this] at e
      simpa using e
  refine ⟨es.toList.map keyZ, ⟨#[], hb, hn, fun z => by rw [hm]; simp, fun z e => by cases e⟩, hn, fun z => ?_⟩
  rw [hm, Option.isSome_iff_exists]
  constructor
  · rintro ⟨x, hx, e⟩; exact ⟨x.val, (hE.2.2 z _).2 ⟨x, hx, e, rfl⟩⟩
  · rintro ⟨v, hv⟩
    obtain ⟨x, hx, e, _⟩ := (hE.2.2 z v).1 hv
    exact ⟨x, hx, e⟩
theorem run_getObj_iter {since last : Nat} {seen : Array Nat} {m : Option Nat} (hb : w.heap[b]? = some (.mapIter m since seen last)) : (getObj b).run P w = .ok (.mapIter m since seen last) w := by
  simp [getObj, Sem.run, hb]
theorem run_setObj_iter {since last : Nat} {seen : Array Nat} {m : Option Nat} (o : Obj) (hb : w.heap[b]? = some (.mapIter m since seen last)) : (setObj b o).run P w = .ok () { w with heap := w.heap.setIfInBounds b o } := by
  simp [setObj, Sem.run, hb]
/-- one step of an iterator -/
theorem IterE.next {left : List Int} {cur : Option Int} (hE : MapE es clock kd f) (hmb : w.heap[r]? = some (.map es clock)) (h : IterE w b r es clock kd left cur) (ty : TypeId) :
    (left = [] ∧ ∃ w', (Instr.next (.pointer (some ⟨b, 0, none⟩)) false ty).run P w = .ok (.tuple #[.bool false]) w' ∧ w'.heap = w.heap ∧ w'.os = w.os ∧ w'.tape = w.tape ∧ w'.output = w.output) ∨
    ∃ (z : Int) (v : Value) (w' : World), z ∈ left ∧ f z = some v ∧ (Instr.next (.pointer (some ⟨b, 0, none⟩)) false ty).run P w = .ok (.tuple #[.bool true, .int kd z, v]) w' ∧ IterE w' b r es clock kd (left.erase z) (some z) ∧ Fr (· = b) w w' ∧ w'.heap.size = w.heap.size := by
  obtain ⟨seen, hb, hn, hl, hc⟩ := h
  have hborn : ∀ x ∈ es.toList, x.born < clock := hE.1.1
  have hu : (!seen.isEmpty && !es.isEmpty && es.all (fun e => decide (e.born ≥ clock))) = false := by
    cases he : es.isEmpty with
    | true => simp
    | false =>
      have hpos : 0 < es.size := by
        have : es ≠ #[] := by simpa using he
        rcases Nat.eq_zero_or_pos es.size with h0 | h0
        · exact absurd (Array.eq_empty_of_size_eq_zero h0) this
        · exact h0
      have : es.all (fun e => decide (e.born ≥ clock)) = false := by
        rw [Bool.eq_false_iff]
        intro hall
        rw [Array.all_eq_true] at hall
        have h1 := hall 0 hpos
        have h2 := hborn es[0] (by simp)
        simp only [ge_iff_le, decide_eq_true_eq] at h1
        omega
      simp [this]
  have hold : (es.filter (fun e => !seen.contains e.born)).filter (fun e => decide (e.born < clock)) = es.filter (fun e => !seen.contains e.born) := by
    apply Array.ext'
    rw [Array.toList_filter, Array.toList_filter]
    rw [List.filter_eq_self.2]
    intro x hx
    simpa using hborn x (List.mem_filter.1 hx).1
  have hnew : (es.filter (fun e => !seen.contains e.born)).filter (fun e => decide (e.born ≥ clock)) = #[] := by
    apply Array.ext'
    rw [Array.toList_filter, Array.toList_filter]
    rw [List.filter_eq_nil_iff.2]
    intro x hx
    have := hborn x (List.mem_filter.1 hx).1
    simp; omega
  generalize hF : es.filter (fun e => !seen.contains e.born) = F at *
  have hFm : ∀ x, x ∈ F.toList ↔ x ∈ es.toList ∧ x.born ∉ seen := fun x => by
    rw [← hF, Array.toList_filter, List.mem_filter]
    simp
  by_cases hne : F = #[]
  · left
    have hle : left = [] := by
      cases left with
      | nil => rfl
      | cons z l =>
        obtain ⟨x, hx, _, hs⟩ := (hl z).1 (by simp)
        have := (hFm x).2 ⟨hx, hs⟩
        rw [hne] at this
        simp at this
    refine ⟨hle, w, ?_, rfl, rfl, rfl, rfl⟩
    simp only [Instr.next, Sem.run_bind, run_getObj_iter hb, Result.andThen_ok, MapKept.run_getObj_map hmb, hu, Bool.false_eq_true, if_false]
    rw [hF, hold, hnew, hne]
    simp [choose, Sem.run, Question.forced]
  · right
    have hpos : 0 < F.size := by
      rcases Nat.eq_zero_or_pos F.size with h0 | h0
      · exact absurd (Array.eq_empty_of_size_eq_zero h0) hne
      · exact h0
    have hemp : F.isEmpty = false := by simpa using hne
    have step : ∀ (k : Nat) (w1 : World), k < F.size → w1.heap = w.heap → ∃ x, F[k]? = some x ∧ x ∈ es.toList ∧ x.born ∉ seen ∧ f (keyZ x) = some x.val ∧ keyZ x ∈ left ∧
        IterE { w1 with heap := w1.heap.setIfInBounds b (.mapIter (some r) clock (seen.push x.born) clock) } b r es clock kd (left.erase (keyZ x)) (some (keyZ x)) := fun k w1 hk hw1 => by
      have hg : F[k]? = some F[k] := Array.getElem?_eq_getElem hk
      obtain ⟨hx, hs⟩ := (hFm F[k]).1 (by simp)
      refine ⟨F[k], hg, hx, hs, (hE.2.2 _ _).2 ⟨_, hx, key_of hE hx, rfl⟩, (hl _).2 ⟨_, hx, key_of hE hx, hs⟩, seen.push F[k].born, ?_, hn.erase _, fun z => ?_, fun z e => ?_⟩
      · rw [hw1]; exact (MapKept.heap_set hb).1
      · rw [hn.mem_erase_iff, hl]
        constructor
        · rintro ⟨hz, y, hy, hky, hys⟩
          refine ⟨y, hy, hky, ?_⟩
          rw [Array.mem_push, not_or]
          refine ⟨hys, fun e => hz ?_⟩
          have := born_inj hE hy hx e
          subst this
          have := key_of hE hy
          rw [this] at hky
          simpa using hky.symm
        · rintro ⟨y, hy, hky, hys⟩
          rw [Array.mem_push, not_or] at hys
          refine ⟨fun e => hys.2 ?_, y, hy, hky, hys.1⟩
          have : y = F[k] := key_inj hE hy hx (by rw [hky, key_of hE hx, e])
          rw [this]
      · injection e with e
        subst e
        exact ⟨F[k], hx, key_of hE hx, by simp⟩
    have fin : ∀ (k : Nat) (w1 : World), k < F.size → w1.heap = w.heap → w1.os = w.os → w1.tape = w.tape → w1.output = w.output → (Instr.next (.pointer (some ⟨b, 0, none⟩)) false ty).run P w = (do
        match (F.map some)[k]? with
        | some (some e) =>
          setObj b (.mapIter (some r) clock (seen.push e.born) clock)
          pure (.tuple #[.bool true, e.key, e.val])
        | some none => pure (.tuple #[.bool false])
        | none => stuck "Next: no such candidate" : Sem Value).run P w1 →
        ∃ (z : Int) (v : Value) (w' : World), z ∈ left ∧ f z = some v ∧ (Instr.next (.pointer (some ⟨b, 0, none⟩)) false ty).run P w = .ok (.tuple #[.bool true, .int kd z, v]) w' ∧ IterE w' b r es clock kd (left.erase z) (some z) ∧ Fr (· = b) w w' ∧ w'.heap.size = w.heap.size := fun k w1 hk hw1 ho ht hou hrun => by
      obtain ⟨x, hx1, hx2, hx3, hx4, hx5, hx6⟩ := step k w1 hk hw1
      refine ⟨keyZ x, x.val, { w1 with heap := w1.heap.setIfInBounds b (.mapIter (some r) clock (seen.push x.born) clock) }, hx5, hx4, ?_, hx6, ⟨ho, ht, hou, by simp [hw1], fun j _ hj => by
        show (w1.heap.setIfInBounds b _)[j]? = _
        rw [hw1]; exact (MapKept.heap_set hb).2 j hj⟩, by simp [hw1]⟩
      have hb1 : w1.heap[b]? = some (.mapIter (some r) clock seen clock) := by rw [hw1]; exact hb
      rw [hrun]
      simp [hx1, run_setObj_iter _ hb1, key_of hE hx2]
    by_cases h1 : F.size ≤ 1
    · refine fin 0 w hpos rfl rfl rfl rfl ?_
      simp only [Instr.next, Sem.run_bind, run_getObj_iter hb, Result.andThen_ok, MapKept.run_getObj_map hmb, hu, Bool.false_eq_true, if_false]
      rw [hF, hold, hnew]
      simp [choose, Sem.run, Question.forced, hemp, h1]
      rfl
    · have hlt : w.tape w.drawn (.mapNext F.size) % F.size < F.size := Nat.mod_lt _ hpos
      refine fin (w.tape w.drawn (.mapNext F.size) % F.size) { w with drawn := w.drawn + 1 } hlt rfl rfl rfl rfl ?_
      simp only [Instr.next, Sem.run_bind, run_getObj_iter hb, Result.andThen_ok, MapKept.run_getObj_map hmb, hu, Bool.false_eq_true, if_false]
      rw [hF, hold, hnew]
      simp [choose, Sem.run, Question.forced, Question.cut, hemp, h1]
      rfl
theorem IterE.entry {left : List Int} {z : Int} (hE : MapE es clock kd f) (hmb : w.heap[r]? = some (.map es clock)) (h : IterE w b r es clock kd left (some z)) :
    ∃ v, f z = some v ∧ (Instr.entry (.pointer (some ⟨b, 0, none⟩))).run P w = .ok (.tuple #[.int kd z, v]) w := by
  obtain ⟨seen, hb, hn, hl, hc⟩ := h
  obtain ⟨x, hx, hk, hs⟩ := hc z rfl
  refine ⟨x.val, (hE.2.2 _ _).2 ⟨x, hx, hk, rfl⟩, ?_⟩
  have hfind : es.find? (fun e => e.born == x.born) = some x := by
    rw [← Array.find?_toList]
    cases hf : es.toList.find? (fun e => e.born == x.born) with
    | none => have := List.find?_eq_none.1 hf x hx; simp at this
    | some y =>
      have h1 := List.find?_some hf
      have h2 := List.mem_of_find?_eq_some hf
      exact congrArg some (born_inj hE h2 hx (by simpa using h1))
  simp [Instr.entry, run_getObj_iter hb, MapKept.run_getObj_map hmb, hs, hfind, hk]
theorem run_len_map (hm : P.underlying mty = some (.map kt et)) (hb : w.heap[r]? = some (.map es clock)) (ty : TypeId) : (Builtin.len_ #[mty] ty #[.map (some r)]).run P w = .ok (.int .i64 es.size) w := by
  simp [Builtin.len_, run_underlying hm, MapKept.run_getObj_map hb, goInt]
theorem nodup_len {l m : List Int} (hl : l.Nodup) (hm : m.Nodup) (h : ∀ z, z ∈ l ↔ z ∈ m) : l.length = m.length := by
  have := (List.perm_ext_iff_of_nodup hl hm).2 h
  exact this.length_eq
theorem len_of {ks : List Int} (hE : MapE es clock kd f) (hn : ks.Nodup) (hk : ∀ z, z ∈ ks ↔ (f z).isSome = true) : es.size = ks.length := by
  have hn' : (es.toList.map keyZ).Nodup := nodup_map keyZ _ (fun x hx y hy e => key_inj hE hx hy (by rw [key_of hE hx, key_of hE hy, e])) (nodup_of_map _ _ hE.1.2.2)
  have := nodup_len hn' hn fun z => by
    rw [hk, Option.isSome_iff_exists, List.mem_map]
    constructor
    · rintro ⟨x, hx, rfl⟩; exact ⟨x.val, (hE.2.2 _ _).2 ⟨x, hx, key_of hE hx, rfl⟩⟩
    · rintro ⟨v, hv⟩
      obtain ⟨x, hx, e, _⟩ := (hE.2.2 z v).1 hv
      refine ⟨x, hx, ?_⟩
      have := key_of hE hx
      rw [this] at e
      simpa using e
  rw [← this]; simp
end
end Go.Proofs.YtaepgceodcdnhaaDoor
/- Values as trees: what is promised never to turn again is read as a plain list; laws of the relation between trees and values. No program is named here. -/
namespace Go.Proofs.YtaepgceodcdnhaaDoor.Vm
open Go Go.RowKit

/-- a value as the proofs speak of it -/
inductive T where
  | v (x : Value)
  | agg (cs : List T)
  | tup (ts : List T)
  | sl (k : Nat) (es : List T)
  | slx (k i : Nat) (es : List T) (x : Value)
  | ptr (i b o : Nat)
  | gp (b o : Nat)
  | pim (cs : List T)
  | mp (i b : Nat)
  | fn (f : FuncId) (cs : List T)
  | fb (f : FuncId) (bs : List T)
  | sa (i b o n cap : Nat)
  | s0
  | und
  deriving Inhabited

/-- the cells that are promised never to turn, and what they hold -/
abbrev Pm := Nat → Nat → Option Value
def Pm.le (M M' : Pm) : Prop := ∀ b o v, M b o = some v → M' b o = some v
theorem Pm.le_refl (M : Pm) : M.le M := fun _ _ _ h => h
theorem Pm.le_trans {A B C : Pm} (h : A.le B) (k : B.le C) : A.le C := fun b o v hv => k b o v (h b o v hv)

def El (cells : T → List T) (k : Nat) (es : List T) : Prop := ∀ e ∈ es, (cells e).length = k
/-- an element of a slice, in memory -/
def elCells : T → List T
  | .agg cs => cs
  | t => [t]
def Hdr (A : Option Addr) (n cap : Nat) : Prop := n ≤ cap ∧ cap ≤ 9223372036854775807 ∧ (A = none → n = 0 ∧ cap = 0) ∧ ∀ a, A = some a → 0 < cap → a.spot = none

mutual
def Rel (M : Pm) : T → Value → Prop
  | .v x, y => y = x
  | .agg cs, y => ∃ ys : Array Value, y = .agg ys ∧ RelL M cs ys.toList
  | .tup ts, y => ∃ ys : Array Value, y = .tuple ys ∧ RelL M ts ys.toList
  | .sl k es, y => ∃ A cap, y = .slice A es.length cap ∧ Hdr A es.length cap ∧ El elCells k es ∧ ∀ b o, A = some ⟨b, o, none⟩ → RelE M k b es o
  | .slx k _ es x, y => y = x ∧ ∃ A cap, x = .slice A es.length cap ∧ Hdr A es.length cap ∧ El elCells k es ∧ ∀ b o, A = some ⟨b, o, none⟩ → RelE M k b es o
  | .ptr _ b o, y => y = .pointer (some ⟨b, o, none⟩)
  | .gp b o, y => y = .pointer (some ⟨b, o, none⟩)
  | .mp _ b, y => y = .map (some b)
  | .pim cs, y => ∃ b o, y = .pointer (some ⟨b, o, none⟩) ∧ RelA M b cs o
  | .fn f cs, y => ∃ ys : Array Value, y = .func (.func f) #[] ys ∧ RelL M cs ys.toList
  | .fb f bs, y => ∃ zs : Array Value, y = .func (.func f) zs #[] ∧ RelL M bs zs.toList
  | .sa _ b o n cap, y => y = .slice (some ⟨b, o, none⟩) n cap ∧ n ≤ cap ∧ cap ≤ 9223372036854775807
  | .s0, y => ∃ A, y = .slice A 0 0
  | .und, _ => True
def RelL (M : Pm) : List T → List Value → Prop
  | [], ys => ys = []
  | t :: ts, ys => ∃ u us, ys = u :: us ∧ Rel M t u ∧ RelL M ts us
def RelA (M : Pm) (b : Nat) : List T → Nat → Prop
  | [], _ => True
  | t :: ts, o => (∃ u, M b o = some u ∧ Rel M t u) ∧ RelA M b ts (o + 1)
def RelE (M : Pm) (k b : Nat) : List T → Nat → Prop
  | [], _ => True
  | .agg cs :: es, o => RelA M b cs o ∧ RelE M k b es (o + k)
  | e :: es, o => (∃ u, M b o = some u ∧ Rel M e u) ∧ RelE M k b es (o + k)
end

section
variable {M M' : Pm}
mutual
theorem Rel.mono (h : M.le M') : ∀ (t : T) (y : Value), Rel M t y → Rel M' t y
  | .v x, y, r => by simpa only [Rel] using r
  | .agg cs, y, r => by
    simp only [Rel] at r ⊢
    obtain ⟨ys, e, r⟩ := r
    exact ⟨ys, e, RelL.mono h cs _ r⟩
  | .tup ts, y, r => by
    simp only [Rel] at r ⊢
    obtain ⟨ys, e, r⟩ := r
    exact ⟨ys, e, RelL.mono h ts _ r⟩
  | .sl k es, y, r => by
    simp only [Rel] at r ⊢
    obtain ⟨A, cap, e, hd, hl, r⟩ := r
    exact ⟨A, cap, e, hd, hl, fun b o ha => RelE.mono h k b es o (r b o ha)⟩
  | .slx k _ es x, y, r => by
    simp only [Rel] at r ⊢
    obtain ⟨e0, A, cap, e, hd, hl, r⟩ := r
    exact ⟨e0, A, cap, e, hd, hl, fun b o ha => RelE.mono h k b es o (r b o ha)⟩
  | .ptr _ b o, y, r => by simpa only [Rel] using r
  | .gp b o, y, r => by simpa only [Rel] using r
  | .mp _ b, y, r => by simpa only [Rel] using r
  | .pim cs, y, r => by
    simp only [Rel] at r ⊢
    obtain ⟨b, o, e, r⟩ := r
    exact ⟨b, o, e, RelA.mono h b cs o r⟩
  | .fn f cs, y, r => by
    simp only [Rel] at r ⊢
    obtain ⟨ys, e, r⟩ := r
    exact ⟨ys, e, RelL.mono h cs _ r⟩
  | .fb f bs, y, r => by
    simp only [Rel] at r ⊢
    obtain ⟨zs, e, r⟩ := r
    exact ⟨zs, e, RelL.mono h bs _ r⟩
  | .sa .., y, r => by simpa only [Rel] using r
  | .s0, y, r => by simpa only [Rel] using r
  | .und, y, _ => by simp only [Rel]
theorem RelL.mono (h : M.le M') : ∀ (ts : List T) (ys : List Value), RelL M ts ys → RelL M' ts ys
  | [], ys, r => by simpa only [RelL] using r
  | t :: ts, ys, r => by
    simp only [RelL] at r ⊢
    obtain ⟨u, us, e, r1, r2⟩ := r
    exact ⟨u, us, e, Rel.mono h t u r1, RelL.mono h ts us r2⟩
theorem RelA.mono (h : M.le M') : ∀ (b : Nat) (ts : List T) (o : Nat), RelA M b ts o → RelA M' b ts o
  | b, [], o, r => by simp only [RelA]
  | b, t :: ts, o, r => by
    simp only [RelA] at r ⊢
    obtain ⟨⟨u, e, r1⟩, r2⟩ := r
    exact ⟨⟨u, h _ _ _ e, Rel.mono h t u r1⟩, RelA.mono h b ts _ r2⟩
theorem RelE.mono (h : M.le M') : ∀ (k b : Nat) (ts : List T) (o : Nat), RelE M k b ts o → RelE M' k b ts o
  | k, b, [], o, r => by simp only [RelE]
  | k, b, .agg cs :: es, o, r => by
    simp only [RelE] at r ⊢
    exact ⟨RelA.mono h b cs o r.1, RelE.mono h k b es _ r.2⟩
  | k, b, .v x :: es, o, r => by
    simp only [RelE] at r ⊢
    obtain ⟨⟨u, e, r1⟩, r2⟩ := r
    exact ⟨⟨u, h _ _ _ e, Rel.mono h _ u r1⟩, RelE.mono h k b es _ r2⟩
  | k, b, .tup x :: es, o, r => by
    simp only [RelE] at r ⊢
    obtain ⟨⟨u, e, r1⟩, r2⟩ := r
    exact ⟨⟨u, h _ _ _ e, Rel.mono h _ u r1⟩, RelE.mono h k b es _ r2⟩
  | k, b, .sl x y :: es, o, r => by
    simp only [RelE] at r ⊢
    obtain ⟨⟨u, e, r1⟩, r2⟩ := r
    exact ⟨⟨u, h _ _ _ e, Rel.mono h _ u r1⟩, RelE.mono h k b es _ r2⟩
  | k, b, .slx x y z u :: es, o, r => by
    simp only [RelE] at r ⊢
    obtain ⟨⟨u, e, r1⟩, r2⟩ := r
    exact ⟨⟨u, h _ _ _ e, Rel.mono h _ u r1⟩, RelE.mono h k b es _ r2⟩
  | k, b, .ptr x y z :: es, o, r => by
    simp only [RelE] at r ⊢
    obtain ⟨⟨u, e, r1⟩, r2⟩ := r
    exact ⟨⟨u, h _ _ _ e, Rel.mono h _ u r1⟩, RelE.mono h k b es _ r2⟩
  | k, b, .gp x y :: es, o, r => by
    simp only [RelE] at r ⊢
    obtain ⟨⟨u, e, r1⟩, r2⟩ := r
    exact ⟨⟨u, h _ _ _ e, Rel.mono h _ u r1⟩, RelE.mono h k b es _ r2⟩
  | k, b, .mp x y :: es, o, r => by
    simp only [RelE] at r ⊢
    obtain ⟨⟨u, e, r1⟩, r2⟩ := r
    exact ⟨⟨u, h _ _ _ e, Rel.mono h _ u r1⟩, RelE.mono h k b es _ r2⟩
  | k, b, .pim x :: es, o, r => by
    simp only [RelE] at r ⊢
    obtain ⟨⟨u, e, r1⟩, r2⟩ := r
    exact ⟨⟨u, h _ _ _ e, Rel.mono h _ u r1⟩, RelE.mono h k b es _ r2⟩
  | k, b, .fn x y :: es, o, r => by
    simp only [RelE] at r ⊢
    obtain ⟨⟨u, e, r1⟩, r2⟩ := r
    exact ⟨⟨u, h _ _ _ e, Rel.mono h _ u r1⟩, RelE.mono h k b es _ r2⟩
  | k, b, .fb x y :: es, o, r => by
    simp only [RelE] at r ⊢
    obtain ⟨⟨u, e, r1⟩, r2⟩ := r
    exact ⟨⟨u, h _ _ _ e, Rel.mono h _ u r1⟩, RelE.mono h k b es _ r2⟩
  | k, b, .sa x y z u v :: es, o, r => by
    simp only [RelE] at r ⊢
    obtain ⟨⟨u, e, r1⟩, r2⟩ := r
    exact ⟨⟨u, h _ _ _ e, Rel.mono h _ u r1⟩, RelE.mono h k b es _ r2⟩
  | k, b, .s0 :: es, o, r => by
    simp only [RelE] at r ⊢
    obtain ⟨⟨u, e, r1⟩, r2⟩ := r
    exact ⟨⟨u, h _ _ _ e, Rel.mono h _ u r1⟩, RelE.mono h k b es _ r2⟩
  | k, b, .und :: es, o, r => by
    simp only [RelE] at r ⊢
    obtain ⟨⟨u, e, r1⟩, r2⟩ := r
    exact ⟨⟨u, h _ _ _ e, Rel.mono h _ u r1⟩, RelE.mono h k b es _ r2⟩
end

theorem RelL.len : ∀ {ts : List T} {ys : List Value}, RelL M ts ys → ys.length = ts.length
  | [], ys, r => by simp only [RelL] at r; subst r; rfl
  | t :: ts, ys, r => by
    simp only [RelL] at r
    obtain ⟨u, us, rfl, _, r⟩ := r
    simp [r.len]
theorem RelL.get : ∀ {ts : List T} {ys : List Value}, RelL M ts ys → ∀ {i : Nat} {t : T}, ts[i]? = some t → ∃ y, ys[i]? = some y ∧ Rel M t y
  | [], ys, r, i, t, h => by simp at h
  | t :: ts, ys, r, i, t', h => by
    simp only [RelL] at r
    obtain ⟨u, us, rfl, r1, r2⟩ := r
    cases i with
    | zero => simp at h; subst h; exact ⟨u, by simp, r1⟩
    | succ i => simpa using r2.get (by simpa using h)
theorem RelL.of_get : ∀ {ts : List T} {ys : List Value}, ys.length = ts.length → (∀ (i : Nat) (t : T) (y : Value), ts[i]? = some t → ys[i]? = some y → Rel M t y) → RelL M ts ys
  | [], ys, h, _ => by simp only [RelL]; exact List.eq_nil_of_length_eq_zero h
  | t :: ts, ys, h, r => by
    cases ys with
    | nil => simp at h
    | cons u us =>
      simp only [RelL]
      exact ⟨u, us, rfl, r 0 t u (by simp) (by simp), RelL.of_get (by simpa using h) fun i t' y h1 h2 => r (i + 1) t' y (by simpa using h1) (by simpa using h2)⟩
theorem RelL.set {ts : List T} {ys : List Value} (r : RelL M ts ys) (i : Nat) {t : T} {y : Value} (h : Rel M t y) : RelL M (ts.set i t) (ys.set i y) := by
  refine RelL.of_get (by simp [r.len]) fun j t' y' h1 h2 => ?_
  rw [List.getElem?_set] at h1 h2
  by_cases hij : i = j
  · subst hij
    rw [if_pos rfl] at h1 h2
    split at h1
    · split at h2
      · injection h1 with h1; injection h2 with h2; subst h1 h2; exact h
      · cases h2
    · cases h1
  · rw [if_neg hij] at h1 h2
    obtain ⟨u, h3, h4⟩ := r.get h1
    rw [h3] at h2
    injection h2 with h2
    exact h2 ▸ h4
theorem RelL.append {ts us : List T} {ys zs : List Value} (r : RelL M ts ys) (r' : RelL M us zs) : RelL M (ts ++ us) (ys ++ zs) := by
  refine RelL.of_get (by simp [r.len, r'.len]) fun j t' y' h1 h2 => ?_
  rw [List.getElem?_append] at h1 h2
  rw [r.len] at h2
  split at h1
  · rename_i hlt
    rw [if_pos hlt] at h2
    obtain ⟨u, h3, h4⟩ := r.get h1
    rw [h3] at h2; injection h2 with h2; exact h2 ▸ h4
  · rename_i hlt
    rw [if_neg hlt] at h2
    obtain ⟨u, h3, h4⟩ := r'.get h1
    rw [h3] at h2; injection h2 with h2; exact h2 ▸ h4
theorem RelL.drop {ts : List T} {ys : List Value} (r : RelL M ts ys) (n : Nat) : RelL M (ts.drop n) (ys.drop n) :=
  RelL.of_get (by simp [r.len]) fun j t' y' h1 h2 => by
    rw [List.getElem?_drop] at h1 h2
    obtain ⟨u, h3, h4⟩ := r.get h1
    rw [h3] at h2; injection h2 with h2; exact h2 ▸ h4
theorem RelL.take {ts : List T} {ys : List Value} (r : RelL M ts ys) (n : Nat) : RelL M (ts.take n) (ys.take n) :=
  RelL.of_get (by simp [r.len]) fun j t' y' h1 h2 => by
    rw [List.getElem?_take] at h1 h2
    split at h1
    · rename_i hlt
      rw [if_pos hlt] at h2
      obtain ⟨u, h3, h4⟩ := r.get h1
      rw [h3] at h2; injection h2 with h2; exact h2 ▸ h4
    · cases h1
theorem RelL.vs : ∀ (ys : List Value), RelL M (ys.map T.v) ys
  | [] => by simp only [List.map_nil, RelL]
  | y :: ys => by simp only [List.map_cons, RelL]; exact ⟨y, ys, rfl, by simp only [Rel], RelL.vs ys⟩
theorem RelA.get : ∀ {b : Nat} {ts : List T} {o : Nat}, RelA M b ts o → ∀ {i : Nat} {t : T}, ts[i]? = some t → ∃ u, M b (o + i) = some u ∧ Rel M t u
  | b, [], o, r, i, t, h => by simp at h
  | b, t :: ts, o, r, i, t', h => by
    simp only [RelA] at r
    cases i with
    | zero => simp at h; subst h; exact r.1
    | succ i =>
      have := r.2.get (i := i) (by simpa using h)
      rwa [show o + 1 + i = o + (i + 1) from by omega] at this
theorem RelA.of_get : ∀ {b : Nat} {ts : List T} {o : Nat}, (∀ (i : Nat) (t : T), ts[i]? = some t → ∃ u, M b (o + i) = some u ∧ Rel M t u) → RelA M b ts o
  | b, [], o, _ => by simp only [RelA]
  | b, t :: ts, o, r => by
    simp only [RelA]
    refine ⟨by simpa using r 0 t (by simp), RelA.of_get fun i t' h => ?_⟩
    have := r (i + 1) t' (by simpa using h)
    rwa [show o + (i + 1) = o + 1 + i from by omega] at this
theorem RelA.drop {b : Nat} {ts : List T} {o : Nat} (r : RelA M b ts o) (n : Nat) : RelA M b (ts.drop n) (o + n) :=
  RelA.of_get fun i t h => by
    rw [List.getElem?_drop] at h
    have := r.get h
    rwa [show o + n + i = o + (n + i) from by omega]
end

/-- the cells of a tree -/
def T.cells : T → List T
  | .agg cs => cs
  | .v x => x.cells.toList.map T.v
  | t => [t]
theorem RelE.el {M : Pm} {k b : Nat} : ∀ {es : List T} {o : Nat}, RelE M k b es o → ∀ {i : Nat} {e : T}, es[i]? = some e → RelA M b (elCells e) (o + i * k)
  | [], o, r, i, e, h => by simp at h
  | e :: es, o, r, i, e', h => by
    have r2 : RelE M k b es (o + k) ∧ RelA M b (elCells e) o := by
      cases e <;> simp only [RelE] at r <;> exact ⟨r.2, by simp only [elCells, RelA]; first | exact r.1 | exact ⟨r.1, trivial⟩⟩
    cases i with
    | zero => simp at h; subst h; simpa using r2.2
    | succ i =>
      have := r2.1.el (i := i) (by simpa using h)
      rwa [show o + k + i * k = o + (i + 1) * k from by rw [Nat.add_mul]; omega] at this
theorem RelE.of_el {M : Pm} {k b : Nat} : ∀ {es : List T} {o : Nat}, (∀ (i : Nat) (e : T), es[i]? = some e → RelA M b (elCells e) (o + i * k)) → RelE M k b es o
  | [], o, _ => by simp only [RelE]
  | e :: es, o, r => by
    have h0 := r 0 e (by simp)
    have h1 : RelE M k b es (o + k) := RelE.of_el fun i e' h => by
      have := r (i + 1) e' (by simpa using h)
      rwa [show o + (i + 1) * k = o + k + i * k from by rw [Nat.add_mul]; omega] at this
    rw [Nat.zero_mul, Nat.add_zero] at h0
    cases e <;> simp only [RelE] <;> simp only [elCells, RelA] at h0 <;> exact ⟨by first | exact h0.1 | exact h0, h1⟩
theorem RelE.drop {M : Pm} {k b : Nat} {es : List T} {o : Nat} (r : RelE M k b es o) (n : Nat) : RelE M k b (es.drop n) (o + n * k) :=
  RelE.of_el fun i e h => by
    rw [List.getElem?_drop] at h
    have := r.el h
    rwa [show o + n * k + i * k = o + (n + i) * k from by rw [Nat.add_mul]; omega]
theorem RelE.take {M : Pm} {k b : Nat} {es : List T} {o : Nat} (r : RelE M k b es o) (n : Nat) : RelE M k b (es.take n) o :=
  RelE.of_el fun i e h => by
    rw [List.getElem?_take] at h
    split at h
    · exact r.el h
    · cases h

/-! ### Flat trees: no promise is in them -/
def T.flatC : T → Option Value
  | .v x => some x
  | .ptr _ b o => some (.pointer (some ⟨b, o, none⟩))
  | .gp b o => some (.pointer (some ⟨b, o, none⟩))
  | .mp _ b => some (.map (some b))
  | .sa _ b o n cap => some (.slice (some ⟨b, o, none⟩) n cap)
  | _ => none
def flatL : List T → Option (List Value)
  | [] => some []
  | t :: ts => match t.flatC, flatL ts with | some x, some xs => some (x :: xs) | _, _ => none
def T.flat : T → Option Value
  | .agg cs => (flatL cs).map fun l => .agg l.toArray
  | t => t.flatC
theorem flatC_rel {M : Pm} {t : T} {x y : Value} (h : t.flatC = some x) (r : Rel M t y) : y = x := by
  cases t <;> simp only [T.flatC] at h <;> first | cases h | skip
  all_goals first | (simpa only [Rel] using r) | (simp only [Rel] at r; exact r.1)
theorem flatL_rel {M : Pm} : ∀ {ts : List T} {xs ys : List Value}, flatL ts = some xs → RelL M ts ys → ys = xs
  | [], xs, ys, h, r => by simp [flatL] at h; simp only [RelL] at r; rw [r, ← h]
  | t :: ts, xs, ys, h, r => by
    simp only [RelL] at r
    obtain ⟨u, us, rfl, r1, r2⟩ := r
    simp only [flatL] at h
    split at h
    · rename_i x xs' h1 h2
      injection h with h
      rw [← h, flatC_rel h1 r1, flatL_rel h2 r2]
    · cases h
theorem flat_rel {M : Pm} {t : T} {x y : Value} (h : t.flat = some x) (r : Rel M t y) : y = x := by
  cases t with
  | agg cs =>
    simp only [T.flat, Option.map_eq_some_iff] at h
    obtain ⟨l, h1, h2⟩ := h
    simp only [Rel] at r
    obtain ⟨ys, rfl, r⟩ := r
    rw [← h2, ← flatL_rel h1 r]
  | _ => simp only [T.flat] at h; exact flatC_rel h r

def ofC : Value → T
  | .agg cs => .agg (cs.toList.map T.v)
  | x => .v x
def ofV : Value → T
  | .tuple vs => .tup (vs.toList.map ofC)
  | x => ofC x
theorem rel_ofC {M : Pm} (x : Value) : Rel M (ofC x) x := by
  cases x <;> simp only [ofC, Rel]
  exact ⟨_, rfl, RelL.vs _⟩
theorem relL_ofC {M : Pm} : ∀ (xs : List Value), RelL M (xs.map ofC) xs
  | [] => by simp only [List.map_nil, RelL]
  | x :: xs => by simp only [List.map_cons, RelL]; exact ⟨x, xs, rfl, rel_ofC x, relL_ofC xs⟩
theorem rel_ofV {M : Pm} (x : Value) : Rel M (ofV x) x := by
  cases x <;> simp only [ofV] <;> first | exact rel_ofC _ | skip
  simp only [Rel]
  exact ⟨_, rfl, relL_ofC _⟩
theorem rel_cells {M : Pm} {t : T} {y : Value} (h : t ≠ .und) (r : Rel M t y) : RelL M t.cells y.cells.toList := by
  have one : ∀ (y : Value), (∀ cs, y ≠ .agg cs) → y.cells.toList = [y] := fun y h => by cases y <;> first | rfl | exact absurd rfl (h _)
  cases t <;> first | exact absurd rfl h | skip
  case v x => simp only [Rel] at r; subst r; simp only [T.cells]; exact RelL.vs _
  case agg cs => simp only [Rel] at r; obtain ⟨ys, rfl, r⟩ := r; exact r
  all_goals
    have hn : ∀ cs, y ≠ .agg cs := by
      intro cs e; subst e
      simp only [Rel] at r
      first
        | exact Value.noConfusion r
        | exact Value.noConfusion r.choose_spec.1
        | exact Value.noConfusion r.choose_spec
        | exact Value.noConfusion r.1
        | exact Value.noConfusion r.choose_spec.choose_spec.1
        | exact Value.noConfusion (r.1.trans r.2.choose_spec.choose_spec.1)
    rw [one y hn]
    simp only [T.cells, RelL]
    exact ⟨y, [], rfl, r, rfl⟩
end Go.Proofs.YtaepgceodcdnhaaDoor.Vm
/- Trees: operations that only yield a value. No program is named here. -/
namespace Go.Proofs.YtaepgceodcdnhaaDoor.Vm
open Go Go.RowKit

def bsplit (b : Bool) (X Y : Prop) : Prop := match b with | true => X | false => Y
theorem bsplit_iff {b : Bool} {X Y : Prop} : bsplit b X Y ↔ (b = true → X) ∧ (b = false → Y) := by cases b <;> simp [bsplit]
theorem bsplit_mk {b : Bool} {X Y : Prop} (h : b = true → X) (k : b = false → Y) : bsplit b X Y := bsplit_iff.2 ⟨h, k⟩

/-- what stands in a block that may be written -/
inductive Ob where
  | cells (cs : List T)
  | room (k : Nat) (e : TypeId) (n : Nat) (x : Value)
  | map (kd : IntKind) (f : Int → Option T) (es : Array MapEntry) (ck : Nat)
  | iter (i mb : Nat) (kd : IntKind) (es : Array MapEntry) (ck : Nat) (left : List Int) (cur : Option Int)
  | kv (kt : TypeId) (G : Value → Prop) (f : Value → Option T)
  | fix (cs : List T)
  | siter (z : ByteArray) (pos : Nat)
  | gone
structure S where
  fr : List T
  ob : List (Nat × Ob)
  gl : Nat → Option Ob
def S.eval (s : S) : Operand → T
  | .tmp t => s.fr.getD t .und
  | .const x => ofC x
  | .global g => .gp g 0
  | .func f => .fn f []
def S.put (s : S) : Option Tmp → T → S
  | some d, t => { s with fr := s.fr.set d t }
  | none, _ => s
theorem eval_rel {M : Pm} {s : S} {a : Act} (r : RelL M s.fr a.tmps.toList) (x : Operand) : Rel M (s.eval x) (a.eval x) := by
  cases x with
  | tmp t =>
    simp only [S.eval, Act.eval, List.getD_eq_getElem?_getD]
    cases h : s.fr[t]? with
    | none => simp only [Option.getD_none, Rel]
    | some u =>
      obtain ⟨y, h1, h2⟩ := r.get h
      rw [Array.getElem?_toList] at h1
      simpa [h1] using h2
  | const x => exact rel_ofC x
  | global g => simp only [S.eval, Act.eval, Rel]
  | func f => simp only [S.eval, Act.eval, Rel]; exact ⟨#[], rfl, by simp only [RelL]⟩
theorem put_rel {M : Pm} {s : S} {a : Act} (r : RelL M s.fr a.tmps.toList) (d : Option Tmp) {t : T} {y : Value} (h : Rel M t y) : RelL M (s.put d t).fr (a.put d y).tmps.toList := by
  cases d with
  | none => exact r
  | some d => simp only [S.put, Act.put, Array.toList_setIfInBounds]; exact r.set d h

inductive Hint : Type 1 where
  | no
  | res (t : T)
  | obj (cs : List T)
  | gl (cs : List T)
  | glob
  | num (n : Int)
  | fn (g : Int → Option T)
  | call (wk : Bool) (α : Type) (post : α → Prop) (sel : List Nat) (g : Bool) (r : α → T) (ob : α → List (Nat × Ob)) (gl : α → Nat → Option Ob)
  | withB (f : List Nat → Hint)
  | plain (h : Hint)
  | withA (f : List (Nat × Ob) → List T → Hint)
  | kv (G : Value → Prop)
  | kf (g : Value → Option T)

/-! ### Computations that look at no memory -/
def prun {α : Type} (P : Program) : Sem α → Option α
  | .pure a => some a
  | .program k => prun P (k P)
  | _ => none
theorem prun_run {α : Type} {P : Program} : ∀ {s : Sem α} {a : α}, prun P s = some a → ∀ w, s.run P w = .ok a w := by
  intro s
  induction s with
  | pure b => intro a h w; simp only [prun, Option.some.injEq] at h; subst h; rfl
  | program k ih => intro a h w; simp only [prun] at h; exact ih P h w
  | _ => intro a h; simp [prun] at h

def Yield (P : Program) (o : Oper) (a : Act) (v : Value) : Prop := ∀ w, (execOp a.eval o).run P w = .ok (.value v) w
def isSel : Op → Bool
  | .select .. => true
  | _ => false
def flatRho (s : S) (x : Operand) : Value := ((s.eval x).flat).getD undef
def flatRun (P : Program) (s : S) (o : Oper) : Option T :=
  if o.op.operands.toList.all (fun x => ((s.eval x).flat).isSome) && !isSel o.op then
    match prun P (execOp (flatRho s) o) with
    | some (.value v) => some (ofV v)
    | _ => none
  else none
/-! structs compared -/
def partV (P : Program) (t : TypeId) (cs : Array Value) (off : Nat) : Option Value :=
  match P.underlying t with
  | some (.struct _) => (P.info? t).map fun i => .agg (cs.extract off (off + i.size))
  | some (.array _ _) => none
  | some _ => cs[off]?
  | none => none
def eqFs (P : Program) (E : TypeId → Value → Value → Option Bool) (xs ys : Array Value) : List Field → Option Bool
  | [] => some true
  | f :: fs => if f.name = "_" then eqFs P E xs ys fs else
    match partV P f.type xs f.offset, partV P f.type ys f.offset with
    | some a, some b => (match E f.type a b, eqFs P E xs ys fs with
      | some p, some q => some (p && q)
      | _, _ => none)
    | _, _ => none
def eqIs (P : Program) (E : TypeId → Value → Value → Option Bool) (e : TypeId) (c : Nat) (xs ys : Array Value) : List Nat → Option Bool
  | [] => some true
  | i :: is => match partV P e xs (i * c), partV P e ys (i * c) with
    | some a, some b => (match E e a b, eqIs P E e c xs ys is with
      | some p, some q => some (p && q)
      | _, _ => none)
    | _, _ => none
def eqV (P : Program) : Nat → TypeId → Value → Value → Option Bool
  | 0, _, _, _ => none
  | d + 1, t, x, y => match P.underlying t with
    | some (.int _) => (match x, y with | .int k a, .int k' b => if k = k' then some (a == b) else none | _, _ => none)
    | some .bool => (match x, y with | .bool a, .bool b => some (a == b) | _, _ => none)
    | some .string => (match x, y with | .string a, .string b => some (a.toList == b.toList) | _, _ => none)
    | some (.struct fs) => (match x, y with | .agg xs, .agg ys => if P.stoodInHeld t then none else eqFs P (eqV P d) xs ys fs.toList | _, _ => none)
    | some (.array n e) => (match x, y, P.info? e with | .agg xs, .agg ys, some _ => eqIs P (eqV P d) e (P.cellsOf e) xs ys (List.range n) | _, _, _ => none)
    | _ => none
theorem partV_run {P : Program} {t : TypeId} {cs : Array Value} {off : Nat} {v : Value} (h : partV P t cs off = some v) (w : World) : (part t cs off).run P w = .ok v w := by
  unfold partV at h
  split at h
  · rename_i fs hu
    simp only [Option.map_eq_some_iff] at h
    obtain ⟨i, h1, rfl⟩ := h
    simp [part, isAgg, sizeOf, typeInfo, run_underlying hu, h1]
  · cases h
  · rename_i td g1 g2 hu
    have : (isAgg t).run P w = .ok false w := by
      simp only [isAgg, Sem.run_bind, run_underlying hu, Result.andThen_ok]
      cases td <;> first | rfl | exact (g1 _ rfl).elim | exact (g2 _ _ rfl).elim
    simp [part, this, h]
  · cases h
theorem eqFs_run {P : Program} {E : TypeId → Value → Value → Option Bool} {d : Nat} {xs ys : Array Value} (hE : ∀ t x y b, E t x y = some b → ∀ w, (Op.equalIn d t x y).run P w = .ok b w) :
    ∀ (fs : List Field) (b : Bool), eqFs P E xs ys fs = some b → ∀ w, (Op.eqFields d xs ys fs).run P w = .ok b w
  | [], b, h, w => by
    simp only [eqFs, Option.some.injEq] at h
    subst h
    simp [Op.eqFields]
  | f :: fs, b, h, w => by
    unfold eqFs at h
    unfold Op.eqFields
    split at h
    · rename_i hn
      rw [if_neg (by simp [hn])]
      exact eqFs_run hE fs b h w
    · rename_i hn
      rw [if_pos hn]
      split at h
      · rename_i x y hx hy
        split at h
        · rename_i p q hp hq
          injection h with h
          subst h
          simp only [Sem.run_bind, partV_run hx w, partV_run hy w, hE _ _ _ _ hp w, Result.andThen_ok]
          cases p with
          | false => simp
          | true => simpa using eqFs_run hE fs q hq w
        · cases h
      · cases h
theorem eqIs_run {P : Program} {E : TypeId → Value → Value → Option Bool} {d : Nat} {e : TypeId} {c : Nat} {xs ys : Array Value} (hE : ∀ t x y b, E t x y = some b → ∀ w, (Op.equalIn d t x y).run P w = .ok b w) :
    ∀ (is : List Nat) (b : Bool), eqIs P E e c xs ys is = some b → ∀ w, (Op.eqItems d e c xs ys is).run P w = .ok b w
  | [], b, h, w => by
    simp only [eqIs, Option.some.injEq] at h
    subst h
    simp [Op.eqItems]
  | i :: is, b, h, w => by
    unfold eqIs at h
    unfold Op.eqItems
    split at h
    · rename_i x y hx hy
      split at h
      · rename_i p q hp hq
        injection h with h
        subst h
        simp only [Sem.run_bind, partV_run hx w, partV_run hy w, hE _ _ _ _ hp w, Result.andThen_ok]
        cases p with
        | false => simp
        | true => simpa using eqIs_run hE is q hq w
      · cases h
    · cases h
theorem eqV_run {P : Program} : ∀ (d n : Nat) (t : TypeId) (x y : Value) (b : Bool), eqV P d t x y = some b → ∀ w, (Op.equalIn (n + d) t x y).run P w = .ok b w
  | 0, _, _, _, _, _, h, _ => by simp [eqV] at h
  | d + 1, n, t, x, y, b, h, w => by
    unfold eqV at h
    split at h
    · rename_i hu
      split at h
      · split at h
        · rename_i hk
          injection h with h
          subst h hk
          exact run_equalIn_int w (n + d) t _ _ _ _ hu
        · cases h
      · cases h
    · rename_i hu
      split at h
      · injection h with h
        subst h
        exact run_equalIn_bool w (n + d) t _ _ hu
      · cases h
    · rename_i hu
      split at h
      · injection h with h
        subst h
        exact run_equalIn_string w (n + d) t _ _ hu
      · cases h
    · rename_i fs hu
      split at h
      · split at h
        · cases h
        · rename_i hs
          have hf : P.fieldsOf t = fs := by simp [Program.fieldsOf, hu]
          rw [show n + (d + 1) = (n + d) + 1 from rfl, run_equalIn_struct w (n + d) t _ _ (by rw [hf]; exact hu) (by simpa using hs), hf]
          exact eqFs_run (eqV_run d n) fs.toList b h w
      · cases h
    · rename_i m e hu
      split at h
      · rename_i i hi
        rw [show n + (d + 1) = (n + d) + 1 from rfl, run_equalIn_array w (n + d) _ _ hu hi]
        exact eqIs_run (eqV_run d n) _ b h w
      · cases h
    · cases h
def aggV : Value → Option (Array Value)
  | .agg xs => some xs
  | _ => none
/-- the comparison of two structs -/
def eqOf (P : Program) (s : S) : Op → Option (Bool × Option Bool)
  | .binOp .eql t x y _ => (match s.eval x, s.eval y with | .agg _, .agg _ => some (true, if P.eqGuardType P.depth t then none else match (s.eval x).flat, (s.eval y).flat with | some a, some b => eqV P 8 t a b | _, _ => none) | _, _ => none)
  | .binOp .neq t x y _ => (match s.eval x, s.eval y with | .agg _, .agg _ => some (false, if P.eqGuardType P.depth t then none else match (s.eval x).flat, (s.eval y).flat with | some a, some b => eqV P 8 t a b | _, _ => none) | _, _ => none)
  | _ => none
def eqK (k : T → Prop) : Bool → Option Bool → Prop
  | _, none => False
  | true, some b => k (.v (.bool b))
  | false, some b => k (.v (.bool !b))
/-! shifts, quotients and remainders by what is no constant -/
inductive Ar where | shl | shr | quo | rem
def isConstO : Operand → Bool
  | .const _ => true
  | _ => false
def arTo (r : Ar) (same : Bool) : T → T → Option (Ar × IntKind × Int × Int)
  | .v (.int k a), .v (.int k' b) => if !same || k == k' then some (r, k, a, b) else none
  | _, _ => none
def arOf (s : S) : Op → Option (Ar × IntKind × Int × Int)
  | .binOp .shl _ x y _ => if isConstO y then none else arTo .shl false (s.eval x) (s.eval y)
  | .binOp .shr _ x y _ => if isConstO y then none else arTo .shr false (s.eval x) (s.eval y)
  | .binOp .quo _ x y _ => if isConstO y then none else arTo .quo true (s.eval x) (s.eval y)
  | .binOp .rem _ x y _ => if isConstO y then none else arTo .rem true (s.eval x) (s.eval y)
  | _ => none
def arK (k : T → Prop) : Ar × IntKind × Int × Int → Prop
  | (.shl, i, a, b) => ¬ b < 0 ∧ k (.v (.int i (i.wrap (a * 2 ^ min b.toNat i.bits))))
  | (.shr, i, a, b) => ¬ b < 0 ∧ k (.v (.int i (a.fdiv (2 ^ min b.toNat i.bits))))
  | (.quo, i, a, b) => ¬ b = 0 ∧ k (.v (.int i (i.wrap (a.tdiv b))))
  | (.rem, i, a, b) => ¬ b = 0 ∧ k (.v (.int i (a.tmod b)))
theorem arTo_some {r : Ar} {same : Bool} {x y : T} {q : Ar × IntKind × Int × Int} (h : arTo r same x y = some q) : ∃ k a k' b, x = .v (.int k a) ∧ y = .v (.int k' b) ∧ q = (r, k, a, b) ∧ (same = true → k = k') := by
  unfold arTo at h
  split at h
  · split at h
    · rename_i hc
      injection h with h
      refine ⟨_, _, _, _, rfl, rfl, h.symm, fun hs => ?_⟩
      subst hs
      simpa using hc
    · cases h
  · cases h
theorem arOf_some {s : S} {p : Op} {q : Ar × IntKind × Int × Int} (h : arOf s p = some q) : ∃ op xt x y yt k a k' b, p = .binOp op xt x y yt ∧ s.eval x = .v (.int k a) ∧ s.eval y = .v (.int k' b) ∧
    ((op = .shl ∧ q = (.shl, k, a, b)) ∨ (op = .shr ∧ q = (.shr, k, a, b)) ∨ (op = .quo ∧ q = (.quo, k, a, b) ∧ k = k') ∨ (op = .rem ∧ q = (.rem, k, a, b) ∧ k = k')) := by
  unfold arOf at h
  split at h
  · split at h
    · cases h
    · obtain ⟨k, a, k', b, h1, h2, h3, h4⟩ := arTo_some h
      exact ⟨_, _, _, _, _, k, a, k', b, rfl, h1, h2, .inl ⟨rfl, h3⟩⟩
  · split at h
    · cases h
    · obtain ⟨k, a, k', b, h1, h2, h3, h4⟩ := arTo_some h
      exact ⟨_, _, _, _, _, k, a, k', b, rfl, h1, h2, .inr (.inl ⟨rfl, h3⟩)⟩
  · split at h
    · cases h
    · obtain ⟨k, a, k', b, h1, h2, h3, h4⟩ := arTo_some h
      exact ⟨_, _, _, _, _, k, a, k', b, rfl, h1, h2, .inr (.inr (.inl ⟨rfl, h3, h4 rfl⟩))⟩
  · split at h
    · cases h
    · obtain ⟨k, a, k', b, h1, h2, h3, h4⟩ := arTo_some h
      exact ⟨_, _, _, _, _, k, a, k', b, rfl, h1, h2, .inr (.inr (.inr ⟨rfl, h3, h4 rfl⟩))⟩
  · cases h
def flatK (P : Program) (s : S) (o : Oper) (k : T → Prop) : Prop :=
  match arOf s o.op with
  | some q => arK k q
  | none => match eqOf P s o.op with
    | some q => eqK k q.1 q.2
    | none => match flatRun P s o with | some t => k t | none => False
def Found (P : Program) (o : Oper) (a : Act) (M : Pm) (k : T → Prop) : Prop := ∃ v t, k t ∧ Rel M t v ∧ Yield P o a v
theorem run_value {P : Program} {s : Sem Value} {u : Value} {w : World} (h : s.run P w = .ok u w) : (do pure (Next.value (← s)) : Sem Next).run P w = .ok (.value u) w := by
  simp [h]

theorem eqOf_sound {P : Program} {s : S} {o : Oper} {k : T → Prop} {M : Pm} {a : Act} {q : Bool × Option Bool} (hq : eqOf P s o.op = some q) (h : eqK k q.1 q.2) (r : RelL M s.fr a.tmps.toList) : Found P o a M k := by
  have key : ∀ (op : BinOp) (t : TypeId) (x y : Operand) (yt : TypeId) (b : Bool) (e : Bool), ((op = .eql ∧ e = true) ∨ (op = .neq ∧ e = false)) → o.op = .binOp op t x y yt → (∃ xs, s.eval x = .agg xs) → (∃ ys, s.eval y = .agg ys) →
      (if P.eqGuardType P.depth t then none else match (s.eval x).flat, (s.eval y).flat with | some a, some b => eqV P 8 t a b | _, _ => none) = some b → k (.v (.bool (if e then b else !b))) → Found P o a M k := fun op t x y yt b e hop ho ⟨xs, hx⟩ ⟨ys, hy⟩ hb hk => by
    split at hb
    · cases hb
    rename_i hg
    split at hb
    rotate_left
    · cases hb
    rename_i u v hu hv
    have eu := flat_rel hu (eval_rel r x)
    have ev := flat_rel hv (eval_rel r y)
    have ru := eval_rel r x
    have rv := eval_rel r y
    rw [hx] at ru
    rw [hy] at rv
    simp only [Rel] at ru rv
    obtain ⟨us, e1, -⟩ := ru
    obtain ⟨vs, e2, -⟩ := rv
    have hh : ∀ w, (Op.equalIn 10000 t (.agg us) (.agg vs)).run P w = .ok b w := fun w => by
      have := eqV_run 8 9992 t u v b hb w
      rw [← eu, ← ev, e1, e2] at this
      exact this
    have hrun : ∀ w, (execOp a.eval o).run P w = .ok (.value (.bool (if e then b else !b))) w := fun w => by
      unfold execOp
      rw [ho]
      rcases hop with ⟨rfl, rfl⟩ | ⟨rfl, rfl⟩
      · simp only [e1, e2]
        refine run_value ?_
        simp only [Sem.run_bind, run_eqGuard_agg w _ t x y us vs (by simpa using hg), Result.andThen_ok, run_eql_struct, hh w]
        rfl
      · simp only [e1, e2]
        refine run_value ?_
        simp only [Sem.run_bind, run_eqGuard_agg w _ t x y us vs (by simpa using hg), Result.andThen_ok, run_neq_struct, hh w]
        rfl
    exact ⟨.bool (if e then b else !b), .v (.bool (if e then b else !b)), hk, by simp only [Rel], hrun⟩
  unfold eqOf at hq
  split at hq
  · rename_i t x y yt ho
    split at hq
    · rename_i xs ys hx hy
      injection hq with hq
      subst hq
      dsimp only at h
      generalize hB : (if P.eqGuardType P.depth t = true then none else match (s.eval x).flat, (s.eval y).flat with | some a, some b => eqV P 8 t a b | _, _ => none) = B at h
      cases B with
      | none => exact (h : False).elim
      | some b => exact key .eql t x y yt b true (.inl ⟨rfl, rfl⟩) ho ⟨_, hx⟩ ⟨_, hy⟩ hB h
    · cases hq
  · rename_i t x y yt ho
    split at hq
    · rename_i xs ys hx hy
      injection hq with hq
      subst hq
      dsimp only at h
      generalize hB : (if P.eqGuardType P.depth t = true then none else match (s.eval x).flat, (s.eval y).flat with | some a, some b => eqV P 8 t a b | _, _ => none) = B at h
      cases B with
      | none => exact (h : False).elim
      | some b => exact key .neq t x y yt b false (.inr ⟨rfl, rfl⟩) ho ⟨_, hx⟩ ⟨_, hy⟩ hB h
    · cases hq
  · cases hq
theorem flatK_sound {P : Program} {s : S} {o : Oper} {k : T → Prop} {M : Pm} {a : Act} (h : flatK P s o k) (r : RelL M s.fr a.tmps.toList) : Found P o a M k := by
  unfold flatK at h
  split at h
  · rename_i q hq
    obtain ⟨op, xt, x, y, yt, kk, b, k', c, h1, h2, h3, h4⟩ := arOf_some hq
    have ex := eval_rel r x
    have ey := eval_rel r y
    rw [h2] at ex
    rw [h3] at ey
    simp only [Rel] at ex ey
    have e : ∀ w, (execOp a.eval o).run P w = ((binOp op xt (.int kk b) (.int k' c)).bind fun v => .pure (Next.value v)).run P w := fun w => by
      unfold execOp
      rw [h1]
      simp only [ex, ey]
      rcases h4 with ⟨rfl, -⟩ | ⟨rfl, -⟩ | ⟨rfl, -⟩ | ⟨rfl, -⟩ <;> rfl
    rcases h4 with ⟨rfl, rfl⟩ | ⟨rfl, rfl⟩ | ⟨rfl, rfl, rfl⟩ | ⟨rfl, rfl, rfl⟩
    · exact ⟨.int kk (kk.wrap (b * 2 ^ min c.toNat kk.bits)), .v (.int kk (kk.wrap (b * 2 ^ min c.toNat kk.bits))), h.2, by simp only [Rel], fun w => by rw [e w]; simp only [binOp, Op.shift, if_neg h.1]; rfl⟩
    · exact ⟨.int kk (b.fdiv (2 ^ min c.toNat kk.bits)), .v (.int kk (b.fdiv (2 ^ min c.toNat kk.bits))), h.2, by simp only [Rel], fun w => by rw [e w]; simp only [binOp, Op.shift, if_neg h.1]; rfl⟩
    · exact ⟨.int kk (kk.wrap (b.tdiv c)), .v (.int kk (kk.wrap (b.tdiv c))), h.2, by simp only [Rel], fun w => by rw [e w]; simp only [binOp, Op.intDiv, if_neg h.1, ne_eq, not_true_eq_false, if_false]; rfl⟩
    · exact ⟨.int kk (b.tmod c), .v (.int kk (b.tmod c)), h.2, by simp only [Rel], fun w => by rw [e w]; simp only [binOp, Op.intDiv, if_neg h.1, ne_eq, not_true_eq_false, if_false]; rfl⟩
  split at h
  · rename_i q hq
    exact eqOf_sound hq h r
  split at h
  · rename_i t ht
    unfold flatRun at ht
    split at ht
    · rename_i hc
      simp only [Bool.and_eq_true, List.all_eq_true] at hc
      split at ht
      · rename_i v hv
        injection ht with ht
        subst ht
        refine ⟨v, _, h, rel_ofV v, fun w => ?_⟩
        have hs : ∀ cs b, o.op ≠ .select cs b := fun cs b e => by rw [e] at hc; simp [isSel] at hc
        have he : execOp a.eval o = execOp (flatRho s) o := execOp_congr o hs fun x hx => by
          have h1 := hc.1 x (by simpa using hx)
          obtain ⟨y, hy⟩ := Option.isSome_iff_exists.1 h1
          unfold flatRho
          rw [hy]
          exact flat_rel hy (eval_rel r x)
        rw [he]
        exact prun_run hv w
      · cases ht
    · cases ht
  · exact h.elim

/-! ### Tables -/
def fieldOf (P : Program) (st : TypeId) (f : Nat) : Option Field := match P.underlying st with | some (.struct fs) => fs[f]? | _ => none
def sizeT (P : Program) (t : TypeId) : Option Nat := (P.info? t).map (·.size)
/-- is it a struct or an array (how many cells), or not -/
def aggOf (P : Program) (t : TypeId) : Option (Option Nat) :=
  match P.underlying t with
  | some (.struct _) => (sizeT P t).map some
  | some (.array _ _) => (sizeT P t).map some
  | some _ => some none
  | none => none
def partT (P : Program) (t : TypeId) (cs : List T) (off : Nat) : Option T :=
  match aggOf P t with
  | some (some n) => some (.agg ((cs.drop off).take n))
  | some none => cs[off]?
  | none => none
theorem run_sizeOf {P : Program} {t : TypeId} {n : Nat} (h : sizeT P t = some n) (w : World) : (sizeOf t).run P w = .ok n w := by
  unfold sizeT at h
  simp only [Option.map_eq_some_iff] at h
  obtain ⟨i, h1, rfl⟩ := h
  simp [sizeOf, typeInfo, h1]
theorem run_isAgg {P : Program} {t : TypeId} {x : Option Nat} (h : aggOf P t = some x) (w : World) : (isAgg t).run P w = .ok x.isSome w ∧ ∀ n, x = some n → sizeT P t = some n := by
  unfold aggOf at h
  split at h
  · rename_i fs hu
    simp only [Option.map_eq_some_iff] at h
    obtain ⟨n, h1, rfl⟩ := h
    exact ⟨by simp [isAgg, run_underlying hu], fun m e => by injection e with e; exact e ▸ h1⟩
  · rename_i n e hu
    simp only [Option.map_eq_some_iff] at h
    obtain ⟨n, h1, rfl⟩ := h
    exact ⟨by simp [isAgg, run_underlying hu], fun m e => by injection e with e; exact e ▸ h1⟩
  · rename_i d h1 h2 hu
    injection h with h
    subst h
    refine ⟨?_, fun n e => by cases e⟩
    simp only [isAgg, Sem.run_bind, run_underlying hu, Result.andThen_ok]
    cases d <;> first | rfl | exact absurd rfl (h1 _) | exact absurd rfl (h2 _ _)
  · cases h
theorem part_sound {P : Program} {M : Pm} {t : TypeId} {cs : List T} {ys : Array Value} {off : Nat} {u : T} (h : partT P t cs off = some u) (r : RelL M cs ys.toList) : ∃ y, Rel M u y ∧ ∀ w, (part t ys off).run P w = .ok y w := by
  unfold partT at h
  split at h
  · rename_i n ha
    injection h with h
    subst h
    refine ⟨.agg (ys.extract off (off + n)), ?_, fun w => ?_⟩
    · simp only [Rel]
      refine ⟨_, rfl, ?_⟩
      have := (r.drop off).take n
      simpa [List.extract_eq_take_drop, List.take_drop, Nat.add_comm] using this
    · have h1 := run_isAgg ha w
      simp [part, h1.1, run_sizeOf (h1.2 n rfl)]
  · rename_i ha
    obtain ⟨y, h1, h2⟩ := r.get h
    rw [Array.getElem?_toList] at h1
    exact ⟨y, h2, fun w => by simp [part, (run_isAgg ha w).1, h1]⟩
  · cases h
/-! ### Values out of values -/
def intT : T → Option (IntKind × Int)
  | .v (.int k i) => some (k, i)
  | _ => none
theorem intT_rel {M : Pm} {t : T} {y : Value} {k : IntKind} {i : Int} (h : intT t = some (k, i)) (r : Rel M t y) : y = .int k i := by
  unfold intT at h
  split at h
  · injection h with h; injection h with h1 h2; subst h1 h2; simpa only [Rel] using r
  · cases h
/-- a claimed result -/
def claim (h : Hint) (x : Option T) (k : T → Prop) : Prop :=
  match h with
  | .res t => x = some t ∧ k t
  | _ => match x with | some t => k t | none => False
theorem claim_some {h : Hint} {x : Option T} {k : T → Prop} (c : claim h x k) : ∃ t, x = some t ∧ k t := by
  unfold claim at c
  split at c
  · exact ⟨_, c.1, c.2⟩
  · split at c
    · exact ⟨_, rfl, c⟩
    · exact c.elim

def vField (P : Program) (s : S) (o : Oper) (h : Hint) (k : T → Prop) (xt : TypeId) (x : Operand) (f : Nat) : Prop :=
  match s.eval x with
  | .agg cs => (match fieldOf P xt f with | some fd => claim h (partT P fd.type cs fd.offset) k | none => False)
  | _ => flatK P s o k
def vExtract (P : Program) (s : S) (o : Oper) (h : Hint) (k : T → Prop) (x : Operand) (i : Nat) : Prop :=
  match s.eval x with
  | .tup ts => claim h ts[i]? k
  | _ => flatK P s o k
def vFieldAddr (P : Program) (s : S) (o : Oper) (k : T → Prop) (xt : TypeId) (x : Operand) (f : Nat) : Prop :=
  match fieldOf P xt f with
  | some fd => (match sizeT P fd.type with
    | some (_ + 1) => (match s.eval x with
      | .ptr i b n => k (.ptr i b (n + fd.offset))
      | .gp b n => k (.gp b (n + fd.offset))
      | .pim cs => k (.pim (cs.drop fd.offset))
      | _ => flatK P s o k)
    | _ => False)
  | none => False
def elemOfT (P : Program) (t : TypeId) : Option (Option Nat × TypeId) := match P.underlying t with | some (.array n e) => some (some n, e) | some (.slice e) => some (none, e) | _ => none
def vIndexSl (P : Program) (h : Hint) (k : T → Prop) (e : TypeId) (i : Int) (kk : Nat) (es : List T) : Prop :=
  match sizeT P e with
  | some n => if n = kk then (0 ≤ i ∧ claim h es[i.toNat]? (fun t => k (.pim (elCells t)))) else False
  | none => False
def vIndexAddr (P : Program) (s : S) (h : Hint) (k : T → Prop) (t : TypeId) (x ix : Operand) : Prop :=
  match intT (s.eval ix) with
  | some (_, i) => (match elemOfT P t with
    | some (some len, e) => (match sizeT P e with
      | some n => (0 ≤ i ∧ i < (len : Int)) ∧ (match s.eval x with
        | .ptr j b m => k (.ptr j b (m + i.toNat * n))
        | .gp b m => k (.gp b (m + i.toNat * n))
        | .pim cs => k (.pim (cs.drop (i.toNat * n)))
        | _ => False)
      | none => False)
    | some (none, e) => (match s.eval x with
      | .sl kk es => vIndexSl P h k e i kk es
      | .slx kk _ es _ => vIndexSl P h k e i kk es
      | .sa j b m n _ => (match sizeT P e with
        | some z => (0 ≤ i ∧ i < (n : Int)) ∧ k (.ptr j b (m + i.toNat * z))
        | none => False)
      | _ => False)
    | none => False)
  | none => False
def vIndex (P : Program) (s : S) (h : Hint) (k : T → Prop) (t : TypeId) (x ix : Operand) : Prop :=
  match intT (s.eval ix) with
  | some (_, i) => (match s.eval x with
    | .agg cs => (match elemOfT P t with
      | some (some len, e) => (match sizeT P e with
        | some n => (0 ≤ i ∧ i < (len : Int)) ∧ claim h (partT P e cs (i.toNat * n)) k
        | none => False)
      | _ => False)
    | .v (.string z) => (match P.underlying t with
      | some .string => 0 ≤ i ∧ claim h ((z[i.toNat]?).map fun (c : UInt8) => T.v (.int .u8 c.toNat)) k
      | _ => False)
    | _ => False)
  | none => False
def boundT (s : S) (d : Nat) : Option Operand → Option Int
  | none => some d
  | some x => (intT (s.eval x)).map (·.2)
def vSliceSl (P : Program) (s : S) (k : T → Prop) (e : TypeId) (kk : Nat) (es : List T) (lo hi : Option Operand) : Prop :=
  match sizeT P e with
  | some n => if n = kk then (match boundT s 0 lo, boundT s es.length hi with
    | some l, some u => (0 ≤ l ∧ l ≤ u ∧ u ≤ (es.length : Int)) ∧ k (.sl kk ((es.take u.toNat).drop l.toNat))
    | _, _ => False) else False
  | none => False
/-- a part of an array that may be written -/
def vSliceSa (P : Program) (s : S) (k : T → Prop) (e : TypeId) (j b o n cap : Nat) (lo hi mx : Option Operand) : Prop :=
  match sizeT P e, boundT s 0 lo, boundT s n hi, boundT s cap mx with
  | some z, some l, some u, some m => (match (mx.isNone || hi.isSome) with
    | true => (0 ≤ l ∧ l ≤ u ∧ u ≤ m ∧ m ≤ (cap : Int)) ∧ (l < m → k (.sa j b (o + l.toNat * z) (u.toNat - l.toNat) (m.toNat - l.toNat))) ∧ (l = m → k (.sa j b o 0 0))
    | false => False)
  | _, _, _, _ => False
/-- nothing of a slice, and no room -/
def vSlice0 (s : S) (k : T → Prop) (lo hi mx : Option Operand) : Prop :=
  match boundT s 0 lo, boundT s 1 hi, boundT s 1 mx with
  | some 0, some 0, some 0 => k .s0
  | _, _, _ => False
def vSlice3 (P : Program) (s : S) (k : T → Prop) (t : TypeId) (x : Operand) (lo hi mx : Option Operand) : Prop :=
  match P.underlying t with
  | some (.slice e) => (match s.eval x with
    | .sa j b o n cap => vSliceSa P s k e j b o n cap lo hi mx
    | .sl _ _ => (match sizeT P e with | some _ => vSlice0 s k lo hi mx | none => False)
    | .slx _ _ _ _ => (match sizeT P e with | some _ => vSlice0 s k lo hi mx | none => False)
    | _ => False)
  | _ => False
def vSlice (P : Program) (s : S) (k : T → Prop) (t : TypeId) (x : Operand) (lo hi mx : Option Operand) : Prop :=
  match mx with
  | some _ => vSlice3 P s k t x lo hi mx
  | none => (match s.eval x with
    | .v (.string z) => (match P.underlying t with
      | some .string => (match boundT s 0 lo, boundT s z.size hi with
        | some l, some u => (0 ≤ l ∧ l ≤ u ∧ u ≤ (z.size : Int)) ∧ k (.v (.string (z.extract l.toNat u.toNat)))
        | _, _ => False)
      | _ => False)
    | .sl kk es => (match P.underlying t with | some (.slice e) => vSliceSl P s k e kk es lo hi | _ => False)
    | .slx kk _ es _ => (match P.underlying t with | some (.slice e) => vSliceSl P s k e kk es lo hi | _ => False)
    | .sa .. => vSlice3 P s k t x lo hi none
    | .ptr j b m => (match lo, hi with
      | none, none => (match elemOfT P t with
        | some (some n, e) => (match sizeT P e with | some _ => if n ≤ 9223372036854775807 then k (.sa j b m n n) else False | none => False)
        | _ => False)
      | _, _ => False)
    | _ => False)
def vNil (P : Program) (s : S) (o : Oper) (k : T → Prop) (x : Operand) : Prop :=
  match s.eval x with
  | .ptr i b n => k (.ptr i b n)
  | .gp b n => k (.gp b n)
  | .pim cs => k (.pim cs)
  | .fn f cs => k (.fn f cs)
  | .fb f cs => k (.fb f cs)
  | _ => flatK P s o k
def setRange (cs : List T) (off : Nat) (ts : List T) : List T := ts.zipIdx.foldl (fun cs (c, j) => cs.set (off + j) c) cs
def T.isUnd : T → Bool
  | .und => true
  | _ => false
def fillT (place : Nat → Option (Nat × Nat)) (cells : List T) : List (Nat × T) → Option (List T)
  | [] => some cells
  | (i, t) :: rest =>
    match place i with
    | none => none
    | some (off, size) => if t.isUnd || t.cells.length != size || decide (cells.length < off + t.cells.length) then none else fillT place (setRange cells off t.cells) rest
def zeroT (P : Program) (t : TypeId) : Option (List T) := ((P.info? t).bind (·.zero)).map fun z => z.cells.toList.map T.v
def placesOf (P : Program) : List Field → Option (List (Nat × Nat))
  | [] => some []
  | f :: fs => match sizeT P f.type, placesOf P fs with | some n, some l => some ((f.offset, n) :: l) | _, _ => none
def placeOf (P : Program) (t : TypeId) : Option (Nat → Option (Nat × Nat)) :=
  match P.underlying t with
  | some (.struct fs) => (placesOf P fs.toList).map fun l i => l[i]?
  | some (.array _ e) => (sizeT P e).map fun n i => some (i * n, n)
  | _ => none
def vBuild (P : Program) (s : S) (h : Hint) (k : T → Prop) (t : TypeId) (parts : Array (Nat × Operand)) : Prop :=
  match zeroT P t, placeOf P t with
  | some z, some place => claim h ((fillT place z (parts.toList.map fun p => (p.1, s.eval p.2))).map T.agg) k
  | _, _ => False
def vLen (P : Program) (s : S) (o : Oper) (k : T → Prop) (c : Call) : Prop :=
  match c.callee, c.args.toList, c.argTypes.toList with
  | .builtin .len, [x], [t] => (match s.eval x with
    | .sl _ es => (match P.underlying t with | some (.slice _) => k (.v (.int .i64 es.length)) | _ => False)
    | .slx _ _ es _ => (match P.underlying t with | some (.slice _) => k (.v (.int .i64 es.length)) | _ => False)
    | _ => flatK P s o k)
  | _, _, _ => flatK P s o k
def vMakeFunc (P : Program) (s : S) (o : Oper) (k : T → Prop) (fn : Fn) (first captured : Array Operand) : Prop :=
  match fn, first.toList, captured.toList with
  | .func f, [], _ => k (.fn f (captured.toList.map s.eval))
  | .func f, _ :: _, [] => k (.fb f (first.toList.map s.eval))
  | _, _, _ => flatK P s o k
/-- a slice beside nil -/
def nilSl : T → Option (List T)
  | .sl _ es => some es
  | .slx _ _ es _ => some es
  | .s0 => some []
  | _ => none
def nilCmp (P : Program) (s : S) : Op → Option (Bool × List T)
  | .binOp .eql t x y _ => (match P.underlying t, s.eval y with | some (.slice _), .v (.slice none 0 0) => (nilSl (s.eval x)).map fun es => (true, es) | _, _ => none)
  | .binOp .neq t x y _ => (match P.underlying t, s.eval y with | some (.slice _), .v (.slice none 0 0) => (nilSl (s.eval x)).map fun es => (false, es) | _, _ => none)
  | _ => none
def nilK (k : T → Prop) : Bool × List T → Prop
  | (b, es) => (es.length = 0 → k (.v (.bool b))) ∧ k (.v (.bool !b))
/-- strings: one behind the other; the same or not -/
def strOp (s : S) : Op → Option (BinOp × ByteArray × ByteArray)
  | .binOp op _ x y _ => (match s.eval x, s.eval y with
    | .v (.string a), .v (.string b) => (match op with | .add => some (.add, a, b) | .eql => some (.eql, a, b) | .neq => some (.neq, a, b) | _ => none)
    | _, _ => none)
  | _ => none
def strK (h : Hint) (k : T → Prop) : BinOp × ByteArray × ByteArray → Prop
  | (.add, a, b) => a.size + b.size ≤ 9223372036854775807 ∧ claim h (some (.v (.string (a ++ b)))) k
  | (.eql, a, b) => k (.v (.bool (decide (a = b))))
  | (_, a, b) => k (.v (.bool (!decide (a = b))))
def pv (P : Program) (s : S) (o : Oper) (h : Hint) (k : T → Prop) : Prop :=
  match o.op with
  | .move x => claim h (some (s.eval x)) k
  | .assign x => claim h (some (s.eval x)) k
  | .pick c a b => (match s.eval c with | .v (.bool t) => bsplit t (k (s.eval a)) (k (s.eval b)) | _ => False)
  | .field xt x f => vField P s o h k xt x f
  | .extract x i => vExtract P s o h k x i
  | .fieldAddr xt x f => vFieldAddr P s o k xt x f
  | .indexAddr t x ix => vIndexAddr P s h k t x ix
  | .index t x ix => vIndex P s h k t x ix
  | .slice t x lo hi mx => vSlice P s k t x lo hi mx
  | .nilCheck x => vNil P s o k x
  | .build t parts => vBuild P s h k t parts
  | .call c => vLen P s o k c
  | .makeFunc fn first captured => vMakeFunc P s o k fn first captured
  | _ => (match strOp s o.op with
    | some q => strK h k q
    | none => (match nilCmp P s o.op with
      | some q => nilK k q
      | none => (match h with
        | .res t => flatK P s o (fun u => u = t ∧ k t)
        | _ => flatK P s o k)))
end Go.Proofs.YtaepgceodcdnhaaDoor.Vm
