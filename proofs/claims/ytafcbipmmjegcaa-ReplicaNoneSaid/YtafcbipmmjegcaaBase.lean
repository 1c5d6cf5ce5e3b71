/- Plain lemmas on memory that the walks share: blocks known whole, frames, bytes. No program is named here. -/
import Derived.WalkKit
import Derived.WalkSpells
import Derived.WalkLawsBesides
import Derived.Lib.Hide
import Derived.Deep.Draws
import Derived.Lib.AppendStr
import Derived.Deep.LoopGhost
import Derived.ChangeSame
namespace Go.Proofs.Ytafcbipmmjegcaa
open Go.RowKit Go.ChangeShapes Go.WideShapes

/-! ### Blocks known whole -/
def Blk (w : World) (g : Nat) (t : TypeId) (cs : Array Value) : Prop := w.heap[g]? = some (.cells cs t (0, 0))

section
variable {w w' : World} {g : Nat} {t : TypeId} {cs : Array Value}
theorem Blk.lt (h : Blk w g t cs) : g < w.heap.size := by
  rcases Nat.lt_or_ge g w.heap.size with hlt | hge
  · exact hlt
  · unfold Blk at h; rw [Array.getElem?_eq_none hge] at h; cases h
theorem Blk.cell (h : Blk w g t cs) (i : Nat) : w.cell? ⟨g, i, none⟩ = cs[i]? := cell_of_row w g i cs t (0, 0) h
theorem Blk.frozen (h : Blk w g t cs) (i : Nat) : w.frozen? ⟨g, i, none⟩ = false := by
  unfold Blk at h
  simp [World.frozen?, h]
theorem Blk.new (w : World) (t : TypeId) (cs : Array Value) : Blk (w.alloc (.cells cs t)) w.heap.size t cs := heap_alloc_new w _
theorem Blk.drew (h : Blk w g t cs) : Blk w.drew g t cs := h
theorem Blk.drewN (h : Blk w g t cs) (n : Nat) : Blk (w.drewN n) g t cs := h
theorem Blk.alloc (h : Blk w g t cs) (o : Obj) : Blk (w.alloc o) g t cs := (Below.heap_alloc w o g h.lt).trans h
theorem Blk.set_ (h : Blk w g t cs) (i : Nat) (u : Value) : Blk (w.setCell ⟨g, i, none⟩ u) g t (cs.setIfInBounds i u) := by
  unfold Blk at h ⊢
  simp [World.setCell, Array.getElem?_modify, h]
theorem Blk.far (h : Blk w g t cs) {p : Addr} (hp : g ≠ p.block) (u : Value) : Blk (w.setCell p u) g t cs := (Below.heap_setCell w p u g hp).trans h
theorem Blk.below {B : Nat} (h : Blk w g t cs) (hb : Below B w w') (hg : g < B) : Blk w' g t cs := (hb.block g hg).trans h
end

/-! ### Frames: only the blocks in S, and new ones, may have turned -/
structure Fr (S : Nat → Prop) (w w' : World) : Prop where
  os : w'.os = w.os
  tape : w'.tape = w.tape
  output : w'.output = w.output
  size : w.heap.size ≤ w'.heap.size
  block : ∀ k, k < w.heap.size → ¬ S k → w'.heap[k]? = w.heap[k]?

section
variable {S S' : Nat → Prop} {a b c w w' : World}
theorem Fr.refl (S : Nat → Prop) (w : World) : Fr S w w := ⟨rfl, rfl, rfl, Nat.le_refl _, fun _ _ _ => rfl⟩
theorem Fr.trans (h : Fr S a b) (k : Fr S b c) : Fr S a c :=
  ⟨k.os.trans h.os, k.tape.trans h.tape, k.output.trans h.output, Nat.le_trans h.size k.size, fun i hi hs => (k.block i (Nat.lt_of_lt_of_le hi h.size) hs).trans (h.block i hi hs)⟩
theorem Fr.mono (h : Fr S a b) (hs : ∀ k, k < a.heap.size → S k → S' k) : Fr S' a b := ⟨h.os, h.tape, h.output, h.size, fun k hk hn => h.block k hk (fun x => hn (hs k hk x))⟩
theorem Fr.drew (h : Fr S a w) : Fr S a w.drew := ⟨h.os, h.tape, h.output, h.size, h.block⟩
theorem Fr.drewN (h : Fr S a w) (n : Nat) : Fr S a (w.drewN n) := ⟨h.os, h.tape, h.output, h.size, h.block⟩
theorem Fr.alloc (h : Fr S a w) (o : Obj) : Fr S a (w.alloc o) :=
  ⟨h.os, h.tape, h.output, Nat.le_trans h.size (by simp), fun k hk hs => (Below.heap_alloc w o k (Nat.lt_of_lt_of_le hk h.size)).trans (h.block k hk hs)⟩
theorem Fr.setCell (h : Fr S a w) {p : Addr} (hp : a.heap.size ≤ p.block ∨ S p.block) (u : Value) : Fr S a (w.setCell p u) :=
  ⟨h.os, h.tape, h.output, by simpa [World.setCell] using h.size, fun k hk hs => (Below.heap_setCell w p u k (by
    rintro rfl
    rcases hp with hp | hp
    · omega
    · exact hs hp)).trans (h.block k hk hs)⟩
theorem Fr.own {g : Nat} (h : Fr (· = g) a w) (i : Nat) (u : Value) : Fr (· = g) a (w.setCell ⟨g, i, none⟩ u) := Fr.setCell (p := ⟨g, i, none⟩) h (.inr rfl) u
theorem Fr.of_below (h : Below a.heap.size a b) : Fr S a b := ⟨h.os, h.tape, h.output, h.size, fun k hk _ => h.block k hk⟩
theorem Fr.to_below (h : Fr (fun _ => False) a b) : Below a.heap.size a b := ⟨h.os, h.tape, h.output, h.size, fun k hk => h.block k hk id⟩
/-- what has been made since a may turn -/
theorem Fr.back (h : Fr S a b) (k : Fr S' b c) (hs : ∀ i, i < a.heap.size → S' i → S i) : Fr S a c :=
  ⟨k.os.trans h.os, k.tape.trans h.tape, k.output.trans h.output, Nat.le_trans h.size k.size, fun i hi hn => (k.block i (Nat.lt_of_lt_of_le hi h.size) (fun x => hn (hs i hi x))).trans (h.block i hi hn)⟩
theorem Fr.blk (h : Fr S a b) {g : Nat} {t : TypeId} {cs : Array Value} (hb : Blk a g t cs) (hg : ¬ S g) : Blk b g t cs := (h.block g hb.lt hg).trans hb
theorem Fr.heap (h : Fr S a b) {g : Nat} (hlt : g < a.heap.size) (hg : ¬ S g) : b.heap[g]? = a.heap[g]? := h.block g hlt hg
end
theorem below_drewN {B : Nat} {a w : World} (h : Below B a w) (n : Nat) : Below B a (w.drewN n) := ⟨h.os, h.tape, h.output, h.size, h.block⟩

/-! ### Bytes -/
/-- the cells of some bytes -/
def u8s (l : List UInt8) : Array Value := (l.map fun c => Value.int .u8 (c.toNat : Int)).toArray
theorem size_u8s (l : List UInt8) : (u8s l).size = l.length := by simp [u8s]
theorem getElem?_u8s (l : List UInt8) (i : Nat) : (u8s l)[i]? = (l[i]?).map fun c => Value.int .u8 (c.toNat : Int) := by simp [u8s]
theorem strOfNums_u8 (l : List UInt8) : strOfNums (l.map fun c => (c.toNat : Int)) = ⟨l.toArray⟩ := by
  unfold strOfNums
  rw [List.map_map]
  congr 2
  conv => rhs; rw [← List.map_id l]
  exact List.map_congr_left fun c _ => by simp
theorem run_string_u8s {P : Program} {w : World} (src e dst : TypeId) (hs : P.underlying src = some (.slice e)) (he : P.underlying e = some (.int .u8)) (hd : P.underlying dst = some .string)
    (g len cap : Nat) (l : List UInt8) (hlen : len ≤ l.length) (t : TypeId) (h : Blk w g t (u8s l)) :
    (convert src dst (.slice (some ⟨g, 0, none⟩) len cap)).run P w = .ok (.string ⟨(l.take len).toArray⟩) w := by
  have := run_convert_bytes_arg (P := P) w src e hs he g 0 len cap ((l.take len).map fun c => (c.toNat : Int)) (by simp; omega) (fun i hi => by
    rw [Nat.zero_add, h.cell i, getElem?_u8s]
    have h1 : i < (l.take len).length := by simp; omega
    have h2 : i < l.length := by omega
    simp [List.getD, List.getElem?_eq_getElem h2, hi]) dst hd
  rw [strOfNums_u8] at this
  exact this
/-- a string of one byte that the call has just laid -/
theorem run_string_one {P : Program} (src e dst : TypeId) (hs : P.underlying src = some (.slice e)) (he : P.underlying e = some (.int .u8)) (hd : P.underlying dst = some .string) (w : World) (n : Nat) (hn : n < 256) (o : Obj) :
    (convert src dst (.slice (some ⟨w.heap.size + 1, 0, none⟩) 1 1)).run P ((w.alloc o).alloc (.cells #[.int .u8 (n : Int)] e)) = .ok (.string ⟨#[UInt8.ofNat n]⟩) ((w.alloc o).alloc (.cells #[.int .u8 (n : Int)] e)) := by
  have hb : Blk ((w.alloc o).alloc (.cells (u8s [UInt8.ofNat n]) e)) (w.heap.size + 1) e (u8s [UInt8.ofNat n]) := by
    have := Blk.new (w.alloc o) e (u8s [UInt8.ofNat n])
    rwa [show (w.alloc o).heap.size = w.heap.size + 1 from by simp] at this
  have h := run_string_u8s (P := P) src e dst hs he hd (w.heap.size + 1) 1 1 [UInt8.ofNat n] (by simp) e hb
  have e1 : u8s [UInt8.ofNat n] = #[Value.int .u8 (n : Int)] := by
    have : (UInt8.ofNat n).toNat = n := by rw [UInt8.toNat_ofNat']; omega
    simp [u8s, this]
  rw [e1] at h
  simpa using h

/-! ### A slice whose elements are rows of cells, nil let in -/
def RowsAt (w : World) (B size : Nat) (A : Option Addr) (rows : List (List Value)) : Prop :=
  rows ≠ [] → ∃ b off, A = some ⟨b, off, none⟩ ∧ b < B ∧ ∀ (k : Nat) (row : List Value), rows[k]? = some row → ∀ (j : Nat) (u : Value), row[j]? = some u → w.cell? ⟨b, off + k * size + j, none⟩ = some u
section
variable {w w' : World} {B B' size : Nat} {A : Option Addr} {rows : List (List Value)}
theorem RowsAt.none_ : RowsAt w B size A [] := fun h => absurd rfl h
theorem RowsAt.keep (h : RowsAt w B size A rows) (hk : ∀ p : Addr, p.block < B → w'.cell? p = w.cell? p) : RowsAt w' B size A rows := fun hn => by
  obtain ⟨b, off, e, hb, hc⟩ := h hn
  exact ⟨b, off, e, hb, fun k row hr j u hu => (hk _ hb).trans (hc k row hr j u hu)⟩
theorem RowsAt.more (h : RowsAt w B size A rows) (hB : B ≤ B') : RowsAt w B' size A rows := fun hn => by
  obtain ⟨b, off, e, hb, hc⟩ := h hn
  exact ⟨b, off, e, by omega, hc⟩
theorem RowsAt.below (h : RowsAt w B size A rows) (hb : Below B w w') : RowsAt w' B size A rows := h.keep fun _ hp => hb.cell hp
theorem RowsAt.new (w : World) (size : Nat) (t : TypeId) (cs : Array Value) (rows : List (List Value)) (h : ∀ (k : Nat) (row : List Value), rows[k]? = some row → ∀ (j : Nat) (u : Value), row[j]? = some u → cs[k * size + j]? = some u) :
    RowsAt (w.alloc (.cells cs t)) (w.heap.size + 1) size (some ⟨w.heap.size, 0, none⟩) rows := fun _ => ⟨_, _, rfl, by omega, fun k row hr j u hu => by
  rw [Nat.zero_add, (Blk.new w t cs).cell]
  exact h k row hr j u hu⟩
end
theorem wrap64_byte (c : UInt8) : wrap64 (c.toNat : Int) = (c.toNat : Int) := IntWalk.wrap64_in _ (by have := c.toNat_lt; omega)
theorem bs_ext {a b : ByteArray} (h : a.data.toList = b.data.toList) : a = b := by
  cases a; cases b; simp only [ByteArray.mk.injEq]; exact Array.ext' h
theorem bs_append (a b : ByteArray) : (a ++ b).data.toList = a.data.toList ++ b.data.toList := by
  rw [ByteArray.data_append, Array.toList_append]
theorem bs_cat (a b : List UInt8) : (⟨a.toArray⟩ : ByteArray) ++ ⟨b.toArray⟩ = ⟨(a ++ b).toArray⟩ := bs_ext (by rw [bs_append])
theorem bs_cut (l : List UInt8) (a b : Nat) : (⟨l.toArray⟩ : ByteArray).extract a b = ⟨((l.take b).drop a).toArray⟩ := bs_ext (by
  rw [ByteArray.data_extract]; simp [List.extract_eq_take_drop, List.drop_take])
theorem bs_len (l : List UInt8) : (⟨l.toArray⟩ : ByteArray).size = l.length := by show l.toArray.size = _; simp
theorem bs_self (s : ByteArray) : (⟨s.data.toList.toArray⟩ : ByteArray) = s := bs_ext (by simp)
theorem bs_size (s : ByteArray) : s.data.toList.length = s.size := by rw [Array.length_toList]; rfl
theorem ret_int {k : IntKind} {a b : Int} (h : a = b) : Ending.returned (.int k a) = .returned (.int k b) := by rw [h]
theorem ret_str {a b : ByteArray} (h : a = b) : Ending.returned (.string a) = .returned (.string b) := by rw [h]
theorem ret_bool {a b : Bool} (h : a = b) : Ending.returned (.bool a) = .returned (.bool b) := by rw [h]
theorem ret_si {a b : ByteArray} {k : IntKind} {x y : Int} (h : a = b) (h' : x = y) : Ending.returned (.tuple #[.string a, .int k x]) = .returned (.tuple #[.string b, .int k y]) := by rw [h, h']

/-! ### The walk is stopped ahead of an operation: 'go_wp2_with (first | (at_builtin; refine Stop.out ?_) | ..)'; then 'refine Stop.mk ?_' and the law -/
inductive Stop (p : Prop) : Prop where
  | mk (h : p) : Stop p
theorem Stop.out {p : Prop} (h : Stop p) : p := by cases h; assumption

/-! ### A row of the call's own, kept -/
theorem ownsRow_below {w w' : World} {base : Nat} {e : TypeId} {size : Nat} {v : Value} {n : Nat} {xs : List Value} {B : Nat} (h : w.ownsRow base e size v n xs) (hb : Below B w w') (hB : w.heap.size ≤ B) : w'.ownsRow base e size v n xs := by
  obtain ⟨h1, h2⟩ := h
  refine ⟨h1, ?_⟩
  rcases h2 with h2 | ⟨g, cap, cur, hv, hg, hh, r⟩
  · exact Or.inl h2
  · have hlt : g < w.heap.size := Blk.lt (t := e) (cs := cur) hh
    exact Or.inr ⟨g, cap, cur, hv, hg, by rw [hb.block g (by omega)]; exact hh, r⟩
theorem ownBlock_base {w : World} {base : Nat} {e : TypeId} {size : Nat} {v : Value} {n : Nat} {xs : List Value} (h : w.ownsRow base e size v n xs) : ∀ k, v.ownBlock = some k → base ≤ k := fun k hk => (h.lt k hk).1
theorem cells_of_strs (l : List UInt8) : Lib.strCells ⟨l.toArray⟩ = l.map fun b => Value.int .u8 (b.toNat : Int) := by simp [Lib.strCells]
/-- a row of bytes of the call's own, as a string -/
theorem run_string_own {P : Program} {w : World} (src e dst : TypeId) (hs : P.underlying src = some (.slice e)) (he : P.underlying e = some (.int .u8)) (hd : P.underlying dst = some .string)
    {base : Nat} {v : Value} {n : Nat} {l : List UInt8} (hown : w.ownsRow base e 1 v n (l.map fun b => Value.int .u8 (b.toNat : Int))) :
    (convert src dst v).run P w = .ok (.string ⟨l.toArray⟩) w := by
  have hlen : l.length = n := by have := hown.1; simpa using this
  rcases hown.2 with ⟨rfl, hn⟩ | ⟨g, cap, cur, rfl, hg, hh, hcap, hm, hcs, ht⟩
  · have : l = [] := List.eq_nil_of_length_eq_zero (by omega)
    subst this
    exact run_convert_bytes_nil w src e hs he 0 0 dst hd
  · have h := run_convert_bytes_arg (P := P) w src e hs he g 0 n cap (l.map fun c => (c.toNat : Int)) (by simp [hlen]) (fun i hi => by
      have hc := hown.cells (g := g) rfl i (.int .u8 ((l[i]'(by omega)).toNat : Int)) (by simp [hlen, hi])
      have e1 : (⟨g, 0, none⟩ : Addr).add i = ⟨g, 0 + i, none⟩ := by unfold Addr.add; split <;> simp_all
      rw [e1] at hc
      rw [hc]
      simp [List.getD, hlen, hi]) dst hd
    rw [strOfNums_u8] at h
    exact h

/-! ### '[]byte(s)' -/
theorem run_bytes_new {P : Program} (w : World) (src dst e : TypeId) (l : List UInt8) (hs : P.underlying src = some .string) (hd : P.underlying dst = some (.slice e)) (he : P.underlying e = some (.int .u8)) :
    ∃ (cap : Nat) (w1 : World), (convert src dst (.string ⟨l.toArray⟩)).run P w = .ok (.slice (some ⟨w.heap.size, 0, none⟩) l.length cap) w1 ∧
      (∀ i c, l[i]? = some c → w1.cell? ⟨w.heap.size, i, none⟩ = some (.int .u8 (c.toNat : Int))) ∧ Below w.heap.size w w1 ∧ w.heap.size < w1.heap.size := by
  have h := run_bytes_of_string (P := P) w src dst e ⟨l.toArray⟩ hs hd he
  have hsz : (⟨l.toArray⟩ : ByteArray).size = l.length := by show l.toArray.size = _; simp
  rw [hsz] at h
  refine ⟨_, _, h, fun i c hc => ?_, (Below.refl _ _).drew.alloc (Nat.le_refl _) _, by simp⟩
  have hi : i < l.length := (List.getElem?_eq_some_iff.1 hc).1
  have hx : l[i] = c := (List.getElem?_eq_some_iff.1 hc).2
  rw [show w.heap.size = w.drew.heap.size from rfl, World.cell?_alloc_mark]
  simp [bytesRow, hi, hx, Array.getElem?_append]
end Go.Proofs.Ytafcbipmmjegcaa
