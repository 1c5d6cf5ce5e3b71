/- Layer 5: a variable that holds a view; commands as data. -/
import Derived.Test.YtidhblpcaccchaaView5
import Derived.Test.YtidhblpcaccchaaViewPure
import Derived.Test.YtidhblpcaccchaaRegion
namespace Go.Proofs.Ytidhblpcaccchaa
open Go.RowKit
namespace View
structure Cm where
  kind : Nat
  node : Nat
  life : Nat
  epoch : Int
  req : Int
def Cm.cells (c : Cm) : List Value := [.int .u8 c.kind, .int .u8 c.node, .int .u8 c.life, .int .u32 c.epoch, .int .u32 c.req]
def Cm.ok (c : Cm) : Prop := c.kind < 256 ∧ c.node < 256 ∧ c.life < 256
theorem cm_cells {w : World} {B : Nat} {A : Option Addr} {cs : List Cm} (h : RowsAt w B 5 A (cs.map Cm.cells)) {k : Nat} (hk : k < cs.length) :
    ∃ b off, A = some ⟨b, off, none⟩ ∧ b < B ∧ w.cell? ⟨b, off + k * 5, none⟩ = some (.int .u8 cs[k].kind) ∧ w.cell? ⟨b, off + k * 5 + 1, none⟩ = some (.int .u8 cs[k].node) ∧ w.cell? ⟨b, off + k * 5 + 2, none⟩ = some (.int .u8 cs[k].life) ∧
      w.cell? ⟨b, off + k * 5 + 3, none⟩ = some (.int .u32 cs[k].epoch) ∧ w.cell? ⟨b, off + k * 5 + 4, none⟩ = some (.int .u32 cs[k].req) := by
  obtain ⟨b, off, e, hb, hc⟩ := h (by intro h; rw [List.map_eq_nil_iff] at h; subst h; simp at hk)
  have hc := hc k cs[k].cells (by simp [hk])
  exact ⟨b, off, e, hb, hc 0 _ rfl, hc 1 _ rfl, hc 2 _ rfl, hc 3 _ rfl, hc 4 _ rfl⟩
/-- block g is a variable that holds the view v -/
def VarV (w : World) (g : Nat) (v : VS) : Prop :=
  ∃ A c, Blk w g 28 (VC v.e A v.ms.length c v.L) ∧ v.ms.length ≤ c ∧ c ≤ 9223372036854775807 ∧ RowsAt w w.heap.size 3 A (v.ms.map Mem.cells)
theorem VarV.below {w w' : World} {g : Nat} {v : VS} (h : VarV w g v) (hb : Below w.heap.size w w') : VarV w' g v := by
  obtain ⟨A, c, h1, h2, h3, h4⟩ := h
  exact ⟨A, c, h1.behind hb, h2, h3, h4.lift hb⟩
theorem VarV.drew {w : World} {g : Nat} {v : VS} (h : VarV w g v) : VarV w.drew g v := by
  obtain ⟨A, c, h1, h2, h3, h4⟩ := h
  exact ⟨A, c, h1.drew, h2, h3, h4.drew⟩
theorem VarV.drewN {w : World} {g : Nat} {v : VS} (h : VarV w g v) (n : Nat) : VarV (w.drewN n) g v := by
  obtain ⟨A, c, h1, h2, h3, h4⟩ := h
  exact ⟨A, c, h1.drewN n, h2, h3, h4.drewN n⟩
theorem VarV.new {w : World} {v : VS} {A : Option Addr} {c : Nat} (h2 : v.ms.length ≤ c) (h3 : c ≤ 9223372036854775807) (h4 : RowsAt w w.heap.size 3 A (v.ms.map Mem.cells)) :
    VarV (w.alloc (.cells (VC v.e A v.ms.length c v.L) 28)) w.heap.size v := ⟨A, c, Blk.new _ _ _, h2, h3, h4.up _⟩
theorem VarV.lt {w : World} {g : Nat} {v : VS} (h : VarV w g v) : g < w.heap.size := by
  obtain ⟨A, c, h1, _⟩ := h
  exact h1.lt
theorem vc_no (e : Int) (A : Option Addr) (n c : Nat) (L : Nat → Nat) : ∀ (i : Nat) (x : Bool), (VC e A n c L)[i]? ≠ some (Value.bool x) := fun i x h => by
  have := Array.mem_of_getElem? h
  simp at this
theorem blk_set10 {w : World} {g : Nat} {t : TypeId} {z0 z1 z2 z3 z4 z5 z6 z7 z8 z9 : Value} (h : Blk w g t #[z0, z1, z2, z3, z4, z5, z6, z7, z8, z9]) (a0 a1 a2 a3 a4 a5 a6 a7 a8 a9 : Value) :
    Blk ((((((((((w.setCell ⟨g, 0, none⟩ a0).setCell ⟨g, 1, none⟩ a1).setCell ⟨g, 2, none⟩ a2).setCell ⟨g, 3, none⟩ a3).setCell ⟨g, 4, none⟩ a4).setCell ⟨g, 5, none⟩ a5).setCell ⟨g, 6, none⟩ a6).setCell ⟨g, 7, none⟩ a7).setCell ⟨g, 8, none⟩ a8).setCell ⟨g, 9, none⟩ a9) g t #[a0, a1, a2, a3, a4, a5, a6, a7, a8, a9] := by
  have := (((((((((h.set_ 0 a0).set_ 1 a1).set_ 2 a2).set_ 3 a3).set_ 4 a4).set_ 5 a5).set_ 6 a6).set_ 7 a7).set_ 8 a8).set_ 9 a9
  simpa using this
theorem blk_far10 {w : World} {g r : Nat} {t : TypeId} {cs : Array Value} (h : Blk w g t cs) (hne : g ≠ r) (a0 a1 a2 a3 a4 a5 a6 a7 a8 a9 : Value) :
    Blk ((((((((((w.setCell ⟨r, 0, none⟩ a0).setCell ⟨r, 1, none⟩ a1).setCell ⟨r, 2, none⟩ a2).setCell ⟨r, 3, none⟩ a3).setCell ⟨r, 4, none⟩ a4).setCell ⟨r, 5, none⟩ a5).setCell ⟨r, 6, none⟩ a6).setCell ⟨r, 7, none⟩ a7).setCell ⟨r, 8, none⟩ a8).setCell ⟨r, 9, none⟩ a9) g t cs :=
  (((((((((h.far (p := ⟨r, 0, none⟩) hne a0).far (p := ⟨r, 1, none⟩) hne a1).far (p := ⟨r, 2, none⟩) hne a2).far (p := ⟨r, 3, none⟩) hne a3).far (p := ⟨r, 4, none⟩) hne a4).far (p := ⟨r, 5, none⟩) hne a5).far (p := ⟨r, 6, none⟩) hne a6).far (p := ⟨r, 7, none⟩) hne a7).far (p := ⟨r, 8, none⟩) hne a8).far (p := ⟨r, 9, none⟩) hne a9
/-- a view stored into the variable -/
theorem varV_set {w : World} {g : Nat} {e0 : Int} {A0 : Option Addr} {n0 c0 : Nat} {L0 : Nat → Nat} (h : Blk w g 28 (VC e0 A0 n0 c0 L0)) {v : VS} {A : Option Addr} {c : Nat} (h2 : v.ms.length ≤ c) (h3 : c ≤ 9223372036854775807) (h4 : RowsAt w w.heap.size 3 A (v.ms.map Mem.cells)) :
    VarV ((((((((((w.setCell ⟨g, 0, none⟩ (.int .u32 v.e)).setCell ⟨g, 1, none⟩ (.slice A v.ms.length c)).setCell ⟨g, 2, none⟩ (.int .u8 (v.L 0))).setCell ⟨g, 3, none⟩ (.int .u8 (v.L 1))).setCell ⟨g, 4, none⟩ (.int .u8 (v.L 2))).setCell ⟨g, 5, none⟩ (.int .u8 (v.L 3))).setCell ⟨g, 6, none⟩ (.int .u8 (v.L 4))).setCell ⟨g, 7, none⟩ (.int .u8 (v.L 5))).setCell ⟨g, 8, none⟩ (.int .u8 (v.L 6))).setCell ⟨g, 9, none⟩ (.int .u8 (v.L 7))) g v := by
  refine ⟨A, c, blk_set10 h _ _ _ _ _ _ _ _ _ _, h2, h3, ?_⟩
  intro hne
  obtain ⟨b, off, rfl, hb, hc⟩ := h4 hne
  exact rows_set10 h4 hb (rows_apart h (vc_no _ _ _ _ _) h4 (fun e => hne (by rw [e]; rfl))) _ _ _ _ _ _ _ _ _ _ hne
theorem varV_far {w : World} {g gn : Nat} {v : VS} {t : TypeId} {cs : Array Value} (h : VarV w g v) (hb : Blk w gn t cs) (hno : ∀ (i : Nat) (x : Bool), cs[i]? ≠ some (Value.bool x)) (hne : g ≠ gn) (i : Nat) (u : Value) : VarV (w.setCell ⟨gn, i, none⟩ u) g v := by
  obtain ⟨A, c, h1, h2, h3, h4⟩ := h
  refine ⟨A, c, h1.far (p := ⟨gn, i, none⟩) hne u, h2, h3, ?_⟩
  intro hn
  obtain ⟨b, off, rfl, hbb, hc⟩ := h4 hn
  exact rows_keep h4 (fun q => cell_set (rows_apart hb hno h4 (fun e => hn (by rw [e]; rfl))) i u q) (by rw [size_set]; exact hbb) hn
theorem later_blk {w : World} {g : Nat} {t : TypeId} {cs : Array Value} (h : Blk w g t cs) {i : Nat} {u : Value} (hu : cs[i]? = some u) : ∀ m : Reg.Later w, m.w.cell? ⟨g, i, none⟩ = some u := fun m => ((h.behind m.h).cell i).trans hu
theorem later_cell {w : World} {b o : Nat} {u : Value} (h : w.cell? ⟨b, o, none⟩ = some u) : ∀ m : Reg.Later w, m.w.cell? ⟨b, o, none⟩ = some u := fun m => (m.h.cell (p := ⟨b, o, none⟩) (World.block_lt_of_cell? w _ h)).trans h
end View
end Go.Proofs.Ytidhblpcaccchaa
