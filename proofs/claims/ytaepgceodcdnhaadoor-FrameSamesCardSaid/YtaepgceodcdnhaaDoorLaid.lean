/-
  The variable frame.fields as start-up laid it: its cells are promised. No condition of its own.
-/
import Derived.Test.YtaepgceodcdnhaaDoorRows
import Derived.Test.YtaepgceodcdnhaaDoorOpn
import Derived.Test.YtaepgceodcdnhaaDoorFD
import Derived.ProofKit
import Derived.LaidMore
import Derived.OpenShut
namespace Go.Proofs.YtaepgceodcdnhaaDoor.Vm
open Go Go.RowKit Go.ChangeShapes Go.WideShapes Go.ChangeAt
namespace X6
def laidF : List (String × DataW Unit) := [("talaria/frame.fields", Rows.laid_talaria_frame_fields)]
theorem gF : Tryd.prog.globalNamed "talaria/frame.fields" = some 0 := by kernel_rfl
theorem tF : (Tryd.prog.globals[0]?).map (·.type) = some 145 := by kernel_rfl
theorem uF : Tryd.prog.underlying 145 = some (.array 17 9) := by kernel_rfl
theorem uS : Tryd.prog.underlying 9 = some .string := by kernel_rfl
theorem sizeS : Tryd.prog.cellsOf 9 = 1 := by kernel_rfl
def lsF : List (List UInt8) := Frm.fields.map letS
theorem fixF_ls : fixF = lsF.map str := by unfold fixF lsF; rw [List.map_map]; rfl
theorem rel_fix {W : World} {g : Nat} {cs : List Value} (hc : ∀ i, W.cell? ⟨g, i, none⟩ = cs[i]?) : ∀ (ls : List (List UInt8)) (o : Nat), (∀ i l, ls[i]? = some l → cs[o + i]? = some (.string ⟨l.toArray⟩)) → RelA (promOf W) g (ls.map str) o
  | [], _, _ => trivial
  | l :: ls, o, h => by
    refine ⟨⟨.string ⟨l.toArray⟩, promOf_some ((hc o).trans (by have := h 0 l rfl; simpa using this)) rfl, rfl⟩, rel_fix hc ls (o + 1) fun i l' hl => ?_⟩
    have := h (i + 1) l' (by simpa using hl)
    rwa [show o + (i + 1) = o + 1 + i by omega] at this
theorem laid_fix {W : World} (h : laidMetH Tryd.prog laidF W) : ∀ x ∈ obsF, ObRel (promOf W) W x := by
  rw [MakeChecks.laidMetH_plain _ _ _ (by kernel_rfl)] at h
  obtain ⟨ps, ⟨g0, t0, cs0, f0, p0, q0, hg0, ht0, hv0, hd0, _⟩, _⟩ := h
  obtain rfl := Option.some.inj (gF.symm.trans hg0)
  obtain rfl := Option.some.inj (tF.symm.trans ht0)
  obtain ⟨xs, m1, rfl, hx1, hlen, hn, hel⟩ := DataW.trod_array uF hd0
  rw [sizeS] at hel
  have hx2 : xs.map (·.1) = lsF.map fun l => DataW.lit (.string l) := by
    have := congrArg Prod.fst hx1
    exact DataW.agg.inj (this.symm.trans (show Rows.laid_talaria_frame_fields = DataW.agg (lsF.map fun l => DataW.lit (.string l)) from rfl))
  have hcell : ∀ i, W.cell? ⟨0, i, none⟩ = cs0.toList[i]? := fun i => by
    rw [World.var?_cell hg0 hv0 i, Array.getElem?_toList]
  intro x hx
  obtain rfl := List.mem_singleton.1 hx
  rw [fixF_ls]
  refine rel_fix hcell lsF 0 fun i l hl => ?_
  have hi : i < 17 := (List.getElem?_eq_some_iff.1 hl).1
  have h1 := hel i hi
  have hxi : (xs.map (·.1))[i]? = some (DataW.lit (.string l)) := by rw [hx2, List.getElem?_map, hl]; rfl
  rw [List.getElem?_map] at hxi
  obtain ⟨y, hy, hy1⟩ := Option.map_eq_some_iff.1 hxi
  rw [hy] at h1
  obtain ⟨s, e1, e2, _⟩ := DataW.trod_string uS h1
  have e3 : (DataW.lit (.string l) : DataW Unit) = .lit (.string s.data.toList) := by rw [← hy1, e2]
  have e4 : l = s.data.toList := by
    generalize s.data.toList = r at e3
    exact Lit.string.inj (DataW.lit.inj e3)
  have e5 : cs0.toList[i]? = some (.string s) := by
    have := congrArg (fun z => z[0]?) e1
    simpa using this
  rw [Nat.zero_add, e5, e4]
end X6
end Go.Proofs.YtaepgceodcdnhaaDoor.Vm
