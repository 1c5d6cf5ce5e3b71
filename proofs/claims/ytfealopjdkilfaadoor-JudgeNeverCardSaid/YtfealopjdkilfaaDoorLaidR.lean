/-
  The variables of the library that a register's operations reach, as start-up laid them: a table and two errors, known whole. No condition of its own.
-/
import Derived.Test.YtfealopjdkilfaaDoorRows
import Derived.Test.YtfealopjdkilfaaDoorOpn
import Derived.Test.YtfealopjdkilfaaDoorRegN
import Derived.ProofKit
import Derived.LaidMore
import Derived.OpenShut
import Derived.Lib.LaidTab
import Derived.Stop.LaidErr
namespace Go.Proofs.YtfealopjdkilfaaDoor.Vm
open Go Go.RowKit Go.ChangeShapes Go.WideShapes Go.ChangeAt
/-- a law's call over blocks that are known whole -/
theorem law_callsW {P : Program} {f : FuncId} {ts : List T} {W : World} {xs : Array Value} {ob : Obs} (hk : ∀ x ∈ ob, ∃ C t fz, x.2 = .whole C t fz) (hd : (ob.map (·.1)).Nodup) (ho : ∀ x ∈ ob, ObRel (promOf W) W x) (h : TCalls P f ts ob (fun _ => none) (fun r o _ => r = .v (.bool true) ∧ o = ob)) (hr : RelL (promOf W) ts xs.toList) :
    Calls P f xs W fun e W' => e = .returned (.bool true) ∧ Below W.heap.size W W' := by
  have hblk : ∀ x ∈ ob, ∀ b, obBlk x = some b → b = x.1 := fun x hx b hb => by
    obtain ⟨C, t, fz, e⟩ := hk x hx
    obtain ⟨b', o⟩ := x
    subst e
    exact (Option.some.inj hb).symm
  refine (h.calls (promOf W) W xs ⟨(hrel_start W).promise, fun i x hx => ho x (List.mem_of_getElem? hx), fun i j x y b hx hy h3 h4 => ?_, (fun b x h => by cases h), fun i x b hx h2 => rfl⟩ hr).mono fun e W' ⟨x, r, M', ob', gl', h1, h2, h3, h4, h5, h6⟩ => ?_
  · have e1 := hblk x (List.mem_of_getElem? hx) b h3
    have e2 := hblk y (List.mem_of_getElem? hy) b h4
    have hi : (ob.map (·.1))[i]? = some b := by rw [List.getElem?_map, hx, e1]; rfl
    have hj : (ob.map (·.1))[j]? = some b := by rw [List.getElem?_map, hy, e2]; rfl
    obtain ⟨i1, e3⟩ := List.getElem?_eq_some_iff.1 hi
    obtain ⟨j1, e4⟩ := List.getElem?_eq_some_iff.1 hj
    exact (List.getElem_inj hd).1 (e3.trans e4.symm)
  · subst h5
    subst h6
    simp only [Rel] at h2
    subst h2
    refine ⟨h1, Fr.to_below ⟨h4.fr.os, h4.fr.tape, h4.fr.output, h4.fr.size, fun k hk' _ => ?_⟩⟩
    by_cases hD : Dom ob' (fun _ => none) k
    · rcases hD with ⟨i, y, hy, hb⟩ | hD
      · have hm := List.mem_of_getElem? hy
        have e1 := hblk y hm k hb
        obtain ⟨C, t, fz, e⟩ := hk y hm
        have o1 := ho y hm
        have o2 := h3.objs i y hy
        obtain ⟨b', o⟩ := y
        subst e
        subst e1
        exact o2.trans o1.symm
      · cases hD
    · exact h4.fr.block k hk' hD
namespace X4
def laidR : List (String × DataW Unit) := [("math/bits.deBruijn32tab", Rows.laid_math_bits_deBruijn32tab), ("math/bits.deBruijn64tab", Rows.laid_math_bits_deBruijn64tab), ("internal/strconv.uint64pow10", Rows.laid_internal_strconv_uint64pow10), ("strconv.ErrRange", Rows.laid_strconv_ErrRange), ("strconv.ErrSyntax", Rows.laid_strconv_ErrSyntax)]
theorem tT : (Tryd.prog.globals[0]?).map (·.type) = some 100 := by kernel_rfl
theorem tE2 : (Tryd.prog.globals[1]?).map (·.type) = some 80 := by kernel_rfl
theorem tE3 : (Tryd.prog.globals[2]?).map (·.type) = some 80 := by kernel_rfl
theorem uT : Tryd.prog.underlying 100 = some (.array 20 86) := by kernel_rfl
theorem uU : Tryd.prog.underlying 86 = some (.int .u64) := by kernel_rfl
theorem cU : Tryd.prog.cellsOf 86 = 1 := by kernel_rfl
theorem cT : Tryd.prog.cellsOf 100 = 20 := by kernel_rfl
theorem iE : ∃ ms, Tryd.prog.underlying 80 = some (.interface ms) := ⟨_, Tryd.underlying80⟩
theorem pE : Tryd.prog.underlying 112 = some (.pointer 114) := by kernel_rfl
theorem sE : ∃ f, Tryd.prog.underlying 114 = some (.struct #[f]) ∧ f.type = 9 ∧ f.offset = 0 := ⟨_, Tryd.underlying114, rfl, rfl⟩
theorem uS : Tryd.prog.underlying 9 = some .string := by kernel_rfl
theorem cE : Tryd.prog.cellsOf 114 = 1 := by kernel_rfl
theorem cS : Tryd.prog.cellsOf 9 = 1 := by kernel_rfl
theorem star : "*" ++ "errors.errorString" = "*errors.errorString" := by decide
theorem rowE (u : TypeId) (h : Tryd.prog.typeName? 3 u = some "*errors.errorString") : u = 112 :=
  typeName_ptr_named (nm := "errors.errorString") (by rw [star]; kernel_rfl) (by kernel_rfl) (by decide) u (by rw [star]; exact h)
theorem heap_of {P : Program} {w : World} {n : String} {g : Nat} {C : Array Value} (hg : P.globalNamed n = some g) (h : w.var? P n = some C) : ∃ t fz, w.heap[g]? = some (.cells C t fz) := by
  simp only [World.var?, hg, Option.bind_some] at h
  split at h
  · rename_i cs t fz e
    obtain rfl := Option.some.inj h
    exact ⟨t, fz, e⟩
  · cases h
theorem tabD {H : Type} : (Rows.laid_internal_strconv_uint64pow10 : DataW H) = Lib.tabData .u64 Lib.pow10Tab := rfl
theorem laid_R {W : World} (h : laidMetH Tryd.prog laidR W) : ∃ g : Gs, ∀ x ∈ obsG g, ObRel (promOf W) W x := by
  rw [MakeChecks.laidMetH_plain _ _ _ (by kernel_rfl)] at h
  obtain ⟨ms, iE'⟩ := iE
  obtain ⟨f, sE', ft, fo⟩ := sE
  have h1 := h.tail.tail
  have h2 := h1.tail
  have h3 := h2.tail
  rw [tabD] at h1
  have k1 := Lib.tabIs_of_head gT tT uT uU cU cT h1
  obtain ⟨a2, s2, k2, -, -, -⟩ := laid_sentinel h2 gR tE3 iE' rowE pE sE' ft fo uS cE cS
  obtain ⟨a3, s3, k3, -, -, -⟩ := laid_sentinel h3 gS tE2 iE' rowE pE sE' ft fo uS cE cS
  obtain ⟨t1, f1, j1⟩ := heap_of gT k1
  obtain ⟨t2, f2, j2⟩ := heap_of gR k2
  obtain ⟨t3, f3, j3⟩ := heap_of gS k3
  refine ⟨⟨t1, t3, t2, f1, f3, f2, 112, 112, .pointer (some a3), .pointer (some a2)⟩, fun x hx => ?_⟩
  simp only [obsG, List.mem_cons, List.not_mem_nil, or_false] at hx
  rcases hx with rfl | rfl | rfl
  · exact j1
  · exact j3
  · exact j2
theorem obsG_whole (g : Gs) : ∀ x ∈ obsG g, ∃ C t fz, x.2 = .whole C t fz := by
  intro x hx
  simp only [obsG, List.mem_cons, List.not_mem_nil, or_false] at hx
  rcases hx with rfl | rfl | rfl <;> exact ⟨_, _, _, rfl⟩
theorem obsG_apart (g : Gs) : ((obsG g).map (·.1)).Nodup := by simp [obsG]
end X4
end Go.Proofs.YtfealopjdkilfaaDoor.Vm
