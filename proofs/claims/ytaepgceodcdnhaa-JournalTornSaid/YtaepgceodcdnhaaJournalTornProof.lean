/-
  talarialaw10.JournalTorn: for every input the law returns true and leaves its arguments as they were.
  No condition: every input that can be read.
-/
import Derived.Test.YtaepgceodcdnhaaRows
import Derived.Test.YtaepgceodcdnhaaOpn
import Derived.Test.YtaepgceodcdnhaaJE
namespace Go.Proofs.Ytaepgceodcdnhaa.journalTorn
open Go Go.RowKit Go.ChangeShapes Go.WideShapes Go.ChangeAt Go.Proofs.Ytaepgceodcdnhaa.Vm

theorem own : ownKnob Try.prog.godebug = none := by kernel_rfl
theorem laid : laidOutB Try.prog = true := by kernel_rfl
theorem kinds : (Try.f4.params.toList.all fun t => Try.prog.readableRec t && decide (t < Try.prog.types.size)) = true := by kernel_rfl
def cls : List (List Cl) := [[Cl.sl false 1 [Cl.str]], [Cl.sl false 1 [Cl.int IntKind.i64]]]
theorem opens : Try.f4.params.toList.mapM (clsOf Try.prog 8) = some cls := by kernel_rfl
theorem opens1 : (Try.f4.params.toList.all fun t => Vm.isAgg Try.prog t || (clsOf Try.prog 8 t).any (·.length == 1)) = true := by kernel_rfl
theorem els_strs : ∀ {es : List T}, (∀ y ∈ es, ∃ cs, ClsIs [Cl.str] cs ∧ y = if false then .agg cs else cs.headD .und) → ∃ L : List (List UInt8), es = X10.strs L
  | [], _ => ⟨[], rfl⟩
  | e :: es, h => by
    obtain ⟨L, rfl⟩ := els_strs (es := es) fun y hy => h y (by simp [hy])
    obtain ⟨cs, hc, rfl⟩ := h e (by simp)
    simp only [ClsIs, Cl.Is] at hc
    obtain ⟨x, r, rfl, ⟨l, rfl, _⟩, rfl⟩ := hc
    exact ⟨l :: L, rfl⟩
theorem els_ints : ∀ {es : List T}, (∀ y ∈ es, ∃ cs, ClsIs [Cl.int IntKind.i64] cs ∧ y = if false then .agg cs else cs.headD .und) → ∃ K : List Int, es = X10.ints K
  | [], _ => ⟨[], rfl⟩
  | e :: es, h => by
    obtain ⟨K, rfl⟩ := els_ints (es := es) fun y hy => h y (by simp [hy])
    obtain ⟨cs, hc, rfl⟩ := h e (by simp)
    simp only [ClsIs, Cl.Is] at hc
    obtain ⟨x, r, rfl, ⟨z, rfl, _⟩, rfl⟩ := hc
    exact ⟨z :: K, rfl⟩
set_option maxRecDepth 100000 in
theorem law (xs : List T) (hx : ArgsIs Try.prog Try.f4.params.toList cls xs) : TCalls Try.prog 4 xs [] (fun _ => none) (fun r _ _ => r = .v (.bool true)) := by
      simp only [ArgsIs, Try.params4, List.toList_toArray, cls] at hx
      obtain ⟨cs, r, rfl, hc, cs2, r2, rfl, hc2, rfl⟩ := hx
      simp only [ClsIs, Cl.Is] at hc hc2
      obtain ⟨x, r, rfl, ⟨es, rfl, hlen, hes⟩, rfl⟩ := hc
      obtain ⟨x, r, rfl, ⟨es2, rfl, hlen2, hes2⟩, rfl⟩ := hc2
      obtain ⟨L, rfl⟩ := els_strs hes
      obtain ⟨K, rfl⟩ := els_ints hes2
      exact X10.torn_any L K _ fun r h => h

set_option maxRecDepth 100000 in
theorem contract (H : Type) (enc : TypeId × Value → H) (W : World) (base : Nat) (args : Array Value) (ds gs : List (DataW H)) (before : List MemPlace)
    (hval0 : ∀ (j : Nat) t v, Try.f4.params[j]? = some t → args[j]? = some v → Value.okWide Try.prog W .any base t v)
    (hW : DataW.Whole enc Try.prog Try.f4.params.toList Rows.journalTornSpec.vars false W args.toList ds gs before) :
    Calls Try.prog 4 args W fun e W' => ∃ v, e = .returned v ∧ Rows.journalTornSpec.post enc Try.prog Try.f4 false true false false W args v W' := by
  have hW' := hW
  obtain ⟨p, q, hA, hV, rfl, hfz, hnd⟩ := hW
  clear hfz hnd
  obtain ⟨rfl, rfl⟩ := trodVars_none hV
  simp only [List.append_nil] at hW'
  obtain ⟨xs, hx, hr⟩ := open_all (base := base) 8 _ cls _ ds _ opens opens1 (fun j t v hj hv => hval0 j t v (by rw [← Array.getElem?_toList]; exact hj) (by rw [← Array.getElem?_toList]; exact hv)) hA
  have hA2 := hA
  rw [Try.params4] at hA2
  obtain ⟨v0, vs0, d0, ds0, p0, q0, hargs, rfl, rfl, h0, r0⟩ := trodAll_cons hA2
  obtain ⟨v1, vs1, d1, ds1, p1, q1, rfl, rfl, rfl, h1, r1⟩ := trodAll_cons r0
  obtain ⟨rfl, rfl, rfl⟩ := trodAll_nil r1
  exact (law_calls (law xs hx) hr).mono fun e W' ⟨he, hb⟩ => ⟨_, he, post_law 4 laid kinds rfl (by kernel_rfl) Try.underlying4 hW' hb rfl⟩

set_option maxRecDepth 100000 in
theorem lifted (os : Os) (started : os.Started) (H : Type) (enc : TypeId × Value → H) :
    ReturnsInHanded {} Try.checked os 4 .any (Rows.journalTornSpec.pre6 enc Try.prog Try.f4 Rows.journalTornRow.domain false) (Rows.journalTornSpec.post enc Try.prog Try.f4 false true false false) := by
  refine returnsInHanded_of_change (C := Try.checked) own started (by kernel_rfl) Try.func4
    (ChangeSpec.witness6 (enc := enc) (C := Try.checked) false ⟨#[], #[.slice none 0 0, .slice none 0 0], []⟩ 8 (by kernel_rfl) (by kernel_rfl) (by kernel_rfl) (by kernel_rfl)) ?_
  intro W base args ds gs before hval0 hW _ _
  exact contract H enc W base args ds gs before hval0 hW

/-- ████ THE STATEMENT ████ -/
theorem proved : Rows.JournalTornSaid :=
  OpenClaim.holds_of_wide 4 Try.f4 rfl rfl rfl rfl rfl rfl rfl ⟨rfl, rfl, rfl, rfl, rfl⟩ rfl rfl rfl rfl rfl (by kernel_rfl) Try.func4 (by kernel_rfl)
    (of_decide_eq_true (by kernel_rfl)) (by unfold Func.isWrapper; first | (rw [if_pos (by decide +kernel)]; kernel_rfl) | (rw [if_neg (by decide +kernel)]; exact ⟨rfl, rfl⟩))
    (fun os started H enc _ => lifted os started H enc)
#print axioms proved
end Go.Proofs.Ytaepgceodcdnhaa.journalTorn
