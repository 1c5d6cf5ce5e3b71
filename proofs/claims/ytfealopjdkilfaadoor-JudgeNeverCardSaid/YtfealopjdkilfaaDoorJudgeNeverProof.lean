/-
  talarialaw27.JudgeNever: for every input the law returns true and leaves its arguments as they were.
  No condition: every input that can be read.
-/
import Derived.Test.YtfealopjdkilfaaDoorRows
import Derived.Test.YtfealopjdkilfaaDoorOpn
import Derived.Test.YtfealopjdkilfaaDoorLaidR
import Derived.Stop.Joined
import Derived.Test.YtfealopjdkilfaaDoorJgK
import Derived.Test.YtfealopjdkilfaaDoorJgO
namespace Go.Proofs.YtfealopjdkilfaaDoor.judgeNever
open Go Go.RowKit Go.ChangeShapes Go.WideShapes Go.ChangeAt Go.Proofs.YtfealopjdkilfaaDoor.Vm

theorem own : ownKnob Tryd.prog.godebug = none := by kernel_rfl
theorem laid : laidOutB Tryd.prog = true := by kernel_rfl
theorem kinds : (Tryd.f6.params.toList.all fun t => Tryd.prog.readableRec t && decide (t < Tryd.prog.types.size)) = true := by kernel_rfl
def cls : List (List Cl) := [[Cl.int IntKind.u8], [Cl.sl true 9 [Cl.int IntKind.u8, Cl.int IntKind.u8, Cl.int IntKind.u8, Cl.int IntKind.u8, Cl.int IntKind.u8, Cl.int IntKind.u8, Cl.int IntKind.u8, Cl.int IntKind.u8, Cl.bool]], [Cl.sl true 9 [Cl.int IntKind.u8, Cl.int IntKind.u8, Cl.int IntKind.u8, Cl.int IntKind.u8, Cl.int IntKind.u8, Cl.int IntKind.u8, Cl.int IntKind.u8, Cl.int IntKind.u8, Cl.bool]]]
theorem opens : Tryd.f6.params.toList.mapM (clsOf Tryd.prog 8) = some cls := by kernel_rfl
theorem opens1 : (Tryd.f6.params.toList.all fun t => Vm.isAgg Tryd.prog t || (clsOf Tryd.prog 8 t).any (·.length == 1)) = true := by kernel_rfl

set_option maxRecDepth 100000 in
theorem law (g : X4.Gs) (xs : List T) (hx : ArgsIs Tryd.prog Tryd.f6.params.toList cls xs) : TCalls Tryd.prog 6 xs (X4.obsG g) (fun _ => none) (fun r o _ => r = .v (.bool true) ∧ o = X4.obsG g) := by
  simp only [ArgsIs, Tryd.params6, List.toList_toArray, cls] at hx
  obtain ⟨c1, r, rfl, h1, c2, r, rfl, h2, c3, r, rfl, h4, rfl⟩ := hx
  simp only [ClsIs, Cl.Is] at h1
  obtain ⟨x, r, rfl, ⟨f, rfl, hf⟩, rfl⟩ := h1
  obtain ⟨f', rfl⟩ : ∃ n : Nat, f = n := ⟨f.toNat, by have := wf_u8 hf; omega⟩
  rw [ClsIs] at h2 h4
  obtain ⟨x, r, rfl, hs, h3⟩ := h2
  rw [ClsIs] at h3
  subst h3
  rw [Cl.Is] at hs
  obtain ⟨es, rfl, _, he⟩ := hs
  obtain ⟨X, rfl, hX⟩ := X27.ars_of he
  obtain ⟨x, r, rfl, hs, h3⟩ := h4
  rw [ClsIs] at h3
  subst h3
  rw [Cl.Is] at hs
  obtain ⟨es, rfl, _, he⟩ := hs
  obtain ⟨N, rfl, hN⟩ := X27.ars_of he
  exact X27.jn_any g f' X N hX hN _ ⟨rfl, rfl⟩

set_option maxRecDepth 100000 in
theorem contract (H : Type) (enc : TypeId × Value → H) (W : World) (base : Nat) (args : Array Value) (ds gs : List (DataW H)) (before : List MemPlace)
    (hval0 : ∀ (j : Nat) t v, Tryd.f6.params[j]? = some t → args[j]? = some v → Value.okWide Tryd.prog W .any base t v)
    (hL : laidMetH Tryd.prog X4.laidR W)
    (hW : DataW.Whole enc Tryd.prog Tryd.f6.params.toList Rows.judgeNeverSpec.vars false W args.toList ds gs before) :
    Calls Tryd.prog 6 args W fun e W' => ∃ v, e = .returned v ∧ Rows.judgeNeverSpec.post enc Tryd.prog Tryd.f6 false true false false W args v W' := by
  have hW' := hW
  obtain ⟨p, q, hA, hV, rfl, hfz, hnd⟩ := hW
  clear hfz hnd
  obtain ⟨rfl, rfl⟩ := trodVars_none hV
  simp only [List.append_nil] at hW'
  obtain ⟨xs, hx, hr⟩ := open_all (base := base) 8 _ cls _ ds _ opens opens1 (fun j t v hj hv => hval0 j t v (by rw [← Array.getElem?_toList]; exact hj) (by rw [← Array.getElem?_toList]; exact hv)) hA
  have hA2 := hA
  rw [Tryd.params6] at hA2
  obtain ⟨v0, vs0, d0, ds0, p0, q0, hargs, rfl, rfl, h0, r0⟩ := trodAll_cons hA2
  obtain ⟨v1, vs1, d1, ds1, p1, q1, rfl, rfl, rfl, h1, r1⟩ := trodAll_cons r0
  obtain ⟨v2, vs2, d2, ds2, p2, q2, rfl, rfl, rfl, h2, r2⟩ := trodAll_cons r1
  obtain ⟨rfl, rfl, rfl⟩ := trodAll_nil r2
  obtain ⟨g, hg⟩ := X4.laid_R hL
  exact (law_callsW (X4.obsG_whole g) (X4.obsG_apart g) hg (law g xs hx) hr).mono fun e W' ⟨he, hb⟩ => ⟨_, he, post_law 4 laid kinds rfl (by kernel_rfl) Tryd.underlying4 hW' hb rfl⟩

/-- the heap that start-up leaves meets the condition -/
theorem door_met (os : Os) (args : Array Value) : laidMetH Tryd.prog X4.laidR ((World.doorLaid Tryd.prog 4000 os).forCall (fun _ _ => 0) ⟨#[], args, []⟩).memory :=
  laidMetH_of_parts3 (fuel := 8) (laidMet_of_run' 8 (by kernel_rfl) (by kernel_rfl)) (by kernel_rfl) (by kernel_rfl)
set_option maxRecDepth 100000 in
theorem lifted (os : Os) (started : os.Started) (H : Type) (enc : TypeId × Value → H) :
    ReturnsInHanded {} Tryd.checked os 6 .any (fun w args => (Rows.judgeNeverSpec.pre enc Tryd.prog Tryd.f6 [] false w args ∧ laidMetH Tryd.prog X4.laidR w) ∧ sizedMet enc Tryd.prog Tryd.f6 (OpenSpec.ofChange Rows.judgeNeverSpec) false w args)
      (Rows.judgeNeverSpec.post enc Tryd.prog Tryd.f6 false true false false) := by
  refine returnsInHanded_of_change_and (C := Tryd.checked) (X := fun w _ => laidMetH Tryd.prog X4.laidR w) (fun _ _ _ hh h => h.of_heap hh) own started (by kernel_rfl) Tryd.func6
    (ChangeSpec.witness_shaped (enc := enc) (C := Tryd.checked) (os := os) (X := fun w _ => laidMetH Tryd.prog X4.laidR w) false (World.doorLaid Tryd.prog 4000 os) #[.int .u8 0, .slice none 0 0, .slice none 0 0] 8 rfl (World.shaped_of_RefB (by kernel_rfl) (by kernel_rfl)) (by kernel_rfl) (by kernel_rfl) (by kernel_rfl) (door_met os _)) ?_
  intro W base args ds gs before hval0 hW _ _ hL _
  exact contract H enc W base args ds gs before hval0 hL hW

/-- the row -/
theorem said : Rows.JudgeNeverSaid :=
  OpenClaim.holds_of_wide 6 Tryd.f6 rfl rfl rfl rfl rfl rfl rfl ⟨rfl, rfl, rfl, rfl, rfl⟩ rfl rfl rfl rfl rfl (by kernel_rfl) Tryd.func6 (by kernel_rfl)
    (of_decide_eq_true (by kernel_rfl)) (by unfold Func.isWrapper; first | (rw [if_pos (by decide +kernel)]; kernel_rfl) | (rw [if_neg (by decide +kernel)]; exact ⟨rfl, rfl⟩))
    (fun os started H enc _ => lifted os started H enc)
end Go.Proofs.YtfealopjdkilfaaDoor.judgeNever
