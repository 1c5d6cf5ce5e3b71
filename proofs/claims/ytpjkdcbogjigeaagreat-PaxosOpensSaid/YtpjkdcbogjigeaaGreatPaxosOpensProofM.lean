/-
  talarialaw14.PaxosOpens: for every input the law returns true and leaves its arguments as they were.
  No condition: every input that can be read.
-/
import Derived.Test.YtpjkdcbogjigeaaGreatRows
import Derived.Test.YtpjkdcbogjigeaaGreatMg14
import Derived.Test.YtpjkdcbogjigeaaGreatMg39
namespace Go.Proofs.YtpjkdcbogjigeaaGreat.paxosOpens
open Go Go.RowKit Go.ChangeShapes Go.WideShapes Go.ChangeAt Go.Proofs.YtpjkdcbogjigeaaGreat.Vm
theorem own : ownKnob Tryz.prog.godebug = none := by kernel_rfl
theorem laid : laidOutB Tryz.prog = true := by kernel_rfl
theorem kinds : (Tryz.f3.params.toList.all fun t => Tryz.prog.readableRec t && decide (t < Tryz.prog.types.size)) = true := by kernel_rfl
def cls : List (List Cl) := [[Cl.int IntKind.u8], [Cl.int IntKind.i64], [Cl.int IntKind.i64]]
theorem opens : Tryz.f3.params.toList.mapM (clsOf Tryz.prog 8) = some cls := by kernel_rfl
theorem opens1 : (Tryz.f3.params.toList.all fun t => Vm.isAgg Tryz.prog t || (clsOf Tryz.prog 8 t).any (·.length == 1)) = true := by kernel_rfl
set_option maxRecDepth 100000 in
theorem law (xs : List T) (hx : ArgsIs Tryz.prog Tryz.f3.params.toList cls xs) : TCalls Tryz.prog 3 xs [] (fun _ => none) (fun r _ _ => r = .v (.bool true)) := by
          simp only [ArgsIs, Tryz.params3, List.toList_toArray, cls] at hx
          obtain ⟨cs, r, rfl, hc, hx⟩ := hx
          obtain ⟨cs2, r2, rfl, hc2, hx⟩ := hx
          obtain ⟨cs3, r3, rfl, hc3, rfl⟩ := hx
          simp only [ClsIs, Cl.Is] at hc hc2 hc3
          obtain ⟨_, _, rfl, ⟨a, rfl, ha⟩, rfl⟩ := hc
          obtain ⟨_, _, rfl, ⟨m, rfl, _⟩, rfl⟩ := hc2
          obtain ⟨_, _, rfl, ⟨p, rfl, _⟩, rfl⟩ := hc3
          have h1 := wf_u8 ha
          obtain ⟨a, rfl⟩ : ∃ n : Nat, a = n := ⟨a.toNat, by omega⟩
          exact X14.opens_any a (by omega) m p _ fun _ => rfl
set_option maxRecDepth 100000 in
theorem contract (H : Type) (enc : TypeId × Value → H) (W : World) (base : Nat) (args : Array Value) (ds gs : List (DataW H)) (before : List MemPlace)
    (hval0 : ∀ (j : Nat) t v, Tryz.f3.params[j]? = some t → args[j]? = some v → Value.okWide Tryz.prog W .any base t v)
    (hW : DataW.Whole enc Tryz.prog Tryz.f3.params.toList Rows.paxosOpensSpec.vars false W args.toList ds gs before) :
    Calls Tryz.prog 3 args W fun e W' => ∃ v, e = .returned v ∧ Rows.paxosOpensSpec.post enc Tryz.prog Tryz.f3 false true false false W args v W' := by
  have hW' := hW
  obtain ⟨p, q, hA, hV, rfl, hfz, hnd⟩ := hW
  clear hfz hnd
  obtain ⟨rfl, rfl⟩ := trodVars_none hV
  simp only [List.append_nil] at hW'
  obtain ⟨xs, hx, hr⟩ := open_all (base := base) 8 _ cls _ ds _ opens opens1 (fun j t v hj hv => hval0 j t v (by rw [← Array.getElem?_toList]; exact hj) (by rw [← Array.getElem?_toList]; exact hv)) hA
  have hA2 := hA
  rw [Tryz.params3] at hA2
  obtain ⟨v0, vs0, d0, ds0, p0, q0, hargs, rfl, rfl, h0, r0⟩ := trodAll_cons hA2
  obtain ⟨v1, vs1, d1, ds1, p1, q1, rfl, rfl, rfl, h1, r1⟩ := trodAll_cons r0
  obtain ⟨v2, vs2, d2, ds2, p2, q2, rfl, rfl, rfl, h2, r2⟩ := trodAll_cons r1
  obtain ⟨rfl, rfl, rfl⟩ := trodAll_nil r2
  exact (law_calls (law xs hx) hr).mono fun e W' ⟨he, hb⟩ => ⟨_, he, post_law 4 laid kinds rfl (by kernel_rfl) Tryz.underlying4 hW' hb rfl⟩
set_option maxRecDepth 100000 in
theorem lifted (os : Os) (started : os.Started) (H : Type) (enc : TypeId × Value → H) :
    ReturnsInHanded {} Tryz.checked os 3 .any (Rows.paxosOpensSpec.pre6 enc Tryz.prog Tryz.f3 Rows.paxosOpensRow.domain false) (Rows.paxosOpensSpec.post enc Tryz.prog Tryz.f3 false true false false) := by
  refine returnsInHanded_of_change (C := Tryz.checked) own started (by kernel_rfl) Tryz.func3
    (ChangeSpec.witness6 (enc := enc) (C := Tryz.checked) false ⟨#[], #[.int .u8 0, .int .i64 0, .int .i64 0], []⟩ 8 (by kernel_rfl) (by kernel_rfl) (by kernel_rfl) (by kernel_rfl)) ?_
  intro W base args ds gs before hval0 hW _ _
  exact contract H enc W base args ds gs before hval0 hW
theorem proved : Rows.PaxosOpensSaid :=
  OpenClaim.holds_of_wide 3 Tryz.f3 rfl rfl rfl rfl rfl rfl rfl ⟨rfl, rfl, rfl, rfl, rfl⟩ rfl rfl rfl rfl rfl (by kernel_rfl) Tryz.func3 (by kernel_rfl)
    (of_decide_eq_true (by kernel_rfl)) (by unfold Func.isWrapper; first | (rw [if_pos (by decide +kernel)]; kernel_rfl) | (rw [if_neg (by decide +kernel)]; exact ⟨rfl, rfl⟩))
    (fun os started H enc _ => lifted os started H enc)
#print axioms proved
end Go.Proofs.YtpjkdcbogjigeaaGreat.paxosOpens
