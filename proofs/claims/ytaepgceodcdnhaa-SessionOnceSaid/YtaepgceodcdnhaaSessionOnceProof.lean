/-
  talarialaw22.SessionOnce: for every input the law returns true and leaves its arguments as they were.
  No condition: every input that can be read.
-/
import Derived.Test.YtaepgceodcdnhaaRows
import Derived.Test.YtaepgceodcdnhaaOpn
import Derived.Test.YtaepgceodcdnhaaSQ
namespace Go.Proofs.Ytaepgceodcdnhaa.sessionOnce
open Go Go.RowKit Go.ChangeShapes Go.WideShapes Go.ChangeAt Go.Proofs.Ytaepgceodcdnhaa.Vm

theorem own : ownKnob Try.prog.godebug = none := by kernel_rfl
theorem laid : laidOutB Try.prog = true := by kernel_rfl
theorem kinds : (Try.f6.params.toList.all fun t => Try.prog.readableRec t && decide (t < Try.prog.types.size)) = true := by kernel_rfl
def cls : List (List Cl) := [[Cl.sl true 7 [Cl.int IntKind.u8, Cl.int IntKind.u32, Cl.int IntKind.u32, Cl.int IntKind.u8, Cl.bool, Cl.str, Cl.int IntKind.i64]]]
theorem opens : Try.f6.params.toList.mapM (clsOf Try.prog 8) = some cls := by kernel_rfl
theorem opens1 : (Try.f6.params.toList.all fun t => Vm.isAgg Try.prog t || (clsOf Try.prog 8 t).any (·.length == 1)) = true := by kernel_rfl
theorem act_of (cs : List T) (h : ClsIs [.int .u8, .int .u32, .int .u32, .int .u8, .bool, .str, .int .i64] cs) : ∃ a : X22.Act, cs = X22.actC a ∧ a.Ok := by
  simp only [ClsIs, Cl.Is] at h
  obtain ⟨_, _, rfl, ⟨w, rfl, hw⟩, _, _, rfl, ⟨s, rfl, hs⟩, _, _, rfl, ⟨q, rfl, hq⟩, _, _, rfl, ⟨e, rfl, he⟩, _, _, rfl, ⟨b, rfl⟩, _, _, rfl, ⟨x, rfl, _⟩, _, _, rfl, ⟨k, rfl, hk⟩, rfl⟩ := h
  have h1 := wf_u8 hw
  have h2 := wf_u32 hs
  have h3 := wf_u32 hq
  have h4 := wf_u8 he
  obtain ⟨w', rfl⟩ : ∃ n : Nat, w = n := ⟨w.toNat, by omega⟩
  obtain ⟨s', rfl⟩ : ∃ n : Nat, s = n := ⟨s.toNat, by omega⟩
  obtain ⟨q', rfl⟩ : ∃ n : Nat, q = n := ⟨q.toNat, by omega⟩
  obtain ⟨e', rfl⟩ : ∃ n : Nat, e = n := ⟨e.toNat, by omega⟩
  exact ⟨⟨w', s', q', e', b, x, k⟩, rfl, ⟨by dsimp only; omega, by dsimp only; omega, by dsimp only; omega⟩⟩
set_option maxRecDepth 100000 in
theorem law (xs : List T) (hx : ArgsIs Try.prog Try.f6.params.toList cls xs) : TCalls Try.prog 6 xs [] (fun _ => none) (fun r _ _ => r = .v (.bool true)) := by
    simp only [ArgsIs, Try.params6, List.toList_toArray, cls] at hx
    obtain ⟨cs, r, rfl, hc, rfl⟩ := hx
    simp only [ClsIs, Cl.Is] at hc
    obtain ⟨x, r, rfl, ⟨es, rfl, hlen, hes⟩, rfl⟩ := hc
    obtain ⟨l, rfl, hl⟩ := els_map X22.actC X22.Act.Ok hes act_of
    exact X22.on_any l hl _ fun r h => h

set_option maxRecDepth 100000 in
theorem contract (H : Type) (enc : TypeId × Value → H) (W : World) (base : Nat) (args : Array Value) (ds gs : List (DataW H)) (before : List MemPlace)
    (hval0 : ∀ (j : Nat) t v, Try.f6.params[j]? = some t → args[j]? = some v → Value.okWide Try.prog W .any base t v)
    (hW : DataW.Whole enc Try.prog Try.f6.params.toList Rows.sessionOnceSpec.vars false W args.toList ds gs before) :
    Calls Try.prog 6 args W fun e W' => ∃ v, e = .returned v ∧ Rows.sessionOnceSpec.post enc Try.prog Try.f6 false true false false W args v W' := by
  have hW' := hW
  obtain ⟨p, q, hA, hV, rfl, hfz, hnd⟩ := hW
  clear hfz hnd
  obtain ⟨rfl, rfl⟩ := trodVars_none hV
  simp only [List.append_nil] at hW'
  obtain ⟨xs, hx, hr⟩ := open_all (base := base) 8 _ cls _ ds _ opens opens1 (fun j t v hj hv => hval0 j t v (by rw [← Array.getElem?_toList]; exact hj) (by rw [← Array.getElem?_toList]; exact hv)) hA
  have hA2 := hA
  rw [Try.params6] at hA2
  obtain ⟨v0, vs0, d0, ds0, p0, q0, hargs, rfl, rfl, h0, r0⟩ := trodAll_cons hA2
  obtain ⟨rfl, rfl, rfl⟩ := trodAll_nil r0
  exact (law_calls (law xs hx) hr).mono fun e W' ⟨he, hb⟩ => ⟨_, he, post_law 4 laid kinds rfl (by kernel_rfl) Try.underlying4 hW' hb rfl⟩

set_option maxRecDepth 100000 in
theorem lifted (os : Os) (started : os.Started) (H : Type) (enc : TypeId × Value → H) :
    ReturnsInHanded {} Try.checked os 6 .any (Rows.sessionOnceSpec.pre6 enc Try.prog Try.f6 Rows.sessionOnceRow.domain false) (Rows.sessionOnceSpec.post enc Try.prog Try.f6 false true false false) := by
  refine returnsInHanded_of_change (C := Try.checked) own started (by kernel_rfl) Try.func6
    (ChangeSpec.witness6 (enc := enc) (C := Try.checked) false ⟨#[], #[.slice none 0 0], []⟩ 8 (by kernel_rfl) (by kernel_rfl) (by kernel_rfl) (by kernel_rfl)) ?_
  intro W base args ds gs before hval0 hW _ _
  exact contract H enc W base args ds gs before hval0 hW

/-- ████ THE STATEMENT ████ -/
theorem proved : Rows.SessionOnceSaid :=
  OpenClaim.holds_of_wide 6 Try.f6 rfl rfl rfl rfl rfl rfl rfl ⟨rfl, rfl, rfl, rfl, rfl⟩ rfl rfl rfl rfl rfl (by kernel_rfl) Try.func6 (by kernel_rfl)
    (of_decide_eq_true (by kernel_rfl)) (by unfold Func.isWrapper; first | (rw [if_pos (by decide +kernel)]; kernel_rfl) | (rw [if_neg (by decide +kernel)]; exact ⟨rfl, rfl⟩))
    (fun os started H enc _ => lifted os started H enc)
#print axioms proved
end Go.Proofs.Ytaepgceodcdnhaa.sessionOnce
