/-
  talarialaw11.AcceptorPlays: for every input the law returns true and leaves its arguments as they were.
  No condition: every input that can be read.
-/
import Derived.Test.YtcmcmafeaabjmaaRows
import Derived.Test.YtcmcmafeaabjmaaMg14
import Derived.Test.YtcmcmafeaabjmaaMg28
namespace Go.Proofs.Ytcmcmafeaabjmaa.acceptorPlays
open Go Go.RowKit Go.ChangeShapes Go.WideShapes Go.ChangeAt Go.Proofs.Ytcmcmafeaabjmaa.Vm
theorem own : ownKnob Try.prog.godebug = none := by kernel_rfl
theorem laid : laidOutB Try.prog = true := by kernel_rfl
theorem kinds : (Try.f5.params.toList.all fun t => Try.prog.readableRec t && decide (t < Try.prog.types.size)) = true := by kernel_rfl
def cls : List (List Cl) := [[Cl.sl true 5 [Cl.int IntKind.i64, Cl.int IntKind.u32, Cl.int IntKind.u8, Cl.int IntKind.u32, Cl.int IntKind.u32]]]
theorem opens : Try.f5.params.toList.mapM (clsOf Try.prog 8) = some cls := by kernel_rfl
theorem opens1 : (Try.f5.params.toList.all fun t => Vm.isAgg Try.prog t || (clsOf Try.prog 8 t).any (·.length == 1)) = true := by kernel_rfl
theorem act_of (cs : List T) (h : ClsIs [.int .i64, .int .u32, .int .u8, .int .u32, .int .u32] cs) : ∃ a : X11.Ac, cs = X11.aC a ∧ a.Ok := by
  simp only [ClsIs, Cl.Is] at h
  obtain ⟨_, _, rfl, ⟨w, rfl, hw⟩, _, _, rfl, ⟨n, rfl, hn⟩, _, _, rfl, ⟨b, rfl, hb⟩, _, _, rfl, ⟨s, rfl, hs⟩, _, _, rfl, ⟨c, rfl, hc⟩, rfl⟩ := h
  have h1 := wf_u32 hn
  have h2 := wf_u8 hb
  have h3 := wf_u32 hs
  have h4 := wf_u32 hc
  obtain ⟨n', rfl⟩ : ∃ m : Nat, n = m := ⟨n.toNat, by omega⟩
  obtain ⟨b', rfl⟩ : ∃ m : Nat, b = m := ⟨b.toNat, by omega⟩
  obtain ⟨s', rfl⟩ : ∃ m : Nat, s = m := ⟨s.toNat, by omega⟩
  obtain ⟨c', rfl⟩ : ∃ m : Nat, c = m := ⟨c.toNat, by omega⟩
  exact ⟨⟨w, n', b', s', c'⟩, rfl, ⟨by dsimp only; omega, by dsimp only; omega, by dsimp only; omega, by dsimp only; omega⟩⟩
set_option maxRecDepth 100000 in
theorem law (xs : List T) (hx : ArgsIs Try.prog Try.f5.params.toList cls xs) : TCalls Try.prog 5 xs [] (fun _ => none) (fun r _ _ => r = .v (.bool true)) := by
      simp only [ArgsIs, Try.params5, List.toList_toArray, cls] at hx
      obtain ⟨cs, r, rfl, hc, rfl⟩ := hx
      simp only [ClsIs, Cl.Is] at hc
      obtain ⟨x, r, rfl, ⟨es, rfl, hlen, hes⟩, rfl⟩ := hc
      obtain ⟨l, rfl, hl⟩ := els_map X11.aC X11.Ac.Ok hes act_of
      exact X11.plays_any l hl _ rfl
set_option maxRecDepth 100000 in
theorem contract (H : Type) (enc : TypeId × Value → H) (W : World) (base : Nat) (args : Array Value) (ds gs : List (DataW H)) (before : List MemPlace)
    (hval0 : ∀ (j : Nat) t v, Try.f5.params[j]? = some t → args[j]? = some v → Value.okWide Try.prog W .any base t v)
    (hW : DataW.Whole enc Try.prog Try.f5.params.toList Rows.acceptorPlaysSpec.vars false W args.toList ds gs before) :
    Calls Try.prog 5 args W fun e W' => ∃ v, e = .returned v ∧ Rows.acceptorPlaysSpec.post enc Try.prog Try.f5 false true false false W args v W' := by
  have hW' := hW
  obtain ⟨p, q, hA, hV, rfl, hfz, hnd⟩ := hW
  clear hfz hnd
  obtain ⟨rfl, rfl⟩ := trodVars_none hV
  simp only [List.append_nil] at hW'
  obtain ⟨xs, hx, hr⟩ := open_all (base := base) 8 _ cls _ ds _ opens opens1 (fun j t v hj hv => hval0 j t v (by rw [← Array.getElem?_toList]; exact hj) (by rw [← Array.getElem?_toList]; exact hv)) hA
  have hA2 := hA
  rw [Try.params5] at hA2
  obtain ⟨v0, vs0, d0, ds0, p0, q0, hargs, rfl, rfl, h0, r0⟩ := trodAll_cons hA2
  obtain ⟨rfl, rfl, rfl⟩ := trodAll_nil r0
  exact (law_calls (law xs hx) hr).mono fun e W' ⟨he, hb⟩ => ⟨_, he, post_law 4 laid kinds rfl (by kernel_rfl) Try.underlying4 hW' hb rfl⟩
set_option maxRecDepth 100000 in
theorem lifted (os : Os) (started : os.Started) (H : Type) (enc : TypeId × Value → H) :
    ReturnsInHanded {} Try.checked os 5 .any (Rows.acceptorPlaysSpec.pre6 enc Try.prog Try.f5 Rows.acceptorPlaysRow.domain false) (Rows.acceptorPlaysSpec.post enc Try.prog Try.f5 false true false false) := by
  refine returnsInHanded_of_change (C := Try.checked) own started (by kernel_rfl) Try.func5
    (ChangeSpec.witness6 (enc := enc) (C := Try.checked) false ⟨#[], #[.slice none 0 0], []⟩ 8 (by kernel_rfl) (by kernel_rfl) (by kernel_rfl) (by kernel_rfl)) ?_
  intro W base args ds gs before hval0 hW _ _
  exact contract H enc W base args ds gs before hval0 hW
theorem proved : Rows.AcceptorPlaysSaid :=
  OpenClaim.holds_of_wide 5 Try.f5 rfl rfl rfl rfl rfl rfl rfl ⟨rfl, rfl, rfl, rfl, rfl⟩ rfl rfl rfl rfl rfl (by kernel_rfl) Try.func5 (by kernel_rfl)
    (of_decide_eq_true (by kernel_rfl)) (by unfold Func.isWrapper; first | (rw [if_pos (by decide +kernel)]; kernel_rfl) | (rw [if_neg (by decide +kernel)]; exact ⟨rfl, rfl⟩))
    (fun os started H enc _ => lifted os started H enc)
#print axioms proved
end Go.Proofs.Ytcmcmafeaabjmaa.acceptorPlays
