/-
  talarialaw15.RosterPlays: for every input the law returns true and leaves its arguments as they were.
  No condition: every input that can be read.
-/
import Derived.Test.YtidhblpcaccchaaRows
import Derived.Test.YtidhblpcaccchaaOpn
import Derived.Test.YtidhblpcaccchaaRH
namespace Go.Proofs.Ytidhblpcaccchaa.rosterPlays
open Go Go.RowKit Go.ChangeShapes Go.WideShapes Go.ChangeAt Go.Proofs.Ytidhblpcaccchaa.Vm

theorem own : ownKnob Try.prog.godebug = none := by kernel_rfl
theorem laid : laidOutB Try.prog = true := by kernel_rfl
theorem kinds : (Try.f11.params.toList.all fun t => Try.prog.readableRec t && decide (t < Try.prog.types.size)) = true := by kernel_rfl
def cls : List (List Cl) := [[Cl.int IntKind.i64], [Cl.int IntKind.i64], [Cl.sl true 7 [Cl.int IntKind.u8, Cl.int IntKind.u8, Cl.int IntKind.u8, Cl.int IntKind.u32, Cl.int IntKind.u32, Cl.bool, Cl.int IntKind.u8]]]
theorem opens : Try.f11.params.toList.mapM (clsOf Try.prog 8) = some cls := by kernel_rfl
theorem opens1 : (Try.f11.params.toList.all fun t => Vm.isAgg Try.prog t || (clsOf Try.prog 8 t).any (·.length == 1)) = true := by kernel_rfl
theorem ract_of (cs : List T) (h : ClsIs [Cl.int IntKind.u8, Cl.int IntKind.u8, Cl.int IntKind.u8, Cl.int IntKind.u32, Cl.int IntKind.u32, Cl.bool, Cl.int IntKind.u8] cs) : ∃ a : X15.RAct, cs = X15.ractC a ∧ a.Ok := by
  simp only [ClsIs, Cl.Is] at h
  obtain ⟨_, _, rfl, ⟨w, rfl, hw⟩, _, _, rfl, ⟨n, rfl, hn⟩, _, _, rfl, ⟨l, rfl, hl⟩, _, _, rfl, ⟨e, rfl, he⟩, _, _, rfl, ⟨q, rfl, hq⟩, _, _, rfl, ⟨cp, rfl⟩, _, _, rfl, ⟨k, rfl, hk⟩, rfl⟩ := h
  obtain ⟨w', rfl⟩ := X15.nat_u8 hw
  obtain ⟨n', rfl⟩ := X15.nat_u8 hn
  obtain ⟨l', rfl⟩ := X15.nat_u8 hl
  obtain ⟨k', rfl⟩ := X15.nat_u8 hk
  have h1 := wf_u8 hw
  have h2 := wf_u8 hn
  have h3 := wf_u8 hl
  have h4 := wf_u8 hk
  exact ⟨⟨w', n', l', e, q, cp, k'⟩, rfl, ⟨by dsimp only; omega, by dsimp only; omega, by dsimp only; omega, by dsimp only; omega⟩⟩
set_option maxRecDepth 100000 in
theorem law (xs : List T) (hx : ArgsIs Try.prog Try.f11.params.toList cls xs) : TCalls Try.prog 11 xs [] (fun _ => none) (fun r _ _ => r = .v (.bool true)) := by
      simp only [ArgsIs, Try.params11, List.toList_toArray, cls] at hx
      obtain ⟨cs, r, rfl, hc, cs2, r2, rfl, hc2, cs3, r3, rfl, hc3, rfl⟩ := hx
      simp only [ClsIs, Cl.Is] at hc hc2 hc3
      obtain ⟨x, r, rfl, ⟨su, rfl, hn⟩, rfl⟩ := hc
      obtain ⟨x, r, rfl, ⟨wa, rfl, hn2⟩, rfl⟩ := hc2
      obtain ⟨x, r, rfl, ⟨es, rfl, hlen, hes⟩, rfl⟩ := hc3
      obtain ⟨l, rfl, hl⟩ := els_map X15.ractC X15.RAct.Ok hes ract_of
      exact X15.plays_any su wa l hl _ fun r h => h

set_option maxRecDepth 100000 in
theorem contract (H : Type) (enc : TypeId × Value → H) (W : World) (base : Nat) (args : Array Value) (ds gs : List (DataW H)) (before : List MemPlace)
    (hval0 : ∀ (j : Nat) t v, Try.f11.params[j]? = some t → args[j]? = some v → Value.okWide Try.prog W .any base t v)
    (hW : DataW.Whole enc Try.prog Try.f11.params.toList Rows.rosterPlaysSpec.vars false W args.toList ds gs before) :
    Calls Try.prog 11 args W fun e W' => ∃ v, e = .returned v ∧ Rows.rosterPlaysSpec.post enc Try.prog Try.f11 false true false false W args v W' := by
  have hW' := hW
  obtain ⟨p, q, hA, hV, rfl, hfz, hnd⟩ := hW
  clear hfz hnd
  obtain ⟨rfl, rfl⟩ := trodVars_none hV
  simp only [List.append_nil] at hW'
  obtain ⟨xs, hx, hr⟩ := open_all (base := base) 8 _ cls _ ds _ opens opens1 (fun j t v hj hv => hval0 j t v (by rw [← Array.getElem?_toList]; exact hj) (by rw [← Array.getElem?_toList]; exact hv)) hA
  have hA2 := hA
  rw [Try.params11] at hA2
  obtain ⟨v0, vs0, d0, ds0, p0, q0, hargs, rfl, rfl, h0, r0⟩ := trodAll_cons hA2
  obtain ⟨v1, vs1, d1, ds1, p1, q1, rfl, rfl, rfl, h1, r1⟩ := trodAll_cons r0
  obtain ⟨v2, vs2, d2, ds2, p2, q2, rfl, rfl, rfl, h2, r2⟩ := trodAll_cons r1
  obtain ⟨rfl, rfl, rfl⟩ := trodAll_nil r2
  exact (law_calls (law xs hx) hr).mono fun e W' ⟨he, hb⟩ => ⟨_, he, post_law 4 laid kinds rfl (by kernel_rfl) Try.underlying4 hW' hb rfl⟩

set_option maxRecDepth 100000 in
theorem lifted (os : Os) (started : os.Started) (H : Type) (enc : TypeId × Value → H) :
    ReturnsInHanded {} Try.checked os 11 .any (Rows.rosterPlaysSpec.pre6 enc Try.prog Try.f11 Rows.rosterPlaysRow.domain false) (Rows.rosterPlaysSpec.post enc Try.prog Try.f11 false true false false) := by
  refine returnsInHanded_of_change (C := Try.checked) own started (by kernel_rfl) Try.func11
    (ChangeSpec.witness6 (enc := enc) (C := Try.checked) false ⟨#[], #[.int .i64 0, .int .i64 0, .slice none 0 0], []⟩ 8 (by kernel_rfl) (by kernel_rfl) (by kernel_rfl) (by kernel_rfl)) ?_
  intro W base args ds gs before hval0 hW _ _
  exact contract H enc W base args ds gs before hval0 hW

/-- ████ THE STATEMENT ████ -/
theorem proved : Rows.RosterPlaysSaid :=
  OpenClaim.holds_of_wide 11 Try.f11 rfl rfl rfl rfl rfl rfl rfl ⟨rfl, rfl, rfl, rfl, rfl⟩ rfl rfl rfl rfl rfl (by kernel_rfl) Try.func11 (by kernel_rfl)
    (of_decide_eq_true (by kernel_rfl)) (by unfold Func.isWrapper; first | (rw [if_pos (by decide +kernel)]; kernel_rfl) | (rw [if_neg (by decide +kernel)]; exact ⟨rfl, rfl⟩))
    (fun os started H enc _ => lifted os started H enc)
#print axioms proved
end Go.Proofs.Ytidhblpcaccchaa.rosterPlays
