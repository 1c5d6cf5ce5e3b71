/-
  talarialaw20.ReplicaPlays: for every input the law returns true and leaves its arguments as they were.
  No condition: every input that can be read.
-/
import Derived.Test.YtafcbipmmjegcaaRows
import Derived.Test.YtafcbipmmjegcaaMg14
import Derived.Test.YtafcbipmmjegcaaMg42
namespace Go.Proofs.Ytafcbipmmjegcaa.replicaPlays
open Go Go.RowKit Go.ChangeShapes Go.WideShapes Go.ChangeAt Go.Proofs.Ytafcbipmmjegcaa.Vm
theorem own : ownKnob Try.prog.godebug = none := by kernel_rfl
theorem laid : laidOutB Try.prog = true := by kernel_rfl
theorem kinds : (Try.f7.params.toList.all fun t => Try.prog.readableRec t && decide (t < Try.prog.types.size)) = true := by kernel_rfl
def cls : List (List Cl) := [[Cl.int IntKind.u8, Cl.int IntKind.u8, Cl.bool, Cl.int IntKind.u8, Cl.int IntKind.u8, Cl.sl true 13 [Cl.int IntKind.u8, Cl.int IntKind.u8, Cl.int IntKind.u8, Cl.int IntKind.u8, Cl.int IntKind.u32, Cl.int IntKind.u8, Cl.int IntKind.u8, Cl.int IntKind.u8, Cl.str, Cl.bool, Cl.bool, Cl.bool, Cl.bool]]]
theorem opens : Try.f7.params.toList.mapM (clsOf Try.prog 8) = some cls := by kernel_rfl
theorem opens1 : (Try.f7.params.toList.all fun t => Vm.isAgg Try.prog t || (clsOf Try.prog 8 t).any (·.length == 1)) = true := by kernel_rfl
theorem act_of (cs : List T) (h : ClsIs [.int .u8, .int .u8, .int .u8, .int .u8, .int .u32, .int .u8, .int .u8, .int .u8, .str, .bool, .bool, .bool, .bool] cs) : ∃ a : X20.Act, cs = X20.acC a ∧ a.n ≤ 4294967295 := by
  simp only [ClsIs, Cl.Is] at h
  obtain ⟨_, _, rfl, ⟨a, rfl, ha⟩, _, _, rfl, ⟨b, rfl, hb⟩, _, _, rfl, ⟨c, rfl, hc⟩, _, _, rfl, ⟨d, rfl, hd⟩, _, _, rfl, ⟨e, rfl, he⟩, _, _, rfl, ⟨f, rfl, hf⟩, _, _, rfl, ⟨g, rfl, hg⟩, _, _, rfl, ⟨i, rfl, hi⟩, _, _, rfl, ⟨x, rfl, _⟩, _, _, rfl, ⟨b1, rfl⟩, _, _, rfl, ⟨b2, rfl⟩, _, _, rfl, ⟨b3, rfl⟩, _, _, rfl, ⟨b4, rfl⟩, rfl⟩ := h
  have a1 := wf_u8 ha
  have b1' := wf_u8 hb
  have c1 := wf_u8 hc
  have d1 := wf_u8 hd
  have e1 := wf_u32 he
  have f1 := wf_u8 hf
  have g1 := wf_u8 hg
  have i1 := wf_u8 hi
  obtain ⟨a', rfl⟩ : ∃ n : Nat, a = n := ⟨a.toNat, by omega⟩
  obtain ⟨b', rfl⟩ : ∃ n : Nat, b = n := ⟨b.toNat, by omega⟩
  obtain ⟨c', rfl⟩ : ∃ n : Nat, c = n := ⟨c.toNat, by omega⟩
  obtain ⟨d', rfl⟩ : ∃ n : Nat, d = n := ⟨d.toNat, by omega⟩
  obtain ⟨e', rfl⟩ : ∃ n : Nat, e = n := ⟨e.toNat, by omega⟩
  obtain ⟨f', rfl⟩ : ∃ n : Nat, f = n := ⟨f.toNat, by omega⟩
  obtain ⟨g', rfl⟩ : ∃ n : Nat, g = n := ⟨g.toNat, by omega⟩
  obtain ⟨i', rfl⟩ : ∃ n : Nat, i = n := ⟨i.toNat, by omega⟩
  exact ⟨⟨a', b', c', d', e', f', g', i', ⟨x.toArray⟩, b1, b2, b3, b4⟩, rfl, by dsimp only; omega⟩
set_option maxRecDepth 100000 in
theorem law (xs : List T) (hx : ArgsIs Try.prog Try.f7.params.toList cls xs) : TCalls Try.prog 7 xs [] (fun _ => none) (fun r _ _ => r = .v (.bool true)) := by
      simp only [ArgsIs, Try.params7, List.toList_toArray, cls] at hx
      obtain ⟨cs, r, rfl, hc, rfl⟩ := hx
      simp only [ClsIs, Cl.Is] at hc
      obtain ⟨_, _, rfl, ⟨n, rfl, hn⟩, _, _, rfl, ⟨s, rfl, hs⟩, _, _, rfl, ⟨w, rfl⟩, _, _, rfl, ⟨e, rfl, he⟩, _, _, rfl, ⟨p, rfl, hp⟩, _, _, rfl, ⟨es, rfl, hlen, hes⟩, rfl⟩ := hc
      obtain ⟨l, rfl, hl⟩ := els_map X20.acC (fun a => a.n ≤ 4294967295) hes act_of
      have n1 := wf_u8 hn
      have s1 := wf_u8 hs
      have e1 := wf_u8 he
      have p1 := wf_u8 hp
      obtain ⟨n', rfl⟩ : ∃ m : Nat, n = m := ⟨n.toNat, by omega⟩
      obtain ⟨s', rfl⟩ : ∃ m : Nat, s = m := ⟨s.toNat, by omega⟩
      obtain ⟨e', rfl⟩ : ∃ m : Nat, e = m := ⟨e.toNat, by omega⟩
      obtain ⟨p', rfl⟩ : ∃ m : Nat, p = m := ⟨p.toNat, by omega⟩
      exact X20.plays_any ⟨n', s', w, e', p', l⟩ (by dsimp only; omega) (by dsimp only; omega) (by dsimp only; omega) hl _ fun _ => rfl
set_option maxRecDepth 100000 in
theorem contract (H : Type) (enc : TypeId × Value → H) (W : World) (base : Nat) (args : Array Value) (ds gs : List (DataW H)) (before : List MemPlace)
    (hval0 : ∀ (j : Nat) t v, Try.f7.params[j]? = some t → args[j]? = some v → Value.okWide Try.prog W .any base t v)
    (hW : DataW.Whole enc Try.prog Try.f7.params.toList Rows.replicaPlaysSpec.vars false W args.toList ds gs before) :
    Calls Try.prog 7 args W fun e W' => ∃ v, e = .returned v ∧ Rows.replicaPlaysSpec.post enc Try.prog Try.f7 false true false false W args v W' := by
  have hW' := hW
  obtain ⟨p, q, hA, hV, rfl, hfz, hnd⟩ := hW
  clear hfz hnd
  obtain ⟨rfl, rfl⟩ := trodVars_none hV
  simp only [List.append_nil] at hW'
  obtain ⟨xs, hx, hr⟩ := open_all (base := base) 8 _ cls _ ds _ opens opens1 (fun j t v hj hv => hval0 j t v (by rw [← Array.getElem?_toList]; exact hj) (by rw [← Array.getElem?_toList]; exact hv)) hA
  have hA2 := hA
  rw [Try.params7] at hA2
  obtain ⟨v0, vs0, d0, ds0, p0, q0, hargs, rfl, rfl, h0, r0⟩ := trodAll_cons hA2
  obtain ⟨rfl, rfl, rfl⟩ := trodAll_nil r0
  exact (law_calls (law xs hx) hr).mono fun e W' ⟨he, hb⟩ => ⟨_, he, post_law 4 laid kinds rfl (by kernel_rfl) Try.underlying4 hW' hb rfl⟩
set_option maxRecDepth 100000 in
theorem lifted (os : Os) (started : os.Started) (H : Type) (enc : TypeId × Value → H) :
    ReturnsInHanded {} Try.checked os 7 .any (Rows.replicaPlaysSpec.pre6 enc Try.prog Try.f7 Rows.replicaPlaysRow.domain false) (Rows.replicaPlaysSpec.post enc Try.prog Try.f7 false true false false) := by
  refine returnsInHanded_of_change (C := Try.checked) own started (by kernel_rfl) Try.func7
    (ChangeSpec.witness6 (enc := enc) (C := Try.checked) false ⟨#[], #[.agg #[.int .u8 0, .int .u8 0, .bool false, .int .u8 0, .int .u8 0, .slice none 0 0]], []⟩ 8 (by kernel_rfl) (by kernel_rfl) (by kernel_rfl) (by kernel_rfl)) ?_
  intro W base args ds gs before hval0 hW _ _
  exact contract H enc W base args ds gs before hval0 hW
theorem proved : Rows.ReplicaPlaysSaid :=
  OpenClaim.holds_of_wide 7 Try.f7 rfl rfl rfl rfl rfl rfl rfl ⟨rfl, rfl, rfl, rfl, rfl⟩ rfl rfl rfl rfl rfl (by kernel_rfl) Try.func7 (by kernel_rfl)
    (of_decide_eq_true (by kernel_rfl)) (by unfold Func.isWrapper; first | (rw [if_pos (by decide +kernel)]; kernel_rfl) | (rw [if_neg (by decide +kernel)]; exact ⟨rfl, rfl⟩))
    (fun os started H enc _ => lifted os started H enc)
#print axioms proved
end Go.Proofs.Ytafcbipmmjegcaa.replicaPlays
