/-
 talarialaw20.ReplicaJoins: for every input the law returns true and leaves its arguments as they were.
 No condition: every input that can be read.
-/
import Derived.Test.YtafcbipmmjegcaaRows
import Derived.Test.YtafcbipmmjegcaaMg14
import Derived.Test.YtafcbipmmjegcaaMg41
namespace Go.Proofs.Ytafcbipmmjegcaa.replicaJoins
open Go Go.RowKit Go.ChangeShapes Go.WideShapes Go.ChangeAt Go.Proofs.Ytafcbipmmjegcaa.Vm
theorem own : ownKnob Try.prog.godebug = none := by kernel_rfl
theorem laid : laidOutB Try.prog = true := by kernel_rfl
theorem kinds : (Try.f6.params.toList.all fun t => Try.prog.readableRec t && decide (t < Try.prog.types.size)) = true := by kernel_rfl
def cls : List (List Cl) := [[Cl.int IntKind.u8], [Cl.sl true 5 [Cl.int IntKind.u8, Cl.int IntKind.u8, Cl.int IntKind.u8, Cl.str, Cl.int IntKind.u16]], [Cl.sl true 5 [Cl.int IntKind.u8, Cl.int IntKind.u8, Cl.int IntKind.u8, Cl.str, Cl.int IntKind.u16]]]
theorem opens : Try.f6.params.toList.mapM (clsOf Try.prog 8) = some cls := by kernel_rfl
theorem opens1 : (Try.f6.params.toList.all fun t => Vm.isAgg Try.prog t || (clsOf Try.prog 8 t).any (·.length == 1)) = true := by kernel_rfl
theorem call_of (cs : List T) (h : ClsIs [.int .u8, .int .u8, .int .u8, .str, .int .u16] cs) : ∃ a : X20.Cb, cs = X20.cbC a ∧ a.node < 256 := by
 simp only [ClsIs, Cl.Is] at h
 obtain ⟨_, _, rfl, ⟨a, rfl, ha⟩, _, _, rfl, ⟨b, rfl, hb⟩, _, _, rfl, ⟨c, rfl, hc⟩, _, _, rfl, ⟨x, rfl, _⟩, _, _, rfl, ⟨d, rfl, hd⟩, rfl⟩ := h
 have a1 := wf_u8 ha
 have b1 := wf_u8 hb
 have c1 := wf_u8 hc
 have d1 := wf_u16 hd
 obtain ⟨a', rfl⟩ : ∃ n : Nat, a = n := ⟨a.toNat, by omega⟩
 obtain ⟨b', rfl⟩ : ∃ n : Nat, b = n := ⟨b.toNat, by omega⟩
 obtain ⟨c', rfl⟩ : ∃ n : Nat, c = n := ⟨c.toNat, by omega⟩
 obtain ⟨d', rfl⟩ : ∃ n : Nat, d = n := ⟨d.toNat, by omega⟩
 exact ⟨⟨a', b', c', ⟨x.toArray⟩, d'⟩, rfl, by dsimp only; omega⟩
set_option maxRecDepth 100000 in
theorem law (xs : List T) (hx : ArgsIs Try.prog Try.f6.params.toList cls xs) : TCalls Try.prog 6 xs [] (fun _ => none) (fun r _ _ => r = .v (.bool true)) := by
   simp only [ArgsIs, Try.params6, List.toList_toArray, cls] at hx
   obtain ⟨cs, r, rfl, hc, cs2, r2, rfl, hc2, cs3, r3, rfl, hc3, rfl⟩ := hx
   simp only [ClsIs, Cl.Is] at hc hc2 hc3
   obtain ⟨y, r, rfl, ⟨n, rfl, hn⟩, rfl⟩ := hc
   obtain ⟨y2, r, rfl, ⟨es, rfl, hlen, hes⟩, rfl⟩ := hc2
   obtain ⟨y3, r, rfl, ⟨es2, rfl, hlen2, hes2⟩, rfl⟩ := hc3
   obtain ⟨l, rfl, hl⟩ := els_map X20.cbC (fun a => a.node < 256) hes call_of
   obtain ⟨l2, rfl, hl2⟩ := els_map X20.cbC (fun a => a.node < 256) hes2 call_of
   have h1 := wf_u8 hn
   obtain ⟨k, rfl⟩ : ∃ m : Nat, n = m := ⟨n.toNat, by omega⟩
   exact X20.joins_any k (by omega) l l2 hl hl2 _ fun _ => rfl
set_option maxRecDepth 100000 in
theorem contract (H : Type) (enc : TypeId × Value → H) (W : World) (base : Nat) (args : Array Value) (ds gs : List (DataW H)) (before : List MemPlace)
  (hval0 : ∀ (j : Nat) t v, Try.f6.params[j]? = some t → args[j]? = some v → Value.okWide Try.prog W .any base t v)
  (hW : DataW.Whole enc Try.prog Try.f6.params.toList Rows.replicaJoinsSpec.vars false W args.toList ds gs before) :
  Calls Try.prog 6 args W fun e W' => ∃ v, e = .returned v ∧ Rows.replicaJoinsSpec.post enc Try.prog Try.f6 false true false false W args v W' := by
 have hW' := hW
 obtain ⟨p, q, hA, hV, rfl, hfz, hnd⟩ := hW
 clear hfz hnd
 obtain ⟨rfl, rfl⟩ := trodVars_none hV
 simp only [List.append_nil] at hW'
 obtain ⟨xs, hx, hr⟩ := open_all (base := base) 8 _ cls _ ds _ opens opens1 (fun j t v hj hv => hval0 j t v (by rw [← Array.getElem?_toList]; exact hj) (by rw [← Array.getElem?_toList]; exact hv)) hA
 have hA2 := hA
 rw [Try.params6] at hA2
 obtain ⟨v0, vs0, d0, ds0, p0, q0, hargs, rfl, rfl, h0, r0⟩ := trodAll_cons hA2
 obtain ⟨v1, vs1, d1, ds1, p1, q1, rfl, rfl, rfl, h1, r1⟩ := trodAll_cons r0
 obtain ⟨v2, vs2, d2, ds2, p2, q2, rfl, rfl, rfl, h2, r2⟩ := trodAll_cons r1
 obtain ⟨rfl, rfl, rfl⟩ := trodAll_nil r2
 exact (law_calls (law xs hx) hr).mono fun e W' ⟨he, hb⟩ => ⟨_, he, post_law 4 laid kinds rfl (by kernel_rfl) Try.underlying4 hW' hb rfl⟩
set_option maxRecDepth 100000 in
theorem lifted (os : Os) (started : os.Started) (H : Type) (enc : TypeId × Value → H) :
  ReturnsInHanded {} Try.checked os 6 .any (Rows.replicaJoinsSpec.pre6 enc Try.prog Try.f6 Rows.replicaJoinsRow.domain false) (Rows.replicaJoinsSpec.post enc Try.prog Try.f6 false true false false) := by
 refine returnsInHanded_of_change (C := Try.checked) own started (by kernel_rfl) Try.func6
  (ChangeSpec.witness6 (enc := enc) (C := Try.checked) false ⟨#[], #[.int .u8 0, .slice none 0 0, .slice none 0 0], []⟩ 8 (by kernel_rfl) (by kernel_rfl) (by kernel_rfl) (by kernel_rfl)) ?_
 intro W base args ds gs before hval0 hW _ _
 exact contract H enc W base args ds gs before hval0 hW
theorem proved : Rows.ReplicaJoinsSaid :=
 OpenClaim.holds_of_wide 6 Try.f6 rfl rfl rfl rfl rfl rfl rfl ⟨rfl, rfl, rfl, rfl, rfl⟩ rfl rfl rfl rfl rfl (by kernel_rfl) Try.func6 (by kernel_rfl)
  (of_decide_eq_true (by kernel_rfl)) (by unfold Func.isWrapper; first | (rw [if_pos (by decide +kernel)]; kernel_rfl) | (rw [if_neg (by decide +kernel)]; exact ⟨rfl, rfl⟩))
  (fun os started H enc _ => lifted os started H enc)
#print axioms proved
end Go.Proofs.Ytafcbipmmjegcaa.replicaJoins
