/-
  for every input the law returns true and leaves its arguments as they were.
  No condition: every input that can be read.
-/
import Derived.Test.YtaepgceodcdnhaaDoorRows
import Derived.Test.YtaepgceodcdnhaaDoorMg3
import Derived.Test.YtaepgceodcdnhaaDoorMg6
import Derived.Stop.Joined
import Derived.Test.YtaepgceodcdnhaaDoorMFrameSpoilt2
namespace Go.Proofs.YtaepgceodcdnhaaDoor.frameSpoilt
open Go Go.RowKit Go.ChangeShapes Go.WideShapes Go.ChangeAt Go.Proofs.YtaepgceodcdnhaaDoor.Vm

theorem own : ownKnob Tryd.prog.godebug = none := by kernel_rfl
theorem laid : laidOutB Tryd.prog = true := by kernel_rfl
theorem kinds : (Tryd.f6.params.toList.all fun t => Tryd.prog.readableRec t && decide (t < Tryd.prog.types.size)) = true := by kernel_rfl
def cls : List (List Cl) := [[Cl.int IntKind.u8, Cl.int IntKind.u8, Cl.int IntKind.u8, Cl.int IntKind.u32, Cl.int IntKind.u8, Cl.int IntKind.u32, Cl.int IntKind.u8, Cl.int IntKind.u8, Cl.bool, Cl.str, Cl.bool, Cl.bool, Cl.int IntKind.u8, Cl.int IntKind.u8, Cl.int IntKind.u32, Cl.int IntKind.u32, Cl.int IntKind.u8, Cl.int IntKind.u32, Cl.int IntKind.u8, Cl.int IntKind.u8, Cl.int IntKind.u8, Cl.int IntKind.u32, Cl.int IntKind.u32, Cl.int IntKind.u32, Cl.sl true 3 [Cl.int IntKind.u8, Cl.int IntKind.u8, Cl.bool], Cl.int IntKind.u8, Cl.int IntKind.u8, Cl.int IntKind.u8, Cl.int IntKind.u8, Cl.int IntKind.u8, Cl.int IntKind.u8, Cl.int IntKind.u8, Cl.int IntKind.u8, Cl.sl true 8 [Cl.int IntKind.u32, Cl.int IntKind.u32, Cl.int IntKind.u8, Cl.int IntKind.u8, Cl.int IntKind.u8, Cl.int IntKind.u8, Cl.int IntKind.u32, Cl.int IntKind.u32]], [Cl.int IntKind.i64], [Cl.int IntKind.u32]]
theorem opens : Tryd.f6.params.toList.mapM (clsOf Tryd.prog 8) = some cls := by kernel_rfl
theorem opens1 : (Tryd.f6.params.toList.all fun t => Vm.isAgg Tryd.prog t || (clsOf Tryd.prog 8 t).any (·.length == 1)) = true := by kernel_rfl
theorem mem_of (cs : List T) (h : ClsIs [.int .u8, .int .u8, .bool] cs) : ∃ m : Frm.Mem, cs = X6.memC m ∧ m.Ok := by
  simp only [ClsIs, Cl.Is] at h
  obtain ⟨_, _, rfl, ⟨m0, rfl, hm0⟩, _, _, rfl, ⟨m1, rfl, hm1⟩, _, _, rfl, ⟨m2, rfl⟩, rfl⟩ := h
  obtain ⟨nm0, rfl⟩ : ∃ n : Nat, m0 = n := ⟨m0.toNat, by have := wf_u8 hm0; omega⟩
  obtain ⟨nm1, rfl⟩ : ∃ n : Nat, m1 = n := ⟨m1.toNat, by have := wf_u8 hm1; omega⟩
  exact ⟨⟨nm0, nm1, m2⟩, rfl, ⟨by have := wf_u8 hm0; show nm0 < 256; omega, by have := wf_u8 hm1; show nm1 < 256; omega⟩⟩
theorem ent_of (cs : List T) (h : ClsIs [.int .u32, .int .u32, .int .u8, .int .u8, .int .u8, .int .u8, .int .u32, .int .u32] cs) : ∃ m : Frm.Ent, cs = X6.entC m ∧ m.Ok := by
  simp only [ClsIs, Cl.Is] at h
  obtain ⟨_, _, rfl, ⟨x0, rfl, hx0⟩, _, _, rfl, ⟨x1, rfl, hx1⟩, _, _, rfl, ⟨x2, rfl, hx2⟩, _, _, rfl, ⟨x3, rfl, hx3⟩, _, _, rfl, ⟨x4, rfl, hx4⟩, _, _, rfl, ⟨x5, rfl, hx5⟩, _, _, rfl, ⟨x6, rfl, hx6⟩, _, _, rfl, ⟨x7, rfl, hx7⟩, rfl⟩ := h
  obtain ⟨nx0, rfl⟩ : ∃ n : Nat, x0 = n := ⟨x0.toNat, by have := wf_u32 hx0; omega⟩
  obtain ⟨nx1, rfl⟩ : ∃ n : Nat, x1 = n := ⟨x1.toNat, by have := wf_u32 hx1; omega⟩
  obtain ⟨nx2, rfl⟩ : ∃ n : Nat, x2 = n := ⟨x2.toNat, by have := wf_u8 hx2; omega⟩
  obtain ⟨nx3, rfl⟩ : ∃ n : Nat, x3 = n := ⟨x3.toNat, by have := wf_u8 hx3; omega⟩
  obtain ⟨nx4, rfl⟩ : ∃ n : Nat, x4 = n := ⟨x4.toNat, by have := wf_u8 hx4; omega⟩
  obtain ⟨nx5, rfl⟩ : ∃ n : Nat, x5 = n := ⟨x5.toNat, by have := wf_u8 hx5; omega⟩
  obtain ⟨nx6, rfl⟩ : ∃ n : Nat, x6 = n := ⟨x6.toNat, by have := wf_u32 hx6; omega⟩
  obtain ⟨nx7, rfl⟩ : ∃ n : Nat, x7 = n := ⟨x7.toNat, by have := wf_u32 hx7; omega⟩
  exact ⟨⟨nx0, nx1, nx2, ⟨nx3, nx4, nx5, nx6, nx7⟩⟩, rfl, ⟨by have := wf_u32 hx0; show nx0 < 4294967296; omega, by have := wf_u32 hx1; show nx1 < 4294967296; omega, by have := wf_u8 hx2; show nx2 < 256; omega, ⟨by have := wf_u8 hx3; show nx3 < 256; omega, by have := wf_u8 hx4; show nx4 < 256; omega, by have := wf_u8 hx5; show nx5 < 256; omega, by have := wf_u32 hx6; show nx6 < 4294967296; omega, by have := wf_u32 hx7; show nx7 < 4294967296; omega⟩⟩⟩
set_option maxRecDepth 100000 in
theorem frame_of (cs : List T) (h : ClsIs [.int .u8, .int .u8, .int .u8, .int .u32, .int .u8, .int .u32, .int .u8, .int .u8, .bool, .str, .bool, .bool, .int .u8, .int .u8, .int .u32, .int .u32, .int .u8, .int .u32, .int .u8, .int .u8, .int .u8, .int .u32, .int .u32, .int .u32, .sl true 3 [.int .u8, .int .u8, .bool], .int .u8, .int .u8, .int .u8, .int .u8, .int .u8, .int .u8, .int .u8, .int .u8, .sl true 8 [.int .u32, .int .u32, .int .u8, .int .u8, .int .u8, .int .u8, .int .u32, .int .u32]] cs) : ∃ f : Frm.Fm, cs = X6.frC f ∧ Frm.FmIn f := by
  simp only [ClsIs, Cl.Is] at h
  obtain ⟨_, _, rfl, ⟨a0, rfl, ha0⟩, _, _, rfl, ⟨a1, rfl, ha1⟩, _, _, rfl, ⟨a2, rfl, ha2⟩, _, _, rfl, ⟨a3, rfl, ha3⟩, _, _, rfl, ⟨a4, rfl, ha4⟩, _, _, rfl, ⟨a5, rfl, ha5⟩, _, _, rfl, ⟨a6, rfl, ha6⟩, _, _, rfl, ⟨a7, rfl, ha7⟩, _, _, rfl, ⟨a8, rfl⟩, _, _, rfl, ⟨a9, rfl, _⟩, _, _, rfl, ⟨a10, rfl⟩, _, _, rfl, ⟨a11, rfl⟩, _, _, rfl, ⟨a12, rfl, ha12⟩, _, _, rfl, ⟨a13, rfl, ha13⟩, _, _, rfl, ⟨a14, rfl, ha14⟩, _, _, rfl, ⟨a15, rfl, ha15⟩, _, _, rfl, ⟨a16, rfl, ha16⟩, _, _, rfl, ⟨a17, rfl, ha17⟩, _, _, rfl, ⟨a18, rfl, ha18⟩, _, _, rfl, ⟨a19, rfl, ha19⟩, _, _, rfl, ⟨a20, rfl, ha20⟩, _, _, rfl, ⟨a21, rfl, ha21⟩, _, _, rfl, ⟨a22, rfl, ha22⟩, _, _, rfl, ⟨a23, rfl, ha23⟩, _, _, rfl, ⟨ea24, rfl, _, ha24⟩, _, _, rfl, ⟨a25, rfl, ha25⟩, _, _, rfl, ⟨a26, rfl, ha26⟩, _, _, rfl, ⟨a27, rfl, ha27⟩, _, _, rfl, ⟨a28, rfl, ha28⟩, _, _, rfl, ⟨a29, rfl, ha29⟩, _, _, rfl, ⟨a30, rfl, ha30⟩, _, _, rfl, ⟨a31, rfl, ha31⟩, _, _, rfl, ⟨a32, rfl, ha32⟩, _, _, rfl, ⟨ea33, rfl, _, ha33⟩, rfl⟩ := h
  obtain ⟨na0, rfl⟩ : ∃ n : Nat, a0 = n := ⟨a0.toNat, by have := wf_u8 ha0; omega⟩
  obtain ⟨na1, rfl⟩ : ∃ n : Nat, a1 = n := ⟨a1.toNat, by have := wf_u8 ha1; omega⟩
  obtain ⟨na2, rfl⟩ : ∃ n : Nat, a2 = n := ⟨a2.toNat, by have := wf_u8 ha2; omega⟩
  obtain ⟨na3, rfl⟩ : ∃ n : Nat, a3 = n := ⟨a3.toNat, by have := wf_u32 ha3; omega⟩
  obtain ⟨na4, rfl⟩ : ∃ n : Nat, a4 = n := ⟨a4.toNat, by have := wf_u8 ha4; omega⟩
  obtain ⟨na5, rfl⟩ : ∃ n : Nat, a5 = n := ⟨a5.toNat, by have := wf_u32 ha5; omega⟩
  obtain ⟨na6, rfl⟩ : ∃ n : Nat, a6 = n := ⟨a6.toNat, by have := wf_u8 ha6; omega⟩
  obtain ⟨na7, rfl⟩ : ∃ n : Nat, a7 = n := ⟨a7.toNat, by have := wf_u8 ha7; omega⟩
  obtain ⟨na12, rfl⟩ : ∃ n : Nat, a12 = n := ⟨a12.toNat, by have := wf_u8 ha12; omega⟩
  obtain ⟨na13, rfl⟩ : ∃ n : Nat, a13 = n := ⟨a13.toNat, by have := wf_u8 ha13; omega⟩
  obtain ⟨na14, rfl⟩ : ∃ n : Nat, a14 = n := ⟨a14.toNat, by have := wf_u32 ha14; omega⟩
  obtain ⟨na15, rfl⟩ : ∃ n : Nat, a15 = n := ⟨a15.toNat, by have := wf_u32 ha15; omega⟩
  obtain ⟨na16, rfl⟩ : ∃ n : Nat, a16 = n := ⟨a16.toNat, by have := wf_u8 ha16; omega⟩
  obtain ⟨na17, rfl⟩ : ∃ n : Nat, a17 = n := ⟨a17.toNat, by have := wf_u32 ha17; omega⟩
  obtain ⟨na18, rfl⟩ : ∃ n : Nat, a18 = n := ⟨a18.toNat, by have := wf_u8 ha18; omega⟩
  obtain ⟨na19, rfl⟩ : ∃ n : Nat, a19 = n := ⟨a19.toNat, by have := wf_u8 ha19; omega⟩
  obtain ⟨na20, rfl⟩ : ∃ n : Nat, a20 = n := ⟨a20.toNat, by have := wf_u8 ha20; omega⟩
  obtain ⟨na21, rfl⟩ : ∃ n : Nat, a21 = n := ⟨a21.toNat, by have := wf_u32 ha21; omega⟩
  obtain ⟨na22, rfl⟩ : ∃ n : Nat, a22 = n := ⟨a22.toNat, by have := wf_u32 ha22; omega⟩
  obtain ⟨na23, rfl⟩ : ∃ n : Nat, a23 = n := ⟨a23.toNat, by have := wf_u32 ha23; omega⟩
  obtain ⟨na25, rfl⟩ : ∃ n : Nat, a25 = n := ⟨a25.toNat, by have := wf_u8 ha25; omega⟩
  obtain ⟨na26, rfl⟩ : ∃ n : Nat, a26 = n := ⟨a26.toNat, by have := wf_u8 ha26; omega⟩
  obtain ⟨na27, rfl⟩ : ∃ n : Nat, a27 = n := ⟨a27.toNat, by have := wf_u8 ha27; omega⟩
  obtain ⟨na28, rfl⟩ : ∃ n : Nat, a28 = n := ⟨a28.toNat, by have := wf_u8 ha28; omega⟩
  obtain ⟨na29, rfl⟩ : ∃ n : Nat, a29 = n := ⟨a29.toNat, by have := wf_u8 ha29; omega⟩
  obtain ⟨na30, rfl⟩ : ∃ n : Nat, a30 = n := ⟨a30.toNat, by have := wf_u8 ha30; omega⟩
  obtain ⟨na31, rfl⟩ : ∃ n : Nat, a31 = n := ⟨a31.toNat, by have := wf_u8 ha31; omega⟩
  obtain ⟨na32, rfl⟩ : ∃ n : Nat, a32 = n := ⟨a32.toNat, by have := wf_u8 ha32; omega⟩
  obtain ⟨a24, rfl, ho24⟩ := els_map X6.memC Frm.Mem.Ok ha24 mem_of
  obtain ⟨a33, rfl, ho33⟩ := els_map X6.entC Frm.Ent.Ok ha33 ent_of
  exact ⟨⟨na0, na1, na2, na3, na4, na5, na6, na7, a8, a9, a10, a11, na12, na13, na14, na15, na16, na17, ⟨na18, na19, na20, na21, na22⟩, na23, a24, ⟨na25, na26, na27, na28, na29, na30, na31, na32⟩, a33⟩, rfl, { kind := (by have := wf_u8 ha0; show na0 < 256; omega), frm := (by have := wf_u8 ha1; show na1 < 256; omega), to := (by have := wf_u8 ha2; show na2 < 256; omega), ep := (by have := wf_u32 ha3; show na3 < 4294967296; omega), key := (by have := wf_u8 ha4; show na4 < 256; omega), sn := (by have := wf_u32 ha5; show na5 < 4294967296; omega), sb := (by have := wf_u8 ha6; show na6 < 256; omega), sl := (by have := wf_u8 ha7; show na7 < 256; omega), dir := (by have := wf_u8 ha12; show na12 < 256; omega), life := (by have := wf_u8 ha13; show na13 < 256; omega), req := (by have := wf_u32 ha14; show na14 < 4294967296; omega), bn := (by have := wf_u32 ha15; show na15 < 4294967296; omega), bb := (by have := wf_u8 ha16; show na16 < 256; omega), slot := (by have := wf_u32 ha17; show na17 < 4294967296; omega), c := ⟨by have := wf_u8 ha18; show na18 < 256; omega, by have := wf_u8 ha19; show na19 < 256; omega, by have := wf_u8 ha20; show na20 < 256; omega, by have := wf_u32 ha21; show na21 < 4294967296; omega, by have := wf_u32 ha22; show na22 < 4294967296; omega⟩, ve := (by have := wf_u32 ha23; show na23 < 4294967296; omega), mo := ho24, lv := ⟨by have := wf_u8 ha25; show na25 < 256; omega, by have := wf_u8 ha26; show na26 < 256; omega, by have := wf_u8 ha27; show na27 < 256; omega, by have := wf_u8 ha28; show na28 < 256; omega, by have := wf_u8 ha29; show na29 < 256; omega, by have := wf_u8 ha30; show na30 < 256; omega, by have := wf_u8 ha31; show na31 < 256; omega, by have := wf_u8 ha32; show na32 < 256; omega⟩, eo := ho33 }⟩
set_option maxRecDepth 100000 in
theorem law (xs : List T) (hx : ArgsIs Tryd.prog Tryd.f6.params.toList cls xs) : TCalls Tryd.prog 6 xs X6.obsF (fun _ => none) (fun r _ _ => r = .v (.bool true)) := by
    simp only [ArgsIs, Tryd.params6, List.toList_toArray, cls] at hx
    obtain ⟨c1, r, rfl, h1, c2, r, rfl, h2, c3, r, rfl, h3, rfl⟩ := hx
    obtain ⟨f, rfl, hf⟩ := frame_of _ h1
    simp only [ClsIs, Cl.Is] at h2 h3
    obtain ⟨x, r, rfl, ⟨a, rfl, ha⟩, rfl⟩ := h2
    obtain ⟨x, r, rfl, ⟨i, rfl, hi⟩, rfl⟩ := h3
    have h32 := wf_u32 hi
    have h64 := wf_i64 ha
    obtain ⟨i', rfl⟩ : ∃ n : Nat, i = n := ⟨i.toNat, by omega⟩
    exact X6.spoilt_any f hf a i' (by omega) (by omega) _ rfl

set_option maxRecDepth 100000 in
theorem contract (H : Type) (enc : TypeId × Value → H) (W : World) (base : Nat) (args : Array Value) (ds gs : List (DataW H)) (before : List MemPlace)
    (hval0 : ∀ (j : Nat) t v, Tryd.f6.params[j]? = some t → args[j]? = some v → Value.okWide Tryd.prog W .any base t v)
    (hL : laidMetH Tryd.prog X6.laidF W)
    (hW : DataW.Whole enc Tryd.prog Tryd.f6.params.toList Rows.frameSpoiltSpec.vars false W args.toList ds gs before) :
    Calls Tryd.prog 6 args W fun e W' => ∃ v, e = .returned v ∧ Rows.frameSpoiltSpec.post enc Tryd.prog Tryd.f6 false true false false W args v W' := by
  have hW' := hW
  obtain ⟨p, q, hA, hV, rfl, hfz, hnd⟩ := hW
  clear hfz hnd
  obtain ⟨rfl, rfl⟩ := trodVars_none hV
  simp only [List.append_nil] at hW'
  obtain ⟨xs, hx, hr⟩ := open_all (base := base) 8 _ cls _ ds _ opens opens1 (fun j t v hj hv => hval0 j t v (by rw [← Array.getElem?_toList]; exact hj) (by rw [← Array.getElem?_toList]; exact hv)) hA
  have hA2 := hA
  rw [Tryd.params6] at hA2
  obtain ⟨v0, vs0, d0, ds0, p0, q0, hargs, rfl, rfl, h0, r0⟩ := trodAll_cons hA2
  obtain ⟨v1, vs1, d1, ds1, p1, q1, rfl, rfl, rfl, h1, r1⟩ := trodAll_cons r0
  obtain ⟨v2, vs2, d2, ds2, p2, q2, rfl, rfl, rfl, h2, r2⟩ := trodAll_cons r1
  obtain ⟨rfl, rfl, rfl⟩ := trodAll_nil r2
  exact (law_callsF (fun x hx => by obtain rfl := List.mem_singleton.1 hx; rfl) (X6.laid_fix hL) (law xs hx) hr).mono fun e W' ⟨he, hb⟩ => ⟨_, he, post_law 4 laid kinds rfl (by kernel_rfl) Tryd.underlying4 hW' hb rfl⟩

/-- the heap that start-up leaves meets the condition -/
theorem door_met (os : Os) (args : Array Value) : laidMetH Tryd.prog X6.laidF ((World.doorLaid Tryd.prog 2000 os).forCall (fun _ _ => 0) ⟨#[], args, []⟩).memory :=
  laidMetH_of_parts3 (fuel := 8) (laidMet_of_run' 8 (by kernel_rfl) (by kernel_rfl)) (by kernel_rfl) (by kernel_rfl)
set_option maxRecDepth 100000 in
theorem lifted (os : Os) (started : os.Started) (H : Type) (enc : TypeId × Value → H) :
    ReturnsInHanded {} Tryd.checked os 6 .any (fun w args => (Rows.frameSpoiltSpec.pre enc Tryd.prog Tryd.f6 [] false w args ∧ laidMetH Tryd.prog X6.laidF w) ∧ sizedMet enc Tryd.prog Tryd.f6 (OpenSpec.ofChange Rows.frameSpoiltSpec) false w args)
      (Rows.frameSpoiltSpec.post enc Tryd.prog Tryd.f6 false true false false) := by
  refine returnsInHanded_of_change_and (C := Tryd.checked) (X := fun w _ => laidMetH Tryd.prog X6.laidF w) (fun _ _ _ hh h => h.of_heap hh) own started (by kernel_rfl) Tryd.func6
    (ChangeSpec.witness_shaped (enc := enc) (C := Tryd.checked) (os := os) (X := fun w _ => laidMetH Tryd.prog X6.laidF w) false (World.doorLaid Tryd.prog 2000 os) #[.agg #[.int .u8 0, .int .u8 0, .int .u8 0, .int .u32 0, .int .u8 0, .int .u32 0, .int .u8 0, .int .u8 0, .bool false, .string ⟨#[]⟩, .bool false, .bool false, .int .u8 0, .int .u8 0, .int .u32 0, .int .u32 0, .int .u8 0, .int .u32 0, .int .u8 0, .int .u8 0, .int .u8 0, .int .u32 0, .int .u32 0, .int .u32 0, .slice none 0 0, .int .u8 0, .int .u8 0, .int .u8 0, .int .u8 0, .int .u8 0, .int .u8 0, .int .u8 0, .int .u8 0, .slice none 0 0], .int .i64 0, .int .u32 0] 8 rfl (World.shaped_of_RefB (by kernel_rfl) (by kernel_rfl)) (by kernel_rfl) (by kernel_rfl) (by kernel_rfl) (door_met os _)) ?_
  intro W base args ds gs before hval0 hW _ _ hL _
  exact contract H enc W base args ds gs before hval0 hL hW

/-- the row -/
theorem said : Rows.FrameSpoiltSaid :=
  OpenClaim.holds_of_wide 6 Tryd.f6 rfl rfl rfl rfl rfl rfl rfl ⟨rfl, rfl, rfl, rfl, rfl⟩ rfl rfl rfl rfl rfl (by kernel_rfl) Tryd.func6 (by kernel_rfl)
    (of_decide_eq_true (by kernel_rfl)) (by unfold Func.isWrapper; first | (rw [if_pos (by decide +kernel)]; kernel_rfl) | (rw [if_neg (by decide +kernel)]; exact ⟨rfl, rfl⟩))
    (fun os started H enc _ => lifted os started H enc)
end Go.Proofs.YtaepgceodcdnhaaDoor.frameSpoilt
