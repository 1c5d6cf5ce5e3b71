/- Judge: a law's entries among the arguments. -/
import Derived.Test.YtfealopjdkilfaaDoorOpn
import Derived.Test.YtfealopjdkilfaaDoorJgE
namespace Go.Proofs.YtfealopjdkilfaaDoor.Vm
open Go Go.RowKit Go.ChangeShapes Go.WideShapes Go.ChangeAt
namespace X27
theorem ar_of (cs : List T) (h : ClsIs [.int .u8, .int .u8, .int .u8, .int .u8, .int .u8, .int .u8, .int .u8, .int .u8, .bool] cs) : ∃ x : Jdg.Ar, cs = arC x ∧ ArIn x := by
  simp only [ClsIs, Cl.Is] at h
  obtain ⟨_, _, rfl, ⟨x0, rfl, hx0⟩, _, _, rfl, ⟨x1, rfl, hx1⟩, _, _, rfl, ⟨x2, rfl, hx2⟩, _, _, rfl, ⟨x3, rfl, hx3⟩, _, _, rfl, ⟨x4, rfl, hx4⟩, _, _, rfl, ⟨x5, rfl, hx5⟩, _, _, rfl, ⟨x6, rfl, hx6⟩, _, _, rfl, ⟨x7, rfl, hx7⟩, _, _, rfl, ⟨b, rfl⟩, rfl⟩ := h
  obtain ⟨n0, rfl⟩ : ∃ n : Nat, x0 = n := ⟨x0.toNat, by have := wf_u8 hx0; omega⟩
  obtain ⟨n1, rfl⟩ : ∃ n : Nat, x1 = n := ⟨x1.toNat, by have := wf_u8 hx1; omega⟩
  obtain ⟨n2, rfl⟩ : ∃ n : Nat, x2 = n := ⟨x2.toNat, by have := wf_u8 hx2; omega⟩
  obtain ⟨n3, rfl⟩ : ∃ n : Nat, x3 = n := ⟨x3.toNat, by have := wf_u8 hx3; omega⟩
  obtain ⟨n4, rfl⟩ : ∃ n : Nat, x4 = n := ⟨x4.toNat, by have := wf_u8 hx4; omega⟩
  obtain ⟨n5, rfl⟩ : ∃ n : Nat, x5 = n := ⟨x5.toNat, by have := wf_u8 hx5; omega⟩
  obtain ⟨n6, rfl⟩ : ∃ n : Nat, x6 = n := ⟨x6.toNat, by have := wf_u8 hx6; omega⟩
  obtain ⟨n7, rfl⟩ : ∃ n : Nat, x7 = n := ⟨x7.toNat, by have := wf_u8 hx7; omega⟩
  have := wf_u8 hx0
  have := wf_u8 hx3
  have := wf_u8 hx4
  have := wf_u8 hx5
  exact ⟨⟨n0, n1, n2, n3, n4, n5, n6, n7, b⟩, rfl, ⟨by show n0 < 256; omega, by show n3 < 256; omega, by show n4 < 256; omega, by show n5 < 256; omega⟩⟩
theorem ars_of {es : List T} (h : ∀ y ∈ es, ∃ cs, ClsIs [.int .u8, .int .u8, .int .u8, .int .u8, .int .u8, .int .u8, .int .u8, .int .u8, .bool] cs ∧ y = if true then .agg cs else cs.headD .und) : ∃ X : List Jdg.Ar, es = Row.aggs arC X ∧ ∀ x ∈ X, ArIn x := els_map arC ArIn h ar_of
end X27
end Go.Proofs.YtfealopjdkilfaaDoor.Vm
