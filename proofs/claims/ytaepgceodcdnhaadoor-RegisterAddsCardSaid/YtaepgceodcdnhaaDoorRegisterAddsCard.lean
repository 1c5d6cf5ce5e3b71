/-
  talarialaw04.RegisterAdds: the tied card.
-/
import Derived.Test.YtaepgceodcdnhaaDoorRegisterAddsProof
import Derived.Test.YtaepgceodcdnhaaDoorCards
import Derived.Test.YtaepgceodcdnhaaDoorTie
import Derived.SevenTiedAt
namespace Go.Proofs.YtaepgceodcdnhaaDoor.registerAdds
open Go
/-- ████ THE STATEMENT ████ -/
theorem proved : Rows.RegisterAddsCardSaid :=
  Claim7.holds_tied_plain_at .later [] [.data, .data, .data, .sentinel, .sentinel] true (true, "b435f67afcd9ee4b58b31389c4cd0a8533fe3eb33020e4137656dbdad4bdacda") true
    said (fun _ h => by cases h) (by kernel_rfl) (fun _ h => by cases h) registerAdds_row_tie rfl ⟨rfl, rfl⟩ (by kernel_rfl) rfl
    (fun f fn hf hfn => by
      obtain rfl : f = 7 := Option.some.inj ((show Tryd.prog.funcNamed "talaria/talarialaw04.RegisterAdds" = some 7 by kernel_rfl).symm.trans hf) |>.symm
      obtain rfl : fn = Tryd.f7 := (Option.some.inj (Tryd.func7.symm.trans hfn)).symm
      exact ⟨by kernel_rfl, fun j t ht => by
        have hm : t ∈ Tryd.f7.params.toList := by simpa using Array.mem_of_getElem? ht
        have hall : (Tryd.f7.params.toList.all fun u => !Tryd.prog.wantsStandIn u) = true := by kernel_rfl
        exact (show Tryd.prog.wantsStandIn t = false by simpa using List.all_eq_true.1 hall t hm)⟩)
    (by kernel_rfl)
#print axioms proved
end Go.Proofs.YtaepgceodcdnhaaDoor.registerAdds
