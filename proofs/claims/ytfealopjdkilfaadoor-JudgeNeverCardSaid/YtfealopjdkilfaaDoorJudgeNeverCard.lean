/-
  talarialaw27.JudgeNever: the tied card.
-/
import Derived.Test.YtfealopjdkilfaaDoorJudgeNeverProof
import Derived.Test.YtfealopjdkilfaaDoorCards
import Derived.Test.YtfealopjdkilfaaDoorTie
import Derived.SevenTiedAt
namespace Go.Proofs.YtfealopjdkilfaaDoor.judgeNever
open Go
/-- ████ THE STATEMENT ████ -/
theorem proved : Rows.JudgeNeverCardSaid :=
  Claim7.holds_tied_plain_at .later [] [.data, .data, .data, .sentinel, .sentinel] true (true, "041a854a55b03974c2873326b0353dd08631d8dbe1eb092257feb1743d4cc9de") true
    said (fun _ h => by cases h) (by kernel_rfl) (fun _ h => by cases h) judgeNever_row_tie rfl ⟨rfl, rfl⟩ (by kernel_rfl) rfl
    (fun f fn hf hfn => by
      obtain rfl : f = 6 := Option.some.inj ((show Tryd.prog.funcNamed "talaria/talarialaw27.JudgeNever" = some 6 by kernel_rfl).symm.trans hf) |>.symm
      obtain rfl : fn = Tryd.f6 := (Option.some.inj (Tryd.func6.symm.trans hfn)).symm
      exact ⟨by kernel_rfl, fun j t ht => by
        have hm : t ∈ Tryd.f6.params.toList := by simpa using Array.mem_of_getElem? ht
        have hall : (Tryd.f6.params.toList.all fun u => !Tryd.prog.wantsStandIn u) = true := by kernel_rfl
        exact (show Tryd.prog.wantsStandIn t = false by simpa using List.all_eq_true.1 hall t hm)⟩)
    (by kernel_rfl)
#print axioms proved
end Go.Proofs.YtfealopjdkilfaaDoor.judgeNever
