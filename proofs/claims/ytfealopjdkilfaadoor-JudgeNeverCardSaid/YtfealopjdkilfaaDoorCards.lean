/-
  DERIVED. GIVEN WITH THE SEED: THE CARDS: each row of YtfealopjdkilfaaDoorRows.lean that lists a variable, with what it lists TIED to the program's text (the seventh form; the later family's looks); each row that meets fmt, with fmt's text TOLD by the authors' own Lean function (tested against real Go, not proved from fmt's source: count such statements apart). THE CARD IS WHAT COUNTS. Prove the row's statement (the work); the ties are given (YtfealopjdkilfaaDoorTie.lean); close each card by the builder's one call (the guide's Derived/Test/ToyasCard.lean, 'card_holds'). Laid BY PROGRAM, IN A SANDBOX (cutbox-door.mjs). By AI agents, Wed Nov 11 2026. No macro, syntax, notation, axiom, sorry.
-/
import Derived.Test.YtfealopjdkilfaaDoorRows
import GoSem.ClaimSeven
namespace Go.Proofs.YtfealopjdkilfaaDoor
namespace Rows

/-- THE TIED CARD OF 'talarialaw27.JudgeLinear'. -/
def judgeLinearCard : Claim7 := { stood := { row := judgeLinearRow, standIns := [], harness := (true, "041a854a55b03974c2873326b0353dd08631d8dbe1eb092257feb1743d4cc9de"), looks := true }, kinds := [], alts := [], laidByText := true, laidKinds := [.data, .data, .data, .sentinel, .sentinel], laidTests := true, laidLooks := .later }
def JudgeLinearCardSaid : Prop := Claim7.holds Tryd.pinned (.plain (OpenSpec.ofChange judgeLinearSpec)) judgeLinearCard

/-- THE TIED CARD OF 'talarialaw27.JudgeRight'. -/
def judgeRightCard : Claim7 := { stood := { row := judgeRightRow, standIns := [], harness := (true, "041a854a55b03974c2873326b0353dd08631d8dbe1eb092257feb1743d4cc9de"), looks := true }, kinds := [], alts := [], laidByText := true, laidKinds := [.data, .data, .data, .sentinel, .sentinel], laidTests := true, laidLooks := .later }
def JudgeRightCardSaid : Prop := Claim7.holds Tryd.pinned (.plain (OpenSpec.ofChange judgeRightSpec)) judgeRightCard

/-- THE TIED CARD OF 'talarialaw27.JudgeRuns'. -/
def judgeRunsCard : Claim7 := { stood := { row := judgeRunsRow, standIns := [], harness := (true, "041a854a55b03974c2873326b0353dd08631d8dbe1eb092257feb1743d4cc9de"), looks := true }, kinds := [], alts := [], laidByText := true, laidKinds := [.data, .data, .data, .sentinel, .sentinel], laidTests := true, laidLooks := .later }
def JudgeRunsCardSaid : Prop := Claim7.holds Tryd.pinned (.plain (OpenSpec.ofChange judgeRunsSpec)) judgeRunsCard

/-- THE TIED CARD OF 'talarialaw27.JudgeNever'. -/
def judgeNeverCard : Claim7 := { stood := { row := judgeNeverRow, standIns := [], harness := (true, "041a854a55b03974c2873326b0353dd08631d8dbe1eb092257feb1743d4cc9de"), looks := true }, kinds := [], alts := [], laidByText := true, laidKinds := [.data, .data, .data, .sentinel, .sentinel], laidTests := true, laidLooks := .later }
def JudgeNeverCardSaid : Prop := Claim7.holds Tryd.pinned (.plain (OpenSpec.ofChange judgeNeverSpec)) judgeNeverCard

/-- THE SECOND FORM's CARD OF 'talarialaw27.JudgeLinear'. -/
def judgeLinearUptoCard : Claim7 := { stood := { row := judgeLinearUptoRow, standIns := [], harness := (true, "041a854a55b03974c2873326b0353dd08631d8dbe1eb092257feb1743d4cc9de"), looks := true }, kinds := [], alts := [], laidByText := true, laidKinds := [.data, .data, .data, .sentinel, .sentinel], laidTests := true, laidLooks := .later }
def JudgeLinearUptoCardSaid : Prop := Claim7.holds Tryd.pinned (.plain (OpenSpec.upto judgeLinearSpec)) judgeLinearUptoCard

/-- THE SECOND FORM's CARD OF 'talarialaw27.JudgeRight'. -/
def judgeRightUptoCard : Claim7 := { stood := { row := judgeRightUptoRow, standIns := [], harness := (true, "041a854a55b03974c2873326b0353dd08631d8dbe1eb092257feb1743d4cc9de"), looks := true }, kinds := [], alts := [], laidByText := true, laidKinds := [.data, .data, .data, .sentinel, .sentinel], laidTests := true, laidLooks := .later }
def JudgeRightUptoCardSaid : Prop := Claim7.holds Tryd.pinned (.plain (OpenSpec.upto judgeRightSpec)) judgeRightUptoCard

/-- THE SECOND FORM's CARD OF 'talarialaw27.JudgeRuns'. -/
def judgeRunsUptoCard : Claim7 := { stood := { row := judgeRunsUptoRow, standIns := [], harness := (true, "041a854a55b03974c2873326b0353dd08631d8dbe1eb092257feb1743d4cc9de"), looks := true }, kinds := [], alts := [], laidByText := true, laidKinds := [.data, .data, .data, .sentinel, .sentinel], laidTests := true, laidLooks := .later }
def JudgeRunsUptoCardSaid : Prop := Claim7.holds Tryd.pinned (.plain (OpenSpec.upto judgeRunsSpec)) judgeRunsUptoCard

/-- THE SECOND FORM's CARD OF 'talarialaw27.JudgeNever'. -/
def judgeNeverUptoCard : Claim7 := { stood := { row := judgeNeverUptoRow, standIns := [], harness := (true, "041a854a55b03974c2873326b0353dd08631d8dbe1eb092257feb1743d4cc9de"), looks := true }, kinds := [], alts := [], laidByText := true, laidKinds := [.data, .data, .data, .sentinel, .sentinel], laidTests := true, laidLooks := .later }
def JudgeNeverUptoCardSaid : Prop := Claim7.holds Tryd.pinned (.plain (OpenSpec.upto judgeNeverSpec)) judgeNeverUptoCard
end Rows
end Go.Proofs.YtfealopjdkilfaaDoor
