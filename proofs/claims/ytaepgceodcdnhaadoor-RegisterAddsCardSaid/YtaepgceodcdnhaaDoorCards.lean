/-
  DERIVED. GIVEN WITH THE SEED: THE CARDS: each row of YtaepgceodcdnhaaDoorRows.lean that lists a variable, with what it lists TIED to the program's text (the seventh form; the later family's looks); each row that meets fmt, with fmt's text TOLD by the authors' own Lean function (tested against real Go, not proved from fmt's source: count such statements apart). THE CARD IS WHAT COUNTS. Prove the row's statement (the work); the ties are given (YtaepgceodcdnhaaDoorTie.lean); close each card by the builder's one call (the guide's Derived/Test/ToyasCard.lean, 'card_holds'). Laid BY PROGRAM, IN A SANDBOX (cutbox-door.mjs). By AI agents, Wed Nov 11 2026. No macro, syntax, notation, axiom, sorry.
-/
import Derived.Test.YtaepgceodcdnhaaDoorRows
import GoSem.ClaimSeven
namespace Go.Proofs.YtaepgceodcdnhaaDoor
namespace Rows

/-- THE TIED CARD OF 'talarialaw06.FrameCodes'. -/
def frameCodesCard : Claim7 := { stood := { row := frameCodesRow, standIns := [], harness := (true, "b435f67afcd9ee4b58b31389c4cd0a8533fe3eb33020e4137656dbdad4bdacda"), looks := true }, kinds := [], alts := [], laidByText := true, laidKinds := [.data], laidTests := true, laidLooks := .later }
def FrameCodesCardSaid : Prop := Claim7.holds Tryd.pinned (.plain (OpenSpec.ofChange frameCodesSpec)) frameCodesCard

/-- THE TIED CARD OF 'talarialaw06.FrameReads'. -/
def frameReadsCard : Claim7 := { stood := { row := frameReadsRow, standIns := [], harness := (true, "b435f67afcd9ee4b58b31389c4cd0a8533fe3eb33020e4137656dbdad4bdacda"), looks := true }, kinds := [], alts := [], laidByText := true, laidKinds := [.data], laidTests := true, laidLooks := .later }
def FrameReadsCardSaid : Prop := Claim7.holds Tryd.pinned (.plain (OpenSpec.ofChange frameReadsSpec)) frameReadsCard

/-- THE TIED CARD OF 'talarialaw06.FrameSames'. -/
def frameSamesCard : Claim7 := { stood := { row := frameSamesRow, standIns := [], harness := (true, "b435f67afcd9ee4b58b31389c4cd0a8533fe3eb33020e4137656dbdad4bdacda"), looks := true }, kinds := [], alts := [], laidByText := true, laidKinds := [.data], laidTests := true, laidLooks := .later }
def FrameSamesCardSaid : Prop := Claim7.holds Tryd.pinned (.plain (OpenSpec.ofChange frameSamesSpec)) frameSamesCard

/-- THE TIED CARD OF 'talarialaw06.FrameSpoilt'. -/
def frameSpoiltCard : Claim7 := { stood := { row := frameSpoiltRow, standIns := [], harness := (true, "b435f67afcd9ee4b58b31389c4cd0a8533fe3eb33020e4137656dbdad4bdacda"), looks := true }, kinds := [], alts := [], laidByText := true, laidKinds := [.data], laidTests := true, laidLooks := .later }
def FrameSpoiltCardSaid : Prop := Claim7.holds Tryd.pinned (.plain (OpenSpec.ofChange frameSpoiltSpec)) frameSpoiltCard

/-- THE TIED CARD OF 'talarialaw04.RegisterAdds'. -/
def registerAddsCard : Claim7 := { stood := { row := registerAddsRow, standIns := [], harness := (true, "b435f67afcd9ee4b58b31389c4cd0a8533fe3eb33020e4137656dbdad4bdacda"), looks := true }, kinds := [], alts := [], laidByText := true, laidKinds := [.data, .data, .data, .sentinel, .sentinel], laidTests := true, laidLooks := .later }
def RegisterAddsCardSaid : Prop := Claim7.holds Tryd.pinned (.plain (OpenSpec.ofChange registerAddsSpec)) registerAddsCard

/-- THE TIED CARD OF 'talarialaw04.RegisterApplies'. -/
def registerAppliesCard : Claim7 := { stood := { row := registerAppliesRow, standIns := [], harness := (true, "b435f67afcd9ee4b58b31389c4cd0a8533fe3eb33020e4137656dbdad4bdacda"), looks := true }, kinds := [], alts := [], laidByText := true, laidKinds := [.data, .data, .data, .sentinel, .sentinel], laidTests := true, laidLooks := .later }
def RegisterAppliesCardSaid : Prop := Claim7.holds Tryd.pinned (.plain (OpenSpec.ofChange registerAppliesSpec)) registerAppliesCard

/-- THE SECOND FORM's CARD OF 'talarialaw06.FrameCodes'. -/
def frameCodesUptoCard : Claim7 := { stood := { row := frameCodesUptoRow, standIns := [], harness := (true, "b435f67afcd9ee4b58b31389c4cd0a8533fe3eb33020e4137656dbdad4bdacda"), looks := true }, kinds := [], alts := [], laidByText := true, laidKinds := [.data], laidTests := true, laidLooks := .later }
def FrameCodesUptoCardSaid : Prop := Claim7.holds Tryd.pinned (.plain (OpenSpec.upto frameCodesSpec)) frameCodesUptoCard

/-- THE SECOND FORM's CARD OF 'talarialaw06.FrameReads'. -/
def frameReadsUptoCard : Claim7 := { stood := { row := frameReadsUptoRow, standIns := [], harness := (true, "b435f67afcd9ee4b58b31389c4cd0a8533fe3eb33020e4137656dbdad4bdacda"), looks := true }, kinds := [], alts := [], laidByText := true, laidKinds := [.data], laidTests := true, laidLooks := .later }
def FrameReadsUptoCardSaid : Prop := Claim7.holds Tryd.pinned (.plain (OpenSpec.upto frameReadsSpec)) frameReadsUptoCard

/-- THE SECOND FORM's CARD OF 'talarialaw06.FrameSames'. -/
def frameSamesUptoCard : Claim7 := { stood := { row := frameSamesUptoRow, standIns := [], harness := (true, "b435f67afcd9ee4b58b31389c4cd0a8533fe3eb33020e4137656dbdad4bdacda"), looks := true }, kinds := [], alts := [], laidByText := true, laidKinds := [.data], laidTests := true, laidLooks := .later }
def FrameSamesUptoCardSaid : Prop := Claim7.holds Tryd.pinned (.plain (OpenSpec.upto frameSamesSpec)) frameSamesUptoCard

/-- THE SECOND FORM's CARD OF 'talarialaw06.FrameSpoilt'. -/
def frameSpoiltUptoCard : Claim7 := { stood := { row := frameSpoiltUptoRow, standIns := [], harness := (true, "b435f67afcd9ee4b58b31389c4cd0a8533fe3eb33020e4137656dbdad4bdacda"), looks := true }, kinds := [], alts := [], laidByText := true, laidKinds := [.data], laidTests := true, laidLooks := .later }
def FrameSpoiltUptoCardSaid : Prop := Claim7.holds Tryd.pinned (.plain (OpenSpec.upto frameSpoiltSpec)) frameSpoiltUptoCard

/-- THE SECOND FORM's CARD OF 'talarialaw04.RegisterAdds'. -/
def registerAddsUptoCard : Claim7 := { stood := { row := registerAddsUptoRow, standIns := [], harness := (true, "b435f67afcd9ee4b58b31389c4cd0a8533fe3eb33020e4137656dbdad4bdacda"), looks := true }, kinds := [], alts := [], laidByText := true, laidKinds := [.data, .data, .data, .sentinel, .sentinel], laidTests := true, laidLooks := .later }
def RegisterAddsUptoCardSaid : Prop := Claim7.holds Tryd.pinned (.plain (OpenSpec.upto registerAddsSpec)) registerAddsUptoCard

/-- THE SECOND FORM's CARD OF 'talarialaw04.RegisterApplies'. -/
def registerAppliesUptoCard : Claim7 := { stood := { row := registerAppliesUptoRow, standIns := [], harness := (true, "b435f67afcd9ee4b58b31389c4cd0a8533fe3eb33020e4137656dbdad4bdacda"), looks := true }, kinds := [], alts := [], laidByText := true, laidKinds := [.data, .data, .data, .sentinel, .sentinel], laidTests := true, laidLooks := .later }
def RegisterAppliesUptoCardSaid : Prop := Claim7.holds Tryd.pinned (.plain (OpenSpec.upto registerAppliesSpec)) registerAppliesUptoCard
end Rows
end Go.Proofs.YtaepgceodcdnhaaDoor
