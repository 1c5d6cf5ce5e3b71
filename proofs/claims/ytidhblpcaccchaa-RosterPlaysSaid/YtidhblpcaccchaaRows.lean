/-
  No cell of these rows narrows 'for every input' (looked for: loops, veiled, ifaces, maps, wideKeys, modest, calm, conditions, laid).
  DERIVED. THE GIVEN ROWS OF THIS SEAT. 11 by the template 'for every input the law returns true; each argument reads behind the call as it read before'; 0 by the template 'total and deterministic' (their statements: YtidhblpcaccchaaTotals.lean).
  GIVEN WITH THE SEED: the statements are not yours to turn. If you find one false, say at which input.
  Laid BY PROGRAM, IN A SANDBOX (cutbox-rows.mjs): the forced cells as the released guide's own fill.sh prints them over the translation 4490640ad85daa1a… (all of the seat's roots in one cut). By AI agents, Wed Nov 11 2026. No macro, syntax, notation, axiom, sorry.
-/
import Derived.Test.YtidhblpcaccchaaChecked
import GoSem.Claim
import GoSem.ClaimJoined
import GoSem.ClaimMapViews
import Derived.JoinedTies
import Derived.KernelRfl
namespace Go.Proofs.Ytidhblpcaccchaa
/- THE CELL 'sum', in the pinned program and in every row, IS THE sha256 OF THE DUMP (.gsa) THAT YtidhblpcaccchaaProg.lean LOADS. Nothing in Lean hashes anything: it is a label: what it is worth is what the hold of that sum in a sandbox is worth. -/
noncomputable def Try.pinned : Pinned := { name := "ytidhblpcaccchaa", sum := "4490640ad85daa1af8370bdaf9682340475befa423729432ecb1ed8b7c38eb9c", checked := Try.checked }
namespace Rows
def none {H : Type} : Left H := { results := [], args := [] }

/-- 'talarialaw05.ViewChain': WHATEVER THE INPUT: true; the input reads as it did. -/
def viewChainSpec : ChangeSpec := { name := "viewChain", fn := fun _ => fun
  | [d1, d2] => { results := [.lit (.bool true)], args := [d1, d2] }
  | _ => none }
def viewChainRow : OpenClaim := { program := "ytidhblpcaccchaa", sum := "4490640ad85daa1af8370bdaf9682340475befa423729432ecb1ed8b7c38eb9c", func := "talaria/talarialaw05.ViewChain", spec := "viewChain", unfollowed := true, recurses := true, apart := false }
def ViewChainSaid : Prop := viewChainRow.holds Try.pinned (OpenSpec.ofChange viewChainSpec)

/-- ITS FALSE NEIGHBOUR: 'it returns false'. Refute it at one input. -/
def viewChainWrong : ChangeSpec := { name := "viewChain", fn := fun _ => fun
  | [d1, d2] => { results := [.lit (.bool false)], args := [d1, d2] }
  | _ => none }
def ViewChainWrongFalsely : Prop := viewChainRow.holds Try.pinned (OpenSpec.ofChange viewChainWrong)

/-- 'talarialaw05.ViewReady': WHATEVER THE INPUT: true; the input reads as it did. -/
def viewReadySpec : ChangeSpec := { name := "viewReady", fn := fun _ => fun
  | [d1, d2] => { results := [.lit (.bool true)], args := [d1, d2] }
  | _ => none }
def viewReadyRow : OpenClaim := { program := "ytidhblpcaccchaa", sum := "4490640ad85daa1af8370bdaf9682340475befa423729432ecb1ed8b7c38eb9c", func := "talaria/talarialaw05.ViewReady", spec := "viewReady", unfollowed := true, recurses := true, apart := false }
def ViewReadySaid : Prop := viewReadyRow.holds Try.pinned (OpenSpec.ofChange viewReadySpec)

/-- ITS FALSE NEIGHBOUR: 'it returns false'. Refute it at one input. -/
def viewReadyWrong : ChangeSpec := { name := "viewReady", fn := fun _ => fun
  | [d1, d2] => { results := [.lit (.bool false)], args := [d1, d2] }
  | _ => none }
def ViewReadyWrongFalsely : Prop := viewReadyRow.holds Try.pinned (OpenSpec.ofChange viewReadyWrong)

/-- 'talarialaw12.ProposerOnce': WHATEVER THE INPUT: true; the input reads as it did. -/
def proposerOnceSpec : ChangeSpec := { name := "proposerOnce", fn := fun _ => fun
  | [d] => { results := [.lit (.bool true)], args := [d] }
  | _ => none }
def proposerOnceRow : OpenClaim := { program := "ytidhblpcaccchaa", sum := "4490640ad85daa1af8370bdaf9682340475befa423729432ecb1ed8b7c38eb9c", func := "talaria/talarialaw12.ProposerOnce", spec := "proposerOnce", unfollowed := true, recurses := true, apart := false }
def ProposerOnceSaid : Prop := proposerOnceRow.holds Try.pinned (OpenSpec.ofChange proposerOnceSpec)

/-- ITS FALSE NEIGHBOUR: 'it returns false'. Refute it at one input. -/
def proposerOnceWrong : ChangeSpec := { name := "proposerOnce", fn := fun _ => fun
  | [d] => { results := [.lit (.bool false)], args := [d] }
  | _ => none }
def ProposerOnceWrongFalsely : Prop := proposerOnceRow.holds Try.pinned (OpenSpec.ofChange proposerOnceWrong)

/-- 'talarialaw05.ViewPlays': WHATEVER THE INPUT: true; the input reads as it did. -/
def viewPlaysSpec : ChangeSpec := { name := "viewPlays", fn := fun _ => fun
  | [d1, d2, d3] => { results := [.lit (.bool true)], args := [d1, d2, d3] }
  | _ => none }
def viewPlaysRow : OpenClaim := { program := "ytidhblpcaccchaa", sum := "4490640ad85daa1af8370bdaf9682340475befa423729432ecb1ed8b7c38eb9c", func := "talaria/talarialaw05.ViewPlays", spec := "viewPlays", unfollowed := true, recurses := true, apart := false }
def ViewPlaysSaid : Prop := viewPlaysRow.holds Try.pinned (OpenSpec.ofChange viewPlaysSpec)

/-- ITS FALSE NEIGHBOUR: 'it returns false'. Refute it at one input. -/
def viewPlaysWrong : ChangeSpec := { name := "viewPlays", fn := fun _ => fun
  | [d1, d2, d3] => { results := [.lit (.bool false)], args := [d1, d2, d3] }
  | _ => none }
def ViewPlaysWrongFalsely : Prop := viewPlaysRow.holds Try.pinned (OpenSpec.ofChange viewPlaysWrong)

/-- 'talarialaw12.ProposerPlays': WHATEVER THE INPUT: true; the input reads as it did. -/
def proposerPlaysSpec : ChangeSpec := { name := "proposerPlays", fn := fun _ => fun
  | [d1, d2] => { results := [.lit (.bool true)], args := [d1, d2] }
  | _ => none }
def proposerPlaysRow : OpenClaim := { program := "ytidhblpcaccchaa", sum := "4490640ad85daa1af8370bdaf9682340475befa423729432ecb1ed8b7c38eb9c", func := "talaria/talarialaw12.ProposerPlays", spec := "proposerPlays", unfollowed := true, recurses := true, apart := false }
def ProposerPlaysSaid : Prop := proposerPlaysRow.holds Try.pinned (OpenSpec.ofChange proposerPlaysSpec)

/-- ITS FALSE NEIGHBOUR: 'it returns false'. Refute it at one input. -/
def proposerPlaysWrong : ChangeSpec := { name := "proposerPlays", fn := fun _ => fun
  | [d1, d2] => { results := [.lit (.bool false)], args := [d1, d2] }
  | _ => none }
def ProposerPlaysWrongFalsely : Prop := proposerPlaysRow.holds Try.pinned (OpenSpec.ofChange proposerPlaysWrong)

/-- 'talarialaw13.LearnerOrder': WHATEVER THE INPUT: true; the input reads as it did. -/
def learnerOrderSpec : ChangeSpec := { name := "learnerOrder", fn := fun _ => fun
  | [d1, d2, d3] => { results := [.lit (.bool true)], args := [d1, d2, d3] }
  | _ => none }
def learnerOrderRow : OpenClaim := { program := "ytidhblpcaccchaa", sum := "4490640ad85daa1af8370bdaf9682340475befa423729432ecb1ed8b7c38eb9c", func := "talaria/talarialaw13.LearnerOrder", spec := "learnerOrder", unfollowed := true, recurses := true, apart := false }
def LearnerOrderSaid : Prop := learnerOrderRow.holds Try.pinned (OpenSpec.ofChange learnerOrderSpec)

/-- ITS FALSE NEIGHBOUR: 'it returns false'. Refute it at one input. -/
def learnerOrderWrong : ChangeSpec := { name := "learnerOrder", fn := fun _ => fun
  | [d1, d2, d3] => { results := [.lit (.bool false)], args := [d1, d2, d3] }
  | _ => none }
def LearnerOrderWrongFalsely : Prop := learnerOrderRow.holds Try.pinned (OpenSpec.ofChange learnerOrderWrong)

/-- 'talarialaw13.LearnerPlays': WHATEVER THE INPUT: true; the input reads as it did. -/
def learnerPlaysSpec : ChangeSpec := { name := "learnerPlays", fn := fun _ => fun
  | [d1, d2] => { results := [.lit (.bool true)], args := [d1, d2] }
  | _ => none }
def learnerPlaysRow : OpenClaim := { program := "ytidhblpcaccchaa", sum := "4490640ad85daa1af8370bdaf9682340475befa423729432ecb1ed8b7c38eb9c", func := "talaria/talarialaw13.LearnerPlays", spec := "learnerPlays", unfollowed := true, recurses := true, apart := false }
def LearnerPlaysSaid : Prop := learnerPlaysRow.holds Try.pinned (OpenSpec.ofChange learnerPlaysSpec)

/-- ITS FALSE NEIGHBOUR: 'it returns false'. Refute it at one input. -/
def learnerPlaysWrong : ChangeSpec := { name := "learnerPlays", fn := fun _ => fun
  | [d1, d2] => { results := [.lit (.bool false)], args := [d1, d2] }
  | _ => none }
def LearnerPlaysWrongFalsely : Prop := learnerPlaysRow.holds Try.pinned (OpenSpec.ofChange learnerPlaysWrong)

/-- 'talarialaw15.RosterGrows': WHATEVER THE INPUT: true; the input reads as it did. -/
def rosterGrowsSpec : ChangeSpec := { name := "rosterGrows", fn := fun _ => fun
  | [d1, d2, d3] => { results := [.lit (.bool true)], args := [d1, d2, d3] }
  | _ => none }
def rosterGrowsRow : OpenClaim := { program := "ytidhblpcaccchaa", sum := "4490640ad85daa1af8370bdaf9682340475befa423729432ecb1ed8b7c38eb9c", func := "talaria/talarialaw15.RosterGrows", spec := "rosterGrows", unfollowed := true, recurses := true, apart := false }
def RosterGrowsSaid : Prop := rosterGrowsRow.holds Try.pinned (OpenSpec.ofChange rosterGrowsSpec)

/-- ITS FALSE NEIGHBOUR: 'it returns false'. Refute it at one input. -/
def rosterGrowsWrong : ChangeSpec := { name := "rosterGrows", fn := fun _ => fun
  | [d1, d2, d3] => { results := [.lit (.bool false)], args := [d1, d2, d3] }
  | _ => none }
def RosterGrowsWrongFalsely : Prop := rosterGrowsRow.holds Try.pinned (OpenSpec.ofChange rosterGrowsWrong)

/-- 'talarialaw15.RosterPlays': WHATEVER THE INPUT: true; the input reads as it did. -/
def rosterPlaysSpec : ChangeSpec := { name := "rosterPlays", fn := fun _ => fun
  | [d1, d2, d3] => { results := [.lit (.bool true)], args := [d1, d2, d3] }
  | _ => none }
def rosterPlaysRow : OpenClaim := { program := "ytidhblpcaccchaa", sum := "4490640ad85daa1af8370bdaf9682340475befa423729432ecb1ed8b7c38eb9c", func := "talaria/talarialaw15.RosterPlays", spec := "rosterPlays", unfollowed := true, recurses := true, apart := false }
def RosterPlaysSaid : Prop := rosterPlaysRow.holds Try.pinned (OpenSpec.ofChange rosterPlaysSpec)

/-- ITS FALSE NEIGHBOUR: 'it returns false'. Refute it at one input. -/
def rosterPlaysWrong : ChangeSpec := { name := "rosterPlays", fn := fun _ => fun
  | [d1, d2, d3] => { results := [.lit (.bool false)], args := [d1, d2, d3] }
  | _ => none }
def RosterPlaysWrongFalsely : Prop := rosterPlaysRow.holds Try.pinned (OpenSpec.ofChange rosterPlaysWrong)

/-- 'talarialaw15.RosterWaits': WHATEVER THE INPUT: true; the input reads as it did. -/
def rosterWaitsSpec : ChangeSpec := { name := "rosterWaits", fn := fun _ => fun
  | [d1, d2] => { results := [.lit (.bool true)], args := [d1, d2] }
  | _ => none }
def rosterWaitsRow : OpenClaim := { program := "ytidhblpcaccchaa", sum := "4490640ad85daa1af8370bdaf9682340475befa423729432ecb1ed8b7c38eb9c", func := "talaria/talarialaw15.RosterWaits", spec := "rosterWaits", unfollowed := true, recurses := true, apart := false }
def RosterWaitsSaid : Prop := rosterWaitsRow.holds Try.pinned (OpenSpec.ofChange rosterWaitsSpec)

/-- ITS FALSE NEIGHBOUR: 'it returns false'. Refute it at one input. -/
def rosterWaitsWrong : ChangeSpec := { name := "rosterWaits", fn := fun _ => fun
  | [d1, d2] => { results := [.lit (.bool false)], args := [d1, d2] }
  | _ => none }
def RosterWaitsWrongFalsely : Prop := rosterWaitsRow.holds Try.pinned (OpenSpec.ofChange rosterWaitsWrong)

/-- 'talarialaw13.LearnerSnaps': WHATEVER THE INPUT: true; the input reads as it did. -/
def learnerSnapsSpec : ChangeSpec := { name := "learnerSnaps", fn := fun _ => fun
  | [d1, d2, d3] => { results := [.lit (.bool true)], args := [d1, d2, d3] }
  | _ => none }
def learnerSnapsRow : OpenClaim := { program := "ytidhblpcaccchaa", sum := "4490640ad85daa1af8370bdaf9682340475befa423729432ecb1ed8b7c38eb9c", func := "talaria/talarialaw13.LearnerSnaps", spec := "learnerSnaps", unfollowed := true, recurses := true, apart := false }
def LearnerSnapsSaid : Prop := learnerSnapsRow.holds Try.pinned (OpenSpec.ofChange learnerSnapsSpec)

/-- ITS FALSE NEIGHBOUR: 'it returns false'. Refute it at one input. -/
def learnerSnapsWrong : ChangeSpec := { name := "learnerSnaps", fn := fun _ => fun
  | [d1, d2, d3] => { results := [.lit (.bool false)], args := [d1, d2, d3] }
  | _ => none }
def LearnerSnapsWrongFalsely : Prop := learnerSnapsRow.holds Try.pinned (OpenSpec.ofChange learnerSnapsWrong)

/- THE SECOND FORM. 'bulk': how many values and letters a reading holds, each counted each time it is reached (what is shared counts as often as it is met; a slice's spare places count too). A statement '..UptoSaid' is the law's where the arguments, and the package variables that the reading takes, are together of bulk at most 1048576: NARROWER than '..Said'. Prove '..Said' where nothing that the law and all that it calls make is longer than what came in: it says more and counts as full. Else prove '..UptoSaid'. A law counts once. -/
mutual
def uptoBulk {H : Type} : DataW H → Nat
  | .lit (.string bytes) => bytes.length + 1
  | .lit _ => 1
  | .nil => 1
  | .ptr d => uptoBulk d + 1
  | .slice elems spare => uptoBulkAll elems + uptoBulkAll spare + 1
  | .agg parts => uptoBulkAll parts + 1
  | .iface _ d => uptoBulk d + 1
  | .map entries => uptoBulkEntries entries + 1
  | .held _ => 1
def uptoBulkAll {H : Type} : List (DataW H) → Nat
  | [] => 0
  | d :: r => uptoBulk d + uptoBulkAll r
def uptoBulkEntries {H : Type} : List (Lit × DataW H) → Nat
  | [] => 0
  | x :: r => uptoBulkEntry x + uptoBulkEntries r
def uptoBulkEntry {H : Type} : Lit × DataW H → Nat
  | (.string bytes, d) => bytes.length + uptoBulk d + 1
  | (_, d) => uptoBulk d + 1
 end
def uptoSmall : (H : Type) → List (DataW H) → Bool := fun _ ds => decide (uptoBulkAll ds ≤ 1048576)
def OpenSpec.upto (s : _root_.Go.ChangeSpec) : _root_.Go.OpenSpec := { _root_.Go.OpenSpec.ofChange s with cond := some uptoSmall }

/-- 'talarialaw05.ViewChain', WHERE WHAT IT READS IS OF BULK AT MOST 1048576: true; the input reads as it did. -/
def viewChainUptoRow : OpenClaim := { program := "ytidhblpcaccchaa", sum := "4490640ad85daa1af8370bdaf9682340475befa423729432ecb1ed8b7c38eb9c", func := "talaria/talarialaw05.ViewChain", spec := "viewChain", unfollowed := true, recurses := true, apart := false, narrowed := true }
def ViewChainUptoSaid : Prop := viewChainUptoRow.holds Try.pinned (OpenSpec.upto viewChainSpec)

/-- 'talarialaw05.ViewReady', WHERE WHAT IT READS IS OF BULK AT MOST 1048576: true; the input reads as it did. -/
def viewReadyUptoRow : OpenClaim := { program := "ytidhblpcaccchaa", sum := "4490640ad85daa1af8370bdaf9682340475befa423729432ecb1ed8b7c38eb9c", func := "talaria/talarialaw05.ViewReady", spec := "viewReady", unfollowed := true, recurses := true, apart := false, narrowed := true }
def ViewReadyUptoSaid : Prop := viewReadyUptoRow.holds Try.pinned (OpenSpec.upto viewReadySpec)

/-- 'talarialaw12.ProposerOnce', WHERE WHAT IT READS IS OF BULK AT MOST 1048576: true; the input reads as it did. -/
def proposerOnceUptoRow : OpenClaim := { program := "ytidhblpcaccchaa", sum := "4490640ad85daa1af8370bdaf9682340475befa423729432ecb1ed8b7c38eb9c", func := "talaria/talarialaw12.ProposerOnce", spec := "proposerOnce", unfollowed := true, recurses := true, apart := false, narrowed := true }
def ProposerOnceUptoSaid : Prop := proposerOnceUptoRow.holds Try.pinned (OpenSpec.upto proposerOnceSpec)

/-- 'talarialaw05.ViewPlays', WHERE WHAT IT READS IS OF BULK AT MOST 1048576: true; the input reads as it did. -/
def viewPlaysUptoRow : OpenClaim := { program := "ytidhblpcaccchaa", sum := "4490640ad85daa1af8370bdaf9682340475befa423729432ecb1ed8b7c38eb9c", func := "talaria/talarialaw05.ViewPlays", spec := "viewPlays", unfollowed := true, recurses := true, apart := false, narrowed := true }
def ViewPlaysUptoSaid : Prop := viewPlaysUptoRow.holds Try.pinned (OpenSpec.upto viewPlaysSpec)

/-- 'talarialaw12.ProposerPlays', WHERE WHAT IT READS IS OF BULK AT MOST 1048576: true; the input reads as it did. -/
def proposerPlaysUptoRow : OpenClaim := { program := "ytidhblpcaccchaa", sum := "4490640ad85daa1af8370bdaf9682340475befa423729432ecb1ed8b7c38eb9c", func := "talaria/talarialaw12.ProposerPlays", spec := "proposerPlays", unfollowed := true, recurses := true, apart := false, narrowed := true }
def ProposerPlaysUptoSaid : Prop := proposerPlaysUptoRow.holds Try.pinned (OpenSpec.upto proposerPlaysSpec)

/-- 'talarialaw13.LearnerOrder', WHERE WHAT IT READS IS OF BULK AT MOST 1048576: true; the input reads as it did. -/
def learnerOrderUptoRow : OpenClaim := { program := "ytidhblpcaccchaa", sum := "4490640ad85daa1af8370bdaf9682340475befa423729432ecb1ed8b7c38eb9c", func := "talaria/talarialaw13.LearnerOrder", spec := "learnerOrder", unfollowed := true, recurses := true, apart := false, narrowed := true }
def LearnerOrderUptoSaid : Prop := learnerOrderUptoRow.holds Try.pinned (OpenSpec.upto learnerOrderSpec)

/-- 'talarialaw13.LearnerPlays', WHERE WHAT IT READS IS OF BULK AT MOST 1048576: true; the input reads as it did. -/
def learnerPlaysUptoRow : OpenClaim := { program := "ytidhblpcaccchaa", sum := "4490640ad85daa1af8370bdaf9682340475befa423729432ecb1ed8b7c38eb9c", func := "talaria/talarialaw13.LearnerPlays", spec := "learnerPlays", unfollowed := true, recurses := true, apart := false, narrowed := true }
def LearnerPlaysUptoSaid : Prop := learnerPlaysUptoRow.holds Try.pinned (OpenSpec.upto learnerPlaysSpec)

/-- 'talarialaw15.RosterGrows', WHERE WHAT IT READS IS OF BULK AT MOST 1048576: true; the input reads as it did. -/
def rosterGrowsUptoRow : OpenClaim := { program := "ytidhblpcaccchaa", sum := "4490640ad85daa1af8370bdaf9682340475befa423729432ecb1ed8b7c38eb9c", func := "talaria/talarialaw15.RosterGrows", spec := "rosterGrows", unfollowed := true, recurses := true, apart := false, narrowed := true }
def RosterGrowsUptoSaid : Prop := rosterGrowsUptoRow.holds Try.pinned (OpenSpec.upto rosterGrowsSpec)

/-- 'talarialaw15.RosterPlays', WHERE WHAT IT READS IS OF BULK AT MOST 1048576: true; the input reads as it did. -/
def rosterPlaysUptoRow : OpenClaim := { program := "ytidhblpcaccchaa", sum := "4490640ad85daa1af8370bdaf9682340475befa423729432ecb1ed8b7c38eb9c", func := "talaria/talarialaw15.RosterPlays", spec := "rosterPlays", unfollowed := true, recurses := true, apart := false, narrowed := true }
def RosterPlaysUptoSaid : Prop := rosterPlaysUptoRow.holds Try.pinned (OpenSpec.upto rosterPlaysSpec)

/-- 'talarialaw15.RosterWaits', WHERE WHAT IT READS IS OF BULK AT MOST 1048576: true; the input reads as it did. -/
def rosterWaitsUptoRow : OpenClaim := { program := "ytidhblpcaccchaa", sum := "4490640ad85daa1af8370bdaf9682340475befa423729432ecb1ed8b7c38eb9c", func := "talaria/talarialaw15.RosterWaits", spec := "rosterWaits", unfollowed := true, recurses := true, apart := false, narrowed := true }
def RosterWaitsUptoSaid : Prop := rosterWaitsUptoRow.holds Try.pinned (OpenSpec.upto rosterWaitsSpec)

/-- 'talarialaw13.LearnerSnaps', WHERE WHAT IT READS IS OF BULK AT MOST 1048576: true; the input reads as it did. -/
def learnerSnapsUptoRow : OpenClaim := { program := "ytidhblpcaccchaa", sum := "4490640ad85daa1af8370bdaf9682340475befa423729432ecb1ed8b7c38eb9c", func := "talaria/talarialaw13.LearnerSnaps", spec := "learnerSnaps", unfollowed := true, recurses := true, apart := false, narrowed := true }
def LearnerSnapsUptoSaid : Prop := learnerSnapsUptoRow.holds Try.pinned (OpenSpec.upto learnerSnapsSpec)

end Rows
end Go.Proofs.Ytidhblpcaccchaa
