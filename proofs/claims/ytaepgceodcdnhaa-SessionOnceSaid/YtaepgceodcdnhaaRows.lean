/-
  No cell of these rows narrows 'for every input' (looked for: loops, veiled, ifaces, maps, wideKeys, modest, calm, conditions, laid).
  DERIVED. THE GIVEN ROWS OF THIS SEAT. 6 by the template 'for every input the law returns true; each argument reads behind the call as it read before'; 0 by the template 'total and deterministic' (their statements: YtaepgceodcdnhaaTotals.lean).
  GIVEN WITH THE SEED: the statements are not yours to turn. If you find one false, say at which input.
  Laid BY PROGRAM, IN A SANDBOX (cutbox-rows.mjs): the forced cells as the released guide's own fill.sh prints them over the translation 58690c2c923079fe… (all of the seat's roots in one cut). By AI agents, Wed Nov 11 2026. No macro, syntax, notation, axiom, sorry.
-/
import Derived.Test.YtaepgceodcdnhaaChecked
import GoSem.Claim
import GoSem.ClaimJoined
import GoSem.ClaimMapViews
import Derived.JoinedTies
import Derived.KernelRfl
namespace Go.Proofs.Ytaepgceodcdnhaa
/- THE CELL 'sum', in the pinned program and in every row, IS THE sha256 OF THE DUMP (.gsa) THAT YtaepgceodcdnhaaProg.lean LOADS. Nothing in Lean hashes anything: it is a label: what it is worth is what the hold of that sum in a sandbox is worth. -/
noncomputable def Try.pinned : Pinned := { name := "ytaepgceodcdnhaa", sum := "58690c2c923079fe7bfbd1dbce01e5bf32095efc87d37d097c14e058885d5d3c", checked := Try.checked }
namespace Rows
def none {H : Type} : Left H := { results := [], args := [] }

/-- 'talarialaw10.JournalReads': WHATEVER THE INPUT: true; the input reads as it did. -/
def journalReadsSpec : ChangeSpec := { name := "journalReads", fn := fun _ => fun
  | [d] => { results := [.lit (.bool true)], args := [d] }
  | _ => none }
def journalReadsRow : OpenClaim := { program := "ytaepgceodcdnhaa", sum := "58690c2c923079fe7bfbd1dbce01e5bf32095efc87d37d097c14e058885d5d3c", func := "talaria/talarialaw10.JournalReads", spec := "journalReads", plainKeys := false, apart := false }
def JournalReadsSaid : Prop := journalReadsRow.holds Try.pinned (OpenSpec.ofChange journalReadsSpec)

/-- ITS FALSE NEIGHBOUR: 'it returns false'. Refute it at one input. -/
def journalReadsWrong : ChangeSpec := { name := "journalReads", fn := fun _ => fun
  | [d] => { results := [.lit (.bool false)], args := [d] }
  | _ => none }
def JournalReadsWrongFalsely : Prop := journalReadsRow.holds Try.pinned (OpenSpec.ofChange journalReadsWrong)

/-- 'talarialaw10.JournalTorn': WHATEVER THE INPUT: true; the input reads as it did. -/
def journalTornSpec : ChangeSpec := { name := "journalTorn", fn := fun _ => fun
  | [d1, d2] => { results := [.lit (.bool true)], args := [d1, d2] }
  | _ => none }
def journalTornRow : OpenClaim := { program := "ytaepgceodcdnhaa", sum := "58690c2c923079fe7bfbd1dbce01e5bf32095efc87d37d097c14e058885d5d3c", func := "talaria/talarialaw10.JournalTorn", spec := "journalTorn", plainKeys := false, apart := false }
def JournalTornSaid : Prop := journalTornRow.holds Try.pinned (OpenSpec.ofChange journalTornSpec)

/-- ITS FALSE NEIGHBOUR: 'it returns false'. Refute it at one input. -/
def journalTornWrong : ChangeSpec := { name := "journalTorn", fn := fun _ => fun
  | [d1, d2] => { results := [.lit (.bool false)], args := [d1, d2] }
  | _ => none }
def JournalTornWrongFalsely : Prop := journalTornRow.holds Try.pinned (OpenSpec.ofChange journalTornWrong)

/-- 'talarialaw10.JournalRefuses': WHATEVER THE INPUT: true; the input reads as it did. -/
def journalRefusesSpec : ChangeSpec := { name := "journalRefuses", fn := fun _ => fun
  | [d] => { results := [.lit (.bool true)], args := [d] }
  | _ => none }
def journalRefusesRow : OpenClaim := { program := "ytaepgceodcdnhaa", sum := "58690c2c923079fe7bfbd1dbce01e5bf32095efc87d37d097c14e058885d5d3c", func := "talaria/talarialaw10.JournalRefuses", spec := "journalRefuses", plainKeys := false, apart := false }
def JournalRefusesSaid : Prop := journalRefusesRow.holds Try.pinned (OpenSpec.ofChange journalRefusesSpec)

/-- ITS FALSE NEIGHBOUR: 'it returns false'. Refute it at one input. -/
def journalRefusesWrong : ChangeSpec := { name := "journalRefuses", fn := fun _ => fun
  | [d] => { results := [.lit (.bool false)], args := [d] }
  | _ => none }
def JournalRefusesWrongFalsely : Prop := journalRefusesRow.holds Try.pinned (OpenSpec.ofChange journalRefusesWrong)

/-- 'talarialaw22.SessionOnce': WHATEVER THE INPUT: true; the input reads as it did. -/
def sessionOnceSpec : ChangeSpec := { name := "sessionOnce", fn := fun _ => fun
  | [d] => { results := [.lit (.bool true)], args := [d] }
  | _ => none }
def sessionOnceRow : OpenClaim := { program := "ytaepgceodcdnhaa", sum := "58690c2c923079fe7bfbd1dbce01e5bf32095efc87d37d097c14e058885d5d3c", func := "talaria/talarialaw22.SessionOnce", spec := "sessionOnce", plainKeys := false, apart := false }
def SessionOnceSaid : Prop := sessionOnceRow.holds Try.pinned (OpenSpec.ofChange sessionOnceSpec)

/-- ITS FALSE NEIGHBOUR: 'it returns false'. Refute it at one input. -/
def sessionOnceWrong : ChangeSpec := { name := "sessionOnce", fn := fun _ => fun
  | [d] => { results := [.lit (.bool false)], args := [d] }
  | _ => none }
def SessionOnceWrongFalsely : Prop := sessionOnceRow.holds Try.pinned (OpenSpec.ofChange sessionOnceWrong)

/-- 'talarialaw22.SessionLives': WHATEVER THE INPUT: true; the input reads as it did. -/
def sessionLivesSpec : ChangeSpec := { name := "sessionLives", fn := fun _ => fun
  | [d] => { results := [.lit (.bool true)], args := [d] }
  | _ => none }
def sessionLivesRow : OpenClaim := { program := "ytaepgceodcdnhaa", sum := "58690c2c923079fe7bfbd1dbce01e5bf32095efc87d37d097c14e058885d5d3c", func := "talaria/talarialaw22.SessionLives", spec := "sessionLives", plainKeys := false, apart := false }
def SessionLivesSaid : Prop := sessionLivesRow.holds Try.pinned (OpenSpec.ofChange sessionLivesSpec)

/-- ITS FALSE NEIGHBOUR: 'it returns false'. Refute it at one input. -/
def sessionLivesWrong : ChangeSpec := { name := "sessionLives", fn := fun _ => fun
  | [d] => { results := [.lit (.bool false)], args := [d] }
  | _ => none }
def SessionLivesWrongFalsely : Prop := sessionLivesRow.holds Try.pinned (OpenSpec.ofChange sessionLivesWrong)

/-- 'talarialaw22.SessionPlays': WHATEVER THE INPUT: true; the input reads as it did. -/
def sessionPlaysSpec : ChangeSpec := { name := "sessionPlays", fn := fun _ => fun
  | [d] => { results := [.lit (.bool true)], args := [d] }
  | _ => none }
def sessionPlaysRow : OpenClaim := { program := "ytaepgceodcdnhaa", sum := "58690c2c923079fe7bfbd1dbce01e5bf32095efc87d37d097c14e058885d5d3c", func := "talaria/talarialaw22.SessionPlays", spec := "sessionPlays", plainKeys := false, apart := false }
def SessionPlaysSaid : Prop := sessionPlaysRow.holds Try.pinned (OpenSpec.ofChange sessionPlaysSpec)

/-- ITS FALSE NEIGHBOUR: 'it returns false'. Refute it at one input. -/
def sessionPlaysWrong : ChangeSpec := { name := "sessionPlays", fn := fun _ => fun
  | [d] => { results := [.lit (.bool false)], args := [d] }
  | _ => none }
def SessionPlaysWrongFalsely : Prop := sessionPlaysRow.holds Try.pinned (OpenSpec.ofChange sessionPlaysWrong)

/- THE SECOND FORM. 'bulk': how many values and letters a reading holds, each counted each time it is reached (what is shared counts as often as it is met; a slice's spare places count too). A statement '..UptoSaid' is the law's where the arguments, and the package variables that the reading takes, are together of bulk at most 1048576: NARROWER than '..Said'. Prove '..Said' where nothing that the law and all that it calls make is longer than what came in: it says more and counts as full. Else prove '..UptoSaid'. A law counts once. -/
mutual
def uptoBulk {H : Type} : DataW H → Nat
  | .lit (.string bytes) => bytes.length + 1
  | .lit _ => 1
  | .nil => 1
  | .ptr d => uptoBulk d + 1
  | .slice elems spare => uptoBulkAll elems + uptoBulkAll spare + 1
  | .agg parts => uptoBulkAll parts + 1
  | .iface _ d => uptoBulk d + 1
  | .map entries => uptoBulkEntries entries + 1
  | .held _ => 1
def uptoBulkAll {H : Type} : List (DataW H) → Nat
  | [] => 0
  | d :: r => uptoBulk d + uptoBulkAll r
def uptoBulkEntries {H : Type} : List (Lit × DataW H) → Nat
  | [] => 0
  | x :: r => uptoBulkEntry x + uptoBulkEntries r
def uptoBulkEntry {H : Type} : Lit × DataW H → Nat
  | (.string bytes, d) => bytes.length + uptoBulk d + 1
  | (_, d) => uptoBulk d + 1
 end
def uptoSmall : (H : Type) → List (DataW H) → Bool := fun _ ds => decide (uptoBulkAll ds ≤ 1048576)
def OpenSpec.upto (s : _root_.Go.ChangeSpec) : _root_.Go.OpenSpec := { _root_.Go.OpenSpec.ofChange s with cond := some uptoSmall }

/-- 'talarialaw10.JournalReads', WHERE WHAT IT READS IS OF BULK AT MOST 1048576: true; the input reads as it did. -/
def journalReadsUptoRow : OpenClaim := { program := "ytaepgceodcdnhaa", sum := "58690c2c923079fe7bfbd1dbce01e5bf32095efc87d37d097c14e058885d5d3c", func := "talaria/talarialaw10.JournalReads", spec := "journalReads", plainKeys := false, apart := false, narrowed := true }
def JournalReadsUptoSaid : Prop := journalReadsUptoRow.holds Try.pinned (OpenSpec.upto journalReadsSpec)

/-- 'talarialaw10.JournalTorn', WHERE WHAT IT READS IS OF BULK AT MOST 1048576: true; the input reads as it did. -/
def journalTornUptoRow : OpenClaim := { program := "ytaepgceodcdnhaa", sum := "58690c2c923079fe7bfbd1dbce01e5bf32095efc87d37d097c14e058885d5d3c", func := "talaria/talarialaw10.JournalTorn", spec := "journalTorn", plainKeys := false, apart := false, narrowed := true }
def JournalTornUptoSaid : Prop := journalTornUptoRow.holds Try.pinned (OpenSpec.upto journalTornSpec)

/-- 'talarialaw10.JournalRefuses', WHERE WHAT IT READS IS OF BULK AT MOST 1048576: true; the input reads as it did. -/
def journalRefusesUptoRow : OpenClaim := { program := "ytaepgceodcdnhaa", sum := "58690c2c923079fe7bfbd1dbce01e5bf32095efc87d37d097c14e058885d5d3c", func := "talaria/talarialaw10.JournalRefuses", spec := "journalRefuses", plainKeys := false, apart := false, narrowed := true }
def JournalRefusesUptoSaid : Prop := journalRefusesUptoRow.holds Try.pinned (OpenSpec.upto journalRefusesSpec)

/-- 'talarialaw22.SessionOnce', WHERE WHAT IT READS IS OF BULK AT MOST 1048576: true; the input reads as it did. -/
def sessionOnceUptoRow : OpenClaim := { program := "ytaepgceodcdnhaa", sum := "58690c2c923079fe7bfbd1dbce01e5bf32095efc87d37d097c14e058885d5d3c", func := "talaria/talarialaw22.SessionOnce", spec := "sessionOnce", plainKeys := false, apart := false, narrowed := true }
def SessionOnceUptoSaid : Prop := sessionOnceUptoRow.holds Try.pinned (OpenSpec.upto sessionOnceSpec)

/-- 'talarialaw22.SessionLives', WHERE WHAT IT READS IS OF BULK AT MOST 1048576: true; the input reads as it did. -/
def sessionLivesUptoRow : OpenClaim := { program := "ytaepgceodcdnhaa", sum := "58690c2c923079fe7bfbd1dbce01e5bf32095efc87d37d097c14e058885d5d3c", func := "talaria/talarialaw22.SessionLives", spec := "sessionLives", plainKeys := false, apart := false, narrowed := true }
def SessionLivesUptoSaid : Prop := sessionLivesUptoRow.holds Try.pinned (OpenSpec.upto sessionLivesSpec)

/-- 'talarialaw22.SessionPlays', WHERE WHAT IT READS IS OF BULK AT MOST 1048576: true; the input reads as it did. -/
def sessionPlaysUptoRow : OpenClaim := { program := "ytaepgceodcdnhaa", sum := "58690c2c923079fe7bfbd1dbce01e5bf32095efc87d37d097c14e058885d5d3c", func := "talaria/talarialaw22.SessionPlays", spec := "sessionPlays", plainKeys := false, apart := false, narrowed := true }
def SessionPlaysUptoSaid : Prop := sessionPlaysUptoRow.holds Try.pinned (OpenSpec.upto sessionPlaysSpec)

end Rows
end Go.Proofs.Ytaepgceodcdnhaa
