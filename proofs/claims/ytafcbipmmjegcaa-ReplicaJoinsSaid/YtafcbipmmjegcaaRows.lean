/-
  No cell of these rows narrows 'for every input' (looked for: loops, veiled, ifaces, maps, wideKeys, modest, calm, conditions, laid).
  DERIVED. THE GIVEN ROWS OF THIS SEAT. 5 by the template 'for every input the law returns true; each argument reads behind the call as it read before'; 0 by the template 'total and deterministic' (their statements: YtafcbipmmjegcaaTotals.lean).
  GIVEN WITH THE SEED: the statements are not yours to turn. If you find one false, say at which input.
  Laid BY PROGRAM, IN A SANDBOX (cutbox-rows.mjs): the forced cells as the released guide's own fill.sh prints them over the translation bc517b3887be88d5… (all of the seat's roots in one cut). By AI agents, Wed Nov 11 2026. No macro, syntax, notation, axiom, sorry.
-/
import Derived.Test.YtafcbipmmjegcaaChecked
import GoSem.Claim
import GoSem.ClaimJoined
import GoSem.ClaimMapViews
import Derived.JoinedTies
import Derived.KernelRfl
namespace Go.Proofs.Ytafcbipmmjegcaa
/- THE CELL 'sum', in the pinned program and in every row, IS THE sha256 OF THE DUMP (.gsa) THAT YtafcbipmmjegcaaProg.lean LOADS. Nothing in Lean hashes anything: it is a label: what it is worth is what the hold of that sum in a sandbox is worth. -/
noncomputable def Try.pinned : Pinned := { name := "ytafcbipmmjegcaa", sum := "bc517b3887be88d553d8ede33190c320c9c6b97469170904933df83160408bda", checked := Try.checked }
namespace Rows
def none {H : Type} : Left H := { results := [], args := [] }

/-- 'talarialaw20.ReplicaGroups': WHATEVER THE INPUT: true; the input reads as it did. -/
def replicaGroupsSpec : ChangeSpec := { name := "replicaGroups", fn := fun _ => fun
  | [d1, d2] => { results := [.lit (.bool true)], args := [d1, d2] }
  | _ => none }
def replicaGroupsRow : OpenClaim := { program := "ytafcbipmmjegcaa", sum := "bc517b3887be88d553d8ede33190c320c9c6b97469170904933df83160408bda", func := "talaria/talarialaw20.ReplicaGroups", spec := "replicaGroups", unfollowed := true, recurses := true, plainKeys := false, apart := false }
def ReplicaGroupsSaid : Prop := replicaGroupsRow.holds Try.pinned (OpenSpec.ofChange replicaGroupsSpec)

/-- ITS FALSE NEIGHBOUR: 'it returns false'. Refute it at one input. -/
def replicaGroupsWrong : ChangeSpec := { name := "replicaGroups", fn := fun _ => fun
  | [d1, d2] => { results := [.lit (.bool false)], args := [d1, d2] }
  | _ => none }
def ReplicaGroupsWrongFalsely : Prop := replicaGroupsRow.holds Try.pinned (OpenSpec.ofChange replicaGroupsWrong)

/-- 'talarialaw20.ReplicaCalm': WHATEVER THE INPUT: true; the input reads as it did. -/
def replicaCalmSpec : ChangeSpec := { name := "replicaCalm", fn := fun _ => fun
  | [d1, d2] => { results := [.lit (.bool true)], args := [d1, d2] }
  | _ => none }
def replicaCalmRow : OpenClaim := { program := "ytafcbipmmjegcaa", sum := "bc517b3887be88d553d8ede33190c320c9c6b97469170904933df83160408bda", func := "talaria/talarialaw20.ReplicaCalm", spec := "replicaCalm", unfollowed := true, recurses := true, plainKeys := false, apart := false }
def ReplicaCalmSaid : Prop := replicaCalmRow.holds Try.pinned (OpenSpec.ofChange replicaCalmSpec)

/-- ITS FALSE NEIGHBOUR: 'it returns false'. Refute it at one input. -/
def replicaCalmWrong : ChangeSpec := { name := "replicaCalm", fn := fun _ => fun
  | [d1, d2] => { results := [.lit (.bool false)], args := [d1, d2] }
  | _ => none }
def ReplicaCalmWrongFalsely : Prop := replicaCalmRow.holds Try.pinned (OpenSpec.ofChange replicaCalmWrong)

/-- 'talarialaw20.ReplicaNone': WHATEVER THE INPUT: true; the input reads as it did. -/
def replicaNoneSpec : ChangeSpec := { name := "replicaNone", fn := fun _ => fun
  | [d1, d2] => { results := [.lit (.bool true)], args := [d1, d2] }
  | _ => none }
def replicaNoneRow : OpenClaim := { program := "ytafcbipmmjegcaa", sum := "bc517b3887be88d553d8ede33190c320c9c6b97469170904933df83160408bda", func := "talaria/talarialaw20.ReplicaNone", spec := "replicaNone", unfollowed := true, recurses := true, plainKeys := false, apart := false }
def ReplicaNoneSaid : Prop := replicaNoneRow.holds Try.pinned (OpenSpec.ofChange replicaNoneSpec)

/-- ITS FALSE NEIGHBOUR: 'it returns false'. Refute it at one input. -/
def replicaNoneWrong : ChangeSpec := { name := "replicaNone", fn := fun _ => fun
  | [d1, d2] => { results := [.lit (.bool false)], args := [d1, d2] }
  | _ => none }
def ReplicaNoneWrongFalsely : Prop := replicaNoneRow.holds Try.pinned (OpenSpec.ofChange replicaNoneWrong)

/-- 'talarialaw20.ReplicaJoins': WHATEVER THE INPUT: true; the input reads as it did. -/
def replicaJoinsSpec : ChangeSpec := { name := "replicaJoins", fn := fun _ => fun
  | [d1, d2, d3] => { results := [.lit (.bool true)], args := [d1, d2, d3] }
  | _ => none }
def replicaJoinsRow : OpenClaim := { program := "ytafcbipmmjegcaa", sum := "bc517b3887be88d553d8ede33190c320c9c6b97469170904933df83160408bda", func := "talaria/talarialaw20.ReplicaJoins", spec := "replicaJoins", unfollowed := true, recurses := true, plainKeys := false, apart := false }
def ReplicaJoinsSaid : Prop := replicaJoinsRow.holds Try.pinned (OpenSpec.ofChange replicaJoinsSpec)

/-- ITS FALSE NEIGHBOUR: 'it returns false'. Refute it at one input. -/
def replicaJoinsWrong : ChangeSpec := { name := "replicaJoins", fn := fun _ => fun
  | [d1, d2, d3] => { results := [.lit (.bool false)], args := [d1, d2, d3] }
  | _ => none }
def ReplicaJoinsWrongFalsely : Prop := replicaJoinsRow.holds Try.pinned (OpenSpec.ofChange replicaJoinsWrong)

/-- 'talarialaw20.ReplicaPlays': WHATEVER THE INPUT: true; the input reads as it did. -/
def replicaPlaysSpec : ChangeSpec := { name := "replicaPlays", fn := fun _ => fun
  | [d] => { results := [.lit (.bool true)], args := [d] }
  | _ => none }
def replicaPlaysRow : OpenClaim := { program := "ytafcbipmmjegcaa", sum := "bc517b3887be88d553d8ede33190c320c9c6b97469170904933df83160408bda", func := "talaria/talarialaw20.ReplicaPlays", spec := "replicaPlays", unfollowed := true, recurses := true, plainKeys := false, apart := false }
def ReplicaPlaysSaid : Prop := replicaPlaysRow.holds Try.pinned (OpenSpec.ofChange replicaPlaysSpec)

/-- ITS FALSE NEIGHBOUR: 'it returns false'. Refute it at one input. -/
def replicaPlaysWrong : ChangeSpec := { name := "replicaPlays", fn := fun _ => fun
  | [d] => { results := [.lit (.bool false)], args := [d] }
  | _ => none }
def ReplicaPlaysWrongFalsely : Prop := replicaPlaysRow.holds Try.pinned (OpenSpec.ofChange replicaPlaysWrong)

/- THE SECOND FORM. 'bulk': how many values and letters a reading holds, each counted each time it is reached (what is shared counts as often as it is met; a slice's spare places count too). A statement '..UptoSaid' is the law's where the arguments, and the package variables that the reading takes, are together of bulk at most 1048576: NARROWER than '..Said'. Prove '..Said' where nothing that the law and all that it calls make is longer than what came in: it says more and counts as full. Else prove '..UptoSaid'. A law counts once. -/
mutual
def uptoBulk {H : Type} : DataW H → Nat
  | .lit (.string bytes) => bytes.length + 1
  | .lit _ => 1
  | .nil => 1
  | .ptr d => uptoBulk d + 1
  | .slice elems spare => uptoBulkAll elems + uptoBulkAll spare + 1
  | .agg parts => uptoBulkAll parts + 1
  | .iface _ d => uptoBulk d + 1
  | .map entries => uptoBulkEntries entries + 1
  | .held _ => 1
def uptoBulkAll {H : Type} : List (DataW H) → Nat
  | [] => 0
  | d :: r => uptoBulk d + uptoBulkAll r
def uptoBulkEntries {H : Type} : List (Lit × DataW H) → Nat
  | [] => 0
  | x :: r => uptoBulkEntry x + uptoBulkEntries r
def uptoBulkEntry {H : Type} : Lit × DataW H → Nat
  | (.string bytes, d) => bytes.length + uptoBulk d + 1
  | (_, d) => uptoBulk d + 1
 end
def uptoSmall : (H : Type) → List (DataW H) → Bool := fun _ ds => decide (uptoBulkAll ds ≤ 1048576)
def OpenSpec.upto (s : _root_.Go.ChangeSpec) : _root_.Go.OpenSpec := { _root_.Go.OpenSpec.ofChange s with cond := some uptoSmall }

/-- 'talarialaw20.ReplicaGroups', WHERE WHAT IT READS IS OF BULK AT MOST 1048576: true; the input reads as it did. -/
def replicaGroupsUptoRow : OpenClaim := { program := "ytafcbipmmjegcaa", sum := "bc517b3887be88d553d8ede33190c320c9c6b97469170904933df83160408bda", func := "talaria/talarialaw20.ReplicaGroups", spec := "replicaGroups", unfollowed := true, recurses := true, plainKeys := false, apart := false, narrowed := true }
def ReplicaGroupsUptoSaid : Prop := replicaGroupsUptoRow.holds Try.pinned (OpenSpec.upto replicaGroupsSpec)

/-- 'talarialaw20.ReplicaCalm', WHERE WHAT IT READS IS OF BULK AT MOST 1048576: true; the input reads as it did. -/
def replicaCalmUptoRow : OpenClaim := { program := "ytafcbipmmjegcaa", sum := "bc517b3887be88d553d8ede33190c320c9c6b97469170904933df83160408bda", func := "talaria/talarialaw20.ReplicaCalm", spec := "replicaCalm", unfollowed := true, recurses := true, plainKeys := false, apart := false, narrowed := true }
def ReplicaCalmUptoSaid : Prop := replicaCalmUptoRow.holds Try.pinned (OpenSpec.upto replicaCalmSpec)

/-- 'talarialaw20.ReplicaNone', WHERE WHAT IT READS IS OF BULK AT MOST 1048576: true; the input reads as it did. -/
def replicaNoneUptoRow : OpenClaim := { program := "ytafcbipmmjegcaa", sum := "bc517b3887be88d553d8ede33190c320c9c6b97469170904933df83160408bda", func := "talaria/talarialaw20.ReplicaNone", spec := "replicaNone", unfollowed := true, recurses := true, plainKeys := false, apart := false, narrowed := true }
def ReplicaNoneUptoSaid : Prop := replicaNoneUptoRow.holds Try.pinned (OpenSpec.upto replicaNoneSpec)

/-- 'talarialaw20.ReplicaJoins', WHERE WHAT IT READS IS OF BULK AT MOST 1048576: true; the input reads as it did. -/
def replicaJoinsUptoRow : OpenClaim := { program := "ytafcbipmmjegcaa", sum := "bc517b3887be88d553d8ede33190c320c9c6b97469170904933df83160408bda", func := "talaria/talarialaw20.ReplicaJoins", spec := "replicaJoins", unfollowed := true, recurses := true, plainKeys := false, apart := false, narrowed := true }
def ReplicaJoinsUptoSaid : Prop := replicaJoinsUptoRow.holds Try.pinned (OpenSpec.upto replicaJoinsSpec)

/-- 'talarialaw20.ReplicaPlays', WHERE WHAT IT READS IS OF BULK AT MOST 1048576: true; the input reads as it did. -/
def replicaPlaysUptoRow : OpenClaim := { program := "ytafcbipmmjegcaa", sum := "bc517b3887be88d553d8ede33190c320c9c6b97469170904933df83160408bda", func := "talaria/talarialaw20.ReplicaPlays", spec := "replicaPlays", unfollowed := true, recurses := true, plainKeys := false, apart := false, narrowed := true }
def ReplicaPlaysUptoSaid : Prop := replicaPlaysUptoRow.holds Try.pinned (OpenSpec.upto replicaPlaysSpec)

end Rows
end Go.Proofs.Ytafcbipmmjegcaa
