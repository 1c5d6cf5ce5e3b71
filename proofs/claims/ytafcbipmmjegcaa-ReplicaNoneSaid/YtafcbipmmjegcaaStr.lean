/- Trees: a text. No program is named here. -/
import Derived.Test.YtafcbipmmjegcaaVmLib
namespace Go.Proofs.Ytafcbipmmjegcaa.Vm
open Go Go.RowKit
def str (l : List UInt8) : T := .v (.string ⟨l.toArray⟩)
end Go.Proofs.Ytafcbipmmjegcaa.Vm
