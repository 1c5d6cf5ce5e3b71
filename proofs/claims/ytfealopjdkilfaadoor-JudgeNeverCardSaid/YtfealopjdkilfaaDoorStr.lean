/- Trees: a text. No program is named here. -/
import Derived.Test.YtfealopjdkilfaaDoorVmLib
namespace Go.Proofs.YtfealopjdkilfaaDoor.Vm
open Go Go.RowKit
def str (l : List UInt8) : T := .v (.string ⟨l.toArray⟩)
end Go.Proofs.YtfealopjdkilfaaDoor.Vm
