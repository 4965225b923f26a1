/- Calls that the run of VectorNames makes, each at its state: what they come to. -/
import Derived.Test.YtpcggglhnjeilaaEvOrc3
import Derived.Test.YtpcggglhnjeilaaRows
import Derived.KernelRfl
namespace Go.Proofs.Ytpcggglhnjeilaa.ev
open Go Go.RowKit
set_option maxRecDepth 100000

def vectorNamesLay : List (Nat × Value × Value) := []
noncomputable def vectorNamesTab0 : Tab := orcTab
theorem vectorNamesTab0_ok : TabOk Try.prog vectorNamesTab0 := orcTab_ok
theorem vectorNames_follows : Try.prog.follows .mixedOrders = true := by kernel_rfl
end Go.Proofs.Ytpcggglhnjeilaa.ev
