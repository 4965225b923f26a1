/- The statement PoolNames: the law's run in the mirror. -/
import Derived.Test.YtpcggglhnjeilaaEvE
import Derived.Test.YtpcggglhnjeilaaRows
import Derived.KernelRfl
namespace Go.Proofs.Ytpcggglhnjeilaa.ev
open Go Go.RowKit
set_option maxRecDepth 100000

theorem poolNames_walk (w : World) : Calls Try.prog 3 #[] w fun e w' => e = .returned (.bool true) ∧ Below w.heap.size w w' :=
  told0 (n := 1000000) (by kernel_rfl) (by kernel_rfl) w (by kernel_rfl)
end Go.Proofs.Ytpcggglhnjeilaa.ev
