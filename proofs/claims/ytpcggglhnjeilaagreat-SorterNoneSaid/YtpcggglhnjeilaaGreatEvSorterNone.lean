/- The statement SorterNone: the law's run in the mirror. -/
import Derived.Test.YtpcggglhnjeilaaGreatEvE
import Derived.Test.YtpcggglhnjeilaaGreatRows
import Derived.KernelRfl
namespace Go.Proofs.YtpcggglhnjeilaaGreat.ev
open Go Go.RowKit
set_option maxRecDepth 100000

theorem sorterNone_walk (w : World) : Calls Tryz.prog 3 #[] w fun e w' => e = .returned (.bool true) ∧ Below w.heap.size w w' :=
  told0 (n := 1000000) (by kernel_rfl) (by kernel_rfl) w (by kernel_rfl)
end Go.Proofs.YtpcggglhnjeilaaGreat.ev
