/- The statement StreamNames: the law's run in the mirror. -/
import Derived.Test.YtpcggglhnjeilaaEvStreamNamesS2
namespace Go.Proofs.Ytpcggglhnjeilaa.ev
open Go Go.RowKit
set_option maxRecDepth 100000

theorem streamNames_run : isTrue (callA Try.prog streamNamesTab4 (codeQ Try.prog streamNamesTab4 1000000) 4 [] ⟨.leaf, 1000⟩) = true := by kernel_rfl
theorem streamNames_walk (w : World) : Calls Try.prog 4 #[] w fun e w' => e = .returned (.bool true) ∧ Below w.heap.size w w' :=
  toldL (n := 1000000) streamNamesTab4_ok streamNames_follows (Laid.leaf w) streamNames_run
end Go.Proofs.Ytpcggglhnjeilaa.ev
