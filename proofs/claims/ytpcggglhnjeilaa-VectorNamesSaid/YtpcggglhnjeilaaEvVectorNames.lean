/- The statement VectorNames: the law's run in the mirror. -/
import Derived.Test.YtpcggglhnjeilaaEvVectorNamesS1
namespace Go.Proofs.Ytpcggglhnjeilaa.ev
open Go Go.RowKit
set_option maxRecDepth 100000

theorem vectorNames_run : isTrue (callA Try.prog vectorNamesTab0 (codeQ Try.prog vectorNamesTab0 1000000) 5 [] ⟨.leaf, 1000⟩) = true := by kernel_rfl
theorem vectorNames_walk (w : World) : Calls Try.prog 5 #[] w fun e w' => e = .returned (.bool true) ∧ Below w.heap.size w w' :=
  toldL (n := 1000000) vectorNamesTab0_ok vectorNames_follows (Laid.leaf w) vectorNames_run
end Go.Proofs.Ytpcggglhnjeilaa.ev
