/- pool: the law's awake, by the mirror. -/
import Derived.Test.YtbgbomlmgkgkoaaEvE
import Derived.Test.YtbgbomlmgkgkoaaRows
import Derived.KernelRfl
namespace Go.Proofs.Ytbgbomlmgkgkoaa.po
open Go Go.RowKit
set_option maxRecDepth 100000
theorem awake_run : ev.isTrue (ev.callA Try.prog (ev.tabP Try.prog) (ev.codeQ Try.prog (ev.tabP Try.prog) 1000000) 10 [] ⟨.leaf, 1000⟩) = true := by kernel_rfl
theorem awake_any (w : World) : Calls Try.prog 10 #[] w fun e w' => e = .returned (.bool true) ∧ Below w.heap.size w w' :=
  ev.toldL (n := 1000000) (ev.tabP_ok (by kernel_rfl)) (by kernel_rfl) (ev.Laid.leaf w) awake_run
end Go.Proofs.Ytbgbomlmgkgkoaa.po
