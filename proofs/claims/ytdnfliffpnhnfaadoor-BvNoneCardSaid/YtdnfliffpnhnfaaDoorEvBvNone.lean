/- The statement BvNone: the law's run in the mirror. -/
import Derived.Test.YtdnfliffpnhnfaaDoorEvE
import Derived.Test.YtdnfliffpnhnfaaDoorRows
import Derived.KernelRfl
namespace Go.Proofs.YtdnfliffpnhnfaaDoor.ev
open Go Go.RowKit
set_option maxRecDepth 100000

theorem bvNone_run (e0 e1 : TypeId) : isTrue (callA Tryd.prog (tabP Tryd.prog) (codeQ Tryd.prog (tabP Tryd.prog) 1000000) 4 [] ⟨heap2 (pairRow (.int .u8 1) (.int .u64 0) e0) (pairRow (.int .u8 0) (.int .u64 0) e1), 1000⟩) = true := by kernel_rfl
theorem bvNone_walk (w : World) {e0 e1 : TypeId} {z0 z1 : Nat × Nat} (h0 : w.heap[0]? = some (.cells #[.int .u8 1, .int .u64 0] e0 z0)) (h1 : w.heap[1]? = some (.cells #[.int .u8 0, .int .u64 0] e1 z1)) :
    Calls Tryd.prog 4 #[] w fun e w' => e = .returned (.bool true) ∧ Below w.heap.size w w' :=
  told (n := 1000000) (by kernel_rfl) (by kernel_rfl) rfl (heap2_ok h0 h1 rfl rfl rfl rfl) (bvNone_run e0 e1)
end Go.Proofs.YtdnfliffpnhnfaaDoor.ev
