/- The statement WalkNone: the law's run in the mirror (awake() is known). -/
import Derived.Test.YtdnfliffpnhnfaaGreatDoorEvWalkNoneW
namespace Go.Proofs.YtdnfliffpnhnfaaGreatDoor.ev
open Go Go.RowKit
set_option maxRecDepth 100000

noncomputable def walkNoneTab : Tab := tabW (tabP Tryz.prog) 25 (ansP 0 1 (.int .u8 1) (.int .u64 0) (.int .u8 0) (.int .u64 0))
theorem walkNone_run (e0 e1 : TypeId) : isTrue (callA Tryz.prog walkNoneTab (codeQ Tryz.prog walkNoneTab 1000000) 4 [] ⟨heapP 0 1 (.int .u8 1) (.int .u64 0) (.int .u8 0) (.int .u64 0) e0 e1, 1000⟩) = true := by kernel_rfl
theorem walkNone_walk (w : World) {e0 e1 : TypeId} {z0 z1 : Nat × Nat} (h0 : w.heap[0]? = some (.cells #[.int .u8 1, .int .u64 0] e0 z0)) (h1 : w.heap[1]? = some (.cells #[.int .u8 0, .int .u64 0] e1 z1)) :
    Calls Tryz.prog 4 #[] w fun e w' => e = .returned (.bool true) ∧ Below w.heap.size w w' :=
  toldL (n := 1000000) (tabW_ok (tabP_ok (by kernel_rfl)) (ansP_ok rfl rfl rfl rfl walkNone_awake)) (by kernel_rfl) (heapP_ok (by decide) (by decide) h0 (pairRow_rel rfl rfl) h1 (pairRow_rel rfl rfl)) (walkNone_run e0 e1)
end Go.Proofs.YtdnfliffpnhnfaaGreatDoor.ev
