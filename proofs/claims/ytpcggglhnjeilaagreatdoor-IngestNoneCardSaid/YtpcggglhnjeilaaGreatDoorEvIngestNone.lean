/- The statement IngestNone: the law's run in the mirror (awake() is known). -/
import Derived.Test.YtpcggglhnjeilaaGreatDoorEvIngestNoneW
namespace Go.Proofs.YtpcggglhnjeilaaGreatDoor.ev
open Go Go.RowKit
set_option maxRecDepth 100000

noncomputable def ingestNoneTab : Tab := tabW (tabP Tryz.prog) 12 (ansP 1 2 (.int .u8 1) (.int .u64 0) (.int .u8 0) (.int .u64 0))
theorem ingestNone_run (e0 e1 : TypeId) : isTrue (callA Tryz.prog ingestNoneTab (codeQ Tryz.prog ingestNoneTab 1000000) 3 [] ⟨heapP 1 2 (.int .u8 1) (.int .u64 0) (.int .u8 0) (.int .u64 0) e0 e1, 1000⟩) = true := by kernel_rfl
theorem ingestNone_walk (w : World) {e0 e1 : TypeId} {z0 z1 : Nat × Nat} (h0 : w.heap[1]? = some (.cells #[.int .u8 1, .int .u64 0] e0 z0)) (h1 : w.heap[2]? = some (.cells #[.int .u8 0, .int .u64 0] e1 z1)) :
    Calls Tryz.prog 3 #[] w fun e w' => e = .returned (.bool true) ∧ Below w.heap.size w w' :=
  toldL (n := 1000000) (tabW_ok (tabP_ok (by kernel_rfl)) (ansP_ok rfl rfl rfl rfl ingestNone_awake)) (by kernel_rfl) (heapP_ok (by decide) (by decide) h0 (pairRow_rel rfl rfl) h1 (pairRow_rel rfl rfl)) (ingestNone_run e0 e1)
end Go.Proofs.YtpcggglhnjeilaaGreatDoor.ev
