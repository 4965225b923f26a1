/- The statement TriNone: the law's run in the mirror (awake() is known). -/
import Derived.Test.YtpcggglhnjeilaaGreatDoorEvTriNoneW
namespace Go.Proofs.YtpcggglhnjeilaaGreatDoor.ev
open Go Go.RowKit
set_option maxRecDepth 100000

noncomputable def triNoneTab : Tab := tabW triNoneTab19 21 (ansP 1 2 (.int .u8 1) (.int .u64 0) (.int .u8 0) (.int .u64 0))
theorem triNone_run (e0 e1 : TypeId) : isTrue (callA Tryz.prog triNoneTab (codeQ Tryz.prog triNoneTab 1000000) 4 [] ⟨heapP 1 2 (.int .u8 1) (.int .u64 0) (.int .u8 0) (.int .u64 0) e0 e1, 1000⟩) = true := by kernel_rfl
theorem triNone_walk (w : World) {e0 e1 : TypeId} {z0 z1 : Nat × Nat} (h0 : w.heap[1]? = some (.cells #[.int .u8 1, .int .u64 0] e0 z0)) (h1 : w.heap[2]? = some (.cells #[.int .u8 0, .int .u64 0] e1 z1)) :
    Calls Tryz.prog 4 #[] w fun e w' => e = .returned (.bool true) ∧ Below w.heap.size w w' :=
  toldL (n := 1000000) (tabW_ok triNoneTab19_ok (ansP_ok rfl rfl rfl rfl triNone_awake)) triNone_follows (heapP_ok (by decide) (by decide) h0 (pairRow_rel rfl rfl) h1 (pairRow_rel rfl rfl)) (triNone_run e0 e1)
end Go.Proofs.YtpcggglhnjeilaaGreatDoor.ev
