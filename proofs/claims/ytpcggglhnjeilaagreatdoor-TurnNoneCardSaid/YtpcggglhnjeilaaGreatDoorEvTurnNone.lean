/- The statement TurnNone: the law's run in the mirror (awake() is known). -/
import Derived.Test.YtpcggglhnjeilaaGreatDoorEvTurnNoneW
namespace Go.Proofs.YtpcggglhnjeilaaGreatDoor.ev
open Go Go.RowKit
set_option maxRecDepth 100000

noncomputable def turnNoneTab : Tab := tabW turnNoneTab6 27 (ansP 1 2 (.int .u8 1) (.int .u64 0) (.int .u8 0) (.int .u64 0))
theorem turnNone_run (e0 e1 : TypeId) : isTrue (callA Tryz.prog turnNoneTab (codeQ Tryz.prog turnNoneTab 1000000) 5 [] ⟨heapP 1 2 (.int .u8 1) (.int .u64 0) (.int .u8 0) (.int .u64 0) e0 e1, 1000⟩) = true := by kernel_rfl
theorem turnNone_walk (w : World) {e0 e1 : TypeId} {z0 z1 : Nat × Nat} (h0 : w.heap[1]? = some (.cells #[.int .u8 1, .int .u64 0] e0 z0)) (h1 : w.heap[2]? = some (.cells #[.int .u8 0, .int .u64 0] e1 z1)) :
    Calls Tryz.prog 5 #[] w fun e w' => e = .returned (.bool true) ∧ Below w.heap.size w w' :=
  toldL (n := 1000000) (tabW_ok turnNoneTab6_ok (ansP_ok rfl rfl rfl rfl turnNone_awake)) turnNone_follows (heapP_ok (by decide) (by decide) h0 (pairRow_rel rfl rfl) h1 (pairRow_rel rfl rfl)) (turnNone_run e0 e1)
end Go.Proofs.YtpcggglhnjeilaaGreatDoor.ev
