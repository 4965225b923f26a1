/- What awake() of the package of TriNone answers: its run in the mirror. -/
import Derived.Test.YtpcggglhnjeilaaGreatDoorEvTriNoneS10
namespace Go.Proofs.YtpcggglhnjeilaaGreatDoor.ev
open Go Go.RowKit
set_option maxRecDepth 100000

theorem triNone_awake_run (e0 e1 : TypeId) : isTrue (callA Tryz.prog triNoneTab19 (codeQ Tryz.prog triNoneTab19 1000000) 21 [] ⟨heapP 1 2 (.int .u8 1) (.int .u64 0) (.int .u8 0) (.int .u64 0) e0 e1, 1000⟩) = true := by kernel_rfl
theorem triNone_awake (w : World) (e0 e1 : TypeId) (ob0 ob1 : Obj) (h0 : w.heap[1]? = some ob0) (r0 : ORel sg0 0 (pairRow (.int .u8 1) (.int .u64 0) e0) ob0) (h1 : w.heap[2]? = some ob1) (r1 : ORel sg0 0 (pairRow (.int .u8 0) (.int .u64 0) e1) ob1) :
    Calls Tryz.prog 21 #[] w fun e w' => e = .returned (.bool true) ∧ Below w.heap.size w w' :=
  toldL (n := 1000000) triNoneTab19_ok triNone_follows (heapP_ok (by decide) (by decide) h0 r0 h1 r1) (triNone_awake_run e0 e1)
end Go.Proofs.YtpcggglhnjeilaaGreatDoor.ev
