/- Own lemmas, laid together. -/
import Derived.Test.YtflnpcgnenhogaaGreatDoorBk17
import Derived.Test.YtflnpcgnenhogaaGreatDoorRows
import Derived.KernelRfl
namespace Go.Proofs.YtflnpcgnenhogaaGreatDoor.ev
open Go Go.RowKit
set_option maxRecDepth 100000

theorem bv_awake_run (e0 e1 : TypeId) : isTrue (callA Tryz.prog (tabP Tryz.prog) (codeQ Tryz.prog (tabP Tryz.prog) 1000000) 32 [] ⟨heapP 0 1 (.int .u8 1) (.int .u64 0) (.int .u8 0) (.int .u64 0) e0 e1, 1000⟩) = true := by kernel_rfl
theorem bv_awake (w : World) (e0 e1 : TypeId) (ob0 ob1 : Obj) (h0 : w.heap[0]? = some ob0) (r0 : ORel sg0 0 (pairRow (.int .u8 1) (.int .u64 0) e0) ob0) (h1 : w.heap[1]? = some ob1) (r1 : ORel sg0 0 (pairRow (.int .u8 0) (.int .u64 0) e1) ob1) :
  Calls Tryz.prog 32 #[] w fun e w' => e = .returned (.bool true) ∧ Below w.heap.size w w' :=
 toldL (n := 1000000) (tabP_ok (by kernel_rfl)) (by kernel_rfl) (heapP_ok (by decide) (by decide) h0 r0 h1 r1) (bv_awake_run e0 e1)
end Go.Proofs.YtflnpcgnenhogaaGreatDoor.ev
