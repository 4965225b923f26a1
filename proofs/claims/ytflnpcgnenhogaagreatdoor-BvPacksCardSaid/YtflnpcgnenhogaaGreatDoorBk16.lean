/- Own lemmas, laid together. -/
import Derived.Test.YtflnpcgnenhogaaGreatDoorBk13
import Derived.Defers
namespace Go.Proofs.YtflnpcgnenhogaaGreatDoor.ls
open Go.RowKit Go.Proofs.YtflnpcgnenhogaaGreatDoor.own Go.Proofs.YtflnpcgnenhogaaGreatDoor.bit

theorem rows2 {w W : World} {a b : Array Value} {A B : TypeId} (h : (w.alloc (.cells a A)).alloc (.cells b B) = W) :
  W.heap[w.heap.size]? = some (.cells a A (0, 0)) ∧ W.heap[w.heap.size + 1]? = some (.cells b B (0, 0)) ∧ Below w.heap.size w W := by
 subst h
 have r1 := heap_alloc_new w (.cells a A)
 have r2 := heap_alloc_new (w.alloc (.cells a A)) (.cells b B)
 have z1 : (w.alloc (.cells a A)).heap.size = w.heap.size + 1 := by simp
 rw [z1] at r2
 exact ⟨(Below.heap_alloc _ _ _ (by omega)).trans r1, r2, (by repeat (first | exact Below.refl _ _ | refine below_drewN ?_ _ | refine Below.setCell ?_ (by simp; try omega) _ | refine Below.alloc ?_ (by simp; try omega) _))⟩
end Go.Proofs.YtflnpcgnenhogaaGreatDoor.ls
