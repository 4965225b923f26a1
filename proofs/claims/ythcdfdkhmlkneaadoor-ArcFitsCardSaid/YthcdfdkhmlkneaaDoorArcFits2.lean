/- Numbers (a slice of integers) that came in, opened at every index. -/
import Derived.Test.YthcdfdkhmlkneaaDoorArcFits
import Derived.ChangeSlices
import Derived.ChangeOld
import Derived.Deep.Slices
import Derived.Below
namespace Go.Proofs.YthcdfdkhmlkneaaDoor.arcS
open Go.RowKit Go.ChangeShapes Go.WideShapes

theorem cellsInt : Tryd.prog.cellsOf 3 = 1 := by kernel_rfl

theorem ints_open {H : Type} {enc : TypeId × Value → H} {W : World} {a : Option Addr} {len cap : Nat} {d : DataW H} {p : List MemPlace}
    (h : DataW.Trod enc Tryd.prog W 0 (fun _ => true) true 22 (.slice a len cap) d p) : ∃ F, IntsIs W a len F ∧ len ≤ 9223372036854775807 := by
  obtain ⟨fuel, hf⟩ := h
  rcases open_ints Tryd.underlying22 Tryd.underlying3 cellsInt hf with ⟨hcs, _⟩ | ⟨x, len', cap', zs, hcs, _, hl, hm, hz, _, hc, hw⟩
  · simp [Value.cells] at hcs
    obtain ⟨rfl, rfl, rfl⟩ := hcs
    exact ⟨fun _ => 0, fun j hj => by omega, by omega⟩
  · simp [Value.cells] at hcs
    obtain ⟨rfl, rfl, rfl⟩ := hcs
    have hz : zs.length = cap := by simpa using hz
    refine ⟨fun j => zs.getD j 0, fun j hj => ?_, by simp only [maxLen] at hm; omega⟩
    have g0 := hc j (by omega)
    obtain ⟨b, o, sp⟩ := x
    have hsp := World.cell?_spot g0
    have hsp : sp = none := by
      by_cases hj0 : j = 0
      · subst hj0; simpa [Addr.add] using hsp
      · have g1 := hc 0 (by omega)
        have := World.cell?_spot g1
        simpa [Addr.add] using this
    subst hsp
    have g1 : W.cell? ⟨b, o + j, none⟩ = some (.int .i64 (zs.getD j 0)) := by rw [Addr.add_lit] at g0; exact g0
    exact ⟨b, o, rfl, World.block_lt_of_cell? W _ g1, g1, hw _ (by show zs.getD j 0 ∈ zs; rw [List.getD_eq_getElem?_getD, List.getElem?_eq_getElem (by omega)]; exact List.getElem_mem _)⟩
end Go.Proofs.YthcdfdkhmlkneaaDoor.arcS
