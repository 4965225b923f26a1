/- A list of calls (a slice of structs) that came in, opened at every index. -/
import Derived.Test.YthcdfdkhmlkneaaArcF13
import Derived.Deep.Slices
import Derived.Deep.Strs
import Derived.ChangeOld
import Derived.Below
namespace Go.Proofs.Ythcdfdkhmlkneaa.arcI
open Go.RowKit Go.ChangeShapes Go.WideShapes

theorem cells57 : Try.prog.cellsOf 57 = 3 := by kernel_rfl
theorem cells3 : Try.prog.cellsOf 3 = 1 := by kernel_rfl

set_option maxRecDepth 100000 in
theorem ops_open {H : Type} {enc : TypeId × Value → H} {W : World} {a : Option Addr} {len cap : Nat} {d : DataW H} {p : List MemPlace}
    (h : DataW.Trod enc Try.prog W 0 (fun _ => true) true 46 (.slice a len cap) d p) : ∃ F, OpsIs W a len F ∧ len ≤ 9223372036854775807 := by
  obtain ⟨fuel, hf⟩ := h
  rcases Deep.open_slice Try.underlying46 hf with ⟨hcs, _⟩ | ⟨x, len', cap', m, n, D, Pl, hcs, _, hl, hm, hmm, _, hx⟩
  · simp [Value.cells] at hcs
    obtain ⟨rfl, rfl, rfl⟩ := hcs
    exact ⟨fun _ => (0, 0, 0), fun j hj => by omega, by omega⟩
  · simp [Value.cells] at hcs
    obtain ⟨rfl, rfl, rfl⟩ := hcs
    have hm2 : m = cap := by simpa using hmm
    by_cases hl0 : len = 0
    · exact ⟨fun _ => (0, 0, 0), fun j hj => by omega, by omega⟩
    have hspot : x.spot = none := by
      obtain ⟨cs', h1, _⟩ := hx 0 (by omega)
      rw [cells57] at h1
      obtain ⟨_, hlen, hget⟩ := World.cells?_some h1
      have g0 := hget 0 (by omega)
      rw [List.getElem?_eq_getElem (by omega)] at g0
      have := World.cell?_spot g0
      simpa [Addr.add] using this
    obtain ⟨b, o, sp⟩ := x
    have hsp : sp = none := hspot
    subst hsp
    clear hspot
    have key : ∀ j, j < len → ∃ y : Int × Int × Int, ∃ b' o', some (⟨b, o, none⟩ : Addr) = some (⟨b', o', none⟩ : Addr) ∧ b' < W.heap.size ∧ W.cell? ⟨b', o' + j * 3, none⟩ = some (.int .i64 y.1) ∧ W.cell? ⟨b', o' + j * 3 + 1, none⟩ = some (.int .i64 y.2.1) ∧ W.cell? ⟨b', o' + j * 3 + 2, none⟩ = some (.int .i64 y.2.2) ∧
        (Lit.int .i64 y.2.2).wf = true := by
      intro j hj
      obtain ⟨cs', h1, h2⟩ := hx j (by omega)
      rw [cells57] at h1
      obtain ⟨_, hlen, hget⟩ := World.cells?_some h1
      obtain ⟨y0, y1, y2, n', _, _, f0, f1, f2⟩ := Deep.trod_struct3 Try.underlying57 h2
      match cs', hlen with
      | [c0, c1, c2], _ =>
        obtain ⟨z0, e0, _, _⟩ := DataW.trod_int Try.underlying3 f0
        obtain ⟨z1, e1, _, _⟩ := DataW.trod_int Try.underlying3 f1
        obtain ⟨z2, e2, _, w2⟩ := DataW.trod_int Try.underlying3 f2
        simp only [cells3] at e0 e1 e2
        have u0 : c0 = .int .i64 z0 := by simpa using e0
        have u1 : c1 = .int .i64 z1 := by simpa using e1
        have u2 : c2 = .int .i64 z2 := by simpa using e2
        clear e0 e1 e2 f0 f1 f2
        subst u0
        subst u1
        subst u2
        have g0 := hget 0 (by omega)
        have g1 := hget 1 (by omega)
        have g2 := hget 2 (by omega)
        rw [Addr.add_lit, Addr.add_lit] at g0 g1 g2
        have g0' : W.cell? ⟨b, o + j * 3, none⟩ = some (.int .i64 z0) := by simpa using g0
        have g1' : W.cell? ⟨b, o + j * 3 + 1, none⟩ = some (.int .i64 z1) := by simpa using g1
        have g2' : W.cell? ⟨b, o + j * 3 + 2, none⟩ = some (.int .i64 z2) := by simpa using g2
        exact ⟨(z0, z1, z2), b, o, rfl, World.block_lt_of_cell? W _ g0', g0', g1', g2', w2⟩
    obtain ⟨F, hF⟩ := Deep.choose_lt key
    exact ⟨F, hF, by simp only [maxLen] at hm; omega⟩

end Go.Proofs.Ythcdfdkhmlkneaa.arcI
