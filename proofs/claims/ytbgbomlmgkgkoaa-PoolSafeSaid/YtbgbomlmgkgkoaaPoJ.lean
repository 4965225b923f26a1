/- A list of calls (a slice of structs, a text among their fields) that came in, opened at every index. -/
import Derived.Test.YtbgbomlmgkgkoaaPoQ
import Derived.Deep.Slices
import Derived.Deep.Strs
import Derived.ChangeOld
import Derived.Below
namespace Go.Proofs.Ytbgbomlmgkgkoaa.arcI
open Go.RowKit Go.ChangeShapes Go.WideShapes

theorem c_op : Try.prog.cellsOf 35 = 6 := by kernel_rfl
theorem c_int : Try.prog.cellsOf 3 = 1 := by kernel_rfl
theorem c_str : Try.prog.cellsOf 9 = 1 := by kernel_rfl
theorem int_of_trod {H : Type} {enc : TypeId × Value → H} {P : Program} {w : World} {base : Nat} {sp : Nat → Bool} {held : Bool} {fuel : Nat} {t : TypeId} {k : IntKind} {c : Value} {y : DataW H × List MemPlace}
    (ht : P.underlying t = some (.int k)) (h : DataW.trod enc P w base sp held fuel t [c] = some y) : ∃ n, c = .int k n := by
  cases fuel with
  | zero => simp [DataW.trod] at h
  | succ fuel =>
    cases c <;> simp [DataW.trod, ht] at h
    rename_i k' n
    obtain ⟨⟨rfl, h1⟩, rfl⟩ := h
    exact ⟨n, rfl⟩

set_option maxRecDepth 100000 in
theorem open_op {H : Type} {enc : TypeId × Value → H} {w : World} {base : Nat} {sp : Nat → Bool} {held : Bool} {fuel : Nat} {v0 v1 v2 v3 v4 v5 : Value} {x : DataW H × List MemPlace} (h : DataW.trod enc Try.prog w base sp held fuel 35 [v0, v1, v2, v3, v4, v5] = some x) :
    ∃ (a b : Int) (s : ByteArray), v0 = .int .i64 a ∧ v1 = .int .i64 b ∧ v3 = .string s ∧ s.size ≤ 9223372036854775807 := by
  obtain ⟨xs, n, _, _, _, hlen, hf⟩ := DataW.trod_struct Try.underlying35 h
  match xs, hlen with
  | [y0, y1, y2, y3, y4], _ =>
    have h0 := hf 0 _ rfl
    have h1 := hf 1 _ rfl
    have h3 := hf 3 _ rfl
    simp [c_int, c_str] at h0 h1 h3
    obtain ⟨m0, rfl⟩ := int_of_trod Try.underlying3 h0
    obtain ⟨m1, rfl⟩ := int_of_trod Try.underlying3 h1
    obtain ⟨s, e, _, hs⟩ := DataW.trod_string Try.underlying9 h3
    exact ⟨m0, m1, s, rfl, rfl, by simpa using e, by simpa [maxLen] using hs⟩

set_option maxRecDepth 100000 in
theorem pops_open {H : Type} {enc : TypeId × Value → H} {W : World} {a : Option Addr} {len cap : Nat} {d : DataW H} {p : List MemPlace}
    (h : DataW.Trod enc Try.prog W 0 (fun _ => true) true 22 (.slice a len cap) d p) : ∃ K M T, POps W a len K M T ∧ len ≤ 9223372036854775807 := by
  obtain ⟨fuel, hf⟩ := h
  rcases Deep.open_slice Try.underlying22 hf with ⟨hcs, _⟩ | ⟨x, len', cap', m, n, D, Pl, hcs, _, hl, hm, hmm, _, hx⟩
  · simp [Value.cells] at hcs
    obtain ⟨rfl, rfl, rfl⟩ := hcs
    exact ⟨fun _ => 0, fun _ => 0, fun _ => ⟨#[]⟩, fun j hj => by omega, by omega⟩
  · simp [Value.cells] at hcs
    obtain ⟨rfl, rfl, rfl⟩ := hcs
    have hm2 : m = cap := by simpa using hmm
    by_cases hl0 : len = 0
    · exact ⟨fun _ => 0, fun _ => 0, fun _ => ⟨#[]⟩, fun j hj => by omega, by omega⟩
    have hspot : x.spot = none := by
      obtain ⟨cs', h1, _⟩ := hx 0 (by omega)
      rw [c_op] at h1
      obtain ⟨_, hlen, hget⟩ := World.cells?_some h1
      have g0 := hget 0 (by omega)
      rw [List.getElem?_eq_getElem (by omega)] at g0
      have := World.cell?_spot g0
      simpa [Addr.add] using this
    obtain ⟨b, o, sp⟩ := x
    have hsp : sp = none := hspot
    subst hsp
    clear hspot
    have key : ∀ j, j < len → ∃ y : Int × Int × ByteArray, ∃ b' o', some (⟨b, o, none⟩ : Addr) = some (⟨b', o', none⟩ : Addr) ∧ b' < W.heap.size ∧ W.cell? ⟨b', o' + j * 6, none⟩ = some (.int .i64 y.1) ∧ W.cell? ⟨b', o' + j * 6 + 1, none⟩ = some (.int .i64 y.2.1) ∧ W.cell? ⟨b', o' + j * 6 + 3, none⟩ = some (.string y.2.2) ∧ y.2.2.size ≤ 9223372036854775807 := by
      intro j hj
      obtain ⟨cs', h1, h2⟩ := hx j (by omega)
      rw [c_op] at h1
      obtain ⟨_, hlen, hget⟩ := World.cells?_some h1
      match cs', hlen with
      | [c0, c1, c2, c3, c4, c5], _ =>
        obtain ⟨z0, z1, s, rfl, rfl, rfl, hs⟩ := open_op h2
        have g0 := hget 0 (by omega)
        have g1 := hget 1 (by omega)
        have g3 := hget 3 (by omega)
        rw [Addr.add_lit, Addr.add_lit] at g0 g1 g3
        have g0' : W.cell? ⟨b, o + j * 6, none⟩ = some (.int .i64 z0) := by simpa using g0
        have g1' : W.cell? ⟨b, o + j * 6 + 1, none⟩ = some (.int .i64 z1) := by simpa using g1
        have g3' : W.cell? ⟨b, o + j * 6 + 3, none⟩ = some (.string s) := by simpa using g3
        exact ⟨(z0, z1, s), b, o, rfl, World.block_lt_of_cell? W _ g0', g0', g1', g3', hs⟩
    obtain ⟨F, hF⟩ := Deep.choose_lt key
    exact ⟨fun j => (F j).1, fun j => (F j).2.1, fun j => (F j).2.2, hF, by simp only [maxLen] at hm; omega⟩

end Go.Proofs.Ytbgbomlmgkgkoaa.arcI
