/- Own lemmas, laid together. -/
import Derived.Test.YtflnpcgnenhogaaGreatDoorBk32
import Derived.Test.YtflnpcgnenhogaaGreatDoorBk30
namespace Go.Proofs.YtflnpcgnenhogaaGreatDoor.ls
open Go.ChangeShapes Go.WideShapes Go.ChangeAt Go.RowKit

theorem c_bool1 : Tryz.prog.cellsOf 4 = 1 := by kernel_rfl
set_option maxRecDepth 100000 in
theorem bools_open {H : Type} {enc : TypeId × Value → H} {W : World} {a : Option Addr} {len cap : Nat} {d : DataW H} {p : List MemPlace} (h : DataW.Trod enc Tryz.prog W 0 (fun _ => true) true 26 (.slice a len cap) d p) : BoV W a len := by
 obtain ⟨fuel, hf⟩ := h
 rcases DataW.trod_slice Tryz.underlying26 hf with ⟨hcs, _⟩ | ⟨ad, l', c', elems, rest, n, _, hcs, hx, hb, hl, hm, hlen, hel, _, _⟩
 ·simp [Value.cells] at hcs
  obtain ⟨rfl, rfl, rfl⟩ := hcs
  exact fun i hi => absurd hi (Nat.not_lt_zero _)
 ·simp [Value.cells] at hcs
  obtain ⟨rfl, rfl, rfl⟩ := hcs
  have each : ∀ i : Nat, i < len → ∃ b, W.cell? (ad.add i) = some (.bool b) := by
   intro i hi
   have he := hel i hi
   rw [c_bool1, List.getElem?_eq_getElem (by omega), Option.bind_eq_some_iff] at he
   obtain ⟨cs, hc, ht⟩ := he
   obtain ⟨_, hcl, hcell⟩ := World.cells?_some hc
   match cs, hcl, ht, hcell with
   | [v0], _, ht, hcell =>
    obtain ⟨b, e, _⟩ := DataW.trod_bool Tryz.underlying4 ht
    injection e with e
    subst e
    have h9 := hcell 0 (by decide)
    rw [Nat.mul_one] at h9
    refine ⟨b, ?_⟩
    rw [show ad.add i = (ad.add i).add 0 from by unfold Addr.add; by_cases q1 : i = 0 <;> simp [q1]]
    exact h9
  intro i hi
  obtain ⟨g, o, s⟩ := ad
  obtain ⟨b0, h0⟩ := each 0 (by omega)
  have hsn : s = none := by
   have := World.cell?_spot h0
   simpa [Addr.add] using this
  subst hsn
  obtain ⟨b1, h1⟩ := each i hi
  rw [Addr.add_lit] at h1
  exact ⟨g, o, b1, rfl, World.block_lt_of_cell? _ _ h1, h1⟩
end Go.Proofs.YtflnpcgnenhogaaGreatDoor.ls
