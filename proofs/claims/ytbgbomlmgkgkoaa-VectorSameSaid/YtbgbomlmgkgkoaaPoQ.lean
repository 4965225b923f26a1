/- pool's laws: what a list of calls holds; numbers within bounds. -/
import Derived.BigQuiet
import Derived.Test.YtbgbomlmgkgkoaaPoG
namespace Go.Proofs.Ytbgbomlmgkgkoaa.arcI
open Go.RowKit Go.Proofs.Ytbgbomlmgkgkoaa.own Go.Proofs.Ytbgbomlmgkgkoaa.dv Go.Proofs.Ytbgbomlmgkgkoaa.po

def POps (w : World) (aT : Option Addr) (n : Nat) (K M : Nat → Int) (T : Nat → ByteArray) : Prop :=
  ∀ j, j < n → ∃ b o, aT = some ⟨b, o, none⟩ ∧ b < w.heap.size ∧ w.cell? ⟨b, o + j * 6, none⟩ = some (.int .i64 (K j)) ∧ w.cell? ⟨b, o + j * 6 + 1, none⟩ = some (.int .i64 (M j)) ∧ w.cell? ⟨b, o + j * 6 + 3, none⟩ = some (.string (T j)) ∧ (T j).size ≤ 9223372036854775807

theorem n_is (m : Int) : ∃ z : Nat, (wrap64 (m.tmod 24 + 24)).tmod 24 = z ∧ z < 24 := by
  have h1 : -24 < m.tmod 24 := Int.lt_tmod_of_pos m (by omega)
  have h2 : m.tmod 24 < 24 := Int.tmod_lt_of_pos m (by omega)
  generalize m.tmod 24 = r at h1 h2 ⊢
  rw [IntWalk.wrap64_in (r + 24) (by omega), Int.tmod_eq_emod_of_nonneg (by omega)]
  exact ⟨((r + 24) % 24).toNat, by omega, by omega⟩
theorem fr_is (m : Int) : ∃ z : Nat, wrap64 (1 + (wrap64 (m.tmod 6 + 6)).tmod 6) = z ∧ 1 ≤ z ∧ z ≤ 6 := by
  have h1 : -6 < m.tmod 6 := Int.lt_tmod_of_pos m (by omega)
  have h2 : m.tmod 6 < 6 := Int.tmod_lt_of_pos m (by omega)
  generalize m.tmod 6 = r at h1 h2 ⊢
  rw [IntWalk.wrap64_in (r + 6) (by omega), Int.tmod_eq_emod_of_nonneg (by omega), IntWalk.wrap64_in _ (by omega)]
  exact ⟨(1 + (r + 6) % 6).toNat, by omega, by omega, by omega⟩

theorem fr30_is (m : Int) : ∃ z : Nat, wrap64 (1 + (wrap64 (m.tmod 30 + 30)).tmod 30) = z ∧ 1 ≤ z ∧ z ≤ 30 := by
  have h1 : -30 < m.tmod 30 := Int.lt_tmod_of_pos m (by omega)
  have h2 : m.tmod 30 < 30 := Int.tmod_lt_of_pos m (by omega)
  generalize m.tmod 30 = r at h1 h2 ⊢
  rw [IntWalk.wrap64_in (r + 30) (by omega), Int.tmod_eq_emod_of_nonneg (by omega), IntWalk.wrap64_in _ (by omega)]
  exact ⟨(1 + (r + 30) % 30).toNat, by omega, by omega, by omega⟩

end Go.Proofs.Ytbgbomlmgkgkoaa.arcI
