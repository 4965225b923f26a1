/- Lists of numbers that never fall, in plain Lean: the form of a list. No program in sight. -/
import Derived.Test.YthaicpbdlhkkkaaGreatDoorBitP
namespace Go.Proofs.YthaicpbdlhkkkaaGreatDoor.ef
open Go.Proofs.YthaicpbdlhkkkaaGreatDoor.bit

/-- low bits of a number -/
def wid (n u : Nat) : Nat := if n = 0 then 0 else Nat.log2 (u / n)
/-- high bits of a list -/
def hib (n u : Nat) : Nat := if n = 0 then 0 else (u - 1) / 2 ^ wid n u + n
def lowB (n u : Nat) : Nat := (n * wid n u + 7) / 8
def highB (n u : Nat) : Nat := (hib n u + 7) / 8
def sampB (n : Nat) : Nat := 4 * ((n + 63) / 64)
def sizeB (n u : Nat) : Nat := 12 + lowB n u + highB n u + sampB n

theorem wid_zero (n u : Nat) (h : u < 2 * n) : wid n u = 0 := by
  unfold wid
  split
  · rfl
  · rename_i hn
    have : u / n < 2 := Nat.div_lt_of_lt_mul (by omega)
    generalize u / n = k at this ⊢
    have h2 : k = 0 ∨ k = 1 := by omega
    rcases h2 with h2 | h2 <;> rw [h2] <;> decide
/-- the width is the greatest power that fits -/
theorem wid_go (n u b : Nat) (hn : 0 < n) (h : n * 2 ^ (b + 1) ≤ u) : b + 1 ≤ wid n u := by
  unfold wid
  rw [if_neg (by omega)]
  have h1 : 2 ^ (b + 1) ≤ u / n := (Nat.le_div_iff_mul_le hn).2 (by rw [Nat.mul_comm]; exact h)
  have h0 : u / n ≠ 0 := by have : 0 < 2 ^ (b + 1) := Nat.pow_pos (by decide); omega
  exact (Nat.le_log2 h0).2 h1
theorem wid_stop (n u b : Nat) (hn : 0 < n) (h : u < n * 2 ^ (b + 1)) : wid n u ≤ b := by
  unfold wid
  rw [if_neg (by omega)]
  by_cases h0 : u / n = 0
  · rw [h0]; exact Nat.zero_le _
  · have h1 : u / n < 2 ^ (b + 1) := Nat.div_lt_of_lt_mul h
    exact Nat.lt_succ_iff.1 ((Nat.log2_lt h0).2 h1)
theorem wid_le (n u : Nat) (hu : u < 2 ^ 48) : wid n u ≤ 47 := by
  unfold wid
  split
  · omega
  · by_cases h0 : u / n = 0
    · rw [h0]; decide
    · exact Nat.lt_succ_iff.1 ((Nat.log2_lt h0).2 (Nat.lt_of_le_of_lt (Nat.div_le_self _ _) hu))
/-- the high bits are at most three to a number -/
theorem hib_le (n u : Nat) : hib n u ≤ 3 * n := by
  unfold hib
  split
  · omega
  · rename_i hn
    have hp : 0 < 2 ^ wid n u := Nat.pow_pos (by decide)
    have h1 : u < n * 2 ^ (wid n u + 1) := by
      by_cases h : u < n * 2 ^ (wid n u + 1)
      · exact h
      · have := wid_go n u (wid n u) (by omega) (by omega)
        omega
    have h2 : (u - 1) / 2 ^ wid n u < 2 * n := by
      refine Nat.div_lt_of_lt_mul ?_
      rw [Nat.pow_succ] at h1
      calc u - 1 ≤ u := Nat.sub_le _ _
        _ < n * (2 ^ wid n u * 2) := h1
        _ = 2 ^ wid n u * (2 * n) := by rw [Nat.mul_comm n, Nat.mul_assoc]
    omega
end Go.Proofs.YthaicpbdlhkkkaaGreatDoor.ef
