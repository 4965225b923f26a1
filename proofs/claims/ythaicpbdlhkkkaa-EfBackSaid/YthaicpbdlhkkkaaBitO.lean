/- bits: OnesCount64, LeadingZeros64 of 64 bits. -/
import Derived.BigQuiet
import Derived.BigRegion
import Derived.Lib.ItoaNum
import Derived.Test.YthaicpbdlhkkkaaOnes
import Derived.Test.YthaicpbdlhkkkaaEfA
namespace Go.Proofs.Ythaicpbdlhkkkaa.bit
open Go.RowKit Go.Proofs.Ythaicpbdlhkkkaa.own

theorem and64n (a m : Nat) (ha : a < 18446744073709551616) (hm : m < 18446744073709551616) : bits .and .u64 (a : Int) (m : Int) = ((a &&& m : Nat) : Int) := (bits_nat .u64 64 (by decide) wraps_u64_64 a m ha hm).1

set_option maxRecDepth 100000 in
theorem ones_any (B : Bits) (hB : B.length = 64) (w : World) :
    Calls Try.prog 77 #[.int .u64 ((num B : Nat) : Int)] w fun e w' => e = .returned (.int .i64 ((cnt B : Nat) : Int)) ∧ w = w' := by
  have hv : num B < 18446744073709551616 := by have := num_lt B; rw [hB] at this; exact this
  obtain ⟨x1, e1⟩ : ∃ x, x = (num B / 2 &&& 6148914691236517205) + (num B &&& 6148914691236517205) := ⟨_, rfl⟩
  obtain ⟨x2, e2⟩ : ∃ x, x = (x1 / 4 &&& 3689348814741910323) + (x1 &&& 3689348814741910323) := ⟨_, rfl⟩
  obtain ⟨x3, e3⟩ : ∃ x, x = (x2 / 16 + x2) &&& 1085102592571150095 := ⟨_, rfl⟩
  obtain ⟨x4, e4⟩ : ∃ x, x = x3 + x3 / 256 := ⟨_, rfl⟩
  obtain ⟨x5, e5⟩ : ∃ x, x = x4 + x4 / 65536 := ⟨_, rfl⟩
  obtain ⟨x6, e6⟩ : ∃ x, x = x5 + x5 / 4294967296 := ⟨_, rfl⟩
  obtain ⟨l1, l2, l2', l3, l4, l5, l6, hc⟩ := ones64 B hB x1 x2 x3 x4 x5 x6 e1 e2 e3 e4 e5 e6
  have hcl := cnt_le B
  rw [hB] at hcl
  generalize cnt B = c at *
  generalize num B = v at *
  have A1 : bits .and .u64 ((v : Int) / 2) 6148914691236517205 = ((v / 2 &&& 6148914691236517205 : Nat) : Int) := by
    have := and64n (v / 2) 6148914691236517205 (by omega) (by decide)
    rw [← this]; simp
  have A2 : bits .and .u64 (v : Int) 6148914691236517205 = ((v &&& 6148914691236517205 : Nat) : Int) := by
    have := and64n v 6148914691236517205 (by omega) (by decide)
    rw [← this]; simp
  generalize hy1 : (v / 2 &&& 6148914691236517205) = y1 at *
  generalize hy2 : (v &&& 6148914691236517205) = y2 at *
  have A3 : bits .and .u64 ((x1 : Int) / 4) 3689348814741910323 = ((x1 / 4 &&& 3689348814741910323 : Nat) : Int) := by
    have := and64n (x1 / 4) 3689348814741910323 (by omega) (by decide)
    rw [← this]; simp
  have A4 : bits .and .u64 (x1 : Int) 3689348814741910323 = ((x1 &&& 3689348814741910323 : Nat) : Int) := by
    have := and64n x1 3689348814741910323 (by omega) (by decide)
    rw [← this]; simp
  generalize hy3 : (x1 / 4 &&& 3689348814741910323) = y3 at *
  generalize hy4 : (x1 &&& 3689348814741910323) = y4 at *
  have A5 : bits .and .u64 ((x2 : Int) / 16 + (x2 : Int)) 1085102592571150095 = (x3 : Int) := by
    have := and64n (x2 / 16 + x2) 1085102592571150095 (by omega) (by decide)
    rw [← e3] at this
    rw [← this]; simp
  have A6 : bits .and .i64 (x6 : Int) 127 = (c : Int) := by
    have h1 := (bits_nat .i64 63 (by decide) wraps_i64_63 x6 127 (by omega) (by decide)).1
    rw [show x6 &&& 127 = x6 % 128 from Nat.and_two_pow_sub_one_eq_mod x6 7, hc] at h1
    exact h1
  have W1 : (y1 : Int) + (y2 : Int) = (x1 : Int) := by omega
  have W2 : (y3 : Int) + (y4 : Int) = (x2 : Int) := by omega
  have W4 : (x3 : Int) + (x3 : Int) / 256 = (x4 : Int) := by omega
  have W5 : (x4 : Int) + (x4 : Int) / 65536 = (x5 : Int) := by omega
  have W6 : (x5 : Int) + (x5 : Int) / 4294967296 = (x6 : Int) := by omega
  clear e1 e2 e3 e4 e5 e6 hy1 hy2 hy3 hy4 hc
  go_enter Try.func77, Try.ntmps77
  go_wp2_with fail
  trace_state
  go_ret
  exact ⟨rfl, rfl⟩
end Go.Proofs.Ythaicpbdlhkkkaa.bit
