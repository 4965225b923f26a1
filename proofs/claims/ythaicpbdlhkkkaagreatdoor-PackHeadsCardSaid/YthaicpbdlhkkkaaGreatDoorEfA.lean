/- ef: the form of a list: formed, high, samples, size; the document's Of, Low, High, Samples, Size. -/
import Derived.BigQuiet
import Derived.BigRegion
import Derived.Deep.CutRange
import Derived.Lib.ItoaNum
import Derived.Test.YthaicpbdlhkkkaaGreatDoorShelf
import Derived.Test.YthaicpbdlhkkkaaGreatDoorEfP
import Derived.Test.YthaicpbdlhkkkaaGreatDoorBitR
namespace Go.Proofs.YthaicpbdlhkkkaaGreatDoor.ef
open Go.RowKit Go.Proofs.YthaicpbdlhkkkaaGreatDoor.own Go.Proofs.YthaicpbdlhkkkaaGreatDoor.bit

theorem log2_bitLen (x : Nat) (h0 : x ≠ 0) (h : x < 18446744073709551616) : Lib.bitLen x = Nat.log2 x + 1 := by
  have hb := Lib.bitLenAux_bounds 64 x h h0
  have e : Lib.bitLen x = Lib.bitLenAux 64 x := rfl
  rw [e]
  have h1 : Lib.bitLenAux 64 x - 1 ≤ Nat.log2 x := (Nat.le_log2 h0).2 hb.2.1
  have h2 : Nat.log2 x < Lib.bitLenAux 64 x := (Nat.log2_lt h0).2 hb.2.2
  omega

def formV (n u : Nat) : Value := .agg #[.int .i64 (n : Int), .int .u64 (u : Int), .int .i64 ((wid n u : Nat) : Int), .int .i64 ((hib n u : Nat) : Int)]

theorem wid_log (n u : Nat) (hn : 0 < n) (hq : u / n ≠ 0) (hu2 : u < 2 ^ 48) : Lib.bitLen (u / n) = wid n u + 1 := by
  have h1 : u / n ≤ u := Nat.div_le_self _ _
  rw [log2_bitLen _ hq (by omega)]
  unfold wid
  rw [if_neg (by omega)]

set_option maxRecDepth 100000 in
theorem formed_zero (u : Nat) (w : World) :
    Calls Tryz.prog 37 #[.int .i64 0, .int .u64 (u : Int)] w fun e w' => e = .returned (formV 0 u) ∧ Below w.heap.size w w' := by
  go_enter Tryz.func37, Tryz.ntmps37
  go_wp2_with fail
  refine bodyPost_ret (v := formV 0 u) (by simp [results, Tryz.results37, go_sem, formV, wid, hib]) rfl ⟨rfl, ((Below.refl _ _).alloc (Nat.le_refl _) _).alloc (by simp) _⟩

set_option maxRecDepth 100000 in
theorem formed_any (n u : Nat) (hn : 0 < n) (hn2 : n ≤ 16777216) (hu : 0 < u) (hu2 : u < 2 ^ 48) (w : World) :
    Calls Tryz.prog 37 #[.int .i64 (n : Int), .int .u64 (u : Int)] w fun e w' => e = .returned (formV n u) ∧ Below w.heap.size w w' := by
  obtain ⟨wd, hwd⟩ : ∃ k, wid n u = k := ⟨_, rfl⟩
  obtain ⟨hb, hhb⟩ : ∃ k, hib n u = k := ⟨_, rfl⟩
  obtain ⟨z, hz⟩ : ∃ k, (u - 1) / 2 ^ wd = k := ⟨_, rfl⟩
  have hhz : hb = z + n := by rw [← hhb, ← hz, ← hwd]; unfold hib; rw [if_neg (by omega)]
  have hzl : z ≤ u := by rw [← hz]; exact Nat.le_trans (Nat.div_le_self _ _) (Nat.sub_le _ _)
  have hz2 : ((u : Int) - 1) / 2 ^ wd = (z : Int) := by
    rw [← hz, show ((u : Int) - 1) = ((u - 1 : Nat) : Int) by omega]
    simp
  have hwl : wd ≤ 47 := by rw [← hwd]; exact wid_le n u hu2
  have F : formV n u = .agg #[.int .i64 (n : Int), .int .u64 (u : Int), .int .i64 (wd : Int), .int .i64 ((z : Int) + (n : Int))] := by
    unfold formV; rw [hwd, hhb, hhz]; simp
  rw [F]
  have hz1 : ((n : Int) == 0) = false := beq_eq_false_iff_ne.2 (by omega)
  by_cases hq : u / n = 0
  · have hw0 : wd = 0 := by rw [← hwd]; unfold wid; rw [if_neg (by omega), hq]; rfl
    subst hw0
    have hq1 : IntKind.u64.wrap ((u : Int) / (n : Int)) = 0 := by
      rw [show ((u : Int) / (n : Int)) = ((u / n : Nat) : Int) by simp, hq]
      rfl
    have hz3 : ((u : Int) - 1) = (z : Int) := by rw [← hz2]; simp
    clear F hwd hhb hz hhz hz2 hq
    go_enter Tryz.func37, Tryz.ntmps37
    go_wp2_with fail
    refine bodyPost_ret (v := .agg #[.int .i64 (n : Int), .int .u64 (u : Int), .int .i64 0, .int .i64 ((z : Int) + (n : Int))]) (by simp [results, Tryz.results37, go_sem]) rfl ⟨rfl, ((Below.refl _ _).alloc (Nat.le_refl _) _).alloc (by simp) _⟩
  · have hlen := wid_log n u hn hq hu2
    obtain ⟨q, hqe⟩ : ∃ q, u / n = q := ⟨_, rfl⟩
    have hq1 : IntKind.u64.wrap ((u : Int) / (n : Int)) = (q : Int) := by
      rw [show ((u : Int) / (n : Int)) = (q : Int) by rw [← hqe]; simp]
      exact wraps_u64_64 _ (by omega) (by have := Nat.div_le_self u n; omega)
    have hql : q < 2 ^ 48 := by have := Nat.div_le_self u n; omega
    rw [hqe, hwd] at hlen
    rw [hqe] at hq
    have hq0 : (0 : Int) < (q : Int) := by omega
    have HL := Lib.hid (Tryz.bits_Len64 (q : Int))
    have hln : (Lib.bitLen (q : Int).toNat : Int) = (wd : Int) + 1 := by rw [Int.toNat_natCast, hlen]; simp
    clear F hwd hhb hz hhz hq hqe hlen
    go_enter Tryz.func37, Tryz.ntmps37
    go_wp2_with fail
    refine (HL.out _ (by omega) (by omega)).mono ?_
    rintro e w1 ⟨rfl, rfl⟩
    rw [hln]
    go_wp2_with fail
    refine bodyPost_ret (v := .agg #[.int .i64 (n : Int), .int .u64 (u : Int), .int .i64 (wd : Int), .int .i64 ((z : Int) + (n : Int))]) (by simp [results, Tryz.results37, go_sem]) rfl ⟨rfl, ((Below.refl _ _).alloc (Nat.le_refl _) _).alloc (by simp) _⟩

theorem high_any (n u : Nat) (hn2 : n ≤ 16777216) (hu2 : u < 2 ^ 48) (w : World) :
    Calls Tryz.prog 68 #[formV n u] w fun e w' => e = .returned (.int .i64 ((12 + lowB n u : Nat) : Int)) ∧ Below w.heap.size w w' := by
  obtain ⟨wd, hwd⟩ : ∃ k, wid n u = k := ⟨_, rfl⟩
  obtain ⟨hb, hhb⟩ : ∃ k, hib n u = k := ⟨_, rfl⟩
  have hwl : wd ≤ 47 := by rw [← hwd]; exact wid_le n u hu2
  have hm : n * wd ≤ 16777216 * 47 := Nat.mul_le_mul hn2 hwl
  have e1 : ((n : Int) * (wd : Int)) = ((n * wd : Nat) : Int) := by simp
  have R : Hid (((12 + lowB n u : Nat) : Int) = 12 + ((n * wd : Nat) + 7 : Int) / 8) := Lib.hid (by unfold lowB; rw [hwd]; omega)
  unfold formV
  rw [hwd, hhb]
  obtain ⟨p, hp⟩ : ∃ p, n * wd = p := ⟨_, rfl⟩
  rw [hp] at hm e1 R
  have e2 : wrap64 ((n : Int) * (wd : Int)) = (p : Int) := by rw [e1]; exact IntWalk.wrap64_in _ (by omega)
  have e3 : ((p : Int) + 7).tdiv 8 = ((p : Int) + 7) / 8 := Int.tdiv_eq_ediv_of_nonneg (by omega)
  clear hwd hhb hp
  go_enter Tryz.func68, Tryz.ntmps68
  go_wp2_with fail
  go_ret
  exact ⟨by rw [R.out]; rfl, (Below.refl _ _).alloc (Nat.le_refl _) _⟩
end Go.Proofs.YthaicpbdlhkkkaaGreatDoor.ef
