/- codes: Check, Most, may, short, split, Len. -/
import Derived.BigQuiet
import Derived.BigRegion
import Derived.Deep.CutRange
import Derived.Test.YtflnpcgnenhogaaDoorBitW2
import Derived.Test.YtflnpcgnenhogaaDoorLsA
import Derived.Test.YtflnpcgnenhogaaDoorShelf
namespace Go.Proofs.YtflnpcgnenhogaaDoor.ls
open Go.RowKit Go.Proofs.YtflnpcgnenhogaaDoor.own Go.Proofs.YtflnpcgnenhogaaDoor.bit

def cdV : Cd → Value
  | .una => .agg #[.int .u8 0, .int .u64 0]
  | .gam => .agg #[.int .u8 1, .int .u64 0]
  | .zet k => .agg #[.int .u8 3, .int .u64 (k : Int)]

theorem below_alloc {w w1 : World} {o : Obj} (k : Below (w.alloc o).heap.size (w.alloc o) w1) : Below w.heap.size w w1 := ((Below.refl _ w).alloc (Nat.le_refl _) o).trans (k.mono (by simp))
theorem box_keeps {w w1 : World} {row : Array Value} {T : TypeId} (k : Below (w.alloc (.cells row T)).heap.size (w.alloc (.cells row T)) w1) : w1.heap[w.heap.size]? = some (.cells row T (0, 0)) := (k.block _ (by simp)).trans (heap_alloc_new w _)

theorem check_any (c : Cd) (hc : c.ok) (w : World) : Calls Tryd.prog 69 #[cdV c] w fun e w' => e = .returned (.int .i64 0) ∧ Below w.heap.size w w' := by
  cases c with
  | una =>
    unfold cdV
    go_enter Tryd.func69, Tryd.ntmps69
    go_wp2_with fail
    go_ret
    exact ⟨rfl, (by repeat (first | exact Below.refl _ _ | refine below_drewN ?_ _ | refine Below.setCell ?_ (by simp; try omega) _ | refine Below.alloc ?_ (by simp; try omega) _))⟩
  | gam =>
    unfold cdV
    go_enter Tryd.func69, Tryd.ntmps69
    go_wp2_with fail
    go_ret
    exact ⟨rfl, (by repeat (first | exact Below.refl _ _ | refine below_drewN ?_ _ | refine Below.setCell ?_ (by simp; try omega) _ | refine Below.alloc ?_ (by simp; try omega) _))⟩
  | zet k =>
    obtain ⟨h1, h2⟩ : 1 ≤ k ∧ k ≤ 16 := hc
    have i1 : (1 : Int) ≤ (k : Int) := by omega
    have i2 : (k : Int) ≤ 16 := by omega
    unfold cdV
    go_enter Tryd.func69, Tryd.ntmps69
    go_wp2_with fail
    go_ret
    exact ⟨rfl, (by repeat (first | exact Below.refl _ _ | refine below_drewN ?_ _ | refine Below.setCell ?_ (by simp; try omega) _ | refine Below.alloc ?_ (by simp; try omega) _))⟩
theorem most_any (c : Cd) (hc : c.ok) (w : World) : Calls Tryd.prog 72 #[cdV c] w fun e w' => e = .returned (.int .u64 (c.most : Int)) ∧ Below w.heap.size w w' := by
  have CH := Lib.hid (fun W => check_any c hc W)
  cases c with
  | una =>
    unfold cdV at CH ⊢
    go_enter Tryd.func72, Tryd.ntmps72
    go_wp2_with fail
    refine (CH.out _).mono ?_
    rintro e w1 ⟨rfl, k1⟩
    have c1 : w1.cell? ⟨w.heap.size, 0, none⟩ = some (.int .u8 0) := by rw [cell_of_row _ _ _ _ _ _ (box_keeps k1)]; rfl
    have K : Hid (Below w.heap.size w w1) := Lib.hid (below_alloc k1)
    clear k1
    go_wp2_with fail
    go_ret
    exact ⟨rfl, K.out⟩
  | gam =>
    unfold cdV at CH ⊢
    go_enter Tryd.func72, Tryd.ntmps72
    go_wp2_with fail
    refine (CH.out _).mono ?_
    rintro e w1 ⟨rfl, k1⟩
    have c1 : w1.cell? ⟨w.heap.size, 0, none⟩ = some (.int .u8 1) := by rw [cell_of_row _ _ _ _ _ _ (box_keeps k1)]; rfl
    have K : Hid (Below w.heap.size w w1) := Lib.hid (below_alloc k1)
    clear k1
    go_wp2_with fail
    go_ret
    exact ⟨rfl, K.out⟩
  | zet k =>
    unfold cdV at CH ⊢
    go_enter Tryd.func72, Tryd.ntmps72
    go_wp2_with fail
    refine (CH.out _).mono ?_
    rintro e w1 ⟨rfl, k1⟩
    have c1 : w1.cell? ⟨w.heap.size, 0, none⟩ = some (.int .u8 3) := by rw [cell_of_row _ _ _ _ _ _ (box_keeps k1)]; rfl
    have K : Hid (Below w.heap.size w w1) := Lib.hid (below_alloc k1)
    clear k1
    go_wp2_with fail
    go_ret
    exact ⟨rfl, K.out⟩
theorem may_any (c : Cd) (hc : c.ok) (v : Nat) (w : World) : Calls Tryd.prog 59 #[cdV c, .int .u64 (v : Int)] w fun e w' => e = .returned (.bool (decide (v ≤ c.most))) ∧ Below w.heap.size w w' := by
  have CH := Lib.hid (fun W => check_any c hc W)
  have MO := Lib.hid (fun W => most_any c hc W)
  have MD : Hid (decide ((v : Int) ≤ (c.most : Int)) = decide (v ≤ c.most)) := Lib.hid (decide_eq_decide.2 (by omega))
  obtain ⟨kd, kk, hcd⟩ : ∃ kd kk, cdV c = .agg #[.int .u8 kd, .int .u64 kk] := by cases c <;> exact ⟨_, _, rfl⟩
  rw [hcd] at CH MO ⊢
  generalize c.most = m at MO MD ⊢
  clear hcd
  go_enter Tryd.func59, Tryd.ntmps59
  go_wp2_with fail
  refine (CH.out _).mono ?_
  rintro e w1 ⟨rfl, k1⟩
  have r1 := box_keeps k1
  have c0 : w1.cell? ⟨w.heap.size, 0, none⟩ = some (.int .u8 kd) := by rw [cell_of_row _ _ _ _ _ _ r1]; rfl
  have c1 : w1.cell? ⟨w.heap.size, 1, none⟩ = some (.int .u64 kk) := by rw [cell_of_row _ _ _ _ _ _ r1]; rfl
  have K : Hid (Below w.heap.size w w1) := Lib.hid (below_alloc k1)
  clear k1 r1
  go_wp2_with fail
  refine (MO.out _).mono ?_
  rintro e w2 ⟨rfl, k2⟩
  go_wp2_with fail
  go_ret
  exact ⟨rfl, K.out.trans (k2.mono K.out.size)⟩

/-- a number's piece in Minimal -/
def shP (v k : Nat) : Nat × Nat := if v < 2 ^ clog k - k then (v, clog k - 1) else (v + (2 ^ clog k - k), clog k)
theorem mini_shP (v k : Nat) : mini v k = ofN (shP v k).2 (shP v k).1 := by unfold mini shP; split <;> rfl
theorem aux_log2 : ∀ (f x : Nat), x < 2 ^ f → x ≠ 0 → Lib.bitLenAux f x = Nat.log2 x + 1
  | 0, x, h, h0 => by simp at h; omega
  | f + 1, x, h, h0 => by
    rw [Lib.bitLenAux, if_neg h0]
    by_cases h2 : 2 ≤ x
    · rw [aux_log2 f (x / 2) (by rw [Nat.pow_succ] at h; omega) (by omega), Nat.log2_def x, if_pos h2, Nat.add_comm]
    · obtain rfl : x = 1 := by omega
      have e : Lib.bitLenAux f (1 / 2) = 0 := by cases f <;> rfl
      rw [e]
      rfl
theorem log2_bitLen (x : Nat) (h0 : x ≠ 0) (h : x < 18446744073709551616) : Lib.bitLen x = Nat.log2 x + 1 := aux_log2 64 x h h0
theorem bitLen_clog (k : Nat) (hk : 1 ≤ k) (hk2 : k ≤ 9223372036854775808) : Lib.bitLen (k - 1) = clog k := by
  unfold clog
  by_cases h : k ≤ 1
  · rw [if_pos h, show k - 1 = 0 by omega]; rfl
  · rw [if_neg h, log2_bitLen _ (by omega) (by omega)]
theorem short_any (v k : Nat) (hv : v < k) (hk : k ≤ 9223372036854775808) (w : World) : Calls Tryd.prog 83 #[.int .u64 (v : Int), .int .u64 (k : Int)] w fun e w' =>
    e = .returned (.agg #[.int .u64 ((shP v k).1 : Int), .int .i64 ((shP v k).2 : Int)]) ∧ Below w.heap.size w w' := by
  have LN := Lib.hid (fun W => Tryd.bits_Len64 ((k - 1 : Nat) : Int) W (by omega) (by omega))
  rw [Int.toNat_natCast, bitLen_clog k (by omega) hk] at LN
  have e1 : IntKind.u64.wrap ((k : Int) - 1) = ((k - 1 : Nat) : Int) := by rw [IntKind.wrap_u64]; omega
  have h1 := @clog_le k
  have h2 : clog k ≤ 63 := clog_pow (by rw [show (2 : Nat) ^ 63 = 9223372036854775808 from rfl]; exact hk)
  have h3 : (2 : Nat) ^ clog k ≤ 9223372036854775808 := by
    calc (2 : Nat) ^ clog k ≤ 2 ^ 63 := Nat.pow_le_pow_right (by decide) h2
      _ = 9223372036854775808 := rfl
  have h4 : 2 ≤ k → 2 ^ clog k < 2 * k ∧ 0 < clog k := fun h => by have a := pow_clog h; have b := clog_lt h; omega
  have h5 : k ≤ 1 → 2 ^ clog k = 1 := fun h => by rw [clog_one h]
  obtain ⟨P, hP⟩ : ∃ P, shP v k = P := ⟨_, rfl⟩
  have SH := Lib.hid hP
  unfold shP at SH
  rw [hP]
  obtain ⟨s, hs⟩ : ∃ s, clog k = s := ⟨_, rfl⟩
  rw [hs] at LN h1 h2 h3 h4 h5 SH
  obtain ⟨pw, hpw⟩ : ∃ pw, 2 ^ s = pw := ⟨_, rfl⟩
  rw [hpw] at h1 h3 h4 h5 SH
  have e2 : IntKind.u64.wrap (2 ^ s) = (pw : Int) := by rw [show ((2 : Int) ^ s) = (pw : Int) by rw [← hpw]; simp, IntKind.wrap_u64]; omega
  have e3 : IntKind.u64.wrap ((pw : Int) - (k : Int)) = ((pw - k : Nat) : Int) := by rw [IntKind.wrap_u64]; omega
  have hs0 : (0 : Int) ≤ (s : Int) := by omega
  have hs64 : min s 64 = s := by omega
  clear hP hs hpw
  by_cases hm : v < pw - k
  · have hlt : ¬ (((pw - k : Nat) : Int) ≤ (v : Int)) := by omega
    have e4 : IntKind.i64.wrap ((s : Int) - 1) = ((s - 1 : Nat) : Int) := by rw [IntWalk.i64_in _ (by omega)]; omega
    have SH2 := SH.out
    rw [if_pos hm] at SH2
    subst SH2
    clear SH hm h1 h2 h3 h4 h5
    go_enter Tryd.func83, Tryd.ntmps83
    go_wp2_with fail
    refine (LN.out _).mono ?_
    rintro e w1 ⟨rfl, rfl⟩
    go_wp2_with fail
    refine bodyPost_ret (v := .agg #[.int .u64 (v : Int), .int .i64 ((s - 1 : Nat) : Int)]) (by simp [results, Tryd.results83, go_sem, *]) rfl ⟨rfl, ?_⟩
    exact (by repeat (first | exact Below.refl _ _ | refine below_drewN ?_ _ | refine Below.setCell ?_ (by simp; try omega) _ | refine Below.alloc ?_ (by simp; try omega) _))
  · have hlt : (((pw - k : Nat) : Int) ≤ (v : Int)) := by omega
    have e4 : IntKind.u64.wrap ((v : Int) + ((pw - k : Nat) : Int)) = ((v + (pw - k) : Nat) : Int) := by rw [IntKind.wrap_u64]; omega
    have SH2 := SH.out
    rw [if_neg hm] at SH2
    subst SH2
    clear SH hm h1 h2 h3 h4 h5
    go_enter Tryd.func83, Tryd.ntmps83
    go_wp2_with fail
    refine (LN.out _).mono ?_
    rintro e w1 ⟨rfl, rfl⟩
    go_wp2_with fail
    refine bodyPost_ret (v := .agg #[.int .u64 ((v + (pw - k) : Nat) : Int), .int .i64 (s : Int)]) (by simp [results, Tryd.results83, go_sem, *]) rfl ⟨rfl, ?_⟩
    exact (by repeat (first | exact Below.refl _ _ | refine below_drewN ?_ _ | refine Below.setCell ?_ (by simp; try omega) _ | refine Below.alloc ?_ (by simp; try omega) _))

/-- what stands behind a number's zeros -/
def pcs (c : Cd) (v : Nat) : Nat × (Nat × Nat) :=
  match c with
  | .una => (v, (0, 0))
  | .gam => (Nat.log2 (v + 1), (v + 1 - 2 ^ Nat.log2 (v + 1), Nat.log2 (v + 1)))
  | .zet k => (Nat.log2 (v + 1) / k, shP (v + 1 - 2 ^ (Nat.log2 (v + 1) / k * k)) (2 ^ ((Nat.log2 (v + 1) / k + 1) * k) - 2 ^ (Nat.log2 (v + 1) / k * k)))
theorem cb_pcs (c : Cd) (v : Nat) : cb c v = un (pcs c v).1 ++ ofN (pcs c v).2.2 (pcs c v).2.1 := by
  cases c with
  | una => rw [cb_una]; show un v = un v ++ []; rw [List.append_nil]
  | gam => rfl
  | zet k => rw [cb_zet, mini_shP]; rfl
def splV (q : Nat × (Nat × Nat)) : Value := .tuple #[.int .i64 (q.1 : Int), .agg #[.int .u64 (q.2.1 : Int), .int .i64 (q.2.2 : Int), .int .u64 0, .int .i64 0]]
end Go.Proofs.YtflnpcgnenhogaaDoor.ls
