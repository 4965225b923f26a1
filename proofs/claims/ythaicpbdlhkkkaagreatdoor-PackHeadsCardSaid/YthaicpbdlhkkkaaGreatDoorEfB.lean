/- ef: samples, size; the document's form: Of, Low, High, Samples, Size. -/
import Derived.Test.YthaicpbdlhkkkaaGreatDoorEfA
import Derived.Deep.RegionHeld3
namespace Go.Proofs.YthaicpbdlhkkkaaGreatDoor.ef
open Go.RowKit Go.Proofs.YthaicpbdlhkkkaaGreatDoor.own Go.Proofs.YthaicpbdlhkkkaaGreatDoor.bit

theorem hib_lt (n u : Nat) (hn2 : n ≤ 16777216) : hib n u ≤ 50331648 := by have := hib_le n u; omega
theorem lowB_lt (n u : Nat) (hn2 : n ≤ 16777216) (hu2 : u < 2 ^ 48) : lowB n u ≤ 98566145 := by
  have hm : n * wid n u ≤ 16777216 * 47 := Nat.mul_le_mul hn2 (wid_le n u hu2)
  unfold lowB
  omega

/-- a form that lies in a block of its own -/
def FS (w : World) (n u wd hb : Nat) (w' : World) : Prop := Below w.heap.size w w' ∧ w'.heap[w.heap.size]? = some (.cells #[.int .i64 (n : Int), .int .u64 (u : Int), .int .i64 (wd : Int), .int .i64 (hb : Int)] 83 (0, 0))
def FC (w : World) (n u wd hb : Nat) (w' : World) : Prop := w'.cell? ⟨w.heap.size, 0, none⟩ = some (.int .i64 (n : Int)) ∧ w'.cell? ⟨w.heap.size, 1, none⟩ = some (.int .u64 (u : Int)) ∧ w'.cell? ⟨w.heap.size, 2, none⟩ = some (.int .i64 (wd : Int)) ∧ w'.cell? ⟨w.heap.size, 3, none⟩ = some (.int .i64 (hb : Int)) ∧ FS w n u wd hb w'
theorem FS.mk {w : World} {n u wd hb : Nat} {w' : World} (h : FS w n u wd hb w') : FC w n u wd hb w' := by
  refine ⟨?_, ?_, ?_, ?_, h⟩ <;> · rw [cell_of_row _ _ _ _ _ _ h.2]; rfl
theorem FC.fs {w : World} {n u wd hb : Nat} {w' : World} (h : FC w n u wd hb w') : FS w n u wd hb w' := h.2.2.2.2
theorem FS.drew {w : World} {n u wd hb : Nat} {w' : World} (h : FS w n u wd hb w') (k : Nat) : FS w n u wd hb (w'.drewN k) := ⟨⟨h.1.os, h.1.tape, h.1.output, h.1.size, h.1.block⟩, h.2⟩
theorem FS.next {w : World} {n u wd hb : Nat} {w' w2 : World} (h : FS w n u wd hb w') (k : Below w'.heap.size w' w2) : FS w n u wd hb w2 := by
  have hl := lt_of_block h.2
  exact ⟨h.1.trans (k.mono (by omega)), (k.block _ hl).trans h.2⟩
theorem FS.start (w : World) (n u wd hb : Nat) : FS w n u wd hb (w.alloc (.cells #[.int .i64 (n : Int), .int .u64 (u : Int), .int .i64 (wd : Int), .int .i64 (hb : Int)] 83)) := ⟨(Below.refl _ _).alloc (Nat.le_refl _) _, heap_alloc_new w _⟩

theorem samples_any (n u : Nat) (hn2 : n ≤ 16777216) (hu2 : u < 2 ^ 48) (w : World) :
    Calls Tryz.prog 54 #[formV n u] w fun e w' => e = .returned (.int .i64 ((12 + lowB n u + highB n u : Nat) : Int)) ∧ Below w.heap.size w w' := by
  have h1 := hib_lt n u hn2
  have h2 := lowB_lt n u hn2 hu2
  have HI := Lib.hid (fun W => high_any n u hn2 hu2 W)
  have R : Hid (((12 + lowB n u + highB n u : Nat) : Int) = ((12 + lowB n u : Nat) : Int) + ((hib n u : Nat) + 7 : Int) / 8) := Lib.hid (by unfold highB; omega)
  obtain ⟨lb, hlb⟩ : ∃ k, 12 + lowB n u = k := ⟨_, rfl⟩
  rw [hlb] at HI R ⊢
  have h2' : lb ≤ 98566157 := by omega
  obtain ⟨tt, htt⟩ : ∃ k, lb + highB n u = k := ⟨_, rfl⟩
  rw [htt] at R ⊢
  unfold formV at HI ⊢
  obtain ⟨hb, hhb⟩ : ∃ k, hib n u = k := ⟨_, rfl⟩
  obtain ⟨wd, hwd⟩ : ∃ k, wid n u = k := ⟨_, rfl⟩
  rw [hhb, hwd] at HI ⊢
  rw [hhb] at h1 R
  have e3 : ((hb : Int) + 7).tdiv 8 = ((hb : Int) + 7) / 8 := Int.tdiv_eq_ediv_of_nonneg (by omega)
  have F0 := Lib.hid (FS.start w n u wd hb)
  clear hlb htt hhb hwd h2
  go_enter Tryz.func54, Tryz.ntmps54
  go_upto_region 1 with fail
  generalize World.alloc _ _ = W at F0 ⊢
  have hfs := F0.out
  go_region_held3 (fun w' => w'.cell? ⟨w.heap.size, 0, none⟩ = some (.int .i64 (n : Int)) ∧ w'.cell? ⟨w.heap.size, 1, none⟩ = some (.int .u64 (u : Int)) ∧ w'.cell? ⟨w.heap.size, 2, none⟩ = some (.int .i64 (wd : Int)) ∧ w'.cell? ⟨w.heap.size, 3, none⟩ = some (.int .i64 (hb : Int)) ∧ FS w n u wd hb w')
    (first
      | exact FS.mk (by assumption)
      | exact FS.mk (FS.drew (by assumption) _)
      | exact FS.mk (FC.fs (by assumption))
      | exact FS.mk (FS.drew (FC.fs (by assumption)) _))
    (first
      | (go_at_call 68; refine (HI.out _).mono ?_; rintro e w2 ⟨rfl, k1⟩; first | have hfs2 := FS.next (by assumption) k1 | have hfs2 := FS.next (FC.fs (by assumption)) k1 | have hfs2 := FS.next (FS.drew (by assumption) _) k1 | have hfs2 := FS.next (FS.drew (FC.fs (by assumption)) _) k1))
  rw [IntWalk.i64_in ((hb : Int) + 7) (by omega), e3, IntWalk.i64_in (((hb : Int) + 7) / 8) (by omega), IntWalk.i64_in ((lb : Int) + ((hb : Int) + 7) / 8) (by omega)]
  go_wp2_with fail
  go_ret
  exact ⟨by rw [R.out]; rfl, hfs2.1⟩

theorem size_any (n u : Nat) (hn2 : n ≤ 16777216) (hu2 : u < 2 ^ 48) (w : World) :
    Calls Tryz.prog 38 #[formV n u] w fun e w' => e = .returned (.int .i64 ((sizeB n u : Nat) : Int)) ∧ Below w.heap.size w w' := by
  have h1 := hib_lt n u hn2
  have h2 := lowB_lt n u hn2 hu2
  have HI := Lib.hid (fun W => samples_any n u hn2 hu2 W)
  have R : Hid (((sizeB n u : Nat) : Int) = ((12 + lowB n u + highB n u : Nat) : Int) + 4 * (((n : Nat) + 63 : Int) / 64)) := Lib.hid (by unfold sizeB sampB; omega)
  have h3 : 12 + lowB n u + highB n u ≤ 124857610 := by unfold highB; omega
  obtain ⟨lb, hlb⟩ : ∃ k, 12 + lowB n u + highB n u = k := ⟨_, rfl⟩
  rw [hlb] at HI R h3
  obtain ⟨tt, htt⟩ : ∃ k, sizeB n u = k := ⟨_, rfl⟩
  rw [htt] at R ⊢
  unfold formV at HI ⊢
  obtain ⟨hb, hhb⟩ : ∃ k, hib n u = k := ⟨_, rfl⟩
  obtain ⟨wd, hwd⟩ : ∃ k, wid n u = k := ⟨_, rfl⟩
  rw [hhb, hwd] at HI ⊢
  have e3 : ((n : Int) + 63).tdiv 64 = ((n : Int) + 63) / 64 := Int.tdiv_eq_ediv_of_nonneg (by omega)
  have e4 : ((n : Int) + 64 - 1) = (n : Int) + 63 := by omega
  have F0 := Lib.hid (FS.start w n u wd hb)
  clear hlb htt hhb hwd h1 h2
  go_enter Tryz.func38, Tryz.ntmps38
  go_upto_region 1 with fail
  generalize World.alloc _ _ = W at F0 ⊢
  have hfs := F0.out
  go_region_held3 (fun w' => w'.cell? ⟨w.heap.size, 0, none⟩ = some (.int .i64 (n : Int)) ∧ w'.cell? ⟨w.heap.size, 1, none⟩ = some (.int .u64 (u : Int)) ∧ w'.cell? ⟨w.heap.size, 2, none⟩ = some (.int .i64 (wd : Int)) ∧ w'.cell? ⟨w.heap.size, 3, none⟩ = some (.int .i64 (hb : Int)) ∧ FS w n u wd hb w')
    (first
      | exact FS.mk (by assumption)
      | exact FS.mk (FS.drew (by assumption) _)
      | exact FS.mk (FC.fs (by assumption))
      | exact FS.mk (FS.drew (FC.fs (by assumption)) _))
    (first
      | (go_at_call 54; refine (HI.out _).mono ?_; rintro e w2 ⟨rfl, k1⟩; first | have hfs2 := FS.next (by assumption) k1 | have hfs2 := FS.next (FC.fs (by assumption)) k1 | have hfs2 := FS.next (FS.drew (by assumption) _) k1 | have hfs2 := FS.next (FS.drew (FC.fs (by assumption)) _) k1))
  rw [IntWalk.i64_in ((n : Int) + 64) (by omega), e4, IntWalk.i64_in ((n : Int) + 63) (by omega), e3, IntWalk.i64_in (((n : Int) + 63) / 64) (by omega), IntWalk.i64_in (4 * (((n : Int) + 63) / 64)) (by omega), IntWalk.i64_in ((lb : Int) + 4 * (((n : Int) + 63) / 64)) (by omega)]
  go_wp2_with fail
  go_ret
  exact ⟨by rw [R.out]; rfl, hfs2.1⟩

theorem wrap_sum (z n u : Nat) (hzl : z ≤ u) (hu2 : u < 2 ^ 48) (hn : n ≤ 16777216) : wrap64 (z : Int) = (z : Int) ∧ wrap64 ((z : Int) + (n : Int)) = (z : Int) + (n : Int) :=
  ⟨IntWalk.wrap64_in _ (by omega), IntWalk.wrap64_in _ (by omega)⟩

theorem wid_fits (n u b : Nat) (hn : 0 < n) (hb : b ≤ wid n u) : n * 2 ^ b ≤ u ∨ b = 0 := by
  by_cases h0 : b = 0
  · exact .inr h0
  · refine .inl ?_
    unfold wid at hb
    rw [if_neg (by omega)] at hb
    have hq : u / n ≠ 0 := by
      intro e
      rw [e] at hb
      have : Nat.log2 0 = 0 := by decide
      omega
    have := (Nat.le_log2 hq).1 hb
    calc n * 2 ^ b ≤ n * (u / n) := Nat.mul_le_mul_left _ this
      _ ≤ u := Nat.mul_div_le u n

/-- on the way through Of's loop -/
structure OfL (w : World) (sz n u b : Nat) (wr : World) : Prop where
  lo : wr.heap[sz + 1]? = some (.cells #[.int .i64 (n : Int), .int .u64 (u : Int), .int .i64 (b : Int), .int .i64 0] 87 (0, 0))
  re : wr.heap[sz]? = some (.cells #[.int .i64 0, .int .u64 0, .int .i64 0, .int .i64 0] 87 (0, 0))
  be : Below sz w wr

set_option maxRecDepth 100000 in
set_option maxHeartbeats 800000 in
theorem of_any (n u : Nat) (hn : 0 < n) (hn2 : n ≤ 16777216) (hu : 0 < u) (hu2 : u < 2 ^ 48) (w : World) :
    Calls Tryz.prog 39 #[.int .i64 (n : Int), .int .u64 (u : Int)] w fun e w' => e = .returned (formV n u) ∧ Below w.heap.size w w' := by
  have hz1 : ((n : Int) == 0) = false := beq_eq_false_iff_ne.2 (by omega)
  have hwl := wid_le n u hu2
  have L0 : Hid (OfL w w.heap.size n u 0 ((w.alloc (.cells #[.int .i64 0, .int .u64 0, .int .i64 0, .int .i64 0] 87)).alloc (.cells #[.int .i64 (n : Int), .int .u64 (u : Int), .int .i64 0, .int .i64 0] 87))) := Lib.hid (by
    have k1 := heap_alloc_new w (.cells #[.int .i64 0, .int .u64 0, .int .i64 0, .int .i64 0] 87)
    have k2 : (w.alloc (.cells #[.int .i64 0, .int .u64 0, .int .i64 0, .int .i64 0] 87)).heap.size = w.heap.size + 1 := by simp
    have kp : Below w.heap.size w (w.alloc (.cells #[.int .i64 0, .int .u64 0, .int .i64 0, .int .i64 0] 87)) := (Below.refl _ _).alloc (Nat.le_refl _) _
    generalize w.alloc (.cells #[.int .i64 0, .int .u64 0, .int .i64 0, .int .i64 0] 87) = wq at k1 k2 kp ⊢
    refine ⟨by rw [← k2]; exact heap_alloc_new wq _, (Below.heap_alloc _ _ _ (lt_of_block k1)).trans k1, kp.alloc (by omega) _⟩)
  go_enter Tryz.func39, Tryz.ntmps39
  go_wp2_with fail
  obtain ⟨sz, hsz⟩ : ∃ k, w.heap.size = k := ⟨_, rfl⟩
  rw [hsz] at L0 ⊢
  generalize World.alloc _ _ = W0 at L0 ⊢
  go_loopw [] (fun wr => ∃ b, b ≤ wid n u ∧ OfL w sz n u b wr) (fun wr => wid n u - (intOf ((wr.cell? ⟨sz + 1, 2, none⟩).getD (.int .i64 0))).toNat)
  case atStart => exact ⟨0, Nat.zero_le _, L0.out⟩
  case round =>
    obtain ⟨b, hb, hL⟩ := hrel
    have LL := Lib.hid hL
    have c2 : wr.cell? ⟨sz + 1, 2, none⟩ = some (.int .i64 (b : Int)) := by rw [cell_of_row wr _ _ _ _ _ hL.lo]; rfl
    have cf : wr.frozen? ⟨sz + 1, 2, none⟩ = false := frozen_of_row wr _ 2 _ _ hL.lo
    have hsum : IntKind.i64.wrap ((b : Int) + 1) = (b : Int) + 1 := IntWalk.i64_in _ (by omega)
    obtain ⟨p, hp⟩ : ∃ p, n * 2 ^ (b + 1) = p := ⟨_, rfl⟩
    have hpw : p < 2 ^ 50 := by
      rw [← hp, Nat.pow_succ, ← Nat.mul_assoc]
      rcases wid_fits n u b hn hb with h | h
      · omega
      · subst h
        simp
        omega
    have hpwr : IntKind.u64.wrap (p : Int) = (p : Int) := wraps_u64_64 _ (by omega) (by omega)
    have hpi : ((n : Int) * 2 ^ (b + 1)) = (p : Int) := by rw [← hp]; simp
    obtain ⟨wd, hwd⟩ : ∃ k, wid n u = k := ⟨_, rfl⟩
    have HG : Hid (p ≤ u → b + 1 ≤ wd) := Lib.hid (fun h => by rw [← hwd]; exact wid_go n u b hn (by rw [hp]; exact h))
    have HS : Hid (u < p → wd ≤ b) := Lib.hid (fun h => by rw [← hwd]; exact wid_stop n u b hn (by rw [hp]; exact h))
    clear hL
    rw [hwd] at hb hwl ⊢
    have HP := Lib.hid hp
    have HW := Lib.hid hwd
    clear hp hwd
    by_cases hle : p ≤ u
    · have hg := HG.out hle
      go_wp2_with fail
      have hlo2 : (wr.setCell ⟨sz + 1, 2, none⟩ (.int .i64 ((b : Int) + 1))).heap[sz + 1]? = some (.cells #[.int .i64 (n : Int), .int .u64 (u : Int), .int .i64 ((b + 1 : Nat) : Int), .int .i64 0] 87 (0, 0)) := by
        rw [heap_setCell_same wr (sz + 1) 2 _ _ _ LL.out.lo]
        rfl
      have NL : OfL w sz n u (b + 1) (wr.setCell ⟨sz + 1, 2, none⟩ (.int .i64 ((b : Int) + 1))) := ⟨hlo2, (Below.heap_setCell wr ⟨sz + 1, 2, none⟩ _ sz (by simp)).trans LL.out.re, LL.out.be.setCell (by simp) _⟩
      go_roundw
      case rel => exact ⟨b + 1, hg, NL⟩
      case measure =>
        rw [cell_of_row _ _ _ _ _ _ hlo2, c2]
        simp [intOf]
        omega
    · have hs := HS.out (by omega)
      have hbw : b = wd := by omega
      subst hbw
      have FE : Hid (formV n u = .agg #[.int .i64 (n : Int), .int .u64 (u : Int), .int .i64 (b : Int), .int .i64 (((u - 1) / 2 ^ b : Nat) + (n : Int))]) := Lib.hid (by
        unfold formV hib
        rw [if_neg (by omega), HW.out]
        simp)
      have hz2 : ((u : Int) - 1) / 2 ^ b = (((u - 1) / 2 ^ b : Nat) : Int) := by
        rw [show ((u : Int) - 1) = ((u - 1 : Nat) : Int) by omega]
        simp
      have hzl : (u - 1) / 2 ^ b ≤ u := Nat.le_trans (Nat.div_le_self _ _) (Nat.sub_le _ _)
      obtain ⟨z, hz⟩ : ∃ k, (u - 1) / 2 ^ b = k := ⟨_, rfl⟩
      rw [hz] at hz2 hzl FE
      have hlo := LL.out.lo
      have hre := LL.out.re
      have c0 : wr.cell? ⟨sz + 1, 0, none⟩ = some (.int .i64 (n : Int)) := by rw [cell_of_row wr _ _ _ _ _ hlo]; rfl
      have c1 : wr.cell? ⟨sz + 1, 1, none⟩ = some (.int .u64 (u : Int)) := by rw [cell_of_row wr _ _ _ _ _ hlo]; rfl
      have c3 : wr.cell? ⟨sz + 1, 3, none⟩ = some (.int .i64 0) := by rw [cell_of_row wr _ _ _ _ _ hlo]; rfl
      have cg : ∀ j, wr.frozen? ⟨sz + 1, j, none⟩ = false := fun j => frozen_of_row wr _ j _ _ hlo
      have dg : ∀ j, wr.frozen? ⟨sz, j, none⟩ = false := fun j => frozen_of_row wr _ j _ _ hre
      have d0 : wr.cell? ⟨sz, 0, none⟩ = some (.int .i64 0) := by rw [cell_of_row wr _ _ _ _ _ hre]; rfl
      have d1 : wr.cell? ⟨sz, 1, none⟩ = some (.int .u64 0) := by rw [cell_of_row wr _ _ _ _ _ hre]; rfl
      have d2 : wr.cell? ⟨sz, 2, none⟩ = some (.int .i64 0) := by rw [cell_of_row wr _ _ _ _ _ hre]; rfl
      have d3 : wr.cell? ⟨sz, 3, none⟩ = some (.int .i64 0) := by rw [cell_of_row wr _ _ _ _ _ hre]; rfl
      have hne : sz + 1 ≠ sz := Nat.succ_ne_self sz
      have hne2 : sz ≠ sz + 1 := (Nat.succ_ne_self sz).symm
      have HZ := Lib.hid hz2
      have HPI := Lib.hid hpi
      clear cf hs hre hlo hz hz2
      go_upto_region 6 with fail
      clear hpi hpwr hpw hsum hle hb
      have hz2 := HZ.out
      go_upto_region 7 with fail
      go_wp2_with fail
      clear hz2
      refine bodyPost_ret (v := .agg #[.int .i64 (n : Int), .int .u64 (u : Int), .int .i64 (b : Int), .int .i64 ((z : Int) + (n : Int))]) (by simp [results, Tryz.results39, go_sem, d0, d1, d2, d3]) rfl ⟨by rw [FE.out], ?_⟩
      rw [hsz]
      exact ((((LL.out.be.setCell (by simp) _).setCell (by simp) _).setCell (by simp) _).setCell (by simp) _).setCell (by simp) _
end Go.Proofs.YthaicpbdlhkkkaaGreatDoor.ef
