/- ef: the document's form: Low, High, Samples, Size. -/
import Derived.Test.YthaicpbdlhkkkaaGreatDoorEfB
namespace Go.Proofs.YthaicpbdlhkkkaaGreatDoor.ef
open Go.RowKit Go.Proofs.YthaicpbdlhkkkaaGreatDoor.own Go.Proofs.YthaicpbdlhkkkaaGreatDoor.bit

theorem Low_any (n u : Nat) (hn2 : n ≤ 16777216) (hu2 : u < 2 ^ 48) (w : World) :
    Calls Tryz.prog 55 #[formV n u] w fun e w' => e = .returned (.int .i64 ((lowB n u : Nat) : Int)) ∧ Below w.heap.size w w' := by
  obtain ⟨wd, hwd⟩ : ∃ k, wid n u = k := ⟨_, rfl⟩
  obtain ⟨hb, hhb⟩ : ∃ k, hib n u = k := ⟨_, rfl⟩
  have hwl : wd ≤ 47 := by rw [← hwd]; exact wid_le n u hu2
  have hm : n * wd ≤ 16777216 * 47 := Nat.mul_le_mul hn2 hwl
  have e1 : ((n : Int) * (wd : Int)) = ((n * wd : Nat) : Int) := by simp
  have R : Hid (((lowB n u : Nat) : Int) = ((n * wd : Nat) + 7 : Int) / 8) := Lib.hid (by unfold lowB; rw [hwd]; omega)
  unfold formV
  rw [hwd, hhb]
  obtain ⟨p, hp⟩ : ∃ p, n * wd = p := ⟨_, rfl⟩
  rw [hp] at hm e1 R
  have e2 : wrap64 ((n : Int) * (wd : Int)) = (p : Int) := by rw [e1]; exact IntWalk.wrap64_in _ (by omega)
  have e3 : ((p : Int) + 7).tdiv 8 = ((p : Int) + 7) / 8 := Int.tdiv_eq_ediv_of_nonneg (by omega)
  clear hwd hhb hp
  go_enter Tryz.func55, Tryz.ntmps55
  go_wp2_with fail
  go_ret
  exact ⟨by rw [R.out]; rfl, (Below.refl _ _).alloc (Nat.le_refl _) _⟩

theorem High_any (n u : Nat) (hn2 : n ≤ 16777216) (w : World) :
    Calls Tryz.prog 56 #[formV n u] w fun e w' => e = .returned (.int .i64 ((highB n u : Nat) : Int)) ∧ Below w.heap.size w w' := by
  have h1 := hib_lt n u hn2
  have R : Hid (((highB n u : Nat) : Int) = ((hib n u : Nat) + 7 : Int) / 8) := Lib.hid (by unfold highB; omega)
  unfold formV
  obtain ⟨wd, hwd⟩ : ∃ k, wid n u = k := ⟨_, rfl⟩
  obtain ⟨hb, hhb⟩ : ∃ k, hib n u = k := ⟨_, rfl⟩
  rw [hhb] at h1 R
  rw [hwd, hhb]
  have e3 : ((hb : Int) + 7).tdiv 8 = ((hb : Int) + 7) / 8 := Int.tdiv_eq_ediv_of_nonneg (by omega)
  clear hwd hhb
  go_enter Tryz.func56, Tryz.ntmps56
  go_wp2_with fail
  go_ret
  exact ⟨by rw [R.out]; rfl, (Below.refl _ _).alloc (Nat.le_refl _) _⟩

theorem Samples_any (n u : Nat) (hn2 : n ≤ 16777216) (w : World) :
    Calls Tryz.prog 57 #[formV n u] w fun e w' => e = .returned (.int .i64 ((sampB n : Nat) : Int)) ∧ Below w.heap.size w w' := by
  have R : Hid (((sampB n : Nat) : Int) = 4 * (((n : Nat) + 63 : Int) / 64)) := Lib.hid (by unfold sampB; omega)
  unfold formV
  obtain ⟨wd, hwd⟩ : ∃ k, wid n u = k := ⟨_, rfl⟩
  obtain ⟨hb, hhb⟩ : ∃ k, hib n u = k := ⟨_, rfl⟩
  rw [hwd, hhb]
  have e3 : ((n : Int) + 63).tdiv 64 = ((n : Int) + 63) / 64 := Int.tdiv_eq_ediv_of_nonneg (by omega)
  clear hwd hhb
  go_enter Tryz.func57, Tryz.ntmps57
  go_wp2_with fail
  go_ret
  exact ⟨by rw [R.out]; rfl, (Below.refl _ _).alloc (Nat.le_refl _) _⟩

/-- a document's form that lies in a block of its own -/
def DS (w : World) (n u wd hb : Nat) (w' : World) : Prop := Below w.heap.size w w' ∧ w'.heap[w.heap.size]? = some (.cells #[.int .i64 (n : Int), .int .u64 (u : Int), .int .i64 (wd : Int), .int .i64 (hb : Int)] 87 (0, 0))
def DC (w : World) (n u wd hb : Nat) (w' : World) : Prop := w'.cell? ⟨w.heap.size, 0, none⟩ = some (.int .i64 (n : Int)) ∧ w'.cell? ⟨w.heap.size, 1, none⟩ = some (.int .u64 (u : Int)) ∧ w'.cell? ⟨w.heap.size, 2, none⟩ = some (.int .i64 (wd : Int)) ∧ w'.cell? ⟨w.heap.size, 3, none⟩ = some (.int .i64 (hb : Int)) ∧ DS w n u wd hb w'
theorem DS.mk {w : World} {n u wd hb : Nat} {w' : World} (h : DS w n u wd hb w') : DC w n u wd hb w' := by
  refine ⟨?_, ?_, ?_, ?_, h⟩ <;> · rw [cell_of_row _ _ _ _ _ _ h.2]; rfl
theorem DC.ds {w : World} {n u wd hb : Nat} {w' : World} (h : DC w n u wd hb w') : DS w n u wd hb w' := h.2.2.2.2
theorem DS.drew {w : World} {n u wd hb : Nat} {w' : World} (h : DS w n u wd hb w') (k : Nat) : DS w n u wd hb (w'.drewN k) := ⟨⟨h.1.os, h.1.tape, h.1.output, h.1.size, h.1.block⟩, h.2⟩
theorem DS.next {w : World} {n u wd hb : Nat} {w' w2 : World} (h : DS w n u wd hb w') (k : Below w'.heap.size w' w2) : DS w n u wd hb w2 := by
  have hl := lt_of_block h.2
  exact ⟨h.1.trans (k.mono (by omega)), (k.block _ hl).trans h.2⟩
theorem DS.start (w : World) (n u wd hb : Nat) : DS w n u wd hb (w.alloc (.cells #[.int .i64 (n : Int), .int .u64 (u : Int), .int .i64 (wd : Int), .int .i64 (hb : Int)] 87)) := ⟨(Below.refl _ _).alloc (Nat.le_refl _) _, heap_alloc_new w _⟩

theorem Size_any (n u : Nat) (hn2 : n ≤ 16777216) (hu2 : u < 2 ^ 48) (w : World) :
    Calls Tryz.prog 40 #[formV n u] w fun e w' => e = .returned (.int .i64 ((sizeB n u : Nat) : Int)) ∧ Below w.heap.size w w' := by
  have h1 := hib_lt n u hn2
  have h2 := lowB_lt n u hn2 hu2
  have HL := Lib.hid (fun W => Low_any n u hn2 hu2 W)
  have HH := Lib.hid (fun W => High_any n u hn2 W)
  have HS := Lib.hid (fun W => Samples_any n u hn2 W)
  have h3 : highB n u ≤ 6291457 := by unfold highB; omega
  have h4 : sampB n ≤ 1048580 := by unfold sampB; omega
  have R : Hid (((sizeB n u : Nat) : Int) = 12 + (lowB n u : Nat) + (highB n u : Nat) + (sampB n : Nat)) := Lib.hid (by unfold sizeB; omega)
  obtain ⟨tt, htt⟩ : ∃ k, sizeB n u = k := ⟨_, rfl⟩
  rw [htt] at R ⊢
  obtain ⟨la, hla⟩ : ∃ k, lowB n u = k := ⟨_, rfl⟩
  obtain ⟨ha, hha⟩ : ∃ k, highB n u = k := ⟨_, rfl⟩
  obtain ⟨sa, hsa⟩ : ∃ k, sampB n = k := ⟨_, rfl⟩
  rw [hla] at h2 HL R
  rw [hha] at h3 HH R
  rw [hsa] at h4 HS R
  unfold formV at HL HH HS ⊢
  obtain ⟨hb, hhb⟩ : ∃ k, hib n u = k := ⟨_, rfl⟩
  obtain ⟨wd, hwd⟩ : ∃ k, wid n u = k := ⟨_, rfl⟩
  rw [hhb, hwd] at HL HH HS ⊢
  have F0 := Lib.hid (DS.start w n u wd hb)
  clear htt hhb hwd h1 hla hha hsa
  go_enter Tryz.func40, Tryz.ntmps40
  go_upto_region 1 with fail
  generalize World.alloc _ _ = W at F0 ⊢
  have hfs := F0.out
  go_region_held3 (fun w' => w'.cell? ⟨w.heap.size, 0, none⟩ = some (.int .i64 (n : Int)) ∧ w'.cell? ⟨w.heap.size, 1, none⟩ = some (.int .u64 (u : Int)) ∧ w'.cell? ⟨w.heap.size, 2, none⟩ = some (.int .i64 (wd : Int)) ∧ w'.cell? ⟨w.heap.size, 3, none⟩ = some (.int .i64 (hb : Int)) ∧ DS w n u wd hb w')
    (first
      | exact DS.mk (by assumption)
      | exact DS.mk (DS.drew (by assumption) _)
      | exact DS.mk (DC.ds (by assumption))
      | exact DS.mk (DS.drew (DC.ds (by assumption)) _))
    (first
      | (go_at_call 55; refine (HL.out _).mono ?_; rintro e w2 ⟨rfl, k1⟩; first | have hfs2 := DS.next (by assumption) k1 | have hfs2 := DS.next (DC.ds (by assumption)) k1 | have hfs2 := DS.next (DS.drew (by assumption) _) k1 | have hfs2 := DS.next (DS.drew (DC.ds (by assumption)) _) k1)
      | (go_at_call 56; refine (HH.out _).mono ?_; rintro e w2 ⟨rfl, k1⟩; first | have hfs2 := DS.next (by assumption) k1 | have hfs2 := DS.next (DC.ds (by assumption)) k1 | have hfs2 := DS.next (DS.drew (by assumption) _) k1 | have hfs2 := DS.next (DS.drew (DC.ds (by assumption)) _) k1)
      | (go_at_call 57; refine (HS.out _).mono ?_; rintro e w2 ⟨rfl, k1⟩; first | have hfs2 := DS.next (by assumption) k1 | have hfs2 := DS.next (DC.ds (by assumption)) k1 | have hfs2 := DS.next (DS.drew (by assumption) _) k1 | have hfs2 := DS.next (DS.drew (DC.ds (by assumption)) _) k1))
  rw [IntWalk.i64_in (12 + (la : Int)) (by omega), IntWalk.i64_in (12 + (la : Int) + (ha : Int)) (by omega), IntWalk.i64_in (12 + (la : Int) + (ha : Int) + (sa : Int)) (by omega)]
  go_wp2_with fail
  go_ret
  exact ⟨by rw [R.out]; rfl, hfs2.1⟩
end Go.Proofs.YthaicpbdlhkkkaaGreatDoor.ef
