/- The document's Open. -/
import Derived.Test.YthaicpbdlhkkkaaEfE
namespace Go.Proofs.Ythaicpbdlhkkkaa.ef
open Go.RowKit Go.Proofs.Ythaicpbdlhkkkaa.own Go.Proofs.Ythaicpbdlhkkkaa.bit

theorem of_zero (u : Nat) (w : World) :
    Calls Try.prog 51 #[.int .i64 0, .int .u64 (u : Int)] w fun e w' => e = .returned (formV 0 u) ∧ Below w.heap.size w w' := by
  go_enter Try.func51, Try.ntmps51
  go_wp2_with fail
  refine bodyPost_ret (v := .agg #[.int .i64 0, .int .u64 (u : Int), .int .i64 0, .int .i64 0]) (by simp [results, Try.results51, go_sem]) rfl ⟨rfl, ((Below.refl _ _).alloc (Nat.le_refl _) _).alloc (by simp) _⟩

theorem of_both (n u : Nat) (hn2 : n ≤ 16777216) (hu2 : u < 2 ^ 48) (h : n = 0 ↔ u = 0) (w : World) :
    Calls Try.prog 51 #[.int .i64 (n : Int), .int .u64 (u : Int)] w fun e w' => e = .returned (formV n u) ∧ Below w.heap.size w w' := by
  by_cases h0 : n = 0
  · subst h0
    exact of_zero u w
  · exact of_any n u (by omega) hn2 (by omega) hu2 w

def zeroForm : Value := .agg #[.int .i64 0, .int .u64 0, .int .i64 0, .int .i64 0]
def DOpenPost (s : ByteArray) (w : World) (e : Ending) (w' : World) : Prop :=
  Below w.heap.size w w' ∧ ((opens (nats s) ∧ e = .returned (.tuple #[formV (nS (nats s)) (uS (nats s)), .int .i64 0])) ∨ (¬ opens (nats s) ∧ e = .returned (.tuple #[zeroForm, .int .i64 4])))

theorem dopen_short (s : ByteArray) (w : World) (hs : s.size < 12) :
    Calls Try.prog 28 #[.string s] w (DOpenPost s w) := by
  have NO : Hid (¬ opens (nats s)) := Lib.hid (fun ho => by have := ho.1; rw [nats_length] at this; omega)
  go_enter Try.func28, Try.ntmps28
  go_wp2_with fail
  refine bodyPost_ret (v := .tuple #[.agg #[.int .i64 0, .int .u64 0, .int .i64 0, .int .i64 0], .int .i64 4]) (by simp [results, Try.results28, go_sem]) rfl ⟨(Below.refl _ _).alloc (Nat.le_refl _) _, .inr ⟨NO.out, rfl⟩⟩

set_option maxRecDepth 100000 in
set_option maxHeartbeats 1600000 in
theorem dopen_long (s : ByteArray) (w : World) (hs : s.size ≤ maxLen) (h12 : 12 ≤ s.size) :
    Calls Try.prog 28 #[.string s] w (DOpenPost s w) := by
  have hs2 : s.size ≤ 9223372036854775807 := by unfold maxLen at hs; omega
  obtain ⟨t1, ht1⟩ : ∃ t1, s.extract 0 4 = t1 := ⟨_, rfl⟩
  obtain ⟨t2, ht2⟩ : ∃ t2, s.extract 4 12 = t2 := ⟨_, rfl⟩
  have h1 : nats t1 = (nats s).take 4 := by rw [← ht1, nats_extract]; simp
  have h2 : nats t2 = ((nats s).drop 4).take 8 := by rw [← ht2, nats_extract]
  have z1 : t1.size = 4 := by rw [← nats_length, h1, List.length_take, nats_length]; omega
  have z2 : t2.size = 8 := by rw [← nats_length, h2, List.length_take, List.length_drop, nats_length]; omega
  have HN1 := Lib.hid (fun W => value_any t1 (by omega) W)
  have HN2 := Lib.hid (fun W => value_any t2 (by omega) W)
  have e1 : val (nats t1) = nS (nats s) := by rw [h1]; rfl
  have e2 : val (nats t2) = uS (nats s) := by rw [h2]; rfl
  rw [e1] at HN1
  rw [e2] at HN2
  have b1 : nS (nats s) < 4294967296 := by rw [← e1]; exact val4 _ (nats_lt t1) (by rw [nats_length]; omega)
  have b2 : uS (nats s) < 18446744073709551616 := by rw [← e2]; exact val8 _ (nats_lt t2) (by rw [nats_length]; omega)
  have OP : Hid (opens (nats s) ↔ nS (nats s) ≤ 16777216 ∧ uS (nats s) ≤ 281474976710655 ∧ (nS (nats s) = 0 ↔ uS (nats s) = 0) ∧ sizeB (nS (nats s)) (uS (nats s)) = s.size) := Lib.hid (by
    unfold opens
    rw [nats_length]
    constructor
    · exact fun h => h.2
    · exact fun h => ⟨h12, h⟩)
  unfold DOpenPost
  generalize nS (nats s) = n at *
  generalize uS (nats s) = u at *
  have HT1 := Lib.hid ht1
  have HT2 := Lib.hid ht2
  have z3 : ¬ (s.size : Int) < 12 := by omega
  clear ht1 ht2 h1 h2 e1 e2
  by_cases hgood : n ≤ 16777216 ∧ u ≤ 281474976710655 ∧ (n = 0 ↔ u = 0)
  · obtain ⟨g1, g2, g3⟩ := hgood
    have c1 : ¬ (16777216 : Int) < (n : Int) := by omega
    have c2 : ¬ (281474976710655 : Int) < (u : Int) := by omega
    have c3 : ((n : Int) == 0) = ((u : Int) == 0) := by
      by_cases h0 : n = 0
      · have := g3.1 h0; subst h0; subst this; rfl
      · have : u ≠ 0 := fun h => h0 (g3.2 h)
        rw [beq_eq_false_iff_ne.2 (by omega), beq_eq_false_iff_ne.2 (by omega)]
    have HF := Lib.hid (fun W => of_both n u g1 (by omega) g3 W)
    have HS := Lib.hid (fun W => Size_any n u g1 (by omega) W)
    have hsz : sizeB n u ≤ 9223372036854775807 := by
      have a1 := lowB_lt n u g1 (by omega)
      have a2 := hib_lt n u g1
      unfold sizeB highB sampB
      omega
    have OQ : Hid (opens (nats s) ↔ sizeB n u = s.size) := Lib.hid (by rw [OP.out]; exact ⟨fun h => h.2.2.2, fun h => ⟨g1, g2, g3, h⟩⟩)
    unfold formV at HF HS ⊢
    generalize sizeB n u = z at *
    generalize wid n u = wd at *
    generalize hib n u = hb at *
    clear OP g3
    go_enter Try.func28, Try.ntmps28
    go_upto_region 1 with fail
    have r0 := heap_alloc_new w (.cells #[.int .i64 0, .int .u64 0, .int .i64 0, .int .i64 0] 64)
    have k0 : Below w.heap.size w (w.alloc (.cells #[.int .i64 0, .int .u64 0, .int .i64 0, .int .i64 0] 64)) := (Below.refl _ _).alloc (Nat.le_refl _) _
    obtain ⟨sz, hsz2⟩ : ∃ k, w.heap.size = k := ⟨_, rfl⟩
    rw [hsz2] at r0 k0 ⊢
    generalize w.alloc _ = W0 at r0 k0 ⊢
    have K0 := k0.size
    go_wp2_with fail
    rw [HT1.out]
    refine (HN1.out _).mono ?_
    rintro e w1 ⟨rfl, rfl⟩
    go_wp2_with fail
    rw [HT2.out]
    refine (HN2.out _).mono ?_
    rintro e w2 ⟨rfl, rfl⟩
    go_wp2_with fail
    refine (HF.out _).mono ?_
    rintro e w3 ⟨rfl, k3⟩
    have r3 := (k3.block sz (lt_of_block r0)).trans r0
    have B3 : Below sz w w3 := k0.trans (k3.mono (Nat.le_of_lt (lt_of_block r0)))
    go_upto_region 8 with fail
    have F0 := DS.start w3 n u wd hb
    have r4 : (w3.alloc (.cells #[.int .i64 (n : Int), .int .u64 (u : Int), .int .i64 (wd : Int), .int .i64 (hb : Int)] 64)).heap[sz]? = some (.cells #[.int .i64 0, .int .u64 0, .int .i64 0, .int .i64 0] 64 (0, 0)) := (Below.heap_alloc _ _ _ (lt_of_block r3)).trans r3
    generalize w3.alloc _ = w4 at F0 r4 ⊢
    have e3 := lt_of_block r3
    have F0H := Lib.hid F0
    obtain ⟨a0, a1, a2, a3, -⟩ := F0.mk
    clear F0
    go_wp2_with fail
    refine (HS.out _).mono ?_
    rintro e w5 ⟨rfl, k5⟩
    have F1 := F0H.out.next k5
    have r5 := (k5.block sz (lt_of_block r4)).trans r4
    have B5 : Below sz w w5 := B3.trans (F1.1.mono (Nat.le_of_lt e3))
    obtain ⟨b0, b1, b2, b3, -⟩ := F1.mk
    have d0 : w5.cell? ⟨sz, 0, none⟩ = some (.int .i64 0) := by rw [cell_of_row _ _ _ _ _ _ r5]; rfl
    have d1 : w5.cell? ⟨sz, 1, none⟩ = some (.int .u64 0) := by rw [cell_of_row _ _ _ _ _ _ r5]; rfl
    have d2 : w5.cell? ⟨sz, 2, none⟩ = some (.int .i64 0) := by rw [cell_of_row _ _ _ _ _ _ r5]; rfl
    have d3 : w5.cell? ⟨sz, 3, none⟩ = some (.int .i64 0) := by rw [cell_of_row _ _ _ _ _ _ r5]; rfl
    have dg : ∀ j, w5.frozen? ⟨sz, j, none⟩ = false := fun j => frozen_of_row w5 _ j _ _ r5
    have hne : w3.heap.size ≠ sz := by omega
    have hne2 : sz ≠ w3.heap.size := by omega
    have BB : Hid (∀ v0 v1 v2 v3, Below w.heap.size w ((((w5.setCell ⟨sz, 0, none⟩ v0).setCell ⟨sz, 1, none⟩ v1).setCell ⟨sz, 2, none⟩ v2).setCell ⟨sz, 3, none⟩ v3)) := Lib.hid (fun v0 v1 v2 v3 => by
      rw [hsz2]
      exact (((B5.setCell (Nat.le_refl _) _).setCell (Nat.le_refl _) _).setCell (Nat.le_refl _) _).setCell (Nat.le_refl _) _)
    clear a0 a1 a2 a3 k5 F1 r5 B3 r4 F0H r3 k3 r0 k0
    by_cases hzs : z = s.size
    · subst hzs
      have ze : ((s.size : Int) == (s.size : Int)) = true := beq_self_eq_true _
      go_wp2_with fail
      refine bodyPost_ret (v := .tuple #[.agg #[.int .i64 (n : Int), .int .u64 (u : Int), .int .i64 (wd : Int), .int .i64 (hb : Int)], .int .i64 0]) (by simp [results, Try.results28, go_sem, d0, d1, d2, d3]) rfl ⟨BB.out _ _ _ _, .inl ⟨(by first | exact OQ.out.2 rfl | exact OQ.out.2 trivial), rfl⟩⟩
    · have ze : ((z : Int) == (s.size : Int)) = false := beq_eq_false_iff_ne.2 (by omega)
      go_wp2_with fail
      refine bodyPost_ret (v := .tuple #[.agg #[.int .i64 0, .int .u64 0, .int .i64 0, .int .i64 0], .int .i64 4]) (by simp [results, Try.results28, go_sem, d0, d1, d2, d3]) rfl ⟨BB.out _ _ _ _, .inr ⟨fun h => hzs (OQ.out.1 h), rfl⟩⟩
  · have NO : Hid (¬ opens (nats s)) := Lib.hid (fun h => hgood (by have := OP.out.1 h; exact ⟨this.1, this.2.1, this.2.2.1⟩))
    have hcase : 16777216 < n ∨ (n ≤ 16777216 ∧ 281474976710655 < u) ∨ (n ≤ 16777216 ∧ u ≤ 281474976710655 ∧ ((n : Int) == 0) = !((u : Int) == 0)) := by
      by_cases a1 : n ≤ 16777216
      · by_cases a2 : u ≤ 281474976710655
        · refine .inr (.inr ⟨a1, a2, ?_⟩)
          by_cases h0 : n = 0
          · by_cases h1 : u = 0
            · exact absurd ⟨a1, a2, by omega⟩ hgood
            · rw [beq_iff_eq.2 (by omega : (n : Int) = 0), beq_eq_false_iff_ne.2 (by omega)]; rfl
          · by_cases h1 : u = 0
            · rw [beq_iff_eq.2 (by omega : (u : Int) = 0), beq_eq_false_iff_ne.2 (by omega)]; rfl
            · exact absurd ⟨a1, a2, by omega⟩ hgood
        · exact .inr (.inl ⟨a1, by omega⟩)
      · exact .inl (by omega)
    clear hgood OP
    obtain ⟨bu, hbu⟩ : ∃ b, ((u : Int) == 0) = b := ⟨_, rfl⟩
    rw [hbu] at hcase
    rcases hcase with c1 | ⟨c1, c2⟩ | ⟨c1, c2, c3⟩
    all_goals
      go_enter Try.func28, Try.ntmps28
      go_wp2_with fail
      rw [HT1.out]
      refine (HN1.out _).mono ?_
      rintro e w1 ⟨rfl, rfl⟩
      go_wp2_with fail
      rw [HT2.out]
      refine (HN2.out _).mono ?_
      rintro e w2 ⟨rfl, rfl⟩
      go_wp2_with fail
      refine bodyPost_ret (v := .tuple #[.agg #[.int .i64 0, .int .u64 0, .int .i64 0, .int .i64 0], .int .i64 4]) (by simp [results, Try.results28, go_sem]) rfl ⟨(by repeat (first | exact Below.refl _ _ | refine below_drewN ?_ _ | refine Below.setCell ?_ (by simp; try omega) _ | refine Below.alloc ?_ (by simp; try omega) _)), .inr ⟨NO.out, rfl⟩⟩
theorem dopen_any (s : ByteArray) (w : World) (hs : s.size ≤ maxLen) : Calls Try.prog 28 #[.string s] w (DOpenPost s w) := by
  by_cases h : 12 ≤ s.size
  · exact dopen_long s w hs h
  · exact dopen_short s w (by omega)
end Go.Proofs.Ythaicpbdlhkkkaa.ef
