/- codes: split. -/
import Derived.Test.YtflnpcgnenhogaaDoorLsE
import Derived.StillTailTactics
namespace Go.Proofs.YtflnpcgnenhogaaDoor.ls
open Go.RowKit Go.Proofs.YtflnpcgnenhogaaDoor.own Go.Proofs.YtflnpcgnenhogaaDoor.bit
theorem rows3 {w W : World} {a b c : Array Value} {A B C : TypeId} (h : ((w.alloc (.cells a A)).alloc (.cells b B)).alloc (.cells c C) = W) :
    W.heap[w.heap.size]? = some (.cells a A (0, 0)) ∧ W.heap[w.heap.size + 1]? = some (.cells b B (0, 0)) ∧ W.heap[w.heap.size + 1 + 1]? = some (.cells c C (0, 0)) ∧ Below w.heap.size w W := by
  subst h
  have r1 := heap_alloc_new w (.cells a A)
  have r2 := heap_alloc_new (w.alloc (.cells a A)) (.cells b B)
  have r3 := heap_alloc_new ((w.alloc (.cells a A)).alloc (.cells b B)) (.cells c C)
  have z1 : (w.alloc (.cells a A)).heap.size = w.heap.size + 1 := by simp
  have z2 : ((w.alloc (.cells a A)).alloc (.cells b B)).heap.size = w.heap.size + 1 + 1 := by simp
  rw [z1] at r2
  rw [z2] at r3
  refine ⟨?_, ?_, r3, (by repeat (first | exact Below.refl _ _ | refine below_drewN ?_ _ | refine Below.setCell ?_ (by simp; try omega) _ | refine Below.alloc ?_ (by simp; try omega) _))⟩
  · exact (Below.heap_alloc _ _ _ (by omega)).trans ((Below.heap_alloc _ _ _ (by omega)).trans r1)
  · exact (Below.heap_alloc _ _ _ (by omega)).trans r2
theorem st4 {w W : World} {sz : Nat} (K : Below sz w W) (a b c d : Value) : Below sz w ((((W.setCell ⟨sz + 1, 0, none⟩ a).setCell ⟨sz + 1, 1, none⟩ b).setCell ⟨sz + 1, 2, none⟩ c).setCell ⟨sz + 1, 3, none⟩ d) :=
  (((K.setCell (p := ⟨sz + 1, 0, none⟩) (Nat.le_succ sz) a).setCell (p := ⟨sz + 1, 1, none⟩) (Nat.le_succ sz) b).setCell (p := ⟨sz + 1, 2, none⟩) (Nat.le_succ sz) c).setCell (p := ⟨sz + 1, 3, none⟩) (Nat.le_succ sz) d
theorem int_nz (k : Nat) (h : 1 ≤ k) : ¬ (k : Int) = 0 := by omega
theorem u64_pow (m fr : Nat) (h : 2 ^ m = fr) (hl : fr ≤ 9223372036854775808) : IntKind.u64.wrap (2 ^ m) = (fr : Int) := by
  rw [show ((2 : Int) ^ m) = (fr : Int) by rw [← h]; simp, IntKind.wrap_u64]; omega
theorem u64_mul (fr k tt : Nat) (h : fr * 2 ^ k = tt) (hl : tt ≤ 9223372036854775808) : IntKind.u64.wrap ((fr : Int) * 2 ^ k) = (tt : Int) := by
  rw [show ((fr : Int) * 2 ^ k) = (tt : Int) by rw [← h]; simp, IntKind.wrap_u64]; omega
theorem u64_sub (a b : Nat) (h : b ≤ a) (ha : a ≤ 9223372036854775808) : IntKind.u64.wrap ((a : Int) - (b : Int)) = ((a - b : Nat) : Int) := by rw [IntKind.wrap_u64]; omega
theorem u64_succ (v u : Nat) (h : v + 1 = u) (hu : u ≤ 9223372036854775808) : IntKind.u64.wrap ((v : Int) + 1) = (u : Int) := by rw [IntKind.wrap_u64]; omega
theorem i64_pred (b : Nat) (h : b ≤ 9223372036854775806) : IntKind.i64.wrap (((b + 1 : Nat) : Int) - 1) = (b : Int) := by rw [IntWalk.i64_in _ (by omega)]; omega
theorem w64_pred (b : Nat) (h : b ≤ 9223372036854775806) : wrap64 ((b : Int) + 1 - 1) = (b : Int) := by rw [IntWalk.wrap64_in _ (by omega)]; omega
theorem i64_mul (h k m : Nat) (e : h * k = m) (hm : m ≤ 64) : IntKind.i64.wrap ((h : Int) * (k : Int)) = (m : Int) := by
  rw [show ((h : Int) * (k : Int)) = (m : Int) by rw [← e]; simp, IntWalk.i64_in _ (by omega)]
theorem i64_nat (h : Nat) (e : h ≤ 9223372036854775807) : IntKind.i64.wrap (h : Int) = (h : Int) := IntWalk.i64_in _ (by omega)
theorem w64_nat (h : Nat) (e : h ≤ 9223372036854775807) : wrap64 (h : Int) = (h : Int) := IntWalk.wrap64_in _ (by omega)
theorem quo_nat (b k h : Nat) (e : b / k = h) : (b : Int).tdiv (k : Int) = (h : Int) := by rw [Int.tdiv_eq_ediv_of_nonneg (by omega), ← e]; simp
theorem pow63 {a : Nat} (h : a ≤ 63) : 2 ^ a ≤ 9223372036854775808 := by
  have : (2 : Nat) ^ a ≤ 2 ^ 63 := Nat.pow_le_pow_right (by decide) h
  exact this

set_option maxRecDepth 100000 in
set_option maxHeartbeats 1600000 in
theorem split_any (c : Cd) (hc : c.ok) (v : Nat) (hv : v ≤ c.most) (w : World) : Calls Tryd.prog 60 #[cdV c, .int .u64 (v : Int)] w fun e w' => e = .returned (splV (pcs c v)) ∧ Below w.heap.size w w' := by
  have hv48 : v ≤ 281474976710654 := by cases c <;> simp only [Cd.most] at hv <;> omega
  have hv63 : v ≤ 9223372036854775807 := by omega
  obtain ⟨b, hb⟩ : ∃ b, Nat.log2 (v + 1) = b := ⟨_, rfl⟩
  have h1 := Nat.log2_self_le (n := v + 1) (by omega)
  have h3 : Nat.log2 (v + 1) < 48 := log_lt (by rw [show (2 : Nat) ^ 48 = 281474976710656 from rfl]; omega)
  have LN := Lib.hid (fun W => Tryd.bits_Len64 ((v + 1 : Nat) : Int) W (by omega) (by omega))
  rw [Int.toNat_natCast, log2_bitLen (v + 1) (by omega) (by omega)] at LN
  rw [hb] at h1 h3 LN
  obtain ⟨pw, hpw⟩ : ∃ pw, 2 ^ b = pw := ⟨_, rfl⟩
  rw [hpw] at h1
  obtain ⟨u, hu⟩ : ∃ u, v + 1 = u := ⟨_, rfl⟩
  have hul : u ≤ 9223372036854775808 := by omega
  have hb63 : b ≤ 9223372036854775806 := by omega
  rw [hu] at h1 LN
  have e1 := u64_succ v u hu hul
  have e2 := i64_pred b hb63
  have e2' := w64_pred b hb63
  have e3 := u64_pow b pw hpw (Nat.le_trans h1 hul)
  have e4 := u64_sub u pw h1 hul
  have hb64 : min b 64 = b := Nat.min_eq_left (Nat.le_of_lt (Nat.lt_of_lt_of_le h3 (by decide)))
  cases c with
  | una =>
    unfold cdV pcs splV
    dsimp only
    have e5 := w64_nat v hv63
    have e6 := i64_nat v hv63
    clear hu hv hb hpw h1 h3 hv63 hb63 hul hv48
    go_enter Tryd.func60, Tryd.ntmps60
    go_wp2_with fail
    refine (LN.out _).mono ?_
    rintro e w1 ⟨rfl, rfl⟩
    go_upto_region 4 with fail
    generalize hW : World.alloc (World.alloc (World.alloc w _) _) _ = W
    obtain ⟨r1, r2, r3, kb⟩ := rows3 hW
    have KB := Lib.hid kb
    have a0 : W.cell? ⟨w.heap.size, 0, none⟩ = some (.int .u8 0) := by rw [cell_of_row _ _ _ _ _ _ r1]; rfl
    have a1 : W.cell? ⟨w.heap.size, 1, none⟩ = some (.int .u64 0) := by rw [cell_of_row _ _ _ _ _ _ r1]; rfl
    have b0 : W.cell? ⟨w.heap.size + 1, 0, none⟩ = some (.int .u64 0) := by rw [cell_of_row _ _ _ _ _ _ r2]; rfl
    have b1 : W.cell? ⟨w.heap.size + 1, 1, none⟩ = some (.int .i64 0) := by rw [cell_of_row _ _ _ _ _ _ r2]; rfl
    have b2 : W.cell? ⟨w.heap.size + 1, 2, none⟩ = some (.int .u64 0) := by rw [cell_of_row _ _ _ _ _ _ r2]; rfl
    have b3 : W.cell? ⟨w.heap.size + 1, 3, none⟩ = some (.int .i64 0) := by rw [cell_of_row _ _ _ _ _ _ r2]; rfl
    have bf : ∀ j, W.frozen? ⟨w.heap.size + 1, j, none⟩ = false := fun j => frozen_of_row W _ j _ _ r2
    have g0 : W.cell? ⟨w.heap.size + 1 + 1, 0, none⟩ = some (.int .u64 ((u - pw : Nat) : Int)) := by rw [cell_of_row _ _ _ _ _ _ r3]; rfl
    have g1 : W.cell? ⟨w.heap.size + 1 + 1, 1, none⟩ = some (.int .i64 (b : Int)) := by rw [cell_of_row _ _ _ _ _ _ r3]; rfl
    have HR2 := Lib.hid r2
    have hsl := lt_of_block r2
    clear hW kb r1 r2 r3
    obtain ⟨sz, hsz⟩ : ∃ k, w.heap.size = k := ⟨_, rfl⟩
    rw [hsz] at a0 a1 b0 b1 b2 b3 bf g0 g1 KB HR2 hsl ⊢
    go_wp2_with fail
    generalize hW4 : ({ W with drawn := W.drawn + 1 } : World) = W4
    have d0 : W4.cell? ⟨sz + 1, 0, none⟩ = some (.int .u64 0) := by rw [← hW4]; exact b0
    have d1 : W4.cell? ⟨sz + 1, 1, none⟩ = some (.int .i64 0) := by rw [← hW4]; exact b1
    have d2 : W4.cell? ⟨sz + 1, 2, none⟩ = some (.int .u64 0) := by rw [← hW4]; exact b2
    have d3 : W4.cell? ⟨sz + 1, 3, none⟩ = some (.int .i64 0) := by rw [← hW4]; exact b3
    have d4 : W4.cell? ⟨sz + 1 + 1, 0, none⟩ = some (.int .u64 ((u - pw : Nat) : Int)) := by rw [← hW4]; exact g0
    have d5 : W4.cell? ⟨sz + 1 + 1, 1, none⟩ = some (.int .i64 (b : Int)) := by rw [← hW4]; exact g1
    have df : ∀ j, W4.frozen? ⟨sz + 1, j, none⟩ = false := by rw [← hW4]; exact bf
    have K4 : Hid (Below sz w W4) := Lib.hid (by rw [← hW4]; exact KB.out.drew)
    refine wp_region_still_tail 4 (by kernel_rfl) (by kernel_rfl) ?_
    simp only [List.take_succ_cons, List.take_zero, List.drop_succ_cons, List.drop_zero]
    rw [hW4]
    clear hW4
    repeat still_step
    refine wpStill_nil ?_
    go_wp2_with fail
    refine bodyPost_ret (v := .tuple #[.int .i64 (v : Int), .agg #[.int .u64 0, .int .i64 0, .int .u64 0, .int .i64 0]]) (by simp [results, Tryd.results60, go_sem, *]) rfl ⟨rfl, ?_⟩
    rw [hsz]
    exact st4 K4.out _ _ _ _
  | gam =>
    unfold cdV pcs splV
    dsimp only
    rw [hb, hpw, hu]
    clear hu hv hb hpw h1 h3 hv63 hb63 hul hv48
    go_enter Tryd.func60, Tryd.ntmps60
    go_wp2_with fail
    refine (LN.out _).mono ?_
    rintro e w1 ⟨rfl, rfl⟩
    go_upto_region 4 with fail
    generalize hW : World.alloc (World.alloc (World.alloc w _) _) _ = W
    obtain ⟨r1, r2, r3, kb⟩ := rows3 hW
    have KB := Lib.hid kb
    have a0 : W.cell? ⟨w.heap.size, 0, none⟩ = some (.int .u8 1) := by rw [cell_of_row _ _ _ _ _ _ r1]; rfl
    have a1 : W.cell? ⟨w.heap.size, 1, none⟩ = some (.int .u64 0) := by rw [cell_of_row _ _ _ _ _ _ r1]; rfl
    have b0 : W.cell? ⟨w.heap.size + 1, 0, none⟩ = some (.int .u64 0) := by rw [cell_of_row _ _ _ _ _ _ r2]; rfl
    have b1 : W.cell? ⟨w.heap.size + 1, 1, none⟩ = some (.int .i64 0) := by rw [cell_of_row _ _ _ _ _ _ r2]; rfl
    have b2 : W.cell? ⟨w.heap.size + 1, 2, none⟩ = some (.int .u64 0) := by rw [cell_of_row _ _ _ _ _ _ r2]; rfl
    have b3 : W.cell? ⟨w.heap.size + 1, 3, none⟩ = some (.int .i64 0) := by rw [cell_of_row _ _ _ _ _ _ r2]; rfl
    have bf : ∀ j, W.frozen? ⟨w.heap.size + 1, j, none⟩ = false := fun j => frozen_of_row W _ j _ _ r2
    have g0 : W.cell? ⟨w.heap.size + 1 + 1, 0, none⟩ = some (.int .u64 ((u - pw : Nat) : Int)) := by rw [cell_of_row _ _ _ _ _ _ r3]; rfl
    have g1 : W.cell? ⟨w.heap.size + 1 + 1, 1, none⟩ = some (.int .i64 (b : Int)) := by rw [cell_of_row _ _ _ _ _ _ r3]; rfl
    have HR2 := Lib.hid r2
    have hsl := lt_of_block r2
    clear hW kb r1 r2 r3
    obtain ⟨sz, hsz⟩ : ∃ k, w.heap.size = k := ⟨_, rfl⟩
    rw [hsz] at a0 a1 b0 b1 b2 b3 bf g0 g1 KB HR2 hsl ⊢
    go_wp2_with fail
    generalize hW4 : ({ W with drawn := W.drawn + 1 } : World) = W4
    have d0 : W4.cell? ⟨sz + 1, 0, none⟩ = some (.int .u64 0) := by rw [← hW4]; exact b0
    have d1 : W4.cell? ⟨sz + 1, 1, none⟩ = some (.int .i64 0) := by rw [← hW4]; exact b1
    have d2 : W4.cell? ⟨sz + 1, 2, none⟩ = some (.int .u64 0) := by rw [← hW4]; exact b2
    have d3 : W4.cell? ⟨sz + 1, 3, none⟩ = some (.int .i64 0) := by rw [← hW4]; exact b3
    have d4 : W4.cell? ⟨sz + 1 + 1, 0, none⟩ = some (.int .u64 ((u - pw : Nat) : Int)) := by rw [← hW4]; exact g0
    have d5 : W4.cell? ⟨sz + 1 + 1, 1, none⟩ = some (.int .i64 (b : Int)) := by rw [← hW4]; exact g1
    have df : ∀ j, W4.frozen? ⟨sz + 1, j, none⟩ = false := by rw [← hW4]; exact bf
    have K4 : Hid (Below sz w W4) := Lib.hid (by rw [← hW4]; exact KB.out.drew)
    refine wp_region_still_tail 4 (by kernel_rfl) (by kernel_rfl) ?_
    simp only [List.take_succ_cons, List.take_zero, List.drop_succ_cons, List.drop_zero]
    rw [hW4]
    clear hW4
    repeat still_step
    refine wpStill_nil ?_
    go_wp2_with fail
    refine bodyPost_ret (v := .tuple #[.int .i64 (b : Int), .agg #[.int .u64 ((u - pw : Nat) : Int), .int .i64 (b : Int), .int .u64 0, .int .i64 0]]) (by simp [results, Tryd.results60, go_sem, *]) rfl ⟨rfl, ?_⟩
    rw [hsz]
    exact st4 K4.out _ _ _ _
  | zet k =>
    obtain ⟨hk1, hk2⟩ : 1 ≤ k ∧ k ≤ 16 := hc
    obtain ⟨p1, p2⟩ := zet_parts k v hk1
    unfold cdV pcs splV
    dsimp only
    rw [hb, hu] at p1 p2
    rw [hb, hu]
    obtain ⟨h, hh⟩ : ∃ h, b / k = h := ⟨_, rfl⟩
    rw [hh] at p1 p2 ⊢
    have hhk : h * k ≤ b := by rw [← hh]; exact Nat.div_mul_le_self b k
    obtain ⟨m, hm⟩ : ∃ m, h * k = m := ⟨_, rfl⟩
    have hm1 : (h + 1) * k = m + k := by rw [Nat.add_mul, hm, Nat.one_mul]
    rw [hm1, hm] at p1 ⊢
    rw [hm] at p2 hhk
    obtain ⟨fr, hfr⟩ : ∃ fr, 2 ^ m = fr := ⟨_, rfl⟩
    obtain ⟨tt, htt⟩ : ∃ tt, 2 ^ (m + k) = tt := ⟨_, rfl⟩
    have hfk : fr * 2 ^ k = tt := by rw [← hfr, ← htt, Nat.pow_add]
    have hmk : m + k ≤ 63 := Nat.add_le_add (Nat.le_trans hhk (Nat.le_of_lt_succ h3)) hk2
    have htt2 : tt ≤ 9223372036854775808 := htt ▸ pow63 hmk
    have hfr2 : fr ≤ tt := by rw [← hfk]; exact Nat.le_mul_of_pos_right _ (Nat.pow_pos (by decide))
    rw [hfr, htt] at p1 ⊢
    rw [hfr] at p2
    have SH := Lib.hid (fun W => short_any (u - fr) (tt - fr) p1 (Nat.le_trans (Nat.sub_le _ _) htt2) W)
    obtain ⟨P, hP⟩ : ∃ P, shP (u - fr) (tt - fr) = P := ⟨_, rfl⟩
    rw [hP] at SH ⊢
    have hm64 : m ≤ 64 := Nat.le_trans hhk (Nat.le_trans (Nat.le_of_lt h3) (by decide))
    have hkl : k ≤ 9223372036854775807 := Nat.le_trans hk2 (by decide)
    have hhl : h ≤ 9223372036854775807 := Nat.le_trans (hh ▸ Nat.div_le_self b k) (Nat.le_trans (Nat.le_of_lt h3) (by decide))
    have f0 := w64_nat k hkl
    have f0' := i64_nat k hkl
    have f1 := quo_nat b k h hh
    have f2 := int_nz k hk1
    have f3 := i64_mul h k m hm hm64
    have f4 : min m 64 = m := Nat.min_eq_left hm64
    have f5 := u64_pow m fr hfr (Nat.le_trans hfr2 htt2)
    have f6 := u64_sub u fr p2 hul
    have f7 : min k 64 = k := Nat.min_eq_left (Nat.le_trans hk2 (by decide))
    have f8 := u64_mul fr k tt hfk htt2
    have f9 := u64_sub tt fr hfr2 htt2
    have f10 := i64_nat h hhl
    have f11 : (0 : Int) ≤ (m : Int) := Int.natCast_nonneg m
    have f12 : (0 : Int) ≤ (k : Int) := Int.natCast_nonneg k
    have F5 := Lib.hid f5
    have F6 := Lib.hid f6
    have F8 := Lib.hid f8
    have F9 := Lib.hid f9
    have F3 := Lib.hid f3
    have FF := Lib.hid (And.intro f0 (And.intro f0' (And.intro f1 (And.intro f2 (And.intro f4 (And.intro f7 (And.intro f10 (And.intro f11 f12))))))))
    clear hmk hfr2 hm64 hkl hhl f0 f0' f1 f2 f3 f4 f5 f6 f7 f8 f9 f10 f11 f12
    clear hu hv hb hpw h1 h3 hv63 hb63 hul hv48 p1 p2 hh hhk hm hm1 hfr htt hfk htt2 hP
    go_enter Tryd.func60, Tryd.ntmps60
    go_wp2_with fail
    refine (LN.out _).mono ?_
    rintro e w1 ⟨rfl, rfl⟩
    go_upto_region 4 with fail
    generalize hW : World.alloc (World.alloc (World.alloc w _) _) _ = W
    obtain ⟨r1, r2, r3, kb⟩ := rows3 hW
    have KB := Lib.hid kb
    have a0 : W.cell? ⟨w.heap.size, 0, none⟩ = some (.int .u8 3) := by rw [cell_of_row _ _ _ _ _ _ r1]; rfl
    have a1 : W.cell? ⟨w.heap.size, 1, none⟩ = some (.int .u64 (k : Int)) := by rw [cell_of_row _ _ _ _ _ _ r1]; rfl
    have b0 : W.cell? ⟨w.heap.size + 1, 0, none⟩ = some (.int .u64 0) := by rw [cell_of_row _ _ _ _ _ _ r2]; rfl
    have b1 : W.cell? ⟨w.heap.size + 1, 1, none⟩ = some (.int .i64 0) := by rw [cell_of_row _ _ _ _ _ _ r2]; rfl
    have b2 : W.cell? ⟨w.heap.size + 1, 2, none⟩ = some (.int .u64 0) := by rw [cell_of_row _ _ _ _ _ _ r2]; rfl
    have b3 : W.cell? ⟨w.heap.size + 1, 3, none⟩ = some (.int .i64 0) := by rw [cell_of_row _ _ _ _ _ _ r2]; rfl
    have bf : ∀ j, W.frozen? ⟨w.heap.size + 1, j, none⟩ = false := fun j => frozen_of_row W _ j _ _ r2
    have g0 : W.cell? ⟨w.heap.size + 1 + 1, 0, none⟩ = some (.int .u64 ((u - pw : Nat) : Int)) := by rw [cell_of_row _ _ _ _ _ _ r3]; rfl
    have g1 : W.cell? ⟨w.heap.size + 1 + 1, 1, none⟩ = some (.int .i64 (b : Int)) := by rw [cell_of_row _ _ _ _ _ _ r3]; rfl
    have HR2 := Lib.hid r2
    have hsl := lt_of_block r2
    clear hW kb r1 r2 r3
    obtain ⟨sz, hsz⟩ : ∃ k, w.heap.size = k := ⟨_, rfl⟩
    rw [hsz] at a0 a1 b0 b1 b2 b3 bf g0 g1 KB HR2 hsl ⊢
    clear e1 e2 e2' e3 e4 hb64
    obtain ⟨f0, f0', f1, f2, f4, f7, f10, f11, f12⟩ := FF.out
    go_upto_region 14 with fail
    go_upto_region 15 with fail
    go_upto_region 16 with fail
    have f3 := F3.out
    have f5 := F5.out
    go_upto_region 17 with fail
    clear f3 f5
    have f6 := F6.out
    have f8 := F8.out
    have f9 := F9.out
    go_wp2_with fail
    refine (SH.out _).mono ?_
    rintro e w2 ⟨rfl, k2⟩
    have r2 := (k2.block _ hsl).trans HR2.out
    have bf2 : ∀ j, w2.frozen? ⟨sz + 1, j, none⟩ = false := fun j => frozen_of_row w2 _ j _ _ r2
    have b20 : w2.cell? ⟨sz + 1, 0, none⟩ = some (.int .u64 0) := by rw [cell_of_row _ _ _ _ _ _ r2]; rfl
    have b21 : w2.cell? ⟨sz + 1, 1, none⟩ = some (.int .i64 0) := by rw [cell_of_row _ _ _ _ _ _ r2]; rfl
    have b22 : w2.cell? ⟨sz + 1, 2, none⟩ = some (.int .u64 0) := by rw [cell_of_row _ _ _ _ _ _ r2]; rfl
    have b23 : w2.cell? ⟨sz + 1, 3, none⟩ = some (.int .i64 0) := by rw [cell_of_row _ _ _ _ _ _ r2]; rfl
    have K2 := Lib.hid (KB.out.trans (k2.mono (by rw [← hsz]; exact KB.out.size)))
    clear k2 r2
    go_wp2_with fail
    refine bodyPost_ret (v := .tuple #[.int .i64 (h : Int), .agg #[.int .u64 (P.1 : Int), .int .i64 (P.2 : Int), .int .u64 0, .int .i64 0]]) (by simp [results, Tryd.results60, go_sem, *]) rfl ⟨rfl, ?_⟩
    rw [hsz]
    exact st4 K2.out _ _ _ _
end Go.Proofs.YtflnpcgnenhogaaDoor.ls
