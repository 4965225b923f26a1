/- pack: Size, the program's and the document's. -/
import Derived.Test.YthaicpbdlhkkkaaGreatDoorPkJ
import Derived.Test.YthaicpbdlhkkkaaGreatDoorEfC
namespace Go.Proofs.YthaicpbdlhkkkaaGreatDoor.pk
open Go.RowKit Go.Proofs.YthaicpbdlhkkkaaGreatDoor.own Go.Proofs.YthaicpbdlhkkkaaGreatDoor.bit Go.Proofs.YthaicpbdlhkkkaaGreatDoor.ef

set_option maxRecDepth 100000 in
theorem efsize_any (n u : Nat) (hn : 0 < n) (hn2 : n ≤ 65537) (hu : u ≤ 134217728) (w : World) :
    Calls Tryz.prog 19 #[.int .i64 (n : Int), .int .u64 (u : Int)] w fun e w' => e = .returned (.tuple #[.int .i64 ((sizeB n (u + 1) : Nat) : Int), .int .i64 0]) ∧ Below w.heap.size w w' := by
  have FO := Lib.hid (fun W => formed_any n (u + 1) hn (by omega) (by omega) (by omega) W)
  have SI := Lib.hid (fun W => size_any n (u + 1) (by omega) (by omega) W)
  have u1 : IntKind.u64.wrap ((u : Int) + 1) = ((u + 1 : Nat) : Int) := by rw [wraps_u64_64 _ (by omega) (by omega)]; omega
  have z0 : ((n : Int) == 0) = false := beq_eq_false_iff_ne.2 (by omega)
  have e1 : (n : Int) ≤ 16777216 := by omega
  have e2 : (u : Int) ≤ 281474976710654 := by omega
  have e3 : 0 < (n : Int) := by omega
  clear hn hn2 hu
  go_enter Tryz.func19, Tryz.ntmps19
  go_wp2_with fail
  refine (FO.out _).mono ?_
  rintro e w1 ⟨rfl, k1⟩
  go_wp2_with fail
  refine (SI.out _).mono ?_
  rintro e w2 ⟨rfl, k2⟩
  go_wp2_with fail
  go_ret2
  exact ⟨rfl, below_more k1 k2⟩

set_option maxRecDepth 100000 in
theorem desize_any (n u : Nat) (hn : 0 < n) (hn2 : n ≤ 65537) (hu : u ≤ 134217728) (w : World) :
    Calls Tryz.prog 20 #[.int .i64 (n : Int), .int .u64 (u : Int)] w fun e w' => e = .returned (.tuple #[.int .i64 ((sizeB n (u + 1) : Nat) : Int), .int .i64 0]) ∧ Below w.heap.size w w' := by
  have FO := Lib.hid (fun W => of_any n (u + 1) hn (by omega) (by omega) (by omega) W)
  have SI := Lib.hid (fun W => Size_any n (u + 1) (by omega) (by omega) W)
  have u1 : IntKind.u64.wrap ((u : Int) + 1) = ((u + 1 : Nat) : Int) := by rw [wraps_u64_64 _ (by omega) (by omega)]; omega
  have z0 : ((n : Int) == 0) = false := beq_eq_false_iff_ne.2 (by omega)
  have e1 : (n : Int) ≤ 16777216 := by omega
  have e2 : (u : Int) ≤ 281474976710654 := by omega
  have e3 : 0 < (n : Int) := by omega
  clear hn hn2 hu
  go_enter Tryz.func20, Tryz.ntmps20
  go_wp2_with fail
  refine (FO.out _).mono ?_
  rintro e w1 ⟨rfl, k1⟩
  go_wp2_with fail
  refine (SI.out _).mono ?_
  rintro e w2 ⟨rfl, k2⟩
  go_wp2_with fail
  go_ret2
  exact ⟨rfl, below_more k1 k2⟩

/-- a size, or a refusal -/
def SizePost (n m a d i z c b : Int) (w : World) (e : Ending) (w' : World) : Prop :=
  Below w.heap.size w w' ∧ ((headOk n m a d i z c b ∧ e = .returned (.tuple #[.int .i64 (28 + (b + 7).tdiv 8 + (sizeB (n + 1).toNat (b.toNat + 1) : Nat)), .int .i64 0])) ∨ (¬ headOk n m a d i z c b ∧ e = .returned (.tuple #[.int .i64 0, .int .i64 1])))
theorem sizeB_lt (n u : Nat) (hn2 : n ≤ 65537) (hu2 : u ≤ 134217729) : sizeB n u ≤ 1073741824 := by
  have h1 := hib_lt n u (by omega)
  have h2 := lowB_lt n u (by omega) (by omega)
  unfold sizeB highB sampB
  omega

set_option maxRecDepth 100000 in
set_option maxHeartbeats 3200000 in
theorem hsize_any (n m a d i z c b : Int) (w : World) :
    Calls Tryz.prog 7 #[headV n m a d i z c b] w (SizePost n m a d i z c b w) := by
  have CH := Lib.hid (fun W => hcheck_any n m a d i z c b W)
  by_cases hok : headOk n m a d i z c b
  · have HOK := Lib.hid hok
    have hok2 := hok
    obtain ⟨n0, n1, m0, m1, b0, b1, -⟩ := hok2
    obtain ⟨n, rfl⟩ := Int.eq_ofNat_of_zero_le n0
    obtain ⟨b, rfl⟩ := Int.eq_ofNat_of_zero_le b0
    have SI := Lib.hid (fun W => efsize_any (n + 1) b (by omega) (by omega) (by omega) W)
    have SB := Lib.hid (sizeB_lt (n + 1) (b + 1) (by omega) (by omega))
    have u1 : IntKind.u64.wrap (b : Int) = (b : Int) := wraps_u64_64 _ (by omega) (by omega)
    have u2 : IntKind.i64.wrap ((n : Int) + 1) = ((n + 1 : Nat) : Int) := by rw [IntWalk.i64_in _ (by omega)]; omega
    have u3 : IntKind.i64.wrap ((b : Int) + 7) = (b : Int) + 7 := IntWalk.i64_in _ (by omega)
    have q0 : 0 ≤ ((b : Int) + 7).tdiv 8 ∧ ((b : Int) + 7).tdiv 8 ≤ 16777217 := by
      rw [Int.tdiv_eq_ediv_of_nonneg (by omega)]; omega
    have u4 : IntKind.i64.wrap (((b : Int) + 7).tdiv 8) = ((b : Int) + 7).tdiv 8 := IntWalk.i64_in _ (by omega)
    have u5 : IntKind.i64.wrap (28 + ((b : Int) + 7).tdiv 8) = 28 + ((b : Int) + 7).tdiv 8 := IntWalk.i64_in _ (by omega)
    obtain ⟨S, hS⟩ : ∃ S, sizeB (n + 1) (b + 1) = S := ⟨_, rfl⟩
    rw [hS] at SI SB
    have u6 : IntKind.i64.wrap (28 + ((b : Int) + 7).tdiv 8 + (S : Int)) = 28 + ((b : Int) + 7).tdiv 8 + (S : Int) := IntWalk.i64_in _ (by have := SB.out; omega)
    have HS := Lib.hid hS
    clear hS SB q0
    unfold headV at CH ⊢
    clear hok n0 n1 m0 m1 b0 b1
    go_enter Tryz.func7, Tryz.ntmps7
    go_upto_region 1 with fail
    have r0 := heap_alloc_new w (.cells #[.int .i64 n, .int .i64 m, .int .i64 a, .int .i64 d, .int .i64 i, .int .i64 z, .int .i64 c, .int .i64 b] 30)
    have k0 : Below w.heap.size w (w.alloc (.cells #[.int .i64 n, .int .i64 m, .int .i64 a, .int .i64 d, .int .i64 i, .int .i64 z, .int .i64 c, .int .i64 b] 30)) := (Below.refl _ _).alloc (Nat.le_refl _) _
    have R0 := Lib.hid r0
    have K0 := Lib.hid k0
    clear k0 r0
    go_wp2_with fail
    refine (CH.out _).mono ?_
    rintro e w2 ⟨k2, ⟨-, rfl⟩ | ⟨hno, -⟩⟩
    rotate_left
    · exact absurd HOK.out hno
    have r2 := ((k2.block _ (lt_of_block R0.out)).trans R0.out)
    have R2 := Lib.hid r2
    have c0 : w2.cell? ⟨w.heap.size, 0, none⟩ = some (.int .i64 (n : Int)) := by rw [cell_of_row _ _ _ _ _ _ r2]; rfl
    have c7 : w2.cell? ⟨w.heap.size, 7, none⟩ = some (.int .i64 (b : Int)) := by rw [cell_of_row _ _ _ _ _ _ r2]; rfl
    have K2 := Lib.hid (below_more K0.out k2)
    clear k2 K0 R0 CH r2
    go_wp2_with fail
    refine (SI.out _).mono ?_
    rintro e w3 ⟨rfl, k3⟩
    have c7 : w3.cell? ⟨w.heap.size, 7, none⟩ = some (.int .i64 (b : Int)) := by rw [cell_of_row _ _ _ _ _ _ ((k3.block _ (lt_of_block R2.out)).trans R2.out)]; rfl
    have K3 := Lib.hid (below_more K2.out k3)
    clear k3
    go_wp2_with fail
    go_ret2
    refine ⟨K3.out, .inl ⟨HOK.out, ?_⟩⟩
    have e : ((n : Int) + 1).toNat = n + 1 := by omega
    rw [e, Int.toNat_natCast, HS.out]
    rfl
  · have HOK := Lib.hid hok
    unfold headV at CH ⊢
    clear hok
    go_enter Tryz.func7, Tryz.ntmps7
    go_upto_region 1 with fail
    have k0 : Below w.heap.size w (w.alloc (.cells #[.int .i64 n, .int .i64 m, .int .i64 a, .int .i64 d, .int .i64 i, .int .i64 z, .int .i64 c, .int .i64 b] 30)) := (Below.refl _ _).alloc (Nat.le_refl _) _
    have K0 := Lib.hid k0
    clear k0
    go_wp2_with fail
    refine (CH.out _).mono ?_
    rintro e w2 ⟨k2, ⟨hok, -⟩ | ⟨-, rfl⟩⟩
    · exact absurd hok HOK.out
    have K2 := Lib.hid (below_more K0.out k2)
    clear k2
    go_wp2_with fail
    go_ret2
    exact ⟨K2.out, .inr ⟨HOK.out, rfl⟩⟩

set_option maxRecDepth 100000 in
set_option maxHeartbeats 3200000 in
theorem dhsize_any (n m a d i z c b : Int) (w : World) :
    Calls Tryz.prog 8 #[headV n m a d i z c b] w (SizePost n m a d i z c b w) := by
  have CH := Lib.hid (fun W => dhcheck_any n m a d i z c b W)
  by_cases hok : headOk n m a d i z c b
  · have HOK := Lib.hid hok
    have hok2 := hok
    obtain ⟨n0, n1, m0, m1, b0, b1, -⟩ := hok2
    obtain ⟨n, rfl⟩ := Int.eq_ofNat_of_zero_le n0
    obtain ⟨b, rfl⟩ := Int.eq_ofNat_of_zero_le b0
    have SI := Lib.hid (fun W => desize_any (n + 1) b (by omega) (by omega) (by omega) W)
    have SB := Lib.hid (sizeB_lt (n + 1) (b + 1) (by omega) (by omega))
    have u1 : IntKind.u64.wrap (b : Int) = (b : Int) := wraps_u64_64 _ (by omega) (by omega)
    have u2 : IntKind.i64.wrap ((n : Int) + 1) = ((n + 1 : Nat) : Int) := by rw [IntWalk.i64_in _ (by omega)]; omega
    have u3 : IntKind.i64.wrap ((b : Int) + 7) = (b : Int) + 7 := IntWalk.i64_in _ (by omega)
    have q0 : 0 ≤ ((b : Int) + 7).tdiv 8 ∧ ((b : Int) + 7).tdiv 8 ≤ 16777217 := by
      rw [Int.tdiv_eq_ediv_of_nonneg (by omega)]; omega
    have u4 : IntKind.i64.wrap (((b : Int) + 7).tdiv 8) = ((b : Int) + 7).tdiv 8 := IntWalk.i64_in _ (by omega)
    have u5 : IntKind.i64.wrap (28 + ((b : Int) + 7).tdiv 8) = 28 + ((b : Int) + 7).tdiv 8 := IntWalk.i64_in _ (by omega)
    obtain ⟨S, hS⟩ : ∃ S, sizeB (n + 1) (b + 1) = S := ⟨_, rfl⟩
    rw [hS] at SI SB
    have u6 : IntKind.i64.wrap (28 + ((b : Int) + 7).tdiv 8 + (S : Int)) = 28 + ((b : Int) + 7).tdiv 8 + (S : Int) := IntWalk.i64_in _ (by have := SB.out; omega)
    have HS := Lib.hid hS
    clear hS SB q0
    unfold headV at CH ⊢
    clear hok n0 n1 m0 m1 b0 b1
    go_enter Tryz.func8, Tryz.ntmps8
    go_upto_region 1 with fail
    have r0 := heap_alloc_new w (.cells #[.int .i64 n, .int .i64 m, .int .i64 a, .int .i64 d, .int .i64 i, .int .i64 z, .int .i64 c, .int .i64 b] 25)
    have k0 : Below w.heap.size w (w.alloc (.cells #[.int .i64 n, .int .i64 m, .int .i64 a, .int .i64 d, .int .i64 i, .int .i64 z, .int .i64 c, .int .i64 b] 25)) := (Below.refl _ _).alloc (Nat.le_refl _) _
    have R0 := Lib.hid r0
    have K0 := Lib.hid k0
    clear k0 r0
    go_wp2_with fail
    refine (CH.out _).mono ?_
    rintro e w2 ⟨k2, ⟨-, rfl⟩ | ⟨hno, -⟩⟩
    rotate_left
    · exact absurd HOK.out hno
    have r2 := ((k2.block _ (lt_of_block R0.out)).trans R0.out)
    have R2 := Lib.hid r2
    have c0 : w2.cell? ⟨w.heap.size, 0, none⟩ = some (.int .i64 (n : Int)) := by rw [cell_of_row _ _ _ _ _ _ r2]; rfl
    have c7 : w2.cell? ⟨w.heap.size, 7, none⟩ = some (.int .i64 (b : Int)) := by rw [cell_of_row _ _ _ _ _ _ r2]; rfl
    have K2 := Lib.hid (below_more K0.out k2)
    clear k2 K0 R0 CH r2
    go_wp2_with fail
    refine (SI.out _).mono ?_
    rintro e w3 ⟨rfl, k3⟩
    have c7 : w3.cell? ⟨w.heap.size, 7, none⟩ = some (.int .i64 (b : Int)) := by rw [cell_of_row _ _ _ _ _ _ ((k3.block _ (lt_of_block R2.out)).trans R2.out)]; rfl
    have K3 := Lib.hid (below_more K2.out k3)
    clear k3
    go_wp2_with fail
    go_ret2
    refine ⟨K3.out, .inl ⟨HOK.out, ?_⟩⟩
    have e : ((n : Int) + 1).toNat = n + 1 := by omega
    rw [e, Int.toNat_natCast, HS.out]
    rfl
  · have HOK := Lib.hid hok
    unfold headV at CH ⊢
    clear hok
    go_enter Tryz.func8, Tryz.ntmps8
    go_upto_region 1 with fail
    have k0 : Below w.heap.size w (w.alloc (.cells #[.int .i64 n, .int .i64 m, .int .i64 a, .int .i64 d, .int .i64 i, .int .i64 z, .int .i64 c, .int .i64 b] 25)) := (Below.refl _ _).alloc (Nat.le_refl _) _
    have K0 := Lib.hid k0
    clear k0
    go_wp2_with fail
    refine (CH.out _).mono ?_
    rintro e w2 ⟨k2, ⟨hok, -⟩ | ⟨-, rfl⟩⟩
    · exact absurd hok HOK.out
    have K2 := Lib.hid (below_more K0.out k2)
    clear k2
    go_wp2_with fail
    go_ret2
    exact ⟨K2.out, .inr ⟨HOK.out, rfl⟩⟩
end Go.Proofs.YthaicpbdlhkkkaaGreatDoor.pk
