/- stream: written: pieces, in as few blocks as may be. Statement StreamBack: the walk of the law. stream: the laws' lists that came in, opened at every index. -/
import Derived.BigQuiet
import Derived.BigRegion
import Derived.Deep.CutRange
import Derived.Deep.CutBlock
import Derived.Deep.RegionHeld3
import Derived.Test.YtbgbomlmgkgkoaaGreatMgT
import Derived.Deep.Slices
import Derived.Deep.Strs
import Derived.ChangeOld
import Derived.Below
namespace Go.Proofs.YtbgbomlmgkgkoaaGreat.st
open Go.RowKit Go.Proofs.YtbgbomlmgkgkoaaGreat.own Go.Proofs.YtbgbomlmgkgkoaaGreat.dv Go.Proofs.YtbgbomlmgkgkoaaGreat.po Go.Proofs.YtbgbomlmgkgkoaaGreat.arcI

set_option maxRecDepth 100000 in
theorem Blocks2_any (w : World) (m n : Nat) (hm : 1 ≤ m ∧ m ≤ 8) (hn : n ≤ 100000) :
    Calls Tryz.prog 37 #[.int .i64 ((512 * m : Nat) : Int), .int .i64 (n : Int)] w fun e w' => e = .returned (.tuple #[.int .i64 (((n + 12 + 512 * m - 1) / (512 * m) : Nat) : Int), .int .i64 0]) ∧ w = w' := by
  have hmod : 512 * m % 512 = 0 := Nat.mul_mod_right _ _
  obtain ⟨sz, hsz⟩ : ∃ sz, 512 * m = sz := ⟨_, rfl⟩
  rw [hsz] at hmod ⊢
  have hs1 : 512 ≤ sz ∧ sz ≤ 4096 := by omega
  obtain ⟨k, hk⟩ : ∃ k, (n + 12 + sz - 1) / sz = k := ⟨_, rfl⟩
  have a1 : decide ((sz : Int) < 512) = false := decide_eq_false (by omega)
  have a2 : decide ((4096 : Int) < (sz : Int)) = false := decide_eq_false (by omega)
  have a3 : Int.tmod (sz : Int) 512 = 0 := by
    have := Int.ofNat_tmod sz 512
    rw [hmod] at this
    exact this.symm
  have a4 : decide ((n : Int) < 0) = false := decide_eq_false (by omega)
  have a5 : IntKind.i64.wrap (4096 * (sz : Int)) = 4096 * (sz : Int) := IntWalk.i64_in _ (by omega)
  have a6 : IntKind.i64.wrap (4096 * (sz : Int) - 12) = 4096 * (sz : Int) - 12 := IntWalk.i64_in _ (by omega)
  have a7 : decide (4096 * (sz : Int) - 12 < (n : Int)) = false := decide_eq_false (by omega)
  have b1 : IntKind.i64.wrap ((n : Int) + 12) = (n : Int) + 12 := IntWalk.i64_in _ (by omega)
  have b2 : IntKind.i64.wrap ((n : Int) + 12 + (sz : Int)) = (n : Int) + 12 + (sz : Int) := IntWalk.i64_in _ (by omega)
  have b3 : IntKind.i64.wrap ((n : Int) + 12 + (sz : Int) - 1) = (n : Int) + 12 + (sz : Int) - 1 := IntWalk.i64_in _ (by omega)
  have b4 : Int.tdiv ((n : Int) + 12 + (sz : Int) - 1) (sz : Int) = (k : Int) := by
    rw [show (n : Int) + 12 + (sz : Int) - 1 = ((n + 12 + sz - 1 : Nat) : Int) by omega, ← Int.ofNat_tdiv, hk]
  have hkl : k ≤ n + 12 + sz - 1 := by rw [← hk]; exact Nat.div_le_self _ _
  have b5 : IntKind.i64.wrap (k : Int) = (k : Int) := IntWalk.i64_in _ (by omega)
  have z0 : ¬ ((sz : Int) = 0) := by omega
  have z1 : ¬ (sz = 0) := by omega
  have HK := Lib.hid hk
  clear hk hsz hmod
  go_enter Tryz.func37, Tryz.ntmps37
  go_wp2_with fail
  refine bodyPost_ret (v := .tuple #[.int .i64 (k : Int), .int .i64 0]) (by simp [results, Tryz.f37, go_sem]) rfl ?_
  exact ⟨by rw [HK.out], rfl⟩


/-- the law's pieces, as they came in -/
def VPc (W : World) (aT : Option Addr) (len : Nat) (P : Nat → ByteArray) (M : Nat → Int) : Prop :=
  ∀ j, j < len → ∃ b o, aT = some ⟨b, o, none⟩ ∧ b < W.heap.size ∧ W.cell? ⟨b, o + j * 2, none⟩ = some (.string (P j)) ∧ W.cell? ⟨b, o + j * 2 + 1, none⟩ = some (.int .i64 (M j)) ∧ (P j).size ≤ 9223372036854775807
def PP (P : Nat → ByteArray) (M : Nat → Int) : Nat → List UInt8 := fun j => pieceL (P j).data.toList (M j)
theorem nb_of {n sz k : Nat} (hz : 512 ≤ sz) (hn : n ≤ 5900) (hk : (n + 12 + sz - 1) / sz = k) : 1 ≤ k ∧ k ≤ 13 ∧ n ≤ k * sz - 12 := by
  have h1 : k * sz ≤ n + 12 + sz - 1 := by rw [← hk]; exact Nat.div_mul_le_self _ _
  have h2 : n + 12 + sz - 1 < k * sz + sz := by rw [← hk]; exact Nat.lt_div_mul_add (by omega)
  refine ⟨?_, ?_, by omega⟩
  · rcases Nat.eq_zero_or_pos k with h | h
    · subst h; omega
    · exact h
  · rcases Nat.lt_or_ge k 14 with h | h
    · omega
    · have := Nat.mul_le_mul (show 14 ≤ k from h) (Nat.le_refl sz); omega

set_option maxRecDepth 100000 in
set_option maxHeartbeats 12800000 in
theorem written_any (w0 : World) (aT : Option Addr) (len cap : Nat) (P : Nat → ByteArray) (M : Nat → Int) (x : Nat → Nat) (w : World) (db sb mb rb eb N m : Nat) (V : Int → ByteArray)
    (hpc : VPc w0 aT len P M) (h0 : Below w0.heap.size w0 w) (hx0 : ∀ b, b < w0.heap.size → x b = 100) (hs : SV x 0 20 w sb db eb N m V) (he : EIs x 30 w eb 2 (List.replicate 24 0)) (hm3 : m ≤ 3) (hN : N + 10000 < 1099511627776) :
    Calls Tryz.prog 8 #[.agg #[.pointer (some ⟨db, 0, none⟩), .pointer (some ⟨sb, 0, none⟩), .pointer (some ⟨mb, 0, none⟩), .pointer (some ⟨rb, 0, none⟩)], .slice aT len cap] w fun e w' => ∃ (n : Nat) (all : List UInt8) (x' : Nat → Nat) (V' : Int → ByteArray),
      e = .returned (.tuple #[.agg #[.int .i64 2, .int .i64 (n : Int)], .string ⟨all.toArray⟩, .bool true]) ∧ Fr x x' AQ w w' ∧ SV x' 0 20 w' sb db eb (N + 5000) m V' ∧ Closed V' 2 n (512 * m) all ∧ 1 ≤ n ∧ n ≤ 13 ∧ all.length ≤ n * (512 * m) - 12 ∧ all.length ≤ 5900 := by
  have hm := hs.size
  have hb0 : Below w.heap.size w ((w.alloc (.cells #[.pointer (some ⟨db, 0, none⟩), .pointer (some ⟨sb, 0, none⟩), .pointer (some ⟨mb, 0, none⟩), .pointer (some ⟨rb, 0, none⟩)] 29)).alloc (.cells #[.int .i64 0, .int .i64 0] 34)) := ((Below.refl _ w).alloc (Nat.le_refl _) _).alloc (by simp) _
  have f0 : Fr x (paint x w.heap.size 60) (fun e => e = 60) w ((w.alloc (.cells #[.pointer (some ⟨db, 0, none⟩), .pointer (some ⟨sb, 0, none⟩), .pointer (some ⟨mb, 0, none⟩), .pointer (some ⟨rb, 0, none⟩)] 29)).alloc (.cells #[.int .i64 0, .int .i64 0] 34)) := Fr.of_below hb0 rfl
  have g1 := World.alloc_heap_new w (.cells #[.pointer (some ⟨db, 0, none⟩), .pointer (some ⟨sb, 0, none⟩), .pointer (some ⟨mb, 0, none⟩), .pointer (some ⟨rb, 0, none⟩)] 29)
  have g2 := World.alloc_heap_new (w.alloc (.cells #[.pointer (some ⟨db, 0, none⟩), .pointer (some ⟨sb, 0, none⟩), .pointer (some ⟨mb, 0, none⟩), .pointer (some ⟨rb, 0, none⟩)] 29)) (.cells #[.int .i64 0, .int .i64 0] 34)
  rw [World.size_alloc] at g2
  have G1 := Lib.hid ((Below.heap_alloc (w.alloc (.cells #[.pointer (some ⟨db, 0, none⟩), .pointer (some ⟨sb, 0, none⟩), .pointer (some ⟨mb, 0, none⟩), .pointer (some ⟨rb, 0, none⟩)] 29)) (.cells #[.int .i64 0, .int .i64 0] 34) w.heap.size (by simp)).trans g1)
  have G2 := Lib.hid g2
  have X1 : Hid (paint x w.heap.size 60 w.heap.size = 60 ∧ paint x w.heap.size 60 (w.heap.size + 1) = 60) := Lib.hid ⟨paint_new (Nat.le_refl _), paint_new (by omega)⟩
  have S1 := Lib.hid (hs.frame f0 (fun e he hc => by subst hc; exact nPC (by omega) (PD_PC 0 20 _ he)))
  have E1 := Lib.hid (he.frame f0 (fun e he hc => by have := he.2; omega))
  have B1 := Lib.hid (h0.trans (hb0.mono h0.size))
  have F1 := Lib.hid (f0.mono (D := AQ) (fun e he => by show e ≤ 95; omega))
  have HX := Lib.hid (fun b (hb : b < w0.heap.size) => (paint_old (c := 60) (Nat.lt_of_lt_of_le hb h0.size)).trans (hx0 b hb))
  have PC := Lib.hid hpc
  clear hs he h0 hb0 f0 g1 g2 hx0 hpc
  go_enter Tryz.func8, Tryz.ntmps8
  go_upto_region 1 with fail
  generalize World.alloc (World.alloc w _) _ = W1 at G1 G2 S1 E1 B1 F1 ⊢
  generalize paint x w.heap.size 60 = x1 at X1 S1 E1 F1 HX
  generalize w.heap.size = tb at G1 G2 X1 F1 ⊢
  go_upto_block 0 with fail
  go_cut [7, 8] from 18 to 39 (fun s _ wc => ∃ K : Nat, s = .string ⟨(catL (PP P M) K).toArray⟩ ∧ K ≤ len ∧ K ≤ 12 ∧ (catL (PP P M) K).length ≤ 5900 ∧ Below W1.heap.size W1 wc)
  case first => as_aux_lemma =>
    --A
    go_wp2_with fail
    go_loopw [7, 8] (fun s i wr => ∃ k : Nat, i = .int .i64 (k : Int) ∧ s = .string ⟨(catL (PP P M) k).toArray⟩ ∧ k ≤ len ∧ k ≤ 12 ∧ (catL (PP P M) k).length ≤ 5900 ∧ Below W1.heap.size W1 wr) (fun _ i _ => 12 - (intOf i).toNat)
    case atStart => exact ⟨0, rfl, rfl, by omega, by omega, by show 0 ≤ 5900; omega, Below.refl _ _⟩
    case round => as_aux_lemma =>
      obtain ⟨k, rfl, rfl, hk1, hk2, hk3, hB⟩ := hrel
      obtain ⟨T, hT⟩ : ∃ T : ByteArray, T = ⟨(catL (PP P M) k).toArray⟩ := ⟨_, rfl⟩
      have HT : Hid (T.data.toList = catL (PP P M) k) := Lib.hid (by rw [hT])
      have hTs : (catL (PP P M) k).length = T.size := by
        have q : T.data.toList.length = T.size := Array.length_toList
        rw [← q, HT.out]
      have HTT := Lib.hid hT
      rw [← hT]
      rw [hTs] at hk3
      have HB := Lib.hid hB
      clear hT hTs hB
      have hcases : (k < len ∧ k < 12 ∧ T.size < 3000) ∨ ¬ k < len ∨ (k < len ∧ ¬ k < 12) ∨ (k < len ∧ k < 12 ∧ ¬ T.size < 3000) := by omega
      obtain ⟨c1, c2, c3⟩ | c1 | ⟨c1, c2⟩ | ⟨c1, c2, c3⟩ := hcases
      · obtain ⟨b, o, haT, hbl, cP, cM, hPs⟩ := PC.out k c1
        subst haT
        have BO := B1.out.trans (HB.out.mono B1.out.size)
        have cP := (BO.cell (p := ⟨b, o + k * 2, none⟩) hbl).trans cP
        have cM := (BO.cell (p := ⟨b, o + k * 2 + 1, none⟩) hbl).trans cM
        have i1 : (0 : Int) ≤ (k : Int) := by omega
        have i2 : (k : Int) < (len : Int) := by omega
        clear BO
        go_wp2_with fail
        refine (ptext_any wr (P k) (M k) hPs).mono ?_
        rintro e w3 ⟨rfl, b3⟩
        obtain ⟨U, hU⟩ : ∃ U : ByteArray, U = ⟨(pieceL (P k).data.toList (M k)).toArray⟩ := ⟨_, rfl⟩
        have HU : Hid (U.data.toList = pieceL (P k).data.toList (M k)) := Lib.hid (by rw [hU])
        have hUs : U.size ≤ 2900 := by
          have q : U.data.toList.length = U.size := Array.length_toList
          rw [← q, HU.out]; exact pieceL_len _ _
        rw [← hU]
        have B3 := Lib.hid (HB.out.trans (b3.mono HB.out.size))
        have TU : Hid (T ++ U = ⟨(catL (PP P M) (k + 1)).toArray⟩) := Lib.hid (ba_eq (by
          rw [ByteArray.data_append, Array.toList_append, HT.out, HU.out]; rfl))
        have hcat : ¬ 9223372036854775807 < T.size + U.size := by omega
        have LK : Hid ((catL (PP P M) (k + 1)).length ≤ 5900) := Lib.hid (by
          show (catL (PP P M) k ++ pieceL (P k).data.toList (M k)).length ≤ 5900
          have q1 : T.data.toList.length = T.size := Array.length_toList
          have q2 : U.data.toList.length = U.size := Array.length_toList
          rw [List.length_append, ← HT.out, ← HU.out, q1, q2]; omega)
        clear b3 hU cP cM HB
        go_wp2_with fail
        go_roundw
        case rel => exact ⟨k + 1, by go_num, by rw [TU.out], by omega, by omega, LK.out, B3.out⟩
        case measure => simp [intOf]; omega
      · go_wp2_with fail
        go_meet
        case rel => exact ⟨k, by rw [HTT.out], hk1, hk2, by rw [← HT.out]; have q : T.data.toList.length = T.size := Array.length_toList; omega, HB.out⟩
      · go_wp2_with fail
        go_meet
        case rel => exact ⟨k, by rw [HTT.out], hk1, hk2, by rw [← HT.out]; have q : T.data.toList.length = T.size := Array.length_toList; omega, HB.out⟩
      · go_wp2_with fail
        go_meet
        case rel => exact ⟨k, by rw [HTT.out], hk1, hk2, by rw [← HT.out]; have q : T.data.toList.length = T.size := Array.length_toList; omega, HB.out⟩
  case rest => as_aux_lemma =>
    obtain ⟨K, rfl, hK1, hK2, hK3, hB⟩ := hcut
    obtain ⟨T, hT⟩ : ∃ T : ByteArray, T = ⟨(catL (PP P M) K).toArray⟩ := ⟨_, rfl⟩
    have HT : Hid (T.data.toList = catL (PP P M) K) := Lib.hid (by rw [hT])
    have hTs : (catL (PP P M) K).length = T.size := by
      have q : T.data.toList.length = T.size := Array.length_toList
      rw [← q, HT.out]
    have HTS := Lib.hid hTs
    have HTT := Lib.hid hT
    rw [← hT]
    rw [hTs] at hK3
    have f2 : Fr x1 (paint x1 W1.heap.size 60) (fun e => e = 60) W1 wc := Fr.of_below hB rfl
    have S2 := Lib.hid (S1.out.frame f2 (fun e he hc => by subst hc; exact nPC (by omega) (PD_PC 0 20 _ he)))
    have E2 := Lib.hid (E1.out.frame f2 (fun e he hc => by have := he.2; omega))
    have F2 := Lib.hid (F1.out.trans (f2.mono (D := AQ) (fun e he => by show e ≤ 95; omega)))
    have g1 := (hB.block _ (lt_of_block G1.out)).trans G1.out
    have g2 := (hB.block _ (lt_of_block G2.out)).trans G2.out
    have X2 : Hid (paint x1 W1.heap.size 60 tb = 60 ∧ paint x1 W1.heap.size 60 (tb + 1) = 60) := Lib.hid ⟨(paint_old (lt_of_block G1.out)).trans X1.out.1, (paint_old (lt_of_block G2.out)).trans X1.out.2⟩
    have HX2 := Lib.hid (fun b (hb : b < w0.heap.size) => (paint_old (c := 60) (Nat.lt_of_lt_of_le hb B1.out.size)).trans (HX.out b hb))
    have B2 := Lib.hid (B1.out.trans (hB.mono B1.out.size))
    have k1 : wc.cell? ⟨tb, 1, none⟩ = some (.pointer (some ⟨sb, 0, none⟩)) := by rw [cell_of_row _ _ _ _ _ _ g1]; rfl
    have G1' := Lib.hid g1
    have G2' := Lib.hid g2
    have SZ := Lib.hid S2.out.Size
    clear f2 g1 g2 hB hT hTs S1 E1 F1 X1 HX B1 G1 G2
    generalize paint x1 W1.heap.size 60 = x2 at S2 E2 F2 X2 HX2
    obtain ⟨sz, hsz⟩ : ∃ sz, 512 * m = sz := ⟨_, rfl⟩
    have hs1 : 512 ≤ sz ∧ sz ≤ 1536 := by omega
    have BL := Blocks2_any wc m T.size (by omega) (by omega)
    have BO := nb_of (n := T.size) (sz := sz) (k := (T.size + 12 + sz - 1) / sz) (by omega) (by omega) rfl
    rw [hsz] at BL SZ
    generalize (T.size + 12 + sz - 1) / sz = n at BL BO
    obtain ⟨o1, o2, o3⟩ := BO
    have BLK := Lib.hid BL
    have O3 := Lib.hid o3
    have HSZ := Lib.hid hsz
    clear BL o3 hsz
    go_wp2_with fail
    refine SZ.out.mono ?_
    rintro e w4 ⟨rfl, rfl⟩
    clear SZ
    go_wp2_with fail
    refine BLK.out.mono ?_
    rintro e w4 ⟨rfl, rfl⟩
    clear BLK
    go_wp2_with fail
    refine (vc.Take_c x2 30 61 (fun h => by have := h.2; omega) wc sb eb 2 n 2 (List.replicate 24 0) (vc.VV.cells (nb := 24) S2.out) E2.out (by rw [List.length_replicate]; omega) (by rw [List.length_replicate]; omega) (by omega) (vc.firstFit_fresh 24 2 n (by omega) o1)).mono ?_
    rintro e w4 ⟨rfl, x4, f4, -⟩
    have c4 : ∀ e, (EC 30 e ∨ e = 61) → e = 30 ∨ e = 31 ∨ e = 61 := fun e he => by
      rcases he with he | he
      · have := he.1; have := he.2; omega
      · omega
    have S4 := Lib.hid (S2.out.frame f4 (fun e he hc => by have := c4 e hc; exact nPC (by omega) (PD_PC 0 20 _ he)))
    have F4 := Lib.hid (F2.out.trans (f4.mono (D := AQ) (fun e he => by have := c4 e he; show e ≤ 95; omega)))
    have G4 := Lib.hid ((f4.old _ (lt_of_block G1'.out) (by rw [X2.out.1]; intro hc; have := c4 _ hc; omega)).trans G1'.out)
    have G5 := Lib.hid ((f4.old _ (lt_of_block G2'.out) (by rw [X2.out.2]; intro hc; have := c4 _ hc; omega)).trans G2'.out)
    have X4 : Hid (x4 tb = 60 ∧ x4 (tb + 1) = 60) := Lib.hid ⟨(f4.col _ (lt_of_block G1'.out)).trans X2.out.1, (f4.col _ (lt_of_block G2'.out)).trans X2.out.2⟩
    have HX4 := Lib.hid (fun b (hb : b < w0.heap.size) => (f4.col b (Nat.lt_of_lt_of_le hb B2.out.size)).trans (HX2.out b hb))
    have B4 : Hid (Below w0.heap.size w0 w4) := Lib.hid ⟨f4.os.trans B2.out.os, f4.tape.trans B2.out.tape, f4.output.trans B2.out.output, Nat.le_trans B2.out.size f4.size, fun b hb => (f4.old b (Nat.lt_of_lt_of_le hb B2.out.size) (by rw [HX2.out b hb]; intro hc; have := c4 _ hc; omega)).trans (B2.out.block b hb)⟩
    have k4 : w4.cell? ⟨tb, 1, none⟩ = some (.pointer (some ⟨sb, 0, none⟩)) := by rw [cell_of_row _ _ _ _ _ _ G4.out]; rfl
    clear f4 c4 S2 E2 F2 G1' G2' X2 HX2 B2 k1
    go_upto_region 8 with fail
    have hb5 : Below w4.heap.size w4 (w4.alloc (.cells #[.int .i64 2, .int .i64 (n : Int)] 34)) := (Below.refl _ w4).alloc (Nat.le_refl _) _
    have f5 : Fr x4 (paint x4 w4.heap.size 60) (fun e => e = 60) w4 (w4.alloc (.cells #[.int .i64 2, .int .i64 (n : Int)] 34)) := Fr.of_below hb5 rfl
    have g6 := World.alloc_heap_new w4 (.cells #[.int .i64 2, .int .i64 (n : Int)] 34)
    have S5 := Lib.hid (S4.out.frame f5 (fun e he hc => by subst hc; exact nPC (by omega) (PD_PC 0 20 _ he)))
    have F5 := Lib.hid (F4.out.trans (f5.mono (D := AQ) (fun e he => by show e ≤ 95; omega)))
    have g4 := (hb5.block _ (lt_of_block G4.out)).trans G4.out
    have g5 := (hb5.block _ (lt_of_block G5.out)).trans G5.out
    have k1 : (w4.alloc (.cells #[.int .i64 2, .int .i64 (n : Int)] 34)).cell? ⟨tb, 1, none⟩ = some (.pointer (some ⟨sb, 0, none⟩)) := by rw [cell_of_row _ _ _ _ _ _ g4]; rfl
    have q0 : (w4.alloc (.cells #[.int .i64 2, .int .i64 (n : Int)] 34)).cell? ⟨w4.heap.size, 0, none⟩ = some (.int .i64 2) := by rw [cell_of_row _ _ _ _ _ _ g6]; rfl
    have q1 : (w4.alloc (.cells #[.int .i64 2, .int .i64 (n : Int)] 34)).cell? ⟨w4.heap.size, 1, none⟩ = some (.int .i64 (n : Int)) := by rw [cell_of_row _ _ _ _ _ _ g6]; rfl
    have HB5 := Lib.hid (B4.out.trans (hb5.mono B4.out.size))
    have G5' := Lib.hid g5
    have G6 := Lib.hid g6
    have X5 : Hid (paint x4 w4.heap.size 60 (tb + 1) = 60 ∧ paint x4 w4.heap.size 60 w4.heap.size = 60) := Lib.hid ⟨(paint_old (lt_of_block G5.out)).trans X4.out.2, paint_new (Nat.le_refl _)⟩
    have HX5 := Lib.hid (fun b (hb : b < w0.heap.size) => (paint_old (c := 60) (Nat.lt_of_lt_of_le hb B4.out.size)).trans (HX4.out b hb))
    clear hb5 f5 g4 g5 g6 S4 F4 G4 G5 X4 HX4 B4 k4
    generalize World.alloc w4 _ = W5 at S5 F5 k1 q0 q1 HB5 G5' G6 ⊢
    generalize paint x4 w4.heap.size 60 = x5 at S5 F5 X5 HX5
    generalize w4.heap.size = ob at q0 q1 G6 X5 ⊢
    go_wp2_with fail
    clear k1 q0 q1
    refine (Create_any x5 50 0 20 W5 sb db eb N m 2 n V S5.out o1 (by omega)).mono ?_
    rintro e w6 ⟨wb, pb, xb, qb, x6, rfl, f6, i6, b6, -⟩
    have X6 : Hid (x6 (tb + 1) = 60 ∧ x6 ob = 60) := Lib.hid ⟨(f6.col _ (lt_of_block G5'.out)).trans X5.out.1, (f6.col _ (lt_of_block G6.out)).trans X5.out.2⟩
    have G5' := Lib.hid ((b6.block _ (lt_of_block G5'.out)).trans G5'.out)
    have G6 := Lib.hid ((b6.block _ (lt_of_block G6.out)).trans G6.out)
    have HX6 := Lib.hid (fun b (hb : b < w0.heap.size) => (f6.col b (Nat.lt_of_lt_of_le hb HB5.out.size)).trans (HX5.out b hb))
    have B6 := Lib.hid (HB5.out.trans (b6.mono HB5.out.size))
    have F6 := Lib.hid (F5.out.trans (f6.mono (D := AQ) (fun e he => by have := he.2; show e ≤ 95; omega)))
    have Z6 : Hid (WZ x6 50 0 20 w6 wb sb db eb N m 2 n V [] w6) := Lib.hid (WZ.start (WS.start i6 (S5.out.frame f6 PD_VC) VC_PC))
    clear f6 i6 b6 S5 F5 X5 HX5 HB5
    go_upto_block 2 with fail
    go_cut [15, 16, 17] from 74 to 110 (fun _ _ _ wc => ∃ V', WZ x6 50 0 20 w6 wb sb db eb (N + 4000) m 2 n V' (catL (PP P M) K) wc ∧ CT V' 2 (512 * m) (catL (PP P M) K) ((catL (PP P M) K).length / (512 * m)))
    case first => as_aux_lemma =>
      --B
      have HZ : Hid (∀ (N : Nat) (V : Int → ByteArray) (T : List UInt8) (wr : World), WZ x6 50 0 20 w6 wb sb db eb N m 2 n V T wr → Below w0.heap.size w0 wr) := Lib.hid (fun N V T wr h => by
        obtain ⟨rv, pb, xb, qb, -, x', f, -⟩ := h
        exact ⟨f.os.trans B6.out.os, f.tape.trans B6.out.tape, f.output.trans B6.out.output, Nat.le_trans B6.out.size f.size, fun b hb => (f.old b (Nat.lt_of_lt_of_le hb B6.out.size) (by
          rw [HX6.out b hb]
          rintro (q | q)
          · exact nPC (by omega) q
          · have := q.2; omega)).trans (B6.out.block b hb)⟩)
      go_wp2_with fail
      go_loopw [15, 16] (fun a i wr => ∃ (k : Nat) (V' : Int → ByteArray), i = .int .i64 (k : Int) ∧ a = .int .i64 (((catL (PP P M) k).length : Nat) : Int) ∧ k ≤ K ∧ WZ x6 50 0 20 w6 wb sb db eb (N + 200 * k) m 2 n V' (catL (PP P M) k) wr ∧ CT V' 2 (512 * m) (catL (PP P M) k) ((catL (PP P M) k).length / (512 * m))) (fun _ i _ => 13 - (intOf i).toNat)
      case atStart => exact ⟨0, V, rfl, rfl, by omega, Z6.out, fun j hj => by
        have hj : j < 0 / (512 * m) := hj
        rw [Nat.zero_div] at hj; omega⟩
      case round => as_aux_lemma =>
        obtain ⟨k, V', rfl, rfl, hk, hZ, hC⟩ := hrel
        obtain ⟨at_, hat⟩ : ∃ a, (catL (PP P M) k).length = a := ⟨_, rfl⟩
        have HAT := Lib.hid hat
        rw [hat]
        have hatl : at_ ≤ T.size := by rw [← hat, ← HTS.out]; exact catL_le hk
        have Z := Lib.hid hZ
        have CC := Lib.hid hC
        clear hZ hC hat
        have hkK : k = K ∨ k < K := by omega
        have hcases : (k < K ∧ at_ < T.size) ∨ (at_ = T.size) := by
          rcases hkK with rfl | h
          · right; rw [← HAT.out, HTS.out]
          · omega
        obtain ⟨c1, c3⟩ | c3 := hcases
        · have c0 : k < len := by omega
          have c2 : k < 12 := by omega
          obtain ⟨b, o, haT, hbl, cP, cM, hPs⟩ := PC.out k c0
          subst haT
          have BO := HZ.out _ _ _ _ Z.out
          have cP := (BO.cell (p := ⟨b, o + k * 2, none⟩) hbl).trans cP
          have cM := (BO.cell (p := ⟨b, o + k * 2 + 1, none⟩) hbl).trans cM
          have i1 : (0 : Int) ≤ (k : Int) := by omega
          have i2 : (k : Int) < (len : Int) := by omega
          have hnx : Hid (catL (PP P M) (k + 1) = catL (PP P M) k ++ pieceL (P k).data.toList (M k)) := Lib.hid rfl
          have hle : (catL (PP P M) (k + 1)).length ≤ T.size := by rw [← HTS.out]; exact catL_le (by omega)
          clear BO
          go_wp2_with fail
          refine (ptext_any wr (P k) (M k) hPs).mono ?_
          rintro e w7 ⟨rfl, b7⟩
          obtain ⟨U, hU⟩ : ∃ U : ByteArray, U = ⟨(pieceL (P k).data.toList (M k)).toArray⟩ := ⟨_, rfl⟩
          have HU : Hid (U.data.toList = pieceL (P k).data.toList (M k)) := Lib.hid (by rw [hU])
          have hUs : at_ + U.size = (catL (PP P M) (k + 1)).length := by
            have q : U.data.toList.length = U.size := Array.length_toList
            rw [hnx.out, List.length_append, HAT.out, ← HU.out, q]
          have hUl : at_ + U.size ≤ T.size := by omega
          have HUs := Lib.hid hUs
          rw [← hU]
          have Z7 : Hid (WZ x6 50 0 20 w6 wb sb db eb (N + 200 * k) m 2 n V' (catL (PP P M) k) w7) := Lib.hid (by
            obtain ⟨rv, pb, xb, qb, h⟩ := Z.out
            exact ⟨rv, pb, xb, qb, h.below b7⟩)
          have RM : Hid (Calls Tryz.prog 39 #[.pointer (some ⟨wb, 0, none⟩)] w7 fun e w' => e = .returned (.int .i64 ((n * sz - 12 - at_ : Nat) : Int)) ∧ Below w7.heap.size w7 w') := Lib.hid (by
            obtain ⟨rv, pb, xb, qb, h⟩ := Z7.out
            have q := h.Room o1 (by omega) (by rw [HAT.out, HSZ.out]; have := O3.out; omega)
            rw [HAT.out, HSZ.out] at q
            exact q)
          clear b7 hU hUs cP cM Z hle
          go_wp2_with fail
          refine RM.out.mono ?_
          rintro e w8 ⟨rfl, b8⟩
          have Z8 : Hid (WZ x6 50 0 20 w6 wb sb db eb (N + 200 * k) m 2 n V' (catL (PP P M) k) w8) := Lib.hid (by
            obtain ⟨rv, pb, xb, qb, h⟩ := Z7.out
            exact ⟨rv, pb, xb, qb, h.below b8⟩)
          have r1 : ¬ ((n * sz - 12 - at_ : Nat) : Int) < (U.size : Int) := by have := O3.out; omega
          have r2 : decide (((n * sz - 12 - at_ : Nat) : Int) < (U.size : Int)) = false := decide_eq_false r1
          have r3 : ¬ (n * sz - 12 - at_ < U.size) := by have := O3.out; omega
          clear b8 RM Z7
          go_wp2_with fail
          refine (Write_any x6 50 0 20 w6 wb sb db eb (N + 200 * k) m 2 n V' (catL (PP P M) k) U w8 Z8.out (by omega) (.inl (by omega)) CC.out o1 (by omega) (by rw [HAT.out, HSZ.out]; have := O3.out; omega) (by omega) (onS_append _ _)).mono ?_
          rintro e w9 ⟨rfl, V9, z9, ct9, -⟩
          rw [HU.out, ← hnx.out] at z9 ct9
          have Z9 := Lib.hid z9
          have C9 := Lib.hid ct9
          have e1 : IntKind.i64.wrap ((at_ : Int) + (U.size : Int)) = (at_ : Int) + (U.size : Int) := IntWalk.i64_in _ (by omega)
          clear z9 ct9 Z8 CC r1 r2 r3
          go_wp2_with fail
          go_roundw
          case rel => exact ⟨k + 1, V9, by go_num, by rw [← HUs.out]; go_num, by omega, Z9.out, C9.out⟩
          case measure => simp [intOf]; omega
        · subst c3
          have hsame : Hid (catL (PP P M) k = catL (PP P M) K) := Lib.hid (catL_same hk (by rw [HAT.out, HTS.out]; exact Nat.le_refl _))
          have Z' : Hid (∃ V', WZ x6 50 0 20 w6 wb sb db eb (N + 4000) m 2 n V' (catL (PP P M) K) wr ∧ CT V' 2 (512 * m) (catL (PP P M) K) ((catL (PP P M) K).length / (512 * m))) := Lib.hid (by
            rw [← hsame.out]
            obtain ⟨rv, pb, xb, qb, h⟩ := Z.out
            exact ⟨V', ⟨rv, pb, xb, qb, h.mono (by omega)⟩, CC.out⟩)
          have hc2 : (k < len ∧ k < 12) ∨ ¬ k < len ∨ (k < len ∧ ¬ k < 12) := by omega
          clear Z CC hsame
          obtain ⟨c1, c2⟩ | c1 | ⟨c1, c2⟩ := hc2
          · go_wp2_with fail
            go_meet
            case rel => exact Z'.out
          · go_wp2_with fail
            go_meet
            case rel => exact Z'.out
          · go_wp2_with fail
            go_meet
            case rel => exact Z'.out
    case rest => as_aux_lemma =>
      obtain ⟨V', hZ, hC⟩ := hcut
      have Z := Lib.hid hZ
      have CC := Lib.hid hC
      clear hZ hC Z6
      go_upto_region 19 with fail
      have HBX : Hid (∀ (w9 : World), (∃ x', Fr x6 x' (WC 0 20 50) w6 w9) → w9.heap[tb + 1]? = some (.cells #[.int .i64 0, .int .i64 0] 34 (0, 0)) ∧ w9.heap[ob]? = some (.cells #[.int .i64 2, .int .i64 (n : Int)] 34 (0, 0))) := Lib.hid (fun w9 h => by
        obtain ⟨x', f⟩ := h
        have nw : ¬ WC 0 20 50 60 := by
          rintro (q | q)
          · exact nPC (by omega) q
          · have := q.2; omega
        exact ⟨(f.old _ (lt_of_block G5'.out) (by rw [X6.out.1]; exact nw)).trans G5'.out, (f.old _ (lt_of_block G6.out) (by rw [X6.out.2]; exact nw)).trans G6.out⟩)
      have ZD : Hid (WZ x6 50 0 20 w6 wb sb db eb (N + 4000) m 2 n V' (catL (PP P M) K) wc.drew) := Lib.hid (by
        obtain ⟨rv, pb, xb, qb, h⟩ := Z.out
        exact ⟨rv, pb, xb, qb, h.below (Below.refl _ _).drew⟩)
      have hbx := HBX.out wc.drew (by
        obtain ⟨rv, pb, xb, qb, -, x', f, -⟩ := ZD.out
        exact ⟨x', f⟩)
      have R2 : wc.drew.cell? ⟨ob, 0, none⟩ = some (.int .i64 2) ∧ wc.drew.cell? ⟨ob, 1, none⟩ = some (.int .i64 (n : Int)) := ⟨by rw [cell_of_row _ _ _ _ _ _ hbx.2]; rfl, by rw [cell_of_row _ _ _ _ _ _ hbx.2]; rfl⟩
      have hob : ob ≠ tb + 1 := by
        rintro rfl
        have q := hbx.1.symm.trans hbx.2
        have q2 := Option.some.inj q
        injection q2 with q3
        simp at q3
      have hcl : (catL (PP P M) K).length ≤ n * (512 * m) - 12 := by rw [HTS.out, HSZ.out]; exact O3.out
      have CL := Lib.hid (Close_any x6 50 0 20 w6 wb sb db eb (N + 4000) m 2 n V' (catL (PP P M) K) wc.drew ZD.out (by omega) (.inl (by omega)) CC.out o1 (by omega) hcl (by omega))
      clear hbx ZD Z CC hcl
      go_region_held3 (fun w' => w'.cell? ⟨ob, 0, none⟩ = some (.int .i64 2) ∧ w'.cell? ⟨ob, 1, none⟩ = some (.int .i64 (n : Int)))
        (first
        | (with_reducible assumption)
        | (with_reducible exact R2)
        | (with_reducible exact R3))
        (first
        | (go_at_call 35; (with_reducible refine Calls.mono CL.out ?_); rintro e w9 ⟨rfl, V9, rv9, pb9, xb9, qb9, R9, at9, ws9, cl9, -⟩; have hb9 := HBX.out w9 (by obtain ⟨-, x', f, -, -⟩ := ws9; exact ⟨x', f⟩); have WS9 := Lib.hid ws9; have CL9 := Lib.hid cl9; clear ws9 cl9 R2; have R2 : w9.cell? ⟨ob, 0, none⟩ = some (.int .i64 2) ∧ w9.cell? ⟨ob, 1, none⟩ = some (.int .i64 (n : Int)) := ⟨by rw [cell_of_row _ _ _ _ _ _ hb9.2]; rfl, by rw [cell_of_row _ _ _ _ _ _ hb9.2]; rfl⟩; have t0 : w9.cell? ⟨tb + 1, 0, none⟩ = some (.int .i64 0) := (by rw [cell_of_row _ _ _ _ _ _ hb9.1]; rfl); have t1 : w9.cell? ⟨tb + 1, 1, none⟩ = some (.int .i64 0) := (by rw [cell_of_row _ _ _ _ _ _ hb9.1]; rfl); have u0 : w9.frozen? ⟨tb + 1, 0, none⟩ = false := frozen_of_row _ _ _ _ _ hb9.1; have u1 : w9.frozen? ⟨tb + 1, 1, none⟩ = false := frozen_of_row _ _ _ _ _ hb9.1; have e3 : ((w9.setCell ⟨tb + 1, 0, none⟩ (.int .i64 2)).setCell ⟨tb + 1, 1, none⟩ (.int .i64 (n : Int))).heap[ob]? = w9.heap[ob]? := (Below.heap_setCell _ _ _ _ hob).trans (Below.heap_setCell _ _ _ _ hob); have R3 : ((w9.setCell ⟨tb + 1, 0, none⟩ (.int .i64 2)).setCell ⟨tb + 1, 1, none⟩ (.int .i64 (n : Int))).cell? ⟨ob, 0, none⟩ = some (.int .i64 2) ∧ ((w9.setCell ⟨tb + 1, 0, none⟩ (.int .i64 2)).setCell ⟨tb + 1, 1, none⟩ (.int .i64 (n : Int))).cell? ⟨ob, 1, none⟩ = some (.int .i64 (n : Int)) := ⟨by rw [cell_of_row _ _ _ _ _ _ (e3.trans hb9.2)]; rfl, by rw [cell_of_row _ _ _ _ _ _ (e3.trans hb9.2)]; rfl⟩; have HB9 := Lib.hid hb9; clear hb9 e3))
      all_goals
        have g3 := HB9.out.1
        have p0 : ((w9.setCell ⟨tb + 1, 0, none⟩ (.int .i64 2)).setCell ⟨tb + 1, 1, none⟩ (.int .i64 (n : Int))).heap[tb + 1]? = some (.cells #[.int .i64 2, .int .i64 (n : Int)] 34 (0, 0)) := by
          rw [heap_setCell_same _ _ _ _ _ _ (heap_setCell_same w9 _ _ _ _ _ g3)]; rfl
        have r0 : ((w9.setCell ⟨tb + 1, 0, none⟩ (.int .i64 2)).setCell ⟨tb + 1, 1, none⟩ (.int .i64 (n : Int))).cell? ⟨tb + 1, 0, none⟩ = some (.int .i64 2) := by rw [cell_of_row _ _ _ _ _ _ p0]; rfl
        have r1 : ((w9.setCell ⟨tb + 1, 0, none⟩ (.int .i64 2)).setCell ⟨tb + 1, 1, none⟩ (.int .i64 (n : Int))).cell? ⟨tb + 1, 1, none⟩ = some (.int .i64 (n : Int)) := by rw [cell_of_row _ _ _ _ _ _ p0]; rfl
        obtain ⟨-, x9, f9, -, s9⟩ := WS9.out
        have x9t : x9 (tb + 1) = 60 := (f9.col _ (lt_of_block G5'.out)).trans X6.out.1
        have fA : Fr x9 x9 (fun e => e = 60) w9 ((w9.setCell ⟨tb + 1, 0, none⟩ (.int .i64 2)).setCell ⟨tb + 1, 1, none⟩ (.int .i64 (n : Int))) := Fr.same rfl rfl rfl (by simp) (fun b _ hC => by
          have hne : b ≠ tb + 1 := by rintro rfl; exact hC x9t
          rw [Below.heap_setCell _ _ _ _ hne, Below.heap_setCell _ _ _ _ hne])
        have FA := Lib.hid ((F6.out.trans (f9.mono (D := AQ) (fun e he => by
          rcases he with he | he
          · exact PC_AQ e he
          · have := he.2; show e ≤ 95; omega))).trans (fA.mono (D := AQ) (fun e he => by show e ≤ 95; omega)))
        have SA := Lib.hid ((s9.frame fA (fun e he hc => by subst hc; exact nPC (by omega) (PD_PC 0 20 _ he))).mono (N' := N + 5000) (by omega))
        clear R2 R3 t0 t1 u0 u1 g3 p0 f9 s9 x9t fA
        go_wp2_with fail
        refine bodyPost_ret (v := .tuple #[.agg #[.int .i64 2, .int .i64 (n : Int)], .string T, .bool true]) (by simp [results, Tryz.f8, go_sem, r0, r1]) rfl ?_
        exact ⟨n, catL (PP P M) K, x9, V9, by rw [HTT.out], FA.out, SA.out, CL9.out, o1, o2, by rw [HTS.out, HSZ.out]; exact O3.out, by rw [HTS.out]; exact hK3⟩

end Go.Proofs.YtbgbomlmgkgkoaaGreat.st

namespace Go.Proofs.YtbgbomlmgkgkoaaGreat.st
open Go.RowKit Go.Proofs.YtbgbomlmgkgkoaaGreat.own Go.Proofs.YtbgbomlmgkgkoaaGreat.dv Go.Proofs.YtbgbomlmgkgkoaaGreat.po Go.Proofs.YtbgbomlmgkgkoaaGreat.arcI

/-- numbers of one kind that came in, one behind the other -/
def NumsIn (W : World) (k : IntKind) (B : Nat) (aT : Option Addr) (len : Nat) (S : Nat → Nat) : Prop :=
  ∀ j, j < len → ∃ b o, aT = some ⟨b, o, none⟩ ∧ b < W.heap.size ∧ W.cell? ⟨b, o + j, none⟩ = some (.int k (S j : Int)) ∧ S j < B
/-- the two spaces' colours -/
def CC2 (c : Nat) : Prop := c = 0 ∨ c = 82
theorem CC2.cd {c : Nat} (h : CC2 c) : c + 9 < 20 ∨ 20 + 2 < c := by rcases h with rfl | rfl <;> omega
theorem CC2.pc {c : Nat} (h : CC2 c) {e : Nat} (h1 : 23 ≤ e) (h2 : e < 82) : ¬ PC c 20 e := fun he => by
  rcases h with rfl | rfl
  · rcases he with he | he
    · have := he.2; omega
    · have := he.2; omega
  · rcases he with he | he
    · have := he.1; omega
    · have := he.2; omega
theorem CC2.aq {c : Nat} (h : CC2 c) : ∀ e, PC c 20 e → e ≤ 95 := fun e he => by
  rcases h with rfl | rfl
  · exact PC_AQ e he
  · rcases he with he | he
    · have := he.2; omega
    · have := he.2; omega
def AQ2 : Nat → Prop := fun e => e ≤ 99
/-- what stands while a space is read: the law's boxes, the space, and the other one -/
structure RX (w : World) (gb ob sb s2 db eb2 mb rb n m fr : Nat) (V : Int → ByteArray) (c spb ebx B : Nat) (x : Nat → Nat) (wr : World) : Prop where
  f : Fr (fun _ => 100) x AQ2 w wr
  g : wr.heap[gb]? = some (.cells #[.pointer (some ⟨db, 0, none⟩), .pointer (some ⟨sb, 0, none⟩), .pointer (some ⟨mb, 0, none⟩), .pointer (some ⟨rb, 0, none⟩)] 29 (0, 0))
  gx : x gb = 98
  o : wr.heap[ob]? = some (.cells #[.int .i64 2, .int .i64 (n : Int)] 34 (0, 0))
  ox : x ob = 98
  s : SQ (QV V) x c 20 wr spb db ebx B m V
  t : c = 0 → ∃ cb pm blk, TI x 82 wr s2 db eb2 cb pm blk (newP fr) B
section
variable {w : World} {gb ob sb s2 db eb2 mb rb n m fr : Nat} {V : Int → ByteArray} {c spb ebx B : Nat} {x : Nat → Nat} {wr : World}
theorem RX.turn (h : RX w gb ob sb s2 db eb2 mb rb n m fr V c spb ebx B x wr) (hc : CC2 c) {x' : Nat → Nat} {w' : World} {C : Nat → Prop} {B' : Nat} (hC : ∀ e, C e → PC c 20 e ∨ (70 ≤ e ∧ e < 80)) (hB : B ≤ B') (f : Fr x x' C wr w') (s : SQ (QV V) x' c 20 w' spb db ebx B' m V) : RX w gb ob sb s2 db eb2 mb rb n m fr V c spb ebx B' x' w' := by
  have n98 : ¬ C 98 := fun h => by
    rcases hC _ h with q | q
    · have := hc.aq _ q; omega
    · omega
  refine ⟨h.f.trans (f.mono (fun e he => by
    rcases hC e he with q | q
    · have := hc.aq _ q; show e ≤ 99; omega
    · show e ≤ 99; omega)), (f.old _ (lt_of_block h.g) (by rw [h.gx]; exact n98)).trans h.g, (f.col _ (lt_of_block h.g)).trans h.gx, (f.old _ (lt_of_block h.o) (by rw [h.ox]; exact n98)).trans h.o, (f.col _ (lt_of_block h.o)).trans h.ox, s, fun h0 => ?_⟩
  obtain ⟨cb, pm, blk, t⟩ := h.t h0
  refine ⟨cb, pm, blk, (t.frame f (fun e he hc' => ?_)).mono hB⟩
  have h1 := he.1.1
  rcases hC e hc' with q | q
  · subst h0
    have := PC_AQ e q
    rcases q with q | q
    · have := q.2; omega
    · have := q.2; omega
  · omega
theorem RX.below (h : RX w gb ob sb s2 db eb2 mb rb n m fr V c spb ebx B x wr) (hc : CC2 c) {w' : World} (hb : Below wr.heap.size wr w') : RX w gb ob sb s2 db eb2 mb rb n m fr V c spb ebx B (paint x wr.heap.size 70) w' := by
  have f : Fr x (paint x wr.heap.size 70) (fun e => e = 70) wr w' := Fr.of_below hb rfl
  exact h.turn hc (fun e he => .inr (by omega)) (Nat.le_refl _) f (h.s.frame f (fun e he hc' => by subst hc'; exact hc.pc (by omega) (by omega) (PD_PC c 20 _ he)))
/-- the other space is read now -/
theorem RX.other (h : RX w gb ob sb s2 db eb2 mb rb n m fr V 0 spb ebx B x wr) (h1 : 1 ≤ fr) (h2 : fr ≤ 1024) : RX w gb ob sb s2 db eb2 mb rb n m fr V 82 s2 eb2 B x wr := by
  obtain ⟨cb, pm, blk, t⟩ := h.t rfl
  exact ⟨h.f, h.g, h.gx, h.o, h.ox, h.s.second t h1 h2 (Nat.le_refl _), fun h0 => by cases h0⟩
theorem RX.mono (h : RX w gb ob sb s2 db eb2 mb rb n m fr V c spb ebx B x wr) {B' : Nat} (hB : B ≤ B') : RX w gb ob sb s2 db eb2 mb rb n m fr V c spb ebx B' x wr :=
  ⟨h.f, h.g, h.gx, h.o, h.ox, h.s.mono hB, fun h0 => by
    obtain ⟨cb, pm, blk, t⟩ := h.t h0
    exact ⟨cb, pm, blk, t.mono hB⟩⟩
theorem RX.old (h : RX w gb ob sb s2 db eb2 mb rb n m fr V c spb ebx B x wr) : Below w.heap.size w wr :=
  h.f.below_all (fun b _ hC => by have : (100 : Nat) ≤ 99 := hC; omega)
end

set_option maxRecDepth 100000 in
set_option maxHeartbeats 12800000 in
theorem back_walk (s0 f0 o0 : Int) (aT : Option Addr) (len cap : Nat) (P : Nat → ByteArray) (M : Nat → Int) (aP : Option Addr) (lenP capP : Nat) (R : Nat → Nat) (w : World) (hpc : VPc w aT len P M) (hpl : NumsIn w .u16 65536 aP lenP R) :
    Calls Tryz.prog 3 #[.int .i64 s0, .int .i64 f0, .slice aT len cap, .slice aP lenP capP, .int .i64 o0] w fun e w' => e = .returned (.bool true) ∧ Below w.heap.size w w' := by
  have HPC := Lib.hid hpc
  have PL := Lib.hid hpl
  clear hpc hpl
  obtain ⟨fr, hfr, fr1, fr2⟩ := mod9_is o0
  have HFR := Lib.hid hfr
  clear hfr
  go_enter Tryz.func3, Tryz.ntmps3
  go_wp2_with fail
  refine (made2_any (fun _ => 100) 0 20 30 (.inl (by omega)) (.inl (by omega)) (.inl (by omega)) (by rintro (q | q); exact absurd q.1.2 (by omega); exact absurd q.2 (by omega)) (fun q => by have := q.2; omega) w s0 f0).mono ?_
  rintro e w1 ⟨sb, db, eb, mb, rb, m, fr0, x1, rfl, m1, m2, r1, r2, f1, s1, e1⟩
  obtain ⟨V0, hV⟩ := SV.made s1 (by omega) r1 (by omega)
  have S1 := Lib.hid hV
  have E1 := Lib.hid e1
  have F1 := Lib.hid (f1.mono (D := AQ2) (fun e he => by rcases he with he | he | he; (have := PC_AQ e he; show e ≤ 99; omega); (have := he.2; show e ≤ 99; omega); (show e ≤ 99; omega)))
  clear s1 hV f1 e1
  go_wp2_with fail
  have hb2 : Below w1.heap.size w1 (w1.alloc (.cells #[.pointer (some ⟨db, 0, none⟩), .pointer (some ⟨sb, 0, none⟩), .pointer (some ⟨mb, 0, none⟩), .pointer (some ⟨rb, 0, none⟩)] 29)) := (Below.refl _ w1).alloc (Nat.le_refl _) _
  have f2 : Fr x1 (paint x1 w1.heap.size 98) (fun e => e = 98) w1 (w1.alloc (.cells #[.pointer (some ⟨db, 0, none⟩), .pointer (some ⟨sb, 0, none⟩), .pointer (some ⟨mb, 0, none⟩), .pointer (some ⟨rb, 0, none⟩)] 29)) := Fr.of_below hb2 rfl
  have g2 := World.alloc_heap_new w1 (.cells #[.pointer (some ⟨db, 0, none⟩), .pointer (some ⟨sb, 0, none⟩), .pointer (some ⟨mb, 0, none⟩), .pointer (some ⟨rb, 0, none⟩)] 29)
  have X2 : Hid (paint x1 w1.heap.size 98 w1.heap.size = 98) := Lib.hid (paint_new (Nat.le_refl _))
  have S2 := Lib.hid (S1.out.frame f2 (fun e he hc => by subst hc; exact nPC (by omega) (PD_PC 0 20 _ he)))
  have E2 := Lib.hid (E1.out.frame f2 (fun e he hc => by have := he.2; omega))
  have F2 := Lib.hid (F1.out.trans (f2.mono (fun e he => by show e ≤ 99; omega)))
  have G2 := Lib.hid g2
  clear hb2 f2 g2 S1 F1 E1
  generalize World.alloc w1 _ = W2 at X2 S2 E2 F2 G2 ⊢
  generalize paint x1 w1.heap.size 98 = x2 at X2 S2 E2 F2
  generalize w1.heap.size = gb at X2 G2 ⊢
  refine (awake_any W2).mono ?_
  rintro e w3 ⟨rfl, b3⟩
  have f3 : Fr x2 (paint x2 W2.heap.size 70) (fun e => e = 70) W2 w3 := Fr.of_below b3 rfl
  have S3 := Lib.hid (S2.out.frame f3 (fun e he hc => by subst hc; exact nPC (by omega) (PD_PC 0 20 _ he)))
  have E3 := Lib.hid (E2.out.frame f3 (fun e he hc => by have := he.2; omega))
  have F3 := Lib.hid (F2.out.trans (f3.mono (D := AQ2) (fun e he => by show e ≤ 99; omega)))
  have X3 := Lib.hid ((f3.col _ (lt_of_block G2.out)).trans X2.out)
  have g3 := (b3.block _ (lt_of_block G2.out)).trans G2.out
  have k0 : w3.cell? ⟨gb, 0, none⟩ = some (.pointer (some ⟨db, 0, none⟩)) := by rw [cell_of_row _ _ _ _ _ _ g3]; rfl
  have k1 : w3.cell? ⟨gb, 1, none⟩ = some (.pointer (some ⟨sb, 0, none⟩)) := by rw [cell_of_row _ _ _ _ _ _ g3]; rfl
  have k2 : w3.cell? ⟨gb, 2, none⟩ = some (.pointer (some ⟨mb, 0, none⟩)) := by rw [cell_of_row _ _ _ _ _ _ g3]; rfl
  have k3 : w3.cell? ⟨gb, 3, none⟩ = some (.pointer (some ⟨rb, 0, none⟩)) := by rw [cell_of_row _ _ _ _ _ _ g3]; rfl
  have G3 := Lib.hid g3
  clear f3 b3 g3 S2 E2 F2 X2 G2
  generalize paint x2 W2.heap.size 70 = x3 at S3 E3 F3 X3
  go_wp2_with fail
  clear k0 k1 k2 k3
  refine (written_any w aT len cap P M x3 w3 db sb mb rb eb 0 m V0 HPC.out (F3.out.below_all (fun b _ hC => by have : (100 : Nat) ≤ 99 := hC; omega)) (fun b hb => F3.out.col b hb) S3.out E3.out (by omega) (by omega)).mono ?_
  rintro e w4 ⟨n, all, x4, V, rfl, f4, s4, cl4, o1, o2, o3, o4⟩
  have S4 := Lib.hid s4
  have F4 := Lib.hid (F3.out.trans (f4.mono (D := AQ2) (fun e he => by have : e ≤ 95 := he; show e ≤ 99; omega)))
  have G4 := Lib.hid ((f4.old _ (lt_of_block G3.out) (by rw [X3.out]; intro (q : 98 ≤ 95); omega)).trans G3.out)
  have X4 := Lib.hid ((f4.col _ (lt_of_block G3.out)).trans X3.out)
  have CL := Lib.hid cl4
  have O3 := Lib.hid o3
  obtain ⟨T, hT⟩ : ∃ T : ByteArray, T = ⟨all.toArray⟩ := ⟨_, rfl⟩
  have HT : Hid (T.data.toList = all) := Lib.hid (by rw [hT])
  have hTs : all.length = T.size := by
    have q : T.data.toList.length = T.size := Array.length_toList
    rw [← q, HT.out]
  have HTS := Lib.hid hTs
  rw [hTs] at o4
  have HTT := Lib.hid hT
  rw [← hT]
  clear s4 f4 cl4 o3 S3 E3 F3 X3 G3 hT hTs
  have hb5 : Below w4.heap.size w4 (w4.alloc (.cells #[.int .i64 2, .int .i64 (n : Int)] 34)) := (Below.refl _ w4).alloc (Nat.le_refl _) _
  have f5 : Fr x4 (paint x4 w4.heap.size 98) (fun e => e = 98) w4 (w4.alloc (.cells #[.int .i64 2, .int .i64 (n : Int)] 34)) := Fr.of_below hb5 rfl
  have g6 := World.alloc_heap_new w4 (.cells #[.int .i64 2, .int .i64 (n : Int)] 34)
  have S5 := Lib.hid (S4.out.frame f5 (fun e he hc => by subst hc; exact nPC (by omega) (PD_PC 0 20 _ he)))
  have F5 := Lib.hid (F4.out.trans (f5.mono (D := AQ2) (fun e he => by show e ≤ 99; omega)))
  have g5 := (hb5.block _ (lt_of_block G4.out)).trans G4.out
  have k1 : (w4.alloc (.cells #[.int .i64 2, .int .i64 (n : Int)] 34)).cell? ⟨gb, 1, none⟩ = some (.pointer (some ⟨sb, 0, none⟩)) := by rw [cell_of_row _ _ _ _ _ _ g5]; rfl
  have X5 : Hid (paint x4 w4.heap.size 98 gb = 98 ∧ paint x4 w4.heap.size 98 w4.heap.size = 98) := Lib.hid ⟨(paint_old (lt_of_block G4.out)).trans X4.out, paint_new (Nat.le_refl _)⟩
  have G5 := Lib.hid g5
  have G6 := Lib.hid g6
  clear hb5 f5 g5 g6 S4 F4 X4 G4
  go_upto_region 5 with fail
  generalize World.alloc w4 _ = W5 at S5 F5 k1 G5 G6 ⊢
  generalize paint x4 w4.heap.size 98 = x5 at S5 F5 X5
  generalize w4.heap.size = ob at G6 X5 ⊢
  go_wp2_with fail
  clear k1
  refine (S5.out.flush (.inl (by omega)) (by omega)).mono ?_
  rintro e w6 ⟨rfl, x6, f6, s6⟩
  have n98 : ∀ c, CC2 c → ¬ PC c 20 98 := fun c hc q => by have := hc.aq _ q; omega
  have S6 := Lib.hid s6
  have F6 := Lib.hid (F5.out.trans (f6.mono (D := AQ2) (fun e he => by have := PC_AQ e he; show e ≤ 99; omega)))
  have G7 := Lib.hid ((f6.old _ (lt_of_block G5.out) (by rw [X5.out.1]; exact n98 0 (.inl rfl))).trans G5.out)
  have G8 := Lib.hid ((f6.old _ (lt_of_block G6.out) (by rw [X5.out.2]; exact n98 0 (.inl rfl))).trans G6.out)
  have X6 : Hid (x6 gb = 98 ∧ x6 ob = 98) := Lib.hid ⟨(f6.col _ (lt_of_block G5.out)).trans X5.out.1, (f6.col _ (lt_of_block G6.out)).trans X5.out.2⟩
  clear s6 f6 S5 F5 X5 G5 G6 n98
  go_wp2_with fail
  refine (ENew_any x6 80 w6 2 24 (by omega) (by omega)).mono ?_
  rintro e w7 ⟨eb2, x7, rfl, f7, -, b7⟩
  have c7 : ∀ e, EC 80 e → e = 80 ∨ e = 81 := fun e he => by have := he.1; have := he.2; omega
  have S7 := Lib.hid (S6.out.frame f7 (fun e he hc => by have := c7 e hc; exact nPC (by omega) (PD_PC 0 20 _ he)))
  have F7 := Lib.hid (F6.out.trans (f7.mono (D := AQ2) (fun e he => by have := c7 e he; show e ≤ 99; omega)))
  have g7 := (b7.block _ (lt_of_block G7.out)).trans G7.out
  have G9 := Lib.hid g7
  have G10 := Lib.hid ((b7.block _ (lt_of_block G8.out)).trans G8.out)
  have X7 : Hid (x7 gb = 98 ∧ x7 ob = 98) := Lib.hid ⟨(f7.col _ (lt_of_block G7.out)).trans X6.out.1, (f7.col _ (lt_of_block G8.out)).trans X6.out.2⟩
  have k0 : w7.cell? ⟨gb, 0, none⟩ = some (.pointer (some ⟨db, 0, none⟩)) := by rw [cell_of_row _ _ _ _ _ _ g7]; rfl
  have hfr := HFR.out
  clear f7 b7 c7 g7 S6 F6 X6 G7 G8
  go_wp2_with fail
  clear hfr k0
  refine (PNew_any x7 82 db eb2 w7 fr fr1 (by omega)).mono ?_
  rintro e w8 ⟨s2, cb, pm, x8, rfl, f8, t8, b8⟩
  have RX0 : Hid (RX w gb ob sb s2 db eb2 mb rb n m fr V 0 sb eb 14000 x8 w8) := Lib.hid ⟨F7.out.trans (f8.mono (fun e he => by have := he.1.2; show e ≤ 99; omega)), (b8.block _ (lt_of_block G9.out)).trans G9.out, (f8.col _ (lt_of_block G9.out)).trans X7.out.1, (b8.block _ (lt_of_block G10.out)).trans G10.out, (f8.col _ (lt_of_block G10.out)).trans X7.out.2, (S7.out.frame f8 (fun e he hc => by
    have h1 := hc.1.1
    rcases he with he | he
    · have := he.1.2; omega
    · have := he.2; omega)).mono (by omega), fun _ => ⟨cb, pm, _, t8.mono (by omega)⟩⟩
  clear f8 t8 b8 S7 F7 X7 G9 G10
  obtain ⟨sn, hsn⟩ : ∃ sn, (onS 0 all).toNat = sn := ⟨_, rfl⟩
  have hsl : sn < 4294967296 := by have := (onS_U32 all).2; have := (onS_U32 all).1; omega
  have HSUM : Hid (onS 0 all = (sn : Int)) := Lib.hid (by have := (onS_U32 all).1; omega)
  have FT : Hid ((V (((2 : Nat) : Int) + (n : Int) - 1)).data.toList.drop (512 * m - 12) = bytesN T.size 8 ++ bytesN sn 4) := Lib.hid (by
    have q := CL.out.foot
    rw [hsn, HTS.out] at q
    exact q)
  have HRD : Hid (∀ off k, off + k ≤ T.size → readL V 2 (512 * m) off k = (all.drop off).take k) := Lib.hid (fun off k h => readL_of CL.out.bytes (by rw [HTS.out]; exact h))
  have HL : Hid (T.size ≤ n * (512 * m) - 12) := Lib.hid (by rw [← HTS.out]; exact O3.out)
  have hmm : 1 ≤ m ∧ m ≤ 8 := by omega
  clear hsn
  go_upto_block 0 with fail
  go_wp2_with fail
  go_loopw [20] (fun i wr => ∃ j : Nat, i = .int .i64 (j : Int) ∧ ((j = 0 ∧ ∃ x, RX w gb ob sb s2 db eb2 mb rb n m fr V 0 sb eb 14000 x wr) ∨ (j = 1 ∧ ∃ x, RX w gb ob sb s2 db eb2 mb rb n m fr V 82 s2 eb2 2014000 x wr) ∨ (j = 2 ∧ Below w.heap.size w wr))) (fun i _ => 2 - (intOf i).toNat)
  case atStart => exact ⟨0, rfl, .inl ⟨rfl, x8, RX0.out⟩⟩
  case round => as_aux_lemma =>
    obtain ⟨j, rfl, hj⟩ := hrel
    have HJ := Lib.hid hj
    clear hj RX0
    by_cases hj2 : j = 2
    · subst hj2
      have hB : Hid (Below w.heap.size w wr) := Lib.hid (by
        rcases HJ.out with ⟨h, -⟩ | ⟨h, -⟩ | ⟨-, h⟩
        · cases h
        · cases h
        · exact h)
      clear HJ
      go_wp2_with fail
      go_ret
      exact ⟨rfl, hB.out⟩
    · have hE : ∃ c spb ebx x, CC2 c ∧ ((j = 0 ∧ c = 0 ∧ spb = sb ∧ ebx = eb) ∨ (j = 1 ∧ c = 82 ∧ spb = s2 ∧ ebx = eb2)) ∧ RX w gb ob sb s2 db eb2 mb rb n m fr V c spb ebx (14000 + 2000000 * j) x wr := by
        rcases HJ.out with ⟨rfl, x, h⟩ | ⟨rfl, x, h⟩ | ⟨h, -⟩
        · exact ⟨0, sb, eb, x, .inl rfl, .inl ⟨rfl, rfl, rfl, rfl⟩, h⟩
        · exact ⟨82, s2, eb2, x, .inr rfl, .inr ⟨rfl, rfl, rfl, rfl⟩, h⟩
        · exact absurd h hj2
      obtain ⟨c, spb, ebx, x0, hc, hcase, hR⟩ := hE
      have hjl : j ≤ 1 := by rcases hcase with ⟨h, -⟩ | ⟨h, -⟩ <;> omega
      have j3 : (j : Int) < 2 := by omega
      have R0 := Lib.hid hR
      have HCS := Lib.hid hcase
      have HC := Lib.hid hc
      have k1 : wr.cell? ⟨gb, 1, none⟩ = some (.pointer (some ⟨sb, 0, none⟩)) := by rw [cell_of_row _ _ _ _ _ _ hR.g]; rfl
      clear hR hcase hc HJ
      go_upto_region 14 with fail
      go_cut [21] from 82 to 88 (fun s wc => s = .pointer (some ⟨spb, 0, none⟩) ∧ ∃ x, RX w gb ob sb s2 db eb2 mb rb n m fr V c spb ebx (14000 + 2000000 * j) x wc)
      case first => as_aux_lemma =>
        have hcs := HCS.out
        clear HCS
        rcases hcs with ⟨rfl, rfl, rfl, rfl⟩ | ⟨rfl, rfl, rfl, rfl⟩
        · have RA := Lib.hid (R0.out.below HC.out ((Below.refl _ wr).alloc (Nat.le_refl _) (.cells #[.pointer (some ⟨spb, 0, none⟩), .pointer (some ⟨s2, 0, none⟩)] 25)))
          go_wp2_with fail
          go_meet
          case rel => exact ⟨rfl, _, RA.out⟩
        · have RA := Lib.hid (R0.out.below HC.out ((Below.refl _ wr).alloc (Nat.le_refl _) (.cells #[.pointer (some ⟨sb, 0, none⟩), .pointer (some ⟨spb, 0, none⟩)] 25)))
          go_wp2_with fail
          go_meet
          case rel => exact ⟨rfl, _, RA.out⟩
      case rest => as_aux_lemma =>
        obtain ⟨rfl, x1, hR⟩ := hcut
        have R1 := Lib.hid hR
        have q0 : wc.cell? ⟨ob, 0, none⟩ = some (.int .i64 2) := by rw [cell_of_row _ _ _ _ _ _ hR.o]; rfl
        have q1 : wc.cell? ⟨ob, 1, none⟩ = some (.int .i64 (n : Int)) := by rw [cell_of_row _ _ _ _ _ _ hR.o]; rfl
        clear hR R0 k1
        obtain ⟨B, hB⟩ : ∃ B, 14000 + 2000000 * j = B := ⟨_, rfl⟩
        have hBl : B ≤ 2014000 := by omega
        rw [hB] at R1
        have HB := Lib.hid hB
        clear hB
        go_wp2_with fail
        clear q0 q1
        refine (Open_any x1 70 c 20 wc spb db ebx B m 2 n T.size sn V R1.out.s HC.out.cd (HC.out.pc (by omega) (by omega)) o1 (by omega) (by omega) FT.out HL.out hsl).mono ?_
        rintro e w9 ⟨rr, x9, rfl, f9, ri9, xr9, -, s9⟩
        have R9 := Lib.hid (R1.out.turn HC.out (fun e he => he.imp id (fun h => by omega)) (by omega) f9 s9)
        have RI9 := Lib.hid ri9
        have XR9 := Lib.hid xr9
        clear f9 ri9 xr9 s9 R1
        go_wp2_with fail
        refine (Length_any w9 rr spb 2 n T.size sn RI9.out).mono ?_
        rintro e w10 ⟨rfl, rfl⟩
        have hall : onS 0 (readL V 2 (512 * m) 0 T.size) = (sn : Int) := by
          rw [HRD.out 0 T.size (by omega), List.drop_zero, List.take_of_length_le (by rw [HTS.out]; exact Nat.le_refl _), HSUM.out]
        have HALL := Lib.hid hall
        clear hall
        go_wp2_with fail
        refine (Verify_any x9 71 c 20 w9 rr spb db ebx (B + 8) m 2 n T.size sn V R9.out.s RI9.out HC.out.cd (HC.out.pc (by omega) (by omega)) (HC.out.pc (by omega) (by omega)) (by rw [XR9.out]; exact HC.out.pc (by omega) (by omega)) (by rw [XR9.out]; exact ⟨by omega, by omega⟩) o1 (by omega) HL.out (by omega)).mono ?_
        rintro e w11 ⟨he, x11, f11, s11⟩
        rw [if_pos HALL.out] at he
        subst he
        have cRC : ∀ e, RC c 20 71 e → PC c 20 e ∨ (70 ≤ e ∧ e < 80) := fun e he => by
          rcases he with he | he | he
          · exact .inl he
          · exact .inr (by omega)
          · exact .inr (by omega)
        have nRC : ¬ RC c 20 71 70 := fun he => by
          rcases he with he | he | he
          · exact HC.out.pc (by omega) (by omega) he
          · omega
          · omega
        have CRC := Lib.hid cRC
        have NRC := Lib.hid nRC
        have R11 := Lib.hid (R9.out.turn HC.out cRC (B' := B + 50000) (by omega) f11 (s11.mono (by omega)))
        have RI11 := Lib.hid (RI9.out.frame (f11.old _ (lt_of_block RI9.out) (by rw [XR9.out]; exact nRC)))
        have XR11 := Lib.hid ((f11.col _ (lt_of_block RI9.out)).trans XR9.out)
        clear f11 s11 R9 RI9 XR9 cRC nRC
        go_wp2_with fail
        refine (ReadAt_any x11 71 c 20 w11 rr spb db ebx (B + 50000) m 2 n T.size sn V R11.out.s RI11.out HC.out.cd (HC.out.pc (by omega) (by omega)) (HC.out.pc (by omega) (by omega)) (by rw [XR11.out]; exact HC.out.pc (by omega) (by omega)) (by rw [XR11.out]; exact ⟨by omega, by omega⟩) o1 (by omega) HL.out 0 T.size (by omega) (by omega)).mono ?_
        rintro e w12 ⟨rfl, x12, f12, s12⟩
        have hT0 : (⟨(readL V 2 (512 * m) 0 T.size).toArray⟩ : ByteArray) = T := by
          rw [HRD.out 0 T.size (by omega), List.drop_zero, List.take_of_length_le (by rw [HTS.out]; exact Nat.le_refl _), ← HTT.out]
        rw [hT0]
        have R12 := Lib.hid (R11.out.turn HC.out CRC.out (B' := B + 100000) (by omega) f12 (s12.mono (by omega)))
        have RI12 := Lib.hid (RI11.out.frame (f12.old _ (lt_of_block RI11.out) (by rw [XR11.out]; exact NRC.out)))
        have XR12 := Lib.hid ((f12.col _ (lt_of_block RI11.out)).trans XR11.out)
        clear f12 s12 R11 RI11 XR11 hT0
        go_upto_block 2 with fail
        go_cut [26, 27, 28, 29, 30] from 123 to 173 (fun _ _ _ _ _ wc => ∃ x, RX w gb ob sb s2 db eb2 mb rb n m fr V c spb ebx (B + 1990000) x wc ∧ RI wc rr spb 2 n T.size sn ∧ x rr = 70)
        case first => as_aux_lemma =>
          --D
          go_wp2_with fail
          go_loopw [26] (fun i wr => ∃ (q : Nat) (x : Nat → Nat), i = .int .i64 (q : Int) ∧ q ≤ 42 ∧ RX w gb ob sb s2 db eb2 mb rb n m fr V c spb ebx (B + 100000 + 24000 * q) x wr ∧ RI wr rr spb 2 n T.size sn ∧ x rr = 70) (fun i _ => 42 - (intOf i).toNat)
          case atStart => exact ⟨0, x12, rfl, by omega, R12.out, RI12.out, XR12.out⟩
          case round => as_aux_lemma =>
            clear R12 RI12 XR12
            obtain ⟨q, x13, rfl, hq, hR, hI, hX⟩ := hrel
            have R13 := Lib.hid hR
            have RI13 := Lib.hid hI
            have XR13 := Lib.hid hX
            clear hR hI hX
            have hcases : (q + 1 < lenP ∧ q < 40) ∨ ¬ q + 1 < lenP ∨ (q + 1 < lenP ∧ ¬ q < 40) := by omega
            obtain ⟨c1, c2⟩ | c1 | ⟨c1, c2⟩ := hcases
            · obtain ⟨b, o, haP, hbl, cA, hA⟩ := PL.out q (by omega)
              obtain ⟨b', o', haP', -, cB, hB⟩ := PL.out (q + 1) c1
              subst haP
              have ea := Option.some.inj haP'
              obtain rfl : b = b' := congrArg Addr.block ea
              obtain rfl : o = o' := congrArg Addr.off ea
              have OLD := R13.out.old
              have cA := (OLD.cell (p := ⟨b, o + q, none⟩) hbl).trans cA
              have cB := (OLD.cell (p := ⟨b, o + (q + 1), none⟩) hbl).trans cB
              obtain ⟨t1, ht1⟩ : ∃ t1, T.size + 1 = t1 := ⟨_, rfl⟩
              obtain ⟨off, hoff⟩ : ∃ off, R q % t1 = off := ⟨_, rfl⟩
              have hol : off ≤ T.size := by rw [← hoff]; have := Nat.mod_lt (R q) (show 0 < t1 by omega); omega
              obtain ⟨t2, ht2⟩ : ∃ t2, T.size - off + 1 = t2 := ⟨_, rfl⟩
              obtain ⟨k, hk⟩ : ∃ k, R (q + 1) % t2 = k := ⟨_, rfl⟩
              have hkl : off + k ≤ T.size := by rw [← hk]; have := Nat.mod_lt (R (q + 1)) (show 0 < t2 by omega); omega
              have e1 : IntKind.i64.wrap ((T.size : Int) + 1) = (t1 : Int) := by rw [IntWalk.i64_in _ (by omega)]; omega
              have e2 : Int.tmod (R q : Int) (t1 : Int) = (off : Int) := by rw [← hoff]; exact (Int.ofNat_tmod _ _).symm
              have e3 : IntKind.i64.wrap ((T.size : Int) - (off : Int)) = ((T.size - off : Nat) : Int) := by rw [IntWalk.i64_in _ (by omega)]; omega
              have e4 : IntKind.i64.wrap (((T.size - off : Nat) : Int) + 1) = (t2 : Int) := by rw [IntWalk.i64_in _ (by omega)]; omega
              have e5 : Int.tmod (R (q + 1) : Int) (t2 : Int) = (k : Int) := by rw [← hk]; exact (Int.ofNat_tmod _ _).symm
              have e6 : IntKind.i64.wrap ((off : Int) + (k : Int)) = (off : Int) + (k : Int) := IntWalk.i64_in _ (by omega)
              have z1 : ¬ ((t1 : Int) = 0) := by omega
              have z2 : ¬ ((t2 : Int) = 0) := by omega
              have z3 : ¬ (t1 = 0) := by omega
              have z4 : ¬ (t2 = 0) := by omega
              have i1 : (0 : Int) ≤ (q : Int) := by omega
              have i2 : (q : Int) < (lenP : Int) := by omega
              have i3 : (q : Int) + 1 < (lenP : Int) := by omega
              have i4 : (0 : Int) ≤ (q : Int) + 1 := by omega
              have i5 : (q : Int) < 40 := by omega
              have hT1 : Hid ((⟨(readL V 2 (512 * m) off k).toArray⟩ : ByteArray) = T.extract off (off + k)) := Lib.hid (by
                refine (ba_eq ?_).symm
                rw [extract_list, HT.out, HRD.out off k hkl, show off + k - off = k by omega])
              clear OLD ht1 hoff ht2 hk ea haP'
              go_wp2_with fail
              refine (ReadAt_any x13 71 c 20 wr rr spb db ebx (B + 100000 + 24000 * q) m 2 n T.size sn V R13.out.s RI13.out HC.out.cd (HC.out.pc (by omega) (by omega)) (HC.out.pc (by omega) (by omega)) (by rw [XR13.out]; exact HC.out.pc (by omega) (by omega)) (by rw [XR13.out]; exact ⟨by omega, by omega⟩) o1 (by omega) HL.out off k hkl (by omega)).mono ?_
              rintro e w14 ⟨rfl, x14, f14, s14⟩
              rw [hT1.out]
              have R14 := Lib.hid (R13.out.turn HC.out CRC.out (B' := B + 100000 + 24000 * (q + 2)) (by omega) f14 (s14.mono (by omega)))
              have RI14 := Lib.hid (RI13.out.frame (f14.old _ (lt_of_block RI13.out) (by rw [XR13.out]; exact NRC.out)))
              have XR14 := Lib.hid ((f14.col _ (lt_of_block RI13.out)).trans XR13.out)
              clear f14 s14 R13 RI13 XR13 hT1 e1 e2 e3 e4 e5 cA cB
              go_wp2_with fail
              go_roundw
              case rel => exact ⟨q + 2, x14, by go_num, by omega, R14.out, RI14.out, XR14.out⟩
              case measure => simp [intOf]; omega
            · have i3 : ¬ (q : Int) + 1 < (lenP : Int) := by omega
              have R14 := Lib.hid (R13.out.mono (B' := B + 1990000) (by omega))
              go_wp2_with fail
              go_meet
              case rel => exact ⟨x13, R14.out, RI13.out, XR13.out⟩
            · have i3 : (q : Int) + 1 < (lenP : Int) := by omega
              have i5 : ¬ (q : Int) < 40 := by omega
              have R14 := Lib.hid (R13.out.mono (B' := B + 1990000) (by omega))
              go_wp2_with fail
              go_meet
              case rel => exact ⟨x13, R14.out, RI13.out, XR13.out⟩
        case rest => as_aux_lemma =>
          obtain ⟨x13, hR, hI, hX⟩ := hcut
          have R13 := Lib.hid hR
          have RI13 := Lib.hid hI
          clear hR hI hX R12 RI12 XR12
          go_wp2_with fail
          refine (ReadAt_end wc rr spb 2 n T.size sn RI13.out (by omega)).mono ?_
          rintro e w14 ⟨rfl, rfl⟩
          have HN : Hid ((j + 1 = 0 ∧ ∃ x, RX w gb ob sb s2 db eb2 mb rb n m fr V 0 sb eb 14000 x wc) ∨ (j + 1 = 1 ∧ ∃ x, RX w gb ob sb s2 db eb2 mb rb n m fr V 82 s2 eb2 2014000 x wc) ∨ (j + 1 = 2 ∧ Below w.heap.size w wc)) := Lib.hid (by
            rcases HCS.out with ⟨h0, h1, h2, h3⟩ | ⟨h0, h1, h2, h3⟩
            · refine .inr (.inl ⟨by omega, x13, ?_⟩)
              have q := R13.out
              rw [h1, h2, h3] at q
              exact (q.other fr1 (by omega)).mono (by have := HB.out; omega)
            · exact .inr (.inr ⟨by omega, R13.out.old⟩))
          clear R13 RI13
          go_wp2_with fail
          go_roundw
          case rel => exact ⟨j + 1, by go_num, HN.out⟩
          case measure => simp [intOf]; omega

end Go.Proofs.YtbgbomlmgkgkoaaGreat.st

namespace Go.Proofs.YtbgbomlmgkgkoaaGreat.st
open Go.RowKit Go.ChangeShapes Go.WideShapes

theorem c_piece : Tryz.prog.cellsOf 101 = 2 := by kernel_rfl
theorem c_int9 : Tryz.prog.cellsOf 3 = 1 := by kernel_rfl
theorem c_str9 : Tryz.prog.cellsOf 9 = 1 := by kernel_rfl
theorem s_int_of {H : Type} {enc : TypeId × Value → H} {P : Program} {w : World} {base : Nat} {sp : Nat → Bool} {held : Bool} {fuel : Nat} {t : TypeId} {k : IntKind} {c : Value} {y : DataW H × List MemPlace}
    (ht : P.underlying t = some (.int k)) (h : DataW.trod enc P w base sp held fuel t [c] = some y) : ∃ n, c = .int k n ∧ (Lit.int k n).wf = true := by
  cases fuel with
  | zero => simp [DataW.trod] at h
  | succ fuel =>
    cases c <;> simp [DataW.trod, ht] at h
    rename_i k' n
    obtain ⟨⟨rfl, h1⟩, rfl⟩ := h
    exact ⟨n, rfl, h1⟩
theorem s_u16_nat (n : Int) (h : (Lit.int .u16 n).wf = true) : ∃ m : Nat, n = (m : Int) ∧ m < 65536 := by
  have h1 : (decide (IntKind.u16.min ≤ n) && decide (n ≤ IntKind.u16.max)) = true := h
  rw [Bool.and_eq_true] at h1
  have a := of_decide_eq_true h1.1
  have b := of_decide_eq_true h1.2
  have e1 : IntKind.u16.min = 0 := by decide
  have e2 : IntKind.u16.max = 65535 := by decide
  rw [e1] at a
  rw [e2] at b
  exact ⟨n.toNat, by omega, by omega⟩
set_option maxRecDepth 100000 in
theorem open_piece {H : Type} {enc : TypeId × Value → H} {w : World} {base : Nat} {sp : Nat → Bool} {held : Bool} {fuel : Nat} {v0 v1 : Value} {x : DataW H × List MemPlace} (h : DataW.trod enc Tryz.prog w base sp held fuel 101 [v0, v1] = some x) :
    ∃ (s : ByteArray) (a : Int), v0 = .string s ∧ v1 = .int .i64 a ∧ s.size ≤ 9223372036854775807 := by
  obtain ⟨xs, n, _, _, _, hlen, hf⟩ := DataW.trod_struct Tryz.underlying101 h
  match xs, hlen with
  | [y0, y1], _ =>
    have h0 := hf 0 _ rfl
    have h1 := hf 1 _ rfl
    simp [c_int9, c_str9] at h0 h1
    obtain ⟨m1, rfl, -⟩ := s_int_of Tryz.underlying3 h1
    obtain ⟨s, e, _, hs⟩ := DataW.trod_string Tryz.underlying9 h0
    exact ⟨s, m1, by simpa using e, rfl, by simpa [maxLen] using hs⟩

set_option maxRecDepth 100000 in
theorem pieces_open {H : Type} {enc : TypeId × Value → H} {W : World} {a : Option Addr} {len cap : Nat} {d : DataW H} {p : List MemPlace}
    (h : DataW.Trod enc Tryz.prog W 0 (fun _ => true) true 22 (.slice a len cap) d p) : ∃ P M, VPc W a len P M := by
  obtain ⟨fuel, hf⟩ := h
  rcases Deep.open_slice Tryz.underlying22 hf with ⟨hcs, _⟩ | ⟨x, len', cap', m, n, D, Pl, hcs, _, hl, hm, hmm, _, hx⟩
  · simp [Value.cells] at hcs
    obtain ⟨rfl, rfl, rfl⟩ := hcs
    exact ⟨fun _ => ⟨#[]⟩, fun _ => 0, fun j hj => by omega⟩
  · simp [Value.cells] at hcs
    obtain ⟨rfl, rfl, rfl⟩ := hcs
    have hm2 : m = cap := by simpa using hmm
    by_cases hl0 : len = 0
    · exact ⟨fun _ => ⟨#[]⟩, fun _ => 0, fun j hj => by omega⟩
    have hspot : x.spot = none := by
      obtain ⟨cs', h1, _⟩ := hx 0 (by omega)
      rw [c_piece] at h1
      obtain ⟨_, hlen, hget⟩ := World.cells?_some h1
      have g0 := hget 0 (by omega)
      rw [List.getElem?_eq_getElem (by omega)] at g0
      have := World.cell?_spot g0
      simpa [Addr.add] using this
    obtain ⟨b, o, sp⟩ := x
    have hsp : sp = none := hspot
    subst hsp
    clear hspot
    have key : ∀ j, j < len → ∃ y : ByteArray × Int, ∃ b' o', some (⟨b, o, none⟩ : Addr) = some (⟨b', o', none⟩ : Addr) ∧ b' < W.heap.size ∧ W.cell? ⟨b', o' + j * 2, none⟩ = some (.string y.1) ∧ W.cell? ⟨b', o' + j * 2 + 1, none⟩ = some (.int .i64 y.2) ∧ y.1.size ≤ 9223372036854775807 := by
      intro j hj
      obtain ⟨cs', h1, h2⟩ := hx j (by omega)
      rw [c_piece] at h1
      obtain ⟨_, hlen, hget⟩ := World.cells?_some h1
      match cs', hlen with
      | [c0, c1], _ =>
        obtain ⟨s, z, rfl, rfl, hs⟩ := open_piece h2
        have g0 := hget 0 (by omega)
        have g1 := hget 1 (by omega)
        rw [Addr.add_lit, Addr.add_lit] at g0 g1
        have g0' : W.cell? ⟨b, o + j * 2, none⟩ = some (.string s) := by simpa using g0
        have g1' : W.cell? ⟨b, o + j * 2 + 1, none⟩ = some (.int .i64 z) := by simpa using g1
        exact ⟨(s, z), b, o, rfl, World.block_lt_of_cell? W _ g0', g0', g1', hs⟩
    obtain ⟨F, hF⟩ := Deep.choose_lt key
    exact ⟨fun j => (F j).1, fun j => (F j).2, hF⟩

set_option maxRecDepth 100000 in
theorem nums_open {H : Type} {enc : TypeId × Value → H} {W : World} {a : Option Addr} {len cap : Nat} {d : DataW H} {p : List MemPlace} {t e : TypeId} {k : IntKind} {B : Nat} (hk : ∀ n : Int, (Lit.int k n).wf = true → ∃ m : Nat, n = (m : Int) ∧ m < B)
    (ht : Tryz.prog.underlying t = some (.slice e)) (he : Tryz.prog.underlying e = some (.int k)) (hce : Tryz.prog.cellsOf e = 1)
    (h : DataW.Trod enc Tryz.prog W 0 (fun _ => true) true t (.slice a len cap) d p) : (∃ S, NumsIn W k B a len S) ∧ len ≤ 9223372036854775807 := by
  obtain ⟨fuel, hf⟩ := h
  rcases Deep.open_slice ht hf with ⟨hcs, _⟩ | ⟨x, len', cap', m, n, D, Pl, hcs, _, hl, hm, hmm, _, hx⟩
  · simp [Value.cells] at hcs
    obtain ⟨rfl, rfl, rfl⟩ := hcs
    exact ⟨⟨fun _ => 0, fun j hj => by omega⟩, by omega⟩
  · simp [Value.cells] at hcs
    obtain ⟨rfl, rfl, rfl⟩ := hcs
    have hm2 : m = cap := by simpa using hmm
    have hml : len ≤ 9223372036854775807 := by simp only [maxLen] at hm; omega
    by_cases hl0 : len = 0
    · exact ⟨⟨fun _ => 0, fun j hj => by omega⟩, hml⟩
    have hspot : x.spot = none := by
      obtain ⟨cs', h1, _⟩ := hx 0 (by omega)
      rw [hce] at h1
      obtain ⟨_, hlen, hget⟩ := World.cells?_some h1
      have g0 := hget 0 (by omega)
      rw [List.getElem?_eq_getElem (by omega)] at g0
      have := World.cell?_spot g0
      simpa [Addr.add] using this
    obtain ⟨b, o, sp⟩ := x
    have hsp : sp = none := hspot
    subst hsp
    clear hspot
    have key : ∀ j, j < len → ∃ y : Nat, ∃ b' o', some (⟨b, o, none⟩ : Addr) = some (⟨b', o', none⟩ : Addr) ∧ b' < W.heap.size ∧ W.cell? ⟨b', o' + j, none⟩ = some (.int k (y : Int)) ∧ y < B := by
      intro j hj
      obtain ⟨cs', h1, h2⟩ := hx j (by omega)
      rw [hce] at h1
      obtain ⟨_, hlen, hget⟩ := World.cells?_some h1
      match cs', hlen with
      | [c0], _ =>
        obtain ⟨z, rfl, hz⟩ := s_int_of he h2
        obtain ⟨y, rfl, hy⟩ := hk z hz
        have g0 := hget 0 (by omega)
        rw [Addr.add_lit, Addr.add_lit] at g0
        have g0' : W.cell? ⟨b, o + j, none⟩ = some (.int k (y : Int)) := by simpa using g0
        exact ⟨y, b, o, rfl, World.block_lt_of_cell? W _ g0', g0', hy⟩
    obtain ⟨F, hF⟩ := Deep.choose_lt key
    exact ⟨⟨F, hF⟩, hml⟩

end Go.Proofs.YtbgbomlmgkgkoaaGreat.st
