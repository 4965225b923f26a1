/- Statement ArcPlays: the document's cache: Drop. -/
import Derived.BigQuiet
import Derived.BigRegion
import Derived.Deep.CutRange
import Derived.Test.YthcdfdkhmlkneaaArcF4
namespace Go.Proofs.Ythcdfdkhmlkneaa.arcI
open Go.RowKit Go.Proofs.Ythcdfdkhmlkneaa.own

set_option maxRecDepth 100000 in
set_option maxHeartbeats 800000 in
theorem rDrop_any (x : Nat → Nat) (d0 mb : Nat) (s : St) (N : Nat) (w : World) (k : K) (hok : (Lit.int .i64 k).wf = true) (h : MIs x d0 w mb s N) (ok : Ok s) (hp : s.pins k < 1099511627776) :
    Calls Try.prog 51 #[.pointer (some ⟨mb, 0, none⟩), .int .i64 k] w fun e w' => e = .returned (.int .i64 (dropR s k).2) ∧ MTurned x d0 w w' mb (dropR s k).1 N := by
  have H := Lib.hid h
  have l0 := ok.size
  have l1 := ok.held
  have l2 := ok.first
  have l3 := ok.all
  have ND := Lib.hid (ok_nodup ok)
  obtain ⟨v1, v2, v3, v4, pm, g0, g1, g2, g3, g4, g5, g6, HR⟩ := h.cells
  have hl := HR.out.2.2.2.2.look (k := k) hok
  obtain ⟨a, b, c, ha, hb, hcc, hcs⟩ := has3_cases s k
  have HA := Lib.hid ha
  have hb2 := idx_lss s.wonce k b hb
  have hc2 := idx_lss s.woften k c hcc
  obtain ⟨qb, hqb⟩ : ∃ q, idx s.wonce.reverse k = q := ⟨_, rfl⟩
  obtain ⟨qc, hqc⟩ : ∃ q, idx s.woften.reverse k = q := ⟨_, rfl⟩
  rw [hqb] at hb2
  rw [hqc] at hc2
  have HQB := Lib.hid hqb
  have HQC := Lib.hid hqc
  clear h ha hb hcc hqb hqc ok
  rcases hcs with ⟨rfl, rfl, rfl, hno⟩ | ⟨hcs, hyes⟩
  · have R : Hid (dropR s k = (s, 6)) := Lib.hid (by unfold dropR; rw [if_neg hno])
    have hb3 : qb < 0 := by simpa using hb2
    have hc3 : qc < 0 := by simpa using hc2
    clear hno hb2 hc2
    go_enter Try.func51, Try.ntmps51
    go_wp2_with fail
    refine (Held_any x d0 mb s N w k H.out).mono ?_
    rintro e w' ⟨rfl, rfl⟩
    rw [HA.out]
    go_wp2_with fail
    refine (in_any w v3 _ k HR.out.2.2.1.ro).mono ?_
    rintro e w' ⟨rfl, rfl⟩
    rw [HQB.out]
    go_wp2_with fail
    refine (in_any w v4 _ k HR.out.2.2.2.1.ro).mono ?_
    rintro e w' ⟨rfl, rfl⟩
    rw [HQC.out]
    go_wp2_with fail
    go_ret
    exact ⟨by rw [R.out]; rfl, by rw [R.out]; exact ⟨x, Fr.refl _ _ _, H.out⟩⟩
  · have HY := Lib.hid hyes
    have HCS := Lib.hid hcs
    have HB2 := Lib.hid hb2
    have HC2 := Lib.hid hc2
    clear hyes hcs hb2 hc2
    go_enter Try.func51, Try.ntmps51
    go_upto_region 1 with fail
    go_cut [26] from 5 to 26 (fun s26 wc => s26 = .bool false ∧ w = wc)
    case first =>
      go_wp2_with fail
      refine (Held_any x d0 mb s N w k H.out).mono ?_
      rintro e w' ⟨rfl, rfl⟩
      rw [HA.out]
      rcases HCS.out with rfl | ⟨rfl, rfl⟩ | ⟨rfl, rfl, rfl⟩
      · go_wp2_with fail
        go_meet
        case rel => exact ⟨rfl, rfl⟩
      · have hb3 : ¬ qb < 0 := by have := HB2.out; simpa using this
        have hb4 : decide (qb < 0) = false := decide_eq_false hb3
        go_wp2_with fail
        refine (in_any w v3 _ k HR.out.2.2.1.ro).mono ?_
        rintro e w' ⟨rfl, rfl⟩
        rw [HQB.out]
        go_wp2_with fail
        go_meet
        case rel => exact ⟨by simp, rfl⟩
      · have hb3 : qb < 0 := by have := HB2.out; simpa using this
        have hc3 : ¬ qc < 0 := by have := HC2.out; simpa using this
        go_wp2_with fail
        refine (in_any w v3 _ k HR.out.2.2.1.ro).mono ?_
        rintro e w' ⟨rfl, rfl⟩
        rw [HQB.out]
        go_wp2_with fail
        refine (in_any w v4 _ k HR.out.2.2.2.1.ro).mono ?_
        rintro e w' ⟨rfl, rfl⟩
        rw [HQC.out]
        go_wp2_with fail
        go_meet
        case rel => exact ⟨by simp; omega, rfl⟩
    case rest =>
      obtain ⟨rfl, rfl⟩ := hcut
      by_cases hz : s.pins k = 0
      · have R : Hid (dropR s k = (dropS s k, 0)) := Lib.hid (by unfold dropR; rw [if_pos HY.out, if_neg (by omega)])
        rw [hz] at hl
        clear hz
        go_wp2_with fail
        refine (without_rev w v1 s.once k ND.out.1 (by omega) HR.out.1.ro).mono ?_
        rintro e u1 ⟨a1, n1, c1, rfl, ho1, hle1, hb1⟩
        obtain ⟨hfz1, hcl1⟩ := H.out.thaw hb1
        have PT1 := Lib.hid (H.out.put1 hb1 _ _ ho1 hle1)
        have hce1 : ∃ q, u1.cell? ⟨mb, 1, none⟩ = some q := ⟨_, (hcl1 1).trans g1⟩
        obtain ⟨q1, hq1⟩ := hce1
        clear ho1 hb1 hcl1
        go_upto_region 6 with fail
        obtain ⟨x1, f1, m1⟩ := PT1.out
        have HF1 := Lib.hid f1
        have HM1 := Lib.hid m1
        clear hq1 hfz1 PT1
        generalize World.setCell u1 _ _ = y1 at f1 m1 HF1 HM1 ⊢
        obtain ⟨_, _, _, _, _, _, g1', g2', g3', g4', _, _, HR1⟩ := HM1.out.cells
        clear f1 m1
        go_wp2_with fail
        refine (without_rev _ _ s.often k ND.out.2.1 (by omega) HR1.out.2.1.ro).mono ?_
        rintro e u2 ⟨a2, n2, c2, rfl, ho2, hle2, hb2⟩
        obtain ⟨hfz2, hcl2⟩ := HM1.out.thaw hb2
        have PT2 := Lib.hid (HM1.out.put2 hb2 _ _ ho2 hle2)
        have hce2 : ∃ q, u2.cell? ⟨mb, 2, none⟩ = some q := ⟨_, (hcl2 2).trans g2'⟩
        obtain ⟨q2, hq2⟩ := hce2
        clear ho2 hb2 hcl2
        go_upto_region 7 with fail
        obtain ⟨x2, f2, m2⟩ := PT2.out
        have HF2 := Lib.hid (HF1.out.trans f2)
        have HM2 := Lib.hid m2
        clear hq2 hfz2 PT2
        generalize World.setCell u2 _ _ = y2 at f2 m2 HF2 HM2 ⊢
        obtain ⟨_, _, _, _, _, _, g1'', g2'', g3'', g4'', _, _, HR2⟩ := HM2.out.cells
        clear f2 m2
        go_wp2_with fail
        refine (without_rev _ _ s.wonce k ND.out.2.2.1 (by omega) HR2.out.2.2.1.ro).mono ?_
        rintro e u3 ⟨a3, n3, c3, rfl, ho3, hle3, hb3⟩
        obtain ⟨hfz3, hcl3⟩ := HM2.out.thaw hb3
        have PT3 := Lib.hid (HM2.out.put3 hb3 _ _ ho3 hle3)
        have hce3 : ∃ q, u3.cell? ⟨mb, 3, none⟩ = some q := ⟨_, (hcl3 3).trans g3''⟩
        obtain ⟨q3, hq3⟩ := hce3
        clear ho3 hb3 hcl3
        go_upto_region 8 with fail
        obtain ⟨x3, f3, m3⟩ := PT3.out
        have HF3 := Lib.hid (HF2.out.trans f3)
        have HM3 := Lib.hid m3
        clear hq3 hfz3 PT3
        generalize World.setCell u3 _ _ = y3 at f3 m3 HF3 HM3 ⊢
        obtain ⟨_, _, _, _, _, _, g1''', g2''', g3''', g4''', _, _, HR3⟩ := HM3.out.cells
        clear f3 m3
        go_wp2_with fail
        refine (without_rev _ _ s.woften k ND.out.2.2.2 (by omega) HR3.out.2.2.2.1.ro).mono ?_
        rintro e u4 ⟨a4, n4, c4, rfl, ho4, hle4, hb4⟩
        obtain ⟨hfz4, hcl4⟩ := HM3.out.thaw hb4
        have PT4 := Lib.hid (HM3.out.put4 hb4 _ _ ho4 hle4)
        have hce4 : ∃ q, u4.cell? ⟨mb, 4, none⟩ = some q := ⟨_, (hcl4 4).trans g4'''⟩
        obtain ⟨q4, hq4⟩ := hce4
        clear ho4 hb4 hcl4
        go_wp2_with fail
        obtain ⟨x4, f4, m4⟩ := PT4.out
        have HF4 := Lib.hid (HF3.out.trans f4)
        have HM4 := Lib.hid m4
        clear f4 m4
        go_ret
        exact ⟨by rw [R.out]; rfl, by rw [R.out]; exact ⟨x4, HF4.out, HM4.out⟩⟩
      · have R : Hid (dropR s k = (s, 16)) := Lib.hid (by unfold dropR; rw [if_pos HY.out, if_pos (by omega)])
        obtain ⟨p, hpe⟩ : ∃ p, s.pins k = p := ⟨_, rfl⟩
        rw [hpe] at hl hp hz
        have hgt : (0 : Int) < (p : Int) := by omega
        clear hpe hz
        go_wp2_with fail
        go_ret
        exact ⟨by rw [R.out]; rfl, by rw [R.out]; exact ⟨x, Fr.refl _ _ _, H.out⟩⟩

end Go.Proofs.Ythcdfdkhmlkneaa.arcI
