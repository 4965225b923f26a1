/- Statement ArcPlays: the document's cache: Touch of a key that is not held. -/
import Derived.BigQuiet
import Derived.BigRegion
import Derived.Deep.CutRange
import Derived.Deep.CutBlock
import Derived.Test.YthcdfdkhmlkneaaArcF8
namespace Go.Proofs.Ythcdfdkhmlkneaa.arcI
open Go.RowKit Go.Proofs.Ythcdfdkhmlkneaa.own

set_option maxRecDepth 100000 in
set_option maxHeartbeats 12800000 in
theorem rtouch_was (x : Nat → Nat) (d0 mb : Nat) (s : St) (N : Nat) (w : World) (k : K) (h : MIs x d0 w mb s N) (ok : Ok s) (hk : ¬ (k ∈ s.once ∨ k ∈ s.often)) (hst : stuck s = false) (hwas0 : k ∈ s.wonce ∨ k ∈ s.woften) :
    Calls Try.prog 45 #[.pointer (some ⟨mb, 0, none⟩), .int .i64 k] w (RTouchPost x d0 mb s N k w) := by
  have hwas := Lib.hid hwas0
  clear hwas0
  have H := Lib.hid h
  have OK := Lib.hid ok
  have HK := Lib.hid hk
  have ST := Lib.hid hst
  have b0 := ok.size
  have b1 := ok.held
  have b2 := ok.first
  have b3 := ok.all
  have b4 := ok.target
  have ND := Lib.hid (ok_nodup ok)
  have d1 : Hid (decide (k ∈ s.once ∨ k ∈ s.often) = false) := Lib.hid (decide_eq_false hk)
  obtain ⟨z1, hz1⟩ := freeRet_is (freeK s.pins s.once)
  obtain ⟨z2, hz2⟩ := freeRet_is (freeK s.pins s.often)
  obtain ⟨f1, hf1⟩ : ∃ b, (freeK s.pins s.once).isSome = b := ⟨_, rfl⟩
  obtain ⟨f2, hf2⟩ : ∃ b, (freeK s.pins s.often).isSome = b := ⟨_, rfl⟩
  obtain ⟨f3, hf3⟩ : ∃ b, isFull s = b := ⟨_, rfl⟩
  have HZ1 := Lib.hid (hz1 _ hf1)
  have HZ2 := Lib.hid (hz2 _ hf2)
  have HF3 := Lib.hid hf3
  have HCS := Lib.hid (stuck_cases hst hf1 hf2 hf3)
  clear h ok hk hst hz1 hz2 hf1 hf2 hf3
  go_enter Try.func45, Try.ntmps45
  go_wp2_with fail
  have HS := Lib.hid (RS.start H.out)
  generalize World.alloc w _ = W0 at HS ⊢
  refine (Held_any _ d0 mb s N _ k HS.out.mi).mono ?_
  rintro e w1 ⟨rfl, rfl⟩
  rw [d1.out]
  obtain ⟨v1, v2, v3, v4, pm, k0, k1, k2, k3, k4, k5, k6, HR⟩ := HS.out.mi.cells
  clear k0 k3 k4 k5 k6
  go_wp2_with fail
  refine (rfree_any _ d0 mb s N _ _ s.once (fun k hk => OK.out.keys k (.inl hk)) HS.out.mi HR.out.1.ro).mono ?_
  rintro e w1 ⟨rfl, m, rfl⟩
  rw [HZ1.out]
  go_wp2_with fail
  refine (rfree_any _ d0 mb s N _ _ s.often (fun k hk => OK.out.keys k (.inr (.inl hk))) (HS.out.drewN m).mi HR.out.2.1.ro).mono ?_
  rintro e w1 ⟨rfl, m2, rfl⟩
  rw [HZ2.out]
  have HS2 := Lib.hid ((HS.out.drewN m).drewN m2)
  clear k1 k2 HR
  generalize (W0.drewN m).drewN m2 = W1 at HS2 ⊢
  go_upto_region 7 with fail
  go_cut [64] from 55 to 64 (fun s64 wc => s64 = .bool false ∧ ∃ m, wc = W1.drewN m)
  case first =>
    go_wp2_with fail
    refine (rfull_any _ d0 mb s N _ HS2.out.mi (by omega) (by omega)).mono ?_
    rintro e w1 ⟨rfl, m3, rfl⟩
    rw [HF3.out]
    rcases HCS.out with rfl | ⟨rfl, rfl⟩ | ⟨rfl, rfl, rfl⟩
    all_goals
      go_wp2_with fail
      go_meet
      case rel => exact ⟨rfl, m3, rfl⟩
  case rest =>
    obtain ⟨rfl, m3, rfl⟩ := hcut
    have HS3 := Lib.hid (HS2.out.drewN m3)
    clear HS HS2 HCS HZ1 HZ2 HF3 H
    generalize W1.drewN m3 = W2 at HS3 ⊢
    obtain ⟨v1, v2, v3, v4, pm, _, _, _, k3, k4, _, _, HR⟩ := HS3.out.mi.cells
    have HR3 : Hid (RO (W2.alloc (.cells #[.bool false, .bool false, .int .i64 0] 100)) v3 s.wonce.reverse) := Lib.hid (HR.out.2.2.1.ro.below ((Below.refl _ _).alloc (Nat.le_refl _) _))
    have HS4 := Lib.hid HS3.out.more
    clear k4 HR
    obtain ⟨qb, hqb⟩ : ∃ q, idx s.wonce.reverse k = q := ⟨_, rfl⟩
    have HQB := Lib.hid hqb
    clear hqb
    have hlt := HS3.out.mi.lt
    go_wp2_with fail
    clear hlt k3
    generalize hob : W2.heap.size = ob at HS4 ⊢
    generalize World.alloc W2 _ = W3 at HS4 HR3 ⊢
    clear hob HS3
    refine (in_any W3 _ _ k HR3.out).mono ?_
    rintro e w1 ⟨rfl, rfl⟩
    rw [HQB.out]
    clear HR3
    by_cases hw : k ∈ s.wonce
    · have hq2 : (0 : Int) ≤ qb := by
        have := idx_geq s.wonce k true (decide_eq_true hw)
        rw [HQB.out] at this
        exact of_decide_eq_true this
      have hpos : 0 < s.wonce.length := List.length_pos_of_mem hw
      have HW := Lib.hid hw
      clear hw
      go_wp2_with fail
      obtain ⟨v1, v2, v3, v4, pm, g0, _, _, g3, g4, g5, _, HR⟩ := HS4.out.rs.mi.cells
      have gf : ∀ j, W3.frozen? ⟨mb, j, none⟩ = false := (HS4.out.rs.mi.thaw (Below.refl _ _)).1
      obtain ⟨a3, c3, e3, _⟩ := HR.out.2.2.1
      obtain ⟨a4, c4, e4, _⟩ := HR.out.2.2.2.1
      rw [e3, List.length_reverse] at g3
      rw [e4, List.length_reverse] at g4
      clear e3 e4 HR
      refine wp_region_still_tail 25 (by kernel_rfl) (by kernel_rfl) ?_
      simp only [List.take_succ_cons, List.take_zero, List.drop_succ_cons, List.drop_zero]
      generalize hW4 : ({ W3 with drawn := W3.drawn + 1 } : World) = W4
      obtain ⟨n3, hn3⟩ : ∃ n, s.wonce.length = n := ⟨_, rfl⟩
      obtain ⟨n4, hn4⟩ : ∃ n, s.woften.length = n := ⟨_, rfl⟩
      have f0 : W4.cell? ⟨mb, 0, none⟩ = some (.int .i64 s.size) := by rw [← hW4]; exact g0
      have f3 : W4.cell? ⟨mb, 3, none⟩ = some (.slice a3 n3 c3) := by rw [← hW4, ← hn3]; exact g3
      have f4 : W4.cell? ⟨mb, 4, none⟩ = some (.slice a4 n4 c4) := by rw [← hW4, ← hn4]; exact g4
      have f5 : W4.cell? ⟨mb, 5, none⟩ = some (.int .i64 s.target) := by rw [← hW4]; exact g5
      have ff : ∀ j, W4.frozen? ⟨mb, j, none⟩ = false := by rw [← hW4]; exact gf
      have S4 : Hid (RS2 x d0 w mb N w.heap.size ob none s _ W4) := Lib.hid (by rw [← hW4]; exact HS4.out.drewN 1)
      clear g0 g3 g4 g5 gf hW4 HS4
      have hz : ¬ (n3 = 0) := by omega
      obtain ⟨q, hqd, hq1⟩ : ∃ q, q = n4 / n3 ∧ q ≤ n4 := ⟨_, rfl, Nat.div_le_self _ _⟩
      have hq : IntKind.i64.wrap ((n4 : Int) / (n3 : Int)) = (q : Int) := by rw [← Int.natCast_ediv, ← hqd]; exact IntWalk.i64_in _ (by omega)
      have HT : Hid (min (s.size : Int) ((s.target : Int) + max 1 (q : Int)) = (((upS s).target : Nat) : Int)) := Lib.hid (by
        show _ = ((min s.size (s.target + max 1 (s.woften.length / s.wonce.length)) : Nat) : Int)
        rw [hn3, hn4, ← hqd]
        omega)
      clear hqd
      repeat still_step
      refine wpStill_nil ?_
      go_wp2_with fail
      rw [HT.out]
      have HS5 : Hid (RS2 x d0 w mb N w.heap.size ob none (upS s) _ _) := Lib.hid (S4.out.own (S4.out.rs.mi.aim (upS s).target))
      clear f0 f3 f4 f5 ff S4 hz hq HT
      generalize World.setCell W4 _ _ = W5 at HS5 ⊢
      have OKU : Hid (Ok (upS s)) := Lib.hid (OK.out.aim _ (by show min s.size (s.target + max 1 (s.woften.length / s.wonce.length)) ≤ s.size; omega))
      obtain ⟨t, gn, hrr⟩ : ∃ t gn, roomS (upS s) false = (t, gn) := ⟨_, _, rfl⟩
      have RO : Hid (RoomOk (upS s) t gn) := Lib.hid (by have := roomS_ok (upS s) false OKU.out (not_stuck ST.out); rw [hrr] at this; exact this)
      have R : Hid (touchS s k = ({ t with wonce := t.wonce.erase k, often := t.often ++ [k] }, false, gn, 0)) := Lib.hid (by unfold touchS; rw [if_neg HK.out, ST.out, if_neg (by simp), if_pos HW.out, hrr])
      have HRR := Lib.hid hrr
      clear hrr
      refine (rfull_any _ d0 mb (upS s) N _ HS5.out.rs.mi (show s.once.length ≤ 8192 by omega) (show s.often.length ≤ 8192 by omega)).mono ?_
      rintro e w1 ⟨rfl, m5, rfl⟩
      have HS6 := Lib.hid (HS5.out.drewN m5)
      generalize W5.drewN m5 = W6 at HS6 ⊢
      clear HS5
      rcases hfu : isFull (upS s) with _ | _
      case' false =>
        have HS9 : Hid (∃ x9, RS2 x d0 w mb N w.heap.size ob gn t x9 W6) := Lib.hid ⟨_, by
          have : roomS (upS s) false = (upS s, none) := by unfold roomS; rw [if_pos hfu]
          rw [HRR.out] at this
          injection this with e1 e2
          rw [e1, e2]
          exact HS6.out⟩
        clear HS6 hfu
        go_upto_region 14 with fail
        generalize W6 = W9 at HS9 ⊢
      case' true =>
        have HFU := Lib.hid hfu
        clear hfu
        go_wp2_with fail
        refine (rroom_first _ d0 mb (upS s) N _ false HS6.out.rs.mi (show s.once.length ≤ 8192 by omega) (show s.often.length ≤ 8192 by omega) (show s.wonce.length < 1048576 by omega) (show s.woften.length < 1048576 by omega) (fun k hk => OK.out.keys k (hk.elim .inl (fun x => .inr (.inl x)))) ND.out.1 ND.out.2.1 HFU.out (pick_free (s := upS s) false (not_stuck ST.out HFU.out))).mono ?_
        rintro e w7 ⟨rfl, hmt⟩
        rw [HRR.out] at hmt ⊢
        obtain ⟨x7, hs7⟩ := HS6.out.turn hmt
        have HS7 : Hid (RS2 x d0 w mb N w.heap.size ob none t x7 w7) := Lib.hid hs7
        clear hmt hs7 HS6
        obtain ⟨z, hz9⟩ := gone_shape gn
        unfold touchedV
        rw [hz9]
        obtain ⟨t0, t1, t2, t3⟩ := HS7.out.cells
        dsimp only [goneV, Option.isSome] at t1 t2
        go_upto_region 14 with fail
        have h8 := HS7.out.told gn
        rw [hz9] at h8
        have HS9 : Hid (∃ x9, RS2 x d0 w mb N w.heap.size ob gn t x9 _) := Lib.hid ⟨_, h8⟩
        clear h8 HS7 t0 t1 t2 t3 hz9
        generalize (World.setCell _ ⟨ob, 2, none⟩ _) = W9 at HS9 ⊢
      all_goals
        obtain ⟨x9, hs9⟩ := HS9.out
        have HT9 : Hid (RS2 x d0 w mb N w.heap.size ob gn t x9 W9) := Lib.hid hs9
        clear hs9 HS9
        have NDT := Lib.hid (ok_nodup RO.out.ok)
        have hsz : t.size = s.size := RO.out.size
        have hb1 := RO.out.ok.held
        have hb2 := RO.out.ok.first
        have hb3 := RO.out.ok.all
        obtain ⟨_, _, _, _, _, _, _, _, k3, _, _, _, HR⟩ := HT9.out.rs.mi.cells
        go_wp2_with fail
        refine (without_rev _ _ t.wonce k NDT.out.2.2.1 (by omega) HR.out.2.2.1.ro).mono ?_
        rintro e y1 ⟨c1, n1, cc1, rfl, ho1, hle1, hw1⟩
        obtain ⟨hfz1, hcl1⟩ := HT9.out.rs.mi.thaw hw1
        have PT1 := Lib.hid (HT9.out.turn (HT9.out.rs.mi.put3 hw1 _ _ ho1 hle1))
        obtain ⟨q1, hq1⟩ : ∃ q, y1.cell? ⟨mb, 3, none⟩ = some q := ⟨_, (hcl1 3).trans k3⟩
        clear ho1 hw1 hcl1 k3 HR
        go_upto_region 15 with fail
        obtain ⟨x10, g10⟩ := PT1.out
        have HT10 := Lib.hid g10
        clear hq1 hfz1 PT1
        generalize World.setCell y1 _ _ = W10 at g10 HT10 ⊢
        clear g10 HT9
        obtain ⟨_, _, _, _, _, _, _, k2, _, _, _, _, HR⟩ := HT10.out.rs.mi.cells
        go_wp2_with fail
        refine (front_rev _ _ t.often k (by omega) HR.out.2.1.ro).mono ?_
        rintro e y2 ⟨c2, n2, cc2, rfl, ho2, hle2, hw2⟩
        obtain ⟨hfz2, hcl2⟩ := HT10.out.rs.mi.thaw hw2
        have PT2 := Lib.hid (HT10.out.turn (HT10.out.rs.mi.put2 hw2 _ _ ho2 hle2))
        obtain ⟨q2, hq2⟩ : ∃ q, y2.cell? ⟨mb, 2, none⟩ = some q := ⟨_, (hcl2 2).trans k2⟩
        clear ho2 hw2 hcl2 k2 HR
        go_upto_region 16 with fail
        obtain ⟨x11, g11⟩ := PT2.out
        have HT11 := Lib.hid g11
        clear hq2 hfz2 PT2
        generalize World.setCell y2 _ _ = W11 at g11 HT11 ⊢
        clear g11 HT10
        obtain ⟨z9, hz9⟩ := gone_shape gn
        obtain ⟨t0, t1, t2, t3⟩ := HT11.out.cells
        rw [hz9] at t2
        obtain ⟨u0, u1, u2, u3⟩ := HT11.out.rs.cells
        dsimp only [goneV, Option.isSome] at u1 u2
        have hne : w.heap.size ≠ ob := HT11.out.ne
        go_wp2_with fail
        refine bodyPost_ret (v := .tuple #[touchedV false gn, .int .i64 0]) (by simp [results, Try.results45, go_sem, touchedV, hz9, u0, u1, u2]) rfl ?_
        refine ⟨by rw [R.out]; rfl, ?_⟩
        rw [R.out]
        exact HT11.out.rs.done _ _ _
    · have hq2 : ¬ (0 : Int) ≤ qb := by
        have := idx_geq s.wonce k false (decide_eq_false hw)
        rw [HQB.out] at this
        exact of_decide_eq_false this
      have HNW := Lib.hid hw
      clear hw
      obtain ⟨v1, v2, v3, v4, pm, _, _, _, _, k4, _, _, HR⟩ := HS4.out.rs.mi.cells
      obtain ⟨qc, hqc⟩ : ∃ q, idx s.woften.reverse k = q := ⟨_, rfl⟩
      have HQC := Lib.hid hqc
      clear hqc
      go_wp2_with fail
      refine (in_any W3 _ _ k HR.out.2.2.2.1.ro).mono ?_
      rintro e w1 ⟨rfl, rfl⟩
      rw [HQC.out]
      clear HR k4
      by_cases hw : k ∈ s.woften
      · have hq2 : (0 : Int) ≤ qc := by
          have := idx_geq s.woften k true (decide_eq_true hw)
          rw [HQC.out] at this
          exact of_decide_eq_true this
        have hpos : 0 < s.woften.length := List.length_pos_of_mem hw
        have HW := Lib.hid hw
        clear hw
        go_wp2_with fail
        obtain ⟨v1, v2, v3, v4, pm, g0, _, _, g3, g4, g5, _, HR⟩ := HS4.out.rs.mi.cells
        have gf : ∀ j, W3.frozen? ⟨mb, j, none⟩ = false := (HS4.out.rs.mi.thaw (Below.refl _ _)).1
        obtain ⟨a3, c3, e3, _⟩ := HR.out.2.2.1
        obtain ⟨a4, c4, e4, _⟩ := HR.out.2.2.2.1
        rw [e3, List.length_reverse] at g3
        rw [e4, List.length_reverse] at g4
        clear e3 e4 HR
        refine wp_region_still_tail 21 (by kernel_rfl) (by kernel_rfl) ?_
        simp only [List.take_succ_cons, List.take_zero, List.drop_succ_cons, List.drop_zero]
        generalize hW4 : ({ W3 with drawn := W3.drawn + 1 } : World) = W4
        obtain ⟨n3, hn3⟩ : ∃ n, s.wonce.length = n := ⟨_, rfl⟩
        obtain ⟨n4, hn4⟩ : ∃ n, s.woften.length = n := ⟨_, rfl⟩
        have f0 : W4.cell? ⟨mb, 0, none⟩ = some (.int .i64 s.size) := by rw [← hW4]; exact g0
        have f3 : W4.cell? ⟨mb, 3, none⟩ = some (.slice a3 n3 c3) := by rw [← hW4, ← hn3]; exact g3
        have f4 : W4.cell? ⟨mb, 4, none⟩ = some (.slice a4 n4 c4) := by rw [← hW4, ← hn4]; exact g4
        have f5 : W4.cell? ⟨mb, 5, none⟩ = some (.int .i64 s.target) := by rw [← hW4]; exact g5
        have ff : ∀ j, W4.frozen? ⟨mb, j, none⟩ = false := by rw [← hW4]; exact gf
        have S4 : Hid (RS2 x d0 w mb N w.heap.size ob none s _ W4) := Lib.hid (by rw [← hW4]; exact HS4.out.drewN 1)
        clear g0 g3 g4 g5 gf hW4 HS4
        have hz : ¬ (n4 = 0) := by omega
        obtain ⟨q, hqd, hq1⟩ : ∃ q, q = n3 / n4 ∧ q ≤ n3 := ⟨_, rfl, Nat.div_le_self _ _⟩
        have hq : IntKind.i64.wrap ((n3 : Int) / (n4 : Int)) = (q : Int) := by rw [← Int.natCast_ediv, ← hqd]; exact IntWalk.i64_in _ (by omega)
        have HT : Hid (max 0 ((s.target : Int) - max 1 (q : Int)) = (((downS s).target : Nat) : Int)) := Lib.hid (by
          show _ = ((s.target - max 1 (s.wonce.length / s.woften.length) : Nat) : Int)
          rw [hn3, hn4, ← hqd]
          omega)
        clear hqd
        repeat still_step
        refine wpStill_nil ?_
        go_wp2_with fail
        rw [HT.out]
        have HS5 : Hid (RS2 x d0 w mb N w.heap.size ob none (downS s) _ _) := Lib.hid (S4.out.own (S4.out.rs.mi.aim (downS s).target))
        clear f0 f3 f4 f5 ff S4 hz hq HT
        generalize World.setCell W4 _ _ = W5 at HS5 ⊢
        have OKU : Hid (Ok (downS s)) := Lib.hid (OK.out.aim _ (by show s.target - max 1 (s.wonce.length / s.woften.length) ≤ s.size; omega))
        obtain ⟨t, gn, hrr⟩ : ∃ t gn, roomS (downS s) true = (t, gn) := ⟨_, _, rfl⟩
        have RO : Hid (RoomOk (downS s) t gn) := Lib.hid (by have := roomS_ok (downS s) true OKU.out (not_stuck ST.out); rw [hrr] at this; exact this)
        have R : Hid (touchS s k = ({ t with woften := t.woften.erase k, often := t.often ++ [k] }, false, gn, 0)) := Lib.hid (by unfold touchS; rw [if_neg HK.out, ST.out, if_neg (by simp), if_neg HNW.out, if_pos HW.out, hrr])
        have HRR := Lib.hid hrr
        clear hrr
        refine (rfull_any _ d0 mb (downS s) N _ HS5.out.rs.mi (show s.once.length ≤ 8192 by omega) (show s.often.length ≤ 8192 by omega)).mono ?_
        rintro e w1 ⟨rfl, m5, rfl⟩
        have HS6 := Lib.hid (HS5.out.drewN m5)
        generalize W5.drewN m5 = W6 at HS6 ⊢
        clear HS5
        rcases hfu : isFull (downS s) with _ | _
        case' false =>
          have HS9 : Hid (∃ x9, RS2 x d0 w mb N w.heap.size ob gn t x9 W6) := Lib.hid ⟨_, by
            have : roomS (downS s) true = (downS s, none) := by unfold roomS; rw [if_pos hfu]
            rw [HRR.out] at this
            injection this with e1 e2
            rw [e1, e2]
            exact HS6.out⟩
          clear HS6 hfu
          go_upto_region 21 with fail
          generalize W6 = W9 at HS9 ⊢
        case' true =>
          have HFU := Lib.hid hfu
          clear hfu
          go_wp2_with fail
          refine (rroom_first _ d0 mb (downS s) N _ true HS6.out.rs.mi (show s.once.length ≤ 8192 by omega) (show s.often.length ≤ 8192 by omega) (show s.wonce.length < 1048576 by omega) (show s.woften.length < 1048576 by omega) (fun k hk => OK.out.keys k (hk.elim .inl (fun x => .inr (.inl x)))) ND.out.1 ND.out.2.1 HFU.out (pick_free (s := downS s) true (not_stuck ST.out HFU.out))).mono ?_
          rintro e w7 ⟨rfl, hmt⟩
          rw [HRR.out] at hmt ⊢
          obtain ⟨x7, hs7⟩ := HS6.out.turn hmt
          have HS7 : Hid (RS2 x d0 w mb N w.heap.size ob none t x7 w7) := Lib.hid hs7
          clear hmt hs7 HS6
          obtain ⟨z, hz9⟩ := gone_shape gn
          unfold touchedV
          rw [hz9]
          obtain ⟨t0, t1, t2, t3⟩ := HS7.out.cells
          dsimp only [goneV, Option.isSome] at t1 t2
          go_upto_region 21 with fail
          have h8 := HS7.out.told gn
          rw [hz9] at h8
          have HS9 : Hid (∃ x9, RS2 x d0 w mb N w.heap.size ob gn t x9 _) := Lib.hid ⟨_, h8⟩
          clear h8 HS7 t0 t1 t2 t3 hz9
          generalize (World.setCell _ ⟨ob, 2, none⟩ _) = W9 at HS9 ⊢
        all_goals
          obtain ⟨x9, hs9⟩ := HS9.out
          have HT9 : Hid (RS2 x d0 w mb N w.heap.size ob gn t x9 W9) := Lib.hid hs9
          clear hs9 HS9
          have NDT := Lib.hid (ok_nodup RO.out.ok)
          have hsz : t.size = s.size := RO.out.size
          have hb1 := RO.out.ok.held
          have hb2 := RO.out.ok.first
          have hb3 := RO.out.ok.all
          obtain ⟨_, _, _, _, _, _, _, _, _, k3, _, _, HR⟩ := HT9.out.rs.mi.cells
          go_wp2_with fail
          refine (without_rev _ _ t.woften k NDT.out.2.2.2 (by omega) HR.out.2.2.2.1.ro).mono ?_
          rintro e y1 ⟨c1, n1, cc1, rfl, ho1, hle1, hw1⟩
          obtain ⟨hfz1, hcl1⟩ := HT9.out.rs.mi.thaw hw1
          have PT1 := Lib.hid (HT9.out.turn (HT9.out.rs.mi.put4 hw1 _ _ ho1 hle1))
          obtain ⟨q1, hq1⟩ : ∃ q, y1.cell? ⟨mb, 4, none⟩ = some q := ⟨_, (hcl1 4).trans k3⟩
          clear ho1 hw1 hcl1 k3 HR
          go_upto_region 22 with fail
          obtain ⟨x10, g10⟩ := PT1.out
          have HT10 := Lib.hid g10
          clear hq1 hfz1 PT1
          generalize World.setCell y1 _ _ = W10 at g10 HT10 ⊢
          clear g10 HT9
          obtain ⟨_, _, _, _, _, _, _, k2, _, _, _, _, HR⟩ := HT10.out.rs.mi.cells
          go_wp2_with fail
          refine (front_rev _ _ t.often k (by omega) HR.out.2.1.ro).mono ?_
          rintro e y2 ⟨c2, n2, cc2, rfl, ho2, hle2, hw2⟩
          obtain ⟨hfz2, hcl2⟩ := HT10.out.rs.mi.thaw hw2
          have PT2 := Lib.hid (HT10.out.turn (HT10.out.rs.mi.put2 hw2 _ _ ho2 hle2))
          obtain ⟨q2, hq2⟩ : ∃ q, y2.cell? ⟨mb, 2, none⟩ = some q := ⟨_, (hcl2 2).trans k2⟩
          clear ho2 hw2 hcl2 k2 HR
          go_upto_region 23 with fail
          obtain ⟨x11, g11⟩ := PT2.out
          have HT11 := Lib.hid g11
          clear hq2 hfz2 PT2
          generalize World.setCell y2 _ _ = W11 at g11 HT11 ⊢
          clear g11 HT10
          obtain ⟨z9, hz9⟩ := gone_shape gn
          obtain ⟨t0, t1, t2, t3⟩ := HT11.out.cells
          rw [hz9] at t2
          obtain ⟨u0, u1, u2, u3⟩ := HT11.out.rs.cells
          dsimp only [goneV, Option.isSome] at u1 u2
          have hne : w.heap.size ≠ ob := HT11.out.ne
          go_wp2_with fail
          refine bodyPost_ret (v := .tuple #[touchedV false gn, .int .i64 0]) (by simp [results, Try.results45, go_sem, touchedV, hz9, u0, u1, u2]) rfl ?_
          refine ⟨by rw [R.out]; rfl, ?_⟩
          rw [R.out]
          exact HT11.out.rs.done _ _ _
      · exact absurd hwas.out (fun hh => hh.elim HNW.out hw)

end Go.Proofs.Ythcdfdkhmlkneaa.arcI
