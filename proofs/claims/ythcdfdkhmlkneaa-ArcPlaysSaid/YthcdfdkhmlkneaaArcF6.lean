/- Statement ArcPlays: the document's cache: room. -/
import Derived.BigQuiet
import Derived.BigRegion
import Derived.Deep.CutRange
import Derived.Test.YthcdfdkhmlkneaaArcF5
namespace Go.Proofs.Ythcdfdkhmlkneaa.arcI
open Go.RowKit Go.Proofs.Ythcdfdkhmlkneaa.own

theorem MIs.below {x : Nat → Nat} {d0 c' : Nat} {w w' : World} {mb : Nat} {s : St} {N : Nat} (h : MIs x d0 w mb s N) (hb : Below w.heap.size w w') : MIs (paint x w.heap.size c') d0 w' mb s N := by
  obtain ⟨v1, v2, v3, v4, pm, h0, hx, r1, r2, r3, r4, hp, hm⟩ := h
  exact ⟨v1, v2, v3, v4, pm, (hb.block mb (lt_of_block h0)).trans h0, by rw [paint_old (lt_of_block h0)]; exact hx, r1.below hb, r2.below hb, r3.below hb, r4.below hb, by rw [paint_old hm.lt]; exact hp, hm.frame (hb.block pm hm.lt)⟩
theorem fr_below {x : Nat → Nat} {d0 : Nat} {w w' : World} (hb : Below w.heap.size w w') : Fr x (paint x w.heap.size d0) (DD d0) w w' := Fr.of_below hb ⟨Nat.le_refl _, by omega⟩
theorem MIs.set3 {x : Nat → Nat} {d0 : Nat} {w : World} {mb : Nat} {s : St} {N : Nat} (h : MIs x d0 w mb s N) {b : Nat} (hx : x b = d0) (hne : b ≠ mb) (u0 u1 u2 : Value) : MIs x d0 (((w.setCell ⟨b, 0, none⟩ u0).setCell ⟨b, 1, none⟩ u1).setCell ⟨b, 2, none⟩ u2) mb s N := by
  obtain ⟨v1, v2, v3, v4, pm, h0, hxm, r1, r2, r3, r4, hp, hm⟩ := h
  have hf : Fr x x (fun e => e = d0) w (((w.setCell ⟨b, 0, none⟩ u0).setCell ⟨b, 1, none⟩ u1).setCell ⟨b, 2, none⟩ u2) := Fr.same rfl rfl rfl (by simp) (fun c _ hC => set3_other w (by rintro rfl; exact hC hx) u0 u1 u2)
  exact ⟨v1, v2, v3, v4, pm, (set3_other w (fun e => hne e.symm) u0 u1 u2).trans h0, hxm, r1.frame hf (by omega), r2.frame hf (by omega), r3.frame hf (by omega), r4.frame hf (by omega), hp, hm.frame (set3_other w (fun e => by rw [e, hx] at hp; omega) u0 u1 u2)⟩
theorem fr_set3 {x x' : Nat → Nat} {d0 : Nat} {w w' : World} (h : Fr x x' (DD d0) w w') {b : Nat} (hx : x' b = d0) (u0 u1 u2 : Value) : Fr x x' (DD d0) w (((w'.setCell ⟨b, 0, none⟩ u0).setCell ⟨b, 1, none⟩ u1).setCell ⟨b, 2, none⟩ u2) :=
  h.trans (Fr.same rfl rfl rfl (by simp) (fun c _ hC => set3_other w' (by rintro rfl; exact hC (by rw [hx]; exact ⟨Nat.le_refl _, by omega⟩)) u0 u1 u2))

theorem front_rev (w : World) (v : Value) (l : List K) (x : K) (hl : l.length < 1048576) (h : RO w v l.reverse) :
    Calls Try.prog 74 #[.int .i64 x, v] w fun e w' => ∃ a n c, e = .returned (.slice a n c) ∧ w'.ownsRow w.heap.size 3 1 (.slice a n c) (l ++ [x]).reverse.length (kvs (l ++ [x]).reverse) ∧ (l ++ [x]).reverse.length ≤ 1048576 ∧ Below w.heap.size w w' := by
  refine (front_any w v l.reverse x h).mono ?_
  rintro e w' ⟨v', rfl, ho, hb⟩
  obtain ⟨a, c, rfl⟩ := own_shape ho
  refine ⟨a, _, c, rfl, ?_, by simp; omega, hb⟩
  have e1 : (l ++ [x]).reverse = x :: l.reverse := by simp
  rw [e1]
  exact ho

set_option maxRecDepth 100000 in
set_option maxHeartbeats 1600000 in
theorem rroom_first (x : Nat → Nat) (d0 mb : Nat) (s : St) (N : Nat) (w : World) (oft : Bool) (h : MIs x d0 w mb s N) (h1 : s.once.length ≤ 8192) (h2 : s.often.length ≤ 8192)
    (h3 : s.wonce.length < 1048576) (h4 : s.woften.length < 1048576) (hok : ∀ k, k ∈ s.once ∨ k ∈ s.often → (Lit.int .i64 k).wf = true) (hn1 : s.once.Nodup) (hn2 : s.often.Nodup) (hfull : isFull s = true)
    (hsel : (pickOnce s oft = true ∧ ∃ k, freeK s.pins s.once = some k) ∨ (pickOnce s oft = false ∧ ∃ k, freeK s.pins s.often = some k)) :
    Calls Try.prog 78 #[.pointer (some ⟨mb, 0, none⟩), .bool oft] w fun e w' => e = .returned (touchedV false (roomS s oft).2) ∧ MTurned x d0 w w' mb (roomS s oft).1 N := by
  have H := Lib.hid h
  obtain ⟨v1, v2, v3, v4, pm, g0, g1, g2, g3, g4, g5, g6, HR⟩ := h.cells
  obtain ⟨z1, hz1⟩ := freeRet_is (freeK s.pins s.once)
  obtain ⟨z2, hz2⟩ := freeRet_is (freeK s.pins s.often)
  obtain ⟨f1, hf1⟩ : ∃ b, (freeK s.pins s.once).isSome = b := ⟨_, rfl⟩
  obtain ⟨f2, hf2⟩ : ∃ b, (freeK s.pins s.often).isSome = b := ⟨_, rfl⟩
  have HZ1 := Lib.hid (hz1 _ hf1)
  have HZ2 := Lib.hid (hz2 _ hf2)
  have HOK := Lib.hid hok
  have HSEL := Lib.hid hsel
  have HN := Lib.hid (And.intro hn1 hn2)
  have HFU := Lib.hid hfull
  have HF1 := Lib.hid hf1
  have HF2 := Lib.hid hf2
  have HB : Hid (Below w.heap.size w (w.alloc (.cells #[.bool false, .bool false, .int .i64 0] 100))) := Lib.hid ((Below.refl _ _).alloc (Nat.le_refl _) _)
  have H1 := Lib.hid (H.out.below (c' := d0) HB.out)
  obtain ⟨a1, c1, e1, _⟩ := HR.out.1
  obtain ⟨a2, c2, e2, _⟩ := HR.out.2.1
  rw [e1, List.length_reverse] at g1
  rw [e2, List.length_reverse] at g2
  have HV1 : Hid (RO (w.alloc (.cells #[.bool false, .bool false, .int .i64 0] 100)) (.slice a1 s.once.length c1) s.once.reverse) := Lib.hid (by have := HR.out.1.ro.below HB.out; rw [e1, List.length_reverse] at this; exact this)
  have HV2 : Hid (RO (w.alloc (.cells #[.bool false, .bool false, .int .i64 0] 100)) (.slice a2 s.often.length c2) s.often.reverse) := Lib.hid (by have := HR.out.2.1.ro.below HB.out; rw [e2, List.length_reverse] at this; exact this)
  have hlt : mb < w.heap.size := by obtain ⟨_, _, _, _, _, h0, _⟩ := h; exact lt_of_block h0
  clear hsel hn1 hn2 hfull hf1 hf2
  clear h hz1 hz2 hok e1 e2 g3 g4 g6 HR
  go_enter Try.func78, Try.ntmps78
  go_wp2_with fail
  refine (rfree_any _ d0 mb s N _ _ s.once (fun k hk => HOK.out k (.inl hk)) H1.out HV1.out).mono ?_
  rintro e w1 ⟨rfl, m, rfl⟩
  rw [HZ1.out]
  go_wp2_with fail
  have HV2' : Hid (∀ m, RO ((w.alloc (.cells #[.bool false, .bool false, .int .i64 0] 100)).drewN m) (.slice a2 s.often.length c2) s.often.reverse) := Lib.hid (fun m => HV2.out)
  have H1' : Hid (∀ m, MIs (paint x w.heap.size d0) d0 ((w.alloc (.cells #[.bool false, .bool false, .int .i64 0] 100)).drewN m) mb s N) := Lib.hid (fun m => H1.out)
  refine (rfree_any _ d0 mb s N _ _ s.often (fun k hk => HOK.out k (.inr hk)) (H1'.out m) (HV2'.out m)).mono ?_
  rintro e w2 ⟨rfl, m2, rfl⟩
  rw [HZ2.out]
  go_upto_region 3 with fail
  go_cut [9] from 28 to 60 (fun s9 wc => s9 = .bool (firstOf s oft) ∧ ∃ m, wc = (w.alloc (.cells #[.bool false, .bool false, .int .i64 0] 100)).drewN m)
  case first =>
    generalize hW0 : World.alloc w _ = W0 at HB H1 HV1 HV2 HV2' H1' ⊢
    have HW0 := Lib.hid hW0
    clear hW0
    obtain ⟨_, _, _, _, _, k0, k1, k2, _, _, k5, _, HR1⟩ := H1.out.cells
    obtain ⟨a3, c3, e3, _⟩ := HR1.out.1
    rw [e3, List.length_reverse] at k1
    clear e3 HR1 k0 k2 g0 g1 g2 g5
    by_cases hn : 1 ≤ s.once.length
    · have hn1 : (1 : Int) ≤ (s.once.length : Int) := by omega
      rcases pick_cases s oft with ⟨d1, d2, hy⟩ | ⟨d1, d2, rfl, hy⟩ | ⟨d1, d2, hy⟩ | ⟨d1, d2, rfl, hy⟩
      · have R : Hid (firstOf s oft = true) := Lib.hid (by rw [hy, decide_eq_true hn])
        have d3 : (s.target : Int) < (s.once.length : Int) := by omega
        clear hy hn
        go_wp2_with fail
        go_quiet (fail)
        go_wp2_with fail
        go_meet
        case rel => exact ⟨by rw [R.out], m + m2 + nq, by rw [HW0.out]; exact drewN_add _ _ _⟩
      · have R : Hid (firstOf s true = true) := Lib.hid (by rw [hy, decide_eq_true hn])
        have d3 : decide ((s.target : Int) < (s.once.length : Int)) = false := decide_eq_false (by omega)
        clear hy hn
        go_wp2_with fail
        go_quiet (fail)
        go_wp2_with fail
        go_meet
        case rel => exact ⟨by rw [R.out], m + m2 + nq, by rw [HW0.out]; exact drewN_add _ _ _⟩
      · have R : Hid (firstOf s oft = false) := Lib.hid hy
        have d3 : decide ((s.target : Int) < (s.once.length : Int)) = false := decide_eq_false (by omega)
        clear hy hn
        go_wp2_with fail
        go_quiet (fail)
        go_wp2_with fail
        go_meet
        case rel => exact ⟨by rw [R.out, decide_eq_false (show ¬ s.target < s.once.length by omega)], m + m2 + nq, by rw [HW0.out]; exact drewN_add _ _ _⟩
      · have R : Hid (firstOf s false = false) := Lib.hid hy
        have d3 : decide ((s.target : Int) < (s.once.length : Int)) = false := decide_eq_false (by omega)
        clear hy hn
        go_wp2_with fail
        go_quiet (fail)
        go_wp2_with fail
        go_meet
        case rel => exact ⟨by rw [R.out, decide_eq_false (show ¬ s.target < s.once.length by omega)], m + m2 + nq, by rw [HW0.out]; exact drewN_add _ _ _⟩
    · have R : Hid (firstOf s oft = false) := Lib.hid (by unfold firstOf; rw [decide_eq_false hn]; rfl)
      have hn1 : decide ((1 : Int) ≤ (s.once.length : Int)) = false := decide_eq_false (by omega)
      clear hn
      go_wp2_with fail
      go_quiet (fail)
      go_wp2_with fail
      go_meet
      case rel => exact ⟨by rw [R.out], m + m2 + nq, by rw [HW0.out]; exact drewN_add _ _ _⟩
  case rest =>
    obtain ⟨rfl, m3, rfl⟩ := hcut
    have HRW : Hid (((w.alloc (.cells #[.bool false, .bool false, .int .i64 0] 100)).drewN m3).heap[w.heap.size]? = some (.cells #[.bool false, .bool false, .int .i64 0] 100 (0, 0))) := Lib.hid (heap_alloc_new w _)
    have HBm := Lib.hid (below_drewN HB.out m3)
    have HM1 := Lib.hid (H1'.out m3)
    clear HV1 HV2 HV2' H1' H1 HB g0 g1 g2 g5
    generalize World.drewN _ m3 = W1 at HRW HBm HM1 ⊢
    obtain ⟨u1, u2, u3, u4, _, _, k1, k2, k3, k4, _, _, HR1⟩ := HM1.out.cells
    rcases HSEL.out with ⟨hp, k, hk⟩ | ⟨hp, k, hk⟩
    · skip
      have hz : z1 = k ∧ f1 = true := by
        have := HZ1.out
        rw [hk] at this
        simp [freeRet] at this
        exact ⟨this.1.symm, this.2⟩
      obtain ⟨rfl, rfl⟩ := hz
      have R : Hid (roomS s oft = ({ s with once := s.once.erase z1, wonce := s.wonce ++ [z1] }, some z1)) := Lib.hid (by unfold roomS; rw [if_neg (by rw [HFU.out]; simp), if_pos hp, hk])
      have hd : (firstOf s oft && true || !firstOf s oft && !f2) = true := by
        unfold pickOnce at hp
        rw [HF1.out, HF2.out] at hp
        exact hp
      generalize firstOf s oft = fo at hd ⊢
      clear hp hk
      obtain rfl | ⟨rfl, rfl⟩ : fo = true ∨ (fo = false ∧ f2 = false) := by cases fo <;> cases f2 <;> simp_all
      all_goals
        go_wp2_with fail
        refine (without_rev _ _ s.once _ HN.out.1 (by omega) HR1.out.1.ro).mono ?_
        rintro e y1 ⟨b1, n1, c3, rfl, ho1, hle1, hb1⟩
        obtain ⟨hfz1, hcl1⟩ := HM1.out.thaw hb1
        have PT1 := Lib.hid (HM1.out.put1 hb1 _ _ ho1 hle1)
        obtain ⟨q1, hq1⟩ : ∃ q, y1.cell? ⟨mb, 1, none⟩ = some q := ⟨_, (hcl1 1).trans k1⟩
        have hrw1 : y1.heap[w.heap.size]? = _ := (hb1.block _ (lt_of_block HRW.out)).trans HRW.out
        clear ho1 hb1 hcl1
        go_upto_region 6 with fail
        obtain ⟨x1, g1, m1⟩ := PT1.out
        have HG1 := Lib.hid g1
        have HM2 := Lib.hid m1
        have HRW2 : Hid ((y1.setCell ⟨mb, 1, none⟩ (.slice b1 n1 c3)).heap[w.heap.size]? = some (.cells #[.bool false, .bool false, .int .i64 0] 100 (0, 0))) := Lib.hid (by rw [Below.heap_setCell _ _ _ _ (show w.heap.size ≠ mb by omega)]; exact hrw1)
        clear hq1 hfz1 PT1 hrw1
        generalize World.setCell y1 _ _ = W2 at g1 m1 HG1 HM2 HRW2 ⊢
        obtain ⟨_, _, _, _, _, _, k1', k2', k3', k4', _, _, HR2⟩ := HM2.out.cells
        clear g1 m1
        go_wp2_with fail
        refine (front_rev _ _ s.wonce _ h3 HR2.out.2.2.1.ro).mono ?_
        rintro e y2 ⟨b2, n2, c4, rfl, ho2, hle2, hb2⟩
        obtain ⟨hfz2, hcl2⟩ := HM2.out.thaw hb2
        have PT2 := Lib.hid (HM2.out.put3 hb2 _ _ ho2 hle2)
        obtain ⟨q2, hq2⟩ : ∃ q, y2.cell? ⟨mb, 3, none⟩ = some q := ⟨_, (hcl2 3).trans k3'⟩
        have hrw2 : y2.heap[w.heap.size]? = _ := (hb2.block _ (lt_of_block HRW2.out)).trans HRW2.out
        clear ho2 hb2 hcl2
        go_upto_region 7 with fail
        obtain ⟨x2, g2, m2⟩ := PT2.out
        have HM3 := Lib.hid m2
        have HF3 := Lib.hid ((fr_below (d0 := d0) HBm.out).trans (HG1.out.trans g2))
        have HX : Hid (x2 w.heap.size = d0) := Lib.hid (by rw [g2.col _ (lt_of_block HRW2.out), HG1.out.col _ (lt_of_block HRW.out)]; exact paint_new (Nat.le_refl _))
        have HRW3 : (y2.setCell ⟨mb, 3, none⟩ (.slice b2 n2 c4)).heap[w.heap.size]? = some (.cells #[.bool false, .bool false, .int .i64 0] 100 (0, 0)) := by rw [Below.heap_setCell _ _ _ _ (show w.heap.size ≠ mb by omega)]; exact hrw2
        clear hq2 hfz2 PT2 hrw2
        generalize World.setCell y2 _ _ = W3 at g2 m2 HF3 HM3 HRW3 ⊢
        clear g2 m2
        have t0 : W3.cell? ⟨w.heap.size, 0, none⟩ = some (.bool false) := by rw [cell_of_row W3 _ _ _ _ _ HRW3]; rfl
        have t1 : W3.cell? ⟨w.heap.size, 1, none⟩ = some (.bool false) := by rw [cell_of_row W3 _ _ _ _ _ HRW3]; rfl
        have t2 : W3.cell? ⟨w.heap.size, 2, none⟩ = some (.int .i64 0) := by rw [cell_of_row W3 _ _ _ _ _ HRW3]; rfl
        have t3 : ∀ j, W3.frozen? ⟨w.heap.size, j, none⟩ = false := fun j => frozen_of_row W3 _ j _ _ HRW3
        clear HRW3
        go_wp2_with fail
        refine bodyPost_ret (v := touchedV false (some z1)) (by simp [results, Try.results78, go_sem, touchedV, goneV, t0, t1, t2]) rfl ?_
        refine ⟨by rw [R.out], ?_⟩
        rw [R.out]
        exact ⟨x2, fr_set3 HF3.out HX.out _ _ _, HM3.out.set3 HX.out (by omega) _ _ _⟩
    · skip
      have hz : z2 = k ∧ f2 = true := by
        have := HZ2.out
        rw [hk] at this
        simp [freeRet] at this
        exact ⟨this.1.symm, this.2⟩
      obtain ⟨rfl, rfl⟩ := hz
      have R : Hid (roomS s oft = ({ s with often := s.often.erase z2, woften := s.woften ++ [z2] }, some z2)) := Lib.hid (by unfold roomS; rw [if_neg (by rw [HFU.out]; simp), if_neg (by rw [hp]; simp), hk])
      have hd : (firstOf s oft && f1 || !firstOf s oft && !true) = false := by
        unfold pickOnce at hp
        rw [HF1.out, HF2.out] at hp
        exact hp
      generalize firstOf s oft = fo at hd ⊢
      clear hp hk
      obtain rfl | ⟨rfl, rfl⟩ : fo = false ∨ (fo = true ∧ f1 = false) := by cases fo <;> cases f1 <;> simp_all
      all_goals
        go_wp2_with fail
        refine (without_rev _ _ s.often _ HN.out.2 (by omega) HR1.out.2.1.ro).mono ?_
        rintro e y1 ⟨b1, n1, c3, rfl, ho1, hle1, hb1⟩
        obtain ⟨hfz1, hcl1⟩ := HM1.out.thaw hb1
        have PT1 := Lib.hid (HM1.out.put2 hb1 _ _ ho1 hle1)
        obtain ⟨q1, hq1⟩ : ∃ q, y1.cell? ⟨mb, 2, none⟩ = some q := ⟨_, (hcl1 2).trans k2⟩
        have hrw1 : y1.heap[w.heap.size]? = _ := (hb1.block _ (lt_of_block HRW.out)).trans HRW.out
        clear ho1 hb1 hcl1
        go_upto_region 9 with fail
        obtain ⟨x1, g1, m1⟩ := PT1.out
        have HG1 := Lib.hid g1
        have HM2 := Lib.hid m1
        have HRW2 : Hid ((y1.setCell ⟨mb, 2, none⟩ (.slice b1 n1 c3)).heap[w.heap.size]? = some (.cells #[.bool false, .bool false, .int .i64 0] 100 (0, 0))) := Lib.hid (by rw [Below.heap_setCell _ _ _ _ (show w.heap.size ≠ mb by omega)]; exact hrw1)
        clear hq1 hfz1 PT1 hrw1
        generalize World.setCell y1 _ _ = W2 at g1 m1 HG1 HM2 HRW2 ⊢
        obtain ⟨_, _, _, _, _, _, k1', k2', k3', k4', _, _, HR2⟩ := HM2.out.cells
        clear g1 m1
        go_wp2_with fail
        refine (front_rev _ _ s.woften _ h4 HR2.out.2.2.2.1.ro).mono ?_
        rintro e y2 ⟨b2, n2, c4, rfl, ho2, hle2, hb2⟩
        obtain ⟨hfz2, hcl2⟩ := HM2.out.thaw hb2
        have PT2 := Lib.hid (HM2.out.put4 hb2 _ _ ho2 hle2)
        obtain ⟨q2, hq2⟩ : ∃ q, y2.cell? ⟨mb, 4, none⟩ = some q := ⟨_, (hcl2 4).trans k4'⟩
        have hrw2 : y2.heap[w.heap.size]? = _ := (hb2.block _ (lt_of_block HRW2.out)).trans HRW2.out
        clear ho2 hb2 hcl2
        go_upto_region 10 with fail
        obtain ⟨x2, g2, m2⟩ := PT2.out
        have HM3 := Lib.hid m2
        have HF3 := Lib.hid ((fr_below (d0 := d0) HBm.out).trans (HG1.out.trans g2))
        have HX : Hid (x2 w.heap.size = d0) := Lib.hid (by rw [g2.col _ (lt_of_block HRW2.out), HG1.out.col _ (lt_of_block HRW.out)]; exact paint_new (Nat.le_refl _))
        have HRW3 : (y2.setCell ⟨mb, 4, none⟩ (.slice b2 n2 c4)).heap[w.heap.size]? = some (.cells #[.bool false, .bool false, .int .i64 0] 100 (0, 0)) := by rw [Below.heap_setCell _ _ _ _ (show w.heap.size ≠ mb by omega)]; exact hrw2
        clear hq2 hfz2 PT2 hrw2
        generalize World.setCell y2 _ _ = W3 at g2 m2 HF3 HM3 HRW3 ⊢
        clear g2 m2
        have t0 : W3.cell? ⟨w.heap.size, 0, none⟩ = some (.bool false) := by rw [cell_of_row W3 _ _ _ _ _ HRW3]; rfl
        have t1 : W3.cell? ⟨w.heap.size, 1, none⟩ = some (.bool false) := by rw [cell_of_row W3 _ _ _ _ _ HRW3]; rfl
        have t2 : W3.cell? ⟨w.heap.size, 2, none⟩ = some (.int .i64 0) := by rw [cell_of_row W3 _ _ _ _ _ HRW3]; rfl
        have t3 : ∀ j, W3.frozen? ⟨w.heap.size, j, none⟩ = false := fun j => frozen_of_row W3 _ j _ _ HRW3
        clear HRW3
        go_wp2_with fail
        refine bodyPost_ret (v := touchedV false (some z2)) (by simp [results, Try.results78, go_sem, touchedV, goneV, t0, t1, t2]) rfl ?_
        refine ⟨by rw [R.out], ?_⟩
        rw [R.out]
        exact ⟨x2, fr_set3 HF3.out HX.out _ _ _, HM3.out.set3 HX.out (by omega) _ _ _⟩

end Go.Proofs.Ythcdfdkhmlkneaa.arcI
