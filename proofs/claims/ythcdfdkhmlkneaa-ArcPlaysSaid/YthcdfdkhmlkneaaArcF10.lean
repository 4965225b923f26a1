/- Statement ArcPlays: the document's cache: Touch of a key that is not held. -/
import Derived.BigQuiet
import Derived.BigRegion
import Derived.Deep.CutRange
import Derived.Deep.CutBlock
import Derived.Test.YthcdfdkhmlkneaaArcF9
namespace Go.Proofs.Ythcdfdkhmlkneaa.arcI
open Go.RowKit Go.Proofs.Ythcdfdkhmlkneaa.own

set_option maxRecDepth 100000 in
set_option maxHeartbeats 12800000 in
theorem rtouch_new (x : Nat → Nat) (d0 mb : Nat) (s : St) (N : Nat) (w : World) (k : K) (h : MIs x d0 w mb s N) (ok : Ok s) (hk : ¬ (k ∈ s.once ∨ k ∈ s.often)) (hst : stuck s = false) (hn3 : k ∉ s.wonce) (hn4 : k ∉ s.woften) :
    Calls Try.prog 45 #[.pointer (some ⟨mb, 0, none⟩), .int .i64 k] w (RTouchPost x d0 mb s N k w) := by
  have HNW := Lib.hid hn3
  have HNF := Lib.hid hn4
  clear hn3 hn4
  have H := Lib.hid h
  have OK := Lib.hid ok
  have HK := Lib.hid hk
  have ST := Lib.hid hst
  have b0 := ok.size
  have b1 := ok.held
  have b2 := ok.first
  have b3 := ok.all
  have b4 := ok.target
  have ND := Lib.hid (ok_nodup ok)
  have d1 : Hid (decide (k ∈ s.once ∨ k ∈ s.often) = false) := Lib.hid (decide_eq_false hk)
  obtain ⟨z1, hz1⟩ := freeRet_is (freeK s.pins s.once)
  obtain ⟨z2, hz2⟩ := freeRet_is (freeK s.pins s.often)
  obtain ⟨f1, hf1⟩ : ∃ b, (freeK s.pins s.once).isSome = b := ⟨_, rfl⟩
  obtain ⟨f2, hf2⟩ : ∃ b, (freeK s.pins s.often).isSome = b := ⟨_, rfl⟩
  obtain ⟨f3, hf3⟩ : ∃ b, isFull s = b := ⟨_, rfl⟩
  have HZ1 := Lib.hid (hz1 _ hf1)
  have HZ2 := Lib.hid (hz2 _ hf2)
  have HF3 := Lib.hid hf3
  have HCS := Lib.hid (stuck_cases hst hf1 hf2 hf3)
  clear h ok hk hst hz1 hz2 hf1 hf2 hf3
  go_enter Try.func45, Try.ntmps45
  go_wp2_with fail
  have HS := Lib.hid (RS.start H.out)
  generalize World.alloc w _ = W0 at HS ⊢
  refine (Held_any _ d0 mb s N _ k HS.out.mi).mono ?_
  rintro e w1 ⟨rfl, rfl⟩
  rw [d1.out]
  obtain ⟨v1, v2, v3, v4, pm, k0, k1, k2, k3, k4, k5, k6, HR⟩ := HS.out.mi.cells
  clear k0 k3 k4 k5 k6
  go_wp2_with fail
  refine (rfree_any _ d0 mb s N _ _ s.once (fun k hk => OK.out.keys k (.inl hk)) HS.out.mi HR.out.1.ro).mono ?_
  rintro e w1 ⟨rfl, m, rfl⟩
  rw [HZ1.out]
  go_wp2_with fail
  refine (rfree_any _ d0 mb s N _ _ s.often (fun k hk => OK.out.keys k (.inr (.inl hk))) (HS.out.drewN m).mi HR.out.2.1.ro).mono ?_
  rintro e w1 ⟨rfl, m2, rfl⟩
  rw [HZ2.out]
  have HS2 := Lib.hid ((HS.out.drewN m).drewN m2)
  clear k1 k2 HR
  generalize (W0.drewN m).drewN m2 = W1 at HS2 ⊢
  go_upto_region 7 with fail
  go_cut [64] from 55 to 64 (fun s64 wc => s64 = .bool false ∧ ∃ m, wc = W1.drewN m)
  case first =>
    go_wp2_with fail
    refine (rfull_any _ d0 mb s N _ HS2.out.mi (by omega) (by omega)).mono ?_
    rintro e w1 ⟨rfl, m3, rfl⟩
    rw [HF3.out]
    rcases HCS.out with rfl | ⟨rfl, rfl⟩ | ⟨rfl, rfl, rfl⟩
    all_goals
      go_wp2_with fail
      go_meet
      case rel => exact ⟨rfl, m3, rfl⟩
  case rest =>
    obtain ⟨rfl, m3, rfl⟩ := hcut
    have HS3 := Lib.hid (HS2.out.drewN m3)
    clear HS HS2 HCS HZ1 HZ2 HF3 H
    generalize W1.drewN m3 = W2 at HS3 ⊢
    obtain ⟨v1, v2, v3, v4, pm, -, -, -, k3, k4, -, -, HR⟩ := HS3.out.mi.cells
    have HR3 : Hid (RO (W2.alloc (.cells #[.bool false, .bool false, .int .i64 0] 100)) v3 s.wonce.reverse) := Lib.hid (HR.out.2.2.1.ro.below ((Below.refl _ _).alloc (Nat.le_refl _) _))
    have HS4 := Lib.hid HS3.out.more
    clear k4 HR
    obtain ⟨qb, hqb⟩ : ∃ q, idx s.wonce.reverse k = q := ⟨_, rfl⟩
    have HQB := Lib.hid hqb
    clear hqb
    have hlt := HS3.out.mi.lt
    go_wp2_with fail
    clear hlt k3
    generalize hob : W2.heap.size = ob at HS4 ⊢
    generalize World.alloc W2 _ = W3 at HS4 HR3 ⊢
    clear hob HS3
    refine (in_any W3 _ _ k HR3.out).mono ?_
    rintro e w1 ⟨rfl, rfl⟩
    rw [HQB.out]
    clear HR3
    have hq2 : ¬ (0 : Int) ≤ qb := by
      have := idx_geq s.wonce k false (decide_eq_false HNW.out)
      rw [HQB.out] at this
      exact of_decide_eq_false this
    obtain ⟨v1, v2, v3, v4, pm, -, -, -, -, k4, -, -, HR⟩ := HS4.out.rs.mi.cells
    obtain ⟨qc, hqc⟩ : ∃ q, idx s.woften.reverse k = q := ⟨_, rfl⟩
    have HQC := Lib.hid hqc
    clear hqc
    go_wp2_with fail
    refine (in_any W3 _ _ k HR.out.2.2.2.1.ro).mono ?_
    rintro e w1 ⟨rfl, rfl⟩
    rw [HQC.out]
    clear HR k4
    have hq3 : ¬ (0 : Int) ≤ qc := by
      have := idx_geq s.woften k false (decide_eq_false HNF.out)
      rw [HQC.out] at this
      exact of_decide_eq_false this
    have AO : Hid (AddOk s (addS s).1 (addS s).2) := Lib.hid (addS_ok s OK.out (not_stuck ST.out))
    have R : Hid (touchS s k = ({ (addS s).1 with once := (addS s).1.once ++ [k] }, false, (addS s).2, 0)) := Lib.hid (by unfold touchS; rw [if_neg HK.out, ST.out, if_neg (by simp), if_neg HNW.out, if_neg HNF.out])
    obtain ⟨v1, v2, v3, v4, pm, g0, g1, g2, g3, g4, -, -, HR⟩ := HS4.out.rs.mi.cells
    obtain ⟨a1, c1, e1, _⟩ := HR.out.1
    obtain ⟨a2, c2, e2, _⟩ := HR.out.2.1
    obtain ⟨a3, c3, e3, -, hcap3, -⟩ := HR.out.2.2.1
    rw [List.length_reverse] at hcap3
    have HCAP3 := Lib.hid hcap3
    clear hcap3
    obtain ⟨a4, c4', e4, -, hcap4, -⟩ := HR.out.2.2.2.1
    rw [List.length_reverse] at hcap4
    have HCAP4 := Lib.hid hcap4
    clear hcap4
    rw [e1, List.length_reverse] at g1
    rw [e2, List.length_reverse] at g2
    rw [e3, List.length_reverse] at g3
    rw [e4, List.length_reverse] at g4
    clear e1 e2 e3 e4 HR
    go_wp2_with fail
    go_quiet (fail)
    refine Or.elim (Decidable.em (s.once.length + s.wonce.length = s.size)) (fun c1 => ?oA) (fun c1 => ?oB)
    case' oA =>
      have e1 : (((s.once.length : Nat) : Int) + ((s.wonce.length : Nat) : Int) == ((s.size : Nat) : Int)) = true := beq_iff_eq.2 (by omega)
      go_wp2_with fail
      go_quiet (fail)
      refine Or.elim (Decidable.em (s.once.length < s.size)) (fun c2 => ?iA) (fun c2 => ?iB)
      case' iA =>
        go_wp2_with fail
        have H5 : Hid (∀ n, RS2 x d0 w mb N w.heap.size ob none s _ (W3.drewN n)) := Lib.hid (fun n => HS4.out.drewN n)
        have hn : 1 ≤ s.wonce.length := by omega
        obtain ⟨n3, hn3⟩ : ∃ n, s.wonce.length = n + 1 := ⟨s.wonce.length - 1, by omega⟩
        try simp only [drewN_add]
        generalize hW4 : World.drewN W3 _ = W4
        have S4 : Hid (RS2 x d0 w mb N w.heap.size ob none s _ W4) := Lib.hid (by rw [← hW4]; exact H5.out _)
        have h3 : W4.cell? ⟨mb, 3, none⟩ = some (.slice a3 (n3 + 1) c3) := by rw [← hW4, ← hn3]; exact g3
        refine wp_region_still_tail 14 (by kernel_rfl) (by kernel_rfl) ?_
        simp only [List.take_succ_cons, List.take_zero, List.drop_succ_cons, List.drop_zero]
        generalize hW5 : ({ W4 with drawn := W4.drawn + 1 } : World) = W5
        have S5 : Hid (RS2 x d0 w mb N w.heap.size ob none s _ W5) := Lib.hid (by rw [← hW5]; exact S4.out.drewN 1)
        have f3 : W5.cell? ⟨mb, 3, none⟩ = some (.slice a3 (n3 + 1) c3) := by rw [← hW5]; exact h3
        have ff : ∀ j, W5.frozen? ⟨mb, j, none⟩ = false := (S5.out.rs.mi.thaw (Below.refl _ _)).1
        have hcap : n3 + 1 ≤ c3 := by have := HCAP3.out; omega
        clear hW5 hW4 H5 h3 S4
        have hcapi : (n3 : Int) ≤ (c3 : Int) := by omega
        have hwr : IntKind.i64.wrap (n3 : Int) = (n3 : Int) := IntWalk.i64_in _ (by omega)
        repeat still_step
        refine wpStill_nil ?_
        go_upto_region 27 with fail
        have m6 : MIs _ d0 (W5.setCell ⟨mb, 3, none⟩ (.slice a3 n3 c3)) mb { s with wonce := s.wonce.tail } N := S5.out.rs.mi.tail3 f3
        have HS6 : Hid (RS2 x d0 w mb N w.heap.size ob none { s with wonce := s.wonce.tail } _ _) := Lib.hid (S5.out.own m6)
        clear m6 S5 f3 ff hcap hcapi hwr g0 g1 g2 g3 g4 hn hn3
        generalize World.setCell W5 _ _ = W6 at HS6 ⊢
        have hrS : addS s = roomS { s with wonce := s.wonce.tail } false := by unfold addS; rw [if_pos c1, if_pos c2]
        obtain ⟨s2, hs2⟩ : ∃ s2, { s with wonce := s.wonce.tail } = s2 := ⟨_, rfl⟩
        have E2 : Hid (s2.once = s.once ∧ s2.often = s.often ∧ s2.pins = s.pins ∧ s2.wonce.length ≤ s.wonce.length ∧ s2.woften.length ≤ s.woften.length ∧ isFull s2 = isFull s) := Lib.hid (by subst hs2; exact ⟨rfl, rfl, rfl, by simp, Nat.le_refl _, rfl⟩)
        have NST : Hid (isFull s2 = true → (freeK s2.pins s2.once).isSome = true ∨ (freeK s2.pins s2.often).isSome = true) := Lib.hid (by subst hs2; exact not_stuck ST.out)
        rw [hs2] at hrS HS6
        clear hs2
        obtain ⟨t, gn, hrr⟩ : ∃ t gn, roomS s2 false = (t, gn) := ⟨_, _, rfl⟩
        rw [hrr] at hrS
        have HRR := Lib.hid hrr
        have HAS := Lib.hid hrS
        clear hrr hrS
        go_wp2_with fail
        refine (rfull_any _ d0 mb s2 N _ HS6.out.rs.mi (by rw [E2.out.1]; omega) (by rw [E2.out.2.1]; omega)).mono ?_
        rintro e w1 ⟨rfl, m5, rfl⟩
        have HS7 := Lib.hid (HS6.out.drewN m5)
        generalize W6.drewN m5 = W7 at HS7 ⊢
        clear HS6
        rcases hfu : isFull s2 with _ | _
        case' false =>
          have HS9 : Hid (∃ x9, RS2 x d0 w mb N w.heap.size ob gn t x9 W7) := Lib.hid ⟨_, by
            have : roomS s2 false = (s2, none) := by unfold roomS; rw [if_pos hfu]
            rw [HRR.out] at this
            injection this with e1 e2
            rw [e1, e2]
            exact HS7.out⟩
          clear HS7 hfu
          go_upto_region 37 with fail
          generalize W7 = W9 at HS9 ⊢
        case' true =>
          have HFU := Lib.hid hfu
          clear hfu
          go_wp2_with fail
          refine (rroom_first _ d0 mb s2 N _ false HS7.out.rs.mi (by rw [E2.out.1]; omega) (by rw [E2.out.2.1]; omega) (by have := E2.out.2.2.2.1; omega) (by have := E2.out.2.2.2.2.1; omega) (fun k hk => OK.out.keys k (by rw [E2.out.1, E2.out.2.1] at hk; exact hk.elim .inl (fun x => .inr (.inl x)))) (by rw [E2.out.1]; exact ND.out.1) (by rw [E2.out.2.1]; exact ND.out.2.1) HFU.out (pick_free (s := s2) false (NST.out HFU.out))).mono ?_
          rintro e w7 ⟨rfl, hmt⟩
          rw [HRR.out] at hmt ⊢
          obtain ⟨x7, hs7⟩ := HS7.out.turn hmt
          have HS8 : Hid (RS2 x d0 w mb N w.heap.size ob none t x7 w7) := Lib.hid hs7
          clear hmt hs7 HS7
          obtain ⟨z, hz9⟩ := gone_shape gn
          unfold touchedV
          rw [hz9]
          obtain ⟨t0, t1, t2, t3⟩ := HS8.out.cells
          dsimp only [goneV, Option.isSome] at t1 t2
          go_upto_region 37 with fail
          have h8 := HS8.out.told gn
          rw [hz9] at h8
          have HS9 : Hid (∃ x9, RS2 x d0 w mb N w.heap.size ob gn t x9 _) := Lib.hid ⟨_, h8⟩
          clear h8 HS8 t0 t1 t2 t3 hz9
          generalize (World.setCell _ ⟨ob, 2, none⟩ _) = W9 at HS9 ⊢
      case' iB =>
        have hoe : s.often = [] := List.eq_nil_of_length_eq_zero (by omega)
        have hful : isFull s = true := decide_eq_true (by omega)
        obtain ⟨a, ha⟩ : ∃ a, freeK s.pins s.once = some a := by
          rcases not_stuck ST.out hful with h | h
          · exact Option.isSome_iff_exists.1 h
          · rw [hoe] at h; cases h
        have HFA := Lib.hid ha
        have HAS : Hid (addS s = ({ s with once := s.once.erase a }, some a)) := Lib.hid (by unfold addS; rw [if_pos c1, if_neg c2, ha])
        clear ha hoe hful
        have H5 : Hid (∀ n, RS2 x d0 w mb N w.heap.size ob none s _ (W3.drewN n)) := Lib.hid (fun n => HS4.out.drewN n)
        try simp only [drewN_add]
        generalize hW4 : World.drewN W3 _ = W4
        have S4 : Hid (RS2 x d0 w mb N w.heap.size ob none s _ W4) := Lib.hid (by rw [← hW4]; exact H5.out _)
        clear hW4 H5 g0 g1 g2 g3 g4
        obtain ⟨_, _, _, _, _, -, k1, -, -, -, -, -, HR⟩ := S4.out.rs.mi.cells
        go_wp2_with fail
        refine (rfree_any _ d0 mb s N _ _ s.once (fun k hk => OK.out.keys k (.inl hk)) S4.out.rs.mi HR.out.1.ro).mono ?_
        rintro e w1 ⟨rfl, m5, rfl⟩
        rw [HFA.out]
        rw [show freeRet (some a) = Ending.returned (.tuple #[.int .i64 a, .bool true]) from rfl]
        have HS5 := Lib.hid (S4.out.drewN m5)
        clear k1 HR
        generalize W4.drewN m5 = W5 at HS5 ⊢
        clear S4
        obtain ⟨_, _, _, _, _, -, k1, -, -, -, -, -, HR⟩ := HS5.out.rs.mi.cells
        go_wp2_with fail
        refine (without_rev _ _ s.once a ND.out.1 (by omega) HR.out.1.ro).mono ?_
        rintro e y1 ⟨p1, n1, cc1, rfl, ho1, hle1, hw1⟩
        obtain ⟨hfz1, hcl1⟩ := HS5.out.rs.mi.thaw hw1
        have PT1 := Lib.hid (HS5.out.turn (HS5.out.rs.mi.put1 hw1 _ _ ho1 hle1))
        obtain ⟨q1, hq1⟩ : ∃ q, y1.cell? ⟨mb, 1, none⟩ = some q := ⟨_, (hcl1 1).trans k1⟩
        clear ho1 hw1 hcl1 k1 HR
        go_upto_region 31 with fail
        obtain ⟨x6, g6⟩ := PT1.out
        have HS6 := Lib.hid g6
        clear hq1 hfz1 PT1
        generalize World.setCell y1 _ _ = W6 at g6 HS6 ⊢
        clear g6 HS5
        obtain ⟨t0, t1, t2, t3⟩ := HS6.out.cells
        dsimp only [goneV, Option.isSome] at t1 t2
        go_upto_region 37 with fail
        have h8 := HS6.out.told (some a)
        dsimp only [goneV, Option.isSome] at h8
        obtain ⟨t, ht⟩ : ∃ t, { s with once := s.once.erase a } = t := ⟨_, rfl⟩
        obtain ⟨gn, hgn⟩ : ∃ gn, some a = gn := ⟨_, rfl⟩
        have HAS : Hid (addS s = (t, gn)) := Lib.hid (by rw [HAS.out, ht, hgn])
        have HS9 : Hid (∃ x9, RS2 x d0 w mb N w.heap.size ob gn t x9 _) := Lib.hid ⟨x6, by rw [← hgn, ← ht]; exact h8⟩
        clear h8 HS6 t0 t1 t2 t3 ht hgn
        generalize (World.setCell _ ⟨ob, 2, none⟩ _) = W9 at HS9 ⊢
    case' oB =>
      have e1 : (((s.once.length : Nat) : Int) + ((s.wonce.length : Nat) : Int) == ((s.size : Nat) : Int)) = false := beq_eq_false_iff_ne.2 (by omega)
      go_wp2_with fail
      go_quiet (fail)
      refine Or.elim (Decidable.em (s.size ≤ s.once.length + s.often.length + s.wonce.length + s.woften.length)) (fun c3 => ?jA) (fun c3 => ?jB)
      case' jB =>
        go_upto_region 37 with fail
        have H5 : Hid (∀ n, RS2 x d0 w mb N w.heap.size ob none s _ (W3.drewN n)) := Lib.hid (fun n => HS4.out.drewN n)
        try simp only [drewN_add]
        generalize hW4 : World.drewN W3 _ = W9
        obtain ⟨t, ht⟩ : ∃ t, s = t := ⟨_, rfl⟩
        obtain ⟨gn, hgn⟩ : ∃ gn, (none : Option K) = gn := ⟨_, rfl⟩
        have HS9 : Hid (∃ x9, RS2 x d0 w mb N w.heap.size ob gn t x9 W9) := Lib.hid ⟨_, by rw [← hW4, ← hgn, ← ht]; exact H5.out _⟩
        have HAS : Hid (addS s = (t, gn)) := Lib.hid (by unfold addS; rw [if_neg c1, if_pos (by omega), ht, hgn])
        clear hW4 H5 ht hgn g0 g1 g2 g3 g4
      case' jA =>
        go_wp2_with fail
        go_quiet (fail)
        refine Or.elim (Decidable.em (s.once.length + s.often.length + s.wonce.length + s.woften.length = 2 * s.size)) (fun c4 => ?kA) (fun c4 => ?kB)
        case' kA =>
          have e2 : (((s.once.length : Nat) : Int) + ((s.often.length : Nat) : Int) + ((s.wonce.length : Nat) : Int) + ((s.woften.length : Nat) : Int) == 2 * ((s.size : Nat) : Int)) = true := beq_iff_eq.2 (by omega)
          go_wp2_with fail
          have H5 : Hid (∀ n, RS2 x d0 w mb N w.heap.size ob none s _ (W3.drewN n)) := Lib.hid (fun n => HS4.out.drewN n)
          have hn : 1 ≤ s.woften.length := by omega
          obtain ⟨n3, hn3⟩ : ∃ n, s.woften.length = n + 1 := ⟨s.woften.length - 1, by omega⟩
          try simp only [drewN_add]
          generalize hW4 : World.drewN W3 _ = W4
          have S4 : Hid (RS2 x d0 w mb N w.heap.size ob none s _ W4) := Lib.hid (by rw [← hW4]; exact H5.out _)
          have h3 : W4.cell? ⟨mb, 4, none⟩ = some (.slice a4 (n3 + 1) c4') := by rw [← hW4, ← hn3]; exact g4
          refine wp_region_still_tail 14 (by kernel_rfl) (by kernel_rfl) ?_
          simp only [List.take_succ_cons, List.take_zero, List.drop_succ_cons, List.drop_zero]
          generalize hW5 : ({ W4 with drawn := W4.drawn + 1 } : World) = W5
          have S5 : Hid (RS2 x d0 w mb N w.heap.size ob none s _ W5) := Lib.hid (by rw [← hW5]; exact S4.out.drewN 1)
          have f3 : W5.cell? ⟨mb, 4, none⟩ = some (.slice a4 (n3 + 1) c4') := by rw [← hW5]; exact h3
          have ff : ∀ j, W5.frozen? ⟨mb, j, none⟩ = false := (S5.out.rs.mi.thaw (Below.refl _ _)).1
          have hcap : n3 + 1 ≤ c4' := by have := HCAP4.out; omega
          clear hW5 hW4 H5 h3 S4
          have hcapi : (n3 : Int) ≤ (c4' : Int) := by omega
          have hwr : IntKind.i64.wrap (n3 : Int) = (n3 : Int) := IntWalk.i64_in _ (by omega)
          repeat still_step
          refine wpStill_nil ?_
          go_upto_region 35 with fail
          have m6 : MIs _ d0 (W5.setCell ⟨mb, 4, none⟩ (.slice a4 n3 c4')) mb { s with woften := s.woften.tail } N := S5.out.rs.mi.tail4 f3
          have HS6 : Hid (RS2 x d0 w mb N w.heap.size ob none { s with woften := s.woften.tail } _ _) := Lib.hid (S5.out.own m6)
          clear m6 S5 f3 ff hcap hcapi hwr g0 g1 g2 g3 g4 hn hn3
          generalize World.setCell W5 _ _ = W6 at HS6 ⊢
          have hrS : addS s = roomS { s with woften := s.woften.tail } false := by unfold addS; rw [if_neg c1, if_neg (by omega), if_pos c4]
          obtain ⟨s2, hs2⟩ : ∃ s2, { s with woften := s.woften.tail } = s2 := ⟨_, rfl⟩
          have E2 : Hid (s2.once = s.once ∧ s2.often = s.often ∧ s2.pins = s.pins ∧ s2.wonce.length ≤ s.wonce.length ∧ s2.woften.length ≤ s.woften.length ∧ isFull s2 = isFull s) := Lib.hid (by subst hs2; exact ⟨rfl, rfl, rfl, Nat.le_refl _, by simp, rfl⟩)
          have NST : Hid (isFull s2 = true → (freeK s2.pins s2.once).isSome = true ∨ (freeK s2.pins s2.often).isSome = true) := Lib.hid (by subst hs2; exact not_stuck ST.out)
          rw [hs2] at hrS HS6
          clear hs2
        case' kB =>
          have e2 : (((s.once.length : Nat) : Int) + ((s.often.length : Nat) : Int) + ((s.wonce.length : Nat) : Int) + ((s.woften.length : Nat) : Int) == 2 * ((s.size : Nat) : Int)) = false := beq_eq_false_iff_ne.2 (by omega)
          go_upto_region 35 with fail
          have H5 : Hid (∀ n, RS2 x d0 w mb N w.heap.size ob none s _ (W3.drewN n)) := Lib.hid (fun n => HS4.out.drewN n)
          try simp only [drewN_add]
          generalize hW4 : World.drewN W3 _ = W6
          have HS6 : Hid (RS2 x d0 w mb N w.heap.size ob none s _ W6) := Lib.hid (by rw [← hW4]; exact H5.out _)
          clear hW4 H5 g0 g1 g2 g3 g4
          have hrS : addS s = roomS s false := by unfold addS; rw [if_neg c1, if_neg (by omega), if_neg c4]
          obtain ⟨s2, hs2⟩ : ∃ s2, s = s2 := ⟨_, rfl⟩
          have E2 : Hid (s2.once = s.once ∧ s2.often = s.often ∧ s2.pins = s.pins ∧ s2.wonce.length ≤ s.wonce.length ∧ s2.woften.length ≤ s.woften.length ∧ isFull s2 = isFull s) := Lib.hid (by rw [← hs2]; exact ⟨rfl, rfl, rfl, Nat.le_refl _, Nat.le_refl _, rfl⟩)
          have NST : Hid (isFull s2 = true → (freeK s2.pins s2.once).isSome = true ∨ (freeK s2.pins s2.often).isSome = true) := Lib.hid (by rw [← hs2]; exact not_stuck ST.out)
          have HS6 : Hid (RS2 x d0 w mb N w.heap.size ob none s2 _ W6) := Lib.hid (by rw [← hs2]; exact HS6.out)
          have hrS : addS s = roomS s2 false := by rw [← hs2]; exact hrS
          clear hs2
        all_goals
          obtain ⟨t, gn, hrr⟩ : ∃ t gn, roomS s2 false = (t, gn) := ⟨_, _, rfl⟩
          rw [hrr] at hrS
          have HRR := Lib.hid hrr
          have HAS := Lib.hid hrS
          clear hrr hrS
          go_wp2_with fail
          refine (rfull_any _ d0 mb s2 N _ HS6.out.rs.mi (by rw [E2.out.1]; omega) (by rw [E2.out.2.1]; omega)).mono ?_
          rintro e w1 ⟨rfl, m5, rfl⟩
          have HS7 := Lib.hid (HS6.out.drewN m5)
          generalize W6.drewN m5 = W7 at HS7 ⊢
          clear HS6
          rcases hfu : isFull s2 with _ | _
          case' false =>
            have HS9 : Hid (∃ x9, RS2 x d0 w mb N w.heap.size ob gn t x9 W7) := Lib.hid ⟨_, by
              have : roomS s2 false = (s2, none) := by unfold roomS; rw [if_pos hfu]
              rw [HRR.out] at this
              injection this with e1 e2
              rw [e1, e2]
              exact HS7.out⟩
            clear HS7 hfu
            go_upto_region 37 with fail
            generalize W7 = W9 at HS9 ⊢
          case' true =>
            have HFU := Lib.hid hfu
            clear hfu
            go_wp2_with fail
            refine (rroom_first _ d0 mb s2 N _ false HS7.out.rs.mi (by rw [E2.out.1]; omega) (by rw [E2.out.2.1]; omega) (by have := E2.out.2.2.2.1; omega) (by have := E2.out.2.2.2.2.1; omega) (fun k hk => OK.out.keys k (by rw [E2.out.1, E2.out.2.1] at hk; exact hk.elim .inl (fun x => .inr (.inl x)))) (by rw [E2.out.1]; exact ND.out.1) (by rw [E2.out.2.1]; exact ND.out.2.1) HFU.out (pick_free (s := s2) false (NST.out HFU.out))).mono ?_
            rintro e w7 ⟨rfl, hmt⟩
            rw [HRR.out] at hmt ⊢
            obtain ⟨x7, hs7⟩ := HS7.out.turn hmt
            have HS8 : Hid (RS2 x d0 w mb N w.heap.size ob none t x7 w7) := Lib.hid hs7
            clear hmt hs7 HS7
            obtain ⟨z, hz9⟩ := gone_shape gn
            unfold touchedV
            rw [hz9]
            obtain ⟨t0, t1, t2, t3⟩ := HS8.out.cells
            dsimp only [goneV, Option.isSome] at t1 t2
            go_upto_region 37 with fail
            have h8 := HS8.out.told gn
            rw [hz9] at h8
            have HS9 : Hid (∃ x9, RS2 x d0 w mb N w.heap.size ob gn t x9 _) := Lib.hid ⟨_, h8⟩
            clear h8 HS8 t0 t1 t2 t3 hz9
            generalize (World.setCell _ ⟨ob, 2, none⟩ _) = W9 at HS9 ⊢
    all_goals
      obtain ⟨x9, hs9⟩ := HS9.out
      have HT9 : Hid (RS2 x d0 w mb N w.heap.size ob gn t x9 W9) := Lib.hid hs9
      clear hs9 HS9
      have AO2 : Hid (AddOk s t gn) := Lib.hid (by have := AO.out; rw [HAS.out] at this; exact this)
      have R2 : Hid (touchS s k = ({ t with once := t.once ++ [k] }, false, gn, 0)) := Lib.hid (by rw [R.out, HAS.out])
      have hlt1 : t.once.length < 1048576 := by have := AO2.out.first; omega
      obtain ⟨_, _, _, _, _, -, k1, -, -, -, -, -, HR⟩ := HT9.out.rs.mi.cells
      go_wp2_with fail
      refine (front_rev _ _ t.once k (by omega) HR.out.1.ro).mono ?_
      rintro e y2 ⟨c2, n2, cc2, rfl, ho2, hle2, hw2⟩
      obtain ⟨hfz2, hcl2⟩ := HT9.out.rs.mi.thaw hw2
      have PT2 := Lib.hid (HT9.out.turn (HT9.out.rs.mi.put1 hw2 _ _ ho2 hle2))
      obtain ⟨q2, hq2⟩ : ∃ q, y2.cell? ⟨mb, 1, none⟩ = some q := ⟨_, (hcl2 1).trans k1⟩
      clear ho2 hw2 hcl2 k1 HR
      go_upto_region 38 with fail
      obtain ⟨x11, g11⟩ := PT2.out
      have HT11 := Lib.hid g11
      clear hq2 hfz2 PT2
      generalize World.setCell y2 _ _ = W11 at g11 HT11 ⊢
      clear g11 HT9
      obtain ⟨z9, hz9⟩ := gone_shape gn
      obtain ⟨t0, t1, t2, t3⟩ := HT11.out.cells
      rw [hz9] at t2
      obtain ⟨u0, u1, u2, u3⟩ := HT11.out.rs.cells
      dsimp only [goneV, Option.isSome] at u1 u2
      have hne : w.heap.size ≠ ob := HT11.out.ne
      go_wp2_with fail
      refine bodyPost_ret (v := .tuple #[touchedV false gn, .int .i64 0]) (by simp [results, Try.results45, go_sem, touchedV, hz9, u0, u1, u2]) rfl ?_
      refine ⟨by rw [R2.out]; rfl, ?_⟩
      rw [R2.out]
      exact HT11.out.rs.done _ _ _

end Go.Proofs.Ythcdfdkhmlkneaa.arcI
