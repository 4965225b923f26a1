/- Statement ArcPlays: the document's cache: Touch of a key that is held; of one where nothing may go. -/
import Derived.BigQuiet
import Derived.BigRegion
import Derived.Deep.CutRange
import Derived.Test.YthcdfdkhmlkneaaArcF7
namespace Go.Proofs.Ythcdfdkhmlkneaa.arcI
open Go.RowKit Go.Proofs.Ythcdfdkhmlkneaa.own

set_option maxRecDepth 100000 in
set_option maxHeartbeats 6400000 in
theorem rtouch_held (x : Nat → Nat) (d0 mb : Nat) (s : St) (N : Nat) (w : World) (k : K) (h : MIs x d0 w mb s N) (ok : Ok s) (hk : k ∈ s.once ∨ k ∈ s.often) :
    Calls Try.prog 45 #[.pointer (some ⟨mb, 0, none⟩), .int .i64 k] w (RTouchPost x d0 mb s N k w) := by
  have H := Lib.hid h
  have OK := Lib.hid ok
  have b0 := ok.size
  have b1 := ok.held
  have ND := Lib.hid (ok_nodup ok)
  have R : Hid (touchS s k = ({ s with once := s.once.erase k, often := s.often.erase k ++ [k] }, true, none, 0)) := Lib.hid (by unfold touchS; rw [if_pos hk])
  have d1 : Hid (decide (k ∈ s.once ∨ k ∈ s.often) = true) := Lib.hid (decide_eq_true hk)
  clear h ok hk
  go_enter Try.func45, Try.ntmps45
  go_wp2_with fail
  have HS := Lib.hid (RS.start H.out)
  generalize World.alloc w _ = W0 at HS ⊢
  refine (Held_any _ d0 mb s N _ k HS.out.mi).mono ?_
  rintro e w1 ⟨rfl, rfl⟩
  rw [d1.out]
  obtain ⟨v1, v2, v3, v4, pm, k0, k1, k2, k3, k4, k5, k6, HR⟩ := HS.out.mi.cells
  clear k0 k2 k3 k4 k5 k6
  go_wp2_with fail
  refine (without_rev _ _ s.once k ND.out.1 (by omega) HR.out.1.ro).mono ?_
  rintro e y1 ⟨b1, n1, c1, rfl, ho1, hle1, hb1⟩
  obtain ⟨hfz1, hcl1⟩ := HS.out.mi.thaw hb1
  have PT1 := Lib.hid (HS.out.turn (HS.out.mi.put1 hb1 _ _ ho1 hle1))
  obtain ⟨q1, hq1⟩ : ∃ q, y1.cell? ⟨mb, 1, none⟩ = some q := ⟨_, (hcl1 1).trans k1⟩
  clear ho1 hb1 hcl1 k1 HR
  go_upto_region 3 with fail
  obtain ⟨x1, g1⟩ := PT1.out
  have HS1 := Lib.hid g1
  clear hq1 hfz1 PT1
  generalize World.setCell y1 _ _ = W1 at g1 HS1 ⊢
  clear g1
  obtain ⟨_, _, _, _, _, _, k1, k2, _, _, _, _, HR1⟩ := HS1.out.mi.cells
  clear k1
  go_wp2_with fail
  refine (without_rev _ _ s.often k ND.out.2.1 (by omega) HR1.out.2.1.ro).mono ?_
  rintro e y2 ⟨b2, n2, c2, rfl, ho2, hle2, hb2⟩
  obtain ⟨hfz2, hcl2⟩ := HS1.out.mi.thaw hb2
  have HS2 := Lib.hid (HS1.out.below hb2)
  have HRO : Hid (RO y2 (.slice b2 n2 c2) (s.often.erase k).reverse) := Lib.hid (ROc.of_own (x := fun _ => 0) (c := 0) ho2 hle2 (fun _ _ _ => rfl)).ro
  have hk2 := (hcl2 2).trans k2
  clear ho2 hb2 hcl2 k2 HR1 hfz2
  go_wp2_with fail
  refine (front_rev _ _ (s.often.erase k) k (by have := len_erase_le k s.often; omega) HRO.out).mono ?_
  rintro e y3 ⟨b3, n3, c3, rfl, ho3, hle3, hb3⟩
  obtain ⟨hfz3, hcl3⟩ := HS2.out.mi.thaw hb3
  have PT3 := Lib.hid (HS2.out.turn (HS2.out.mi.put2 hb3 _ _ ho3 hle3))
  obtain ⟨q3, hq3⟩ : ∃ q, y3.cell? ⟨mb, 2, none⟩ = some q := ⟨_, (hcl3 2).trans hk2⟩
  clear ho3 hb3 hcl3 hk2 HRO
  go_upto_region 4 with fail
  obtain ⟨x3, g3⟩ := PT3.out
  have HS3 := Lib.hid g3
  clear hq3 hfz3 PT3
  generalize World.setCell y3 _ _ = W3 at g3 HS3 ⊢
  clear g3
  obtain ⟨t0, t1, t2, t3⟩ := HS3.out.cells
  dsimp only [goneV, Option.isSome] at t1 t2
  go_wp2_with fail
  refine bodyPost_ret (v := .tuple #[touchedV true none, .int .i64 0]) (by simp [results, Try.results45, go_sem, touchedV, goneV, t0, t1, t2]) rfl ?_
  refine ⟨by rw [R.out]; rfl, ?_⟩
  rw [R.out]
  exact HS3.out.done _ _ _

set_option maxRecDepth 100000 in
set_option maxHeartbeats 6400000 in
theorem rtouch_stuck (x : Nat → Nat) (d0 mb : Nat) (s : St) (N : Nat) (w : World) (k : K) (h : MIs x d0 w mb s N) (ok : Ok s) (hk : ¬ (k ∈ s.once ∨ k ∈ s.often)) (hst : stuck s = true) :
    Calls Try.prog 45 #[.pointer (some ⟨mb, 0, none⟩), .int .i64 k] w (RTouchPost x d0 mb s N k w) := by
  have H := Lib.hid h
  have OK := Lib.hid ok
  have b0 := ok.size
  have b1 := ok.held
  have R : Hid (touchS s k = (s, false, none, 13)) := Lib.hid (by unfold touchS; rw [if_neg hk, if_pos hst])
  have d1 : Hid (decide (k ∈ s.once ∨ k ∈ s.often) = false) := Lib.hid (decide_eq_false hk)
  obtain ⟨z1, hz1⟩ := freeRet_is (freeK s.pins s.once)
  obtain ⟨z2, hz2⟩ := freeRet_is (freeK s.pins s.often)
  have hst3 : isFull s = true ∧ (freeK s.pins s.once).isSome = false ∧ (freeK s.pins s.often).isSome = false := by
    unfold stuck at hst
    simpa [and_assoc] using hst
  have HZ1 := Lib.hid (hz1 _ hst3.2.1)
  have HZ2 := Lib.hid (hz2 _ hst3.2.2)
  have HFU := Lib.hid hst3.1
  clear h ok hk hst hz1 hz2 hst3
  go_enter Try.func45, Try.ntmps45
  go_wp2_with fail
  have HS := Lib.hid (RS.start H.out)
  generalize World.alloc w _ = W0 at HS ⊢
  refine (Held_any _ d0 mb s N _ k HS.out.mi).mono ?_
  rintro e w1 ⟨rfl, rfl⟩
  rw [d1.out]
  obtain ⟨v1, v2, v3, v4, pm, k0, k1, k2, k3, k4, k5, k6, HR⟩ := HS.out.mi.cells
  clear k0 k3 k4 k5 k6
  go_wp2_with fail
  refine (rfree_any _ d0 mb s N _ _ s.once (fun k hk => OK.out.keys k (.inl hk)) HS.out.mi HR.out.1.ro).mono ?_
  rintro e w1 ⟨rfl, m, rfl⟩
  rw [HZ1.out]
  go_wp2_with fail
  refine (rfree_any _ d0 mb s N _ _ s.often (fun k hk => OK.out.keys k (.inr (.inl hk))) (HS.out.drewN m).mi HR.out.2.1.ro).mono ?_
  rintro e w1 ⟨rfl, m2, rfl⟩
  rw [HZ2.out]
  have HS2 := Lib.hid ((HS.out.drewN m).drewN m2)
  clear k1 k2 HR
  generalize (W0.drewN m).drewN m2 = W1 at HS2 ⊢
  go_wp2_with fail
  refine (rfull_any _ d0 mb s N _ HS2.out.mi (by omega) (by omega)).mono ?_
  rintro e w1 ⟨rfl, m3, rfl⟩
  rw [HFU.out]
  have HS3 := Lib.hid (HS2.out.drewN m3)
  generalize W1.drewN m3 = W2 at HS3 ⊢
  obtain ⟨t0, t1, t2, t3⟩ := HS3.out.cells
  dsimp only [goneV, Option.isSome] at t1 t2
  go_wp2_with fail
  refine bodyPost_ret (v := .tuple #[touchedV false none, .int .i64 13]) (by simp [results, Try.results45, go_sem, touchedV, goneV, t0, t1, t2]) rfl ?_
  refine ⟨by rw [R.out]; rfl, ?_⟩
  rw [R.out]
  exact HS3.out.done _ _ _

end Go.Proofs.Ythcdfdkhmlkneaa.arcI
