/- The contract of a cache's Touch. -/
import Derived.BigQuiet
import Derived.BigRegion
import Derived.StillTailTactics
import Derived.Deep.CutRange
import Derived.Test.YtbgbomlmgkgkoaaGreatArcAI
namespace Go.Proofs.YtbgbomlmgkgkoaaGreat.arcI
open Go.RowKit Go.Proofs.YtbgbomlmgkgkoaaGreat.own

def TouchPost (x : Nat → Nat) (c0 cb : Nat) (s : St) (N : Nat) (k : K) (w : World) (e : Ending) (w' : World) : Prop :=
  e = .returned (.tuple #[touchedV (touchS s k).2.1 (touchS s k).2.2.1, .int .i64 (touchS s k).2.2.2]) ∧ Turned x c0 w w' cb (touchS s k).1 (N + 2)

theorem freeRet_is (r : Option K) : ∃ z : K, ∀ b, r.isSome = b → freeRet r = .returned (.tuple #[(Value.int .i64 z), .bool b]) := by
  rcases r with _ | k
  · exact ⟨(default : K), fun b hb => by subst hb; rfl⟩
  · exact ⟨k, fun b hb => by subst hb; rfl⟩

set_option maxRecDepth 100000 in
set_option maxHeartbeats 6400000 in
theorem touch_held (x : Nat → Nat) (c0 cb : Nat) (s : St) (N : Nat) (k : K) (hok : ((Lit.int .i64 k).wf = true)) (w : World) (h : CIs x c0 w cb s N) (ok : Ok s) (hN : N + 2 < 1099511627776) (hk : k ∈ s.once ∨ k ∈ s.often) :
    Calls Tryz.prog 121 #[.pointer (some ⟨cb, 0, none⟩), (Value.int .i64 k)] w (TouchPost x c0 cb s N k w) := by
  have H := Lib.hid h
  have OK := Lib.hid ok
  have b0 := ok.size
  have b1 := ok.held
  have R : Hid (touchS s k = ({ s with once := s.once.erase k, often := s.often.erase k ++ [k] }, true, none, 0)) := Lib.hid (by unfold touchS; rw [if_pos hk])
  have d1 : Hid (decide (k ∈ s.once ∨ k ∈ s.often) = true) := Lib.hid (decide_eq_true hk)
  have hni : Hid (k ∉ s.often.erase k) := Lib.hid (fun hh => by
    have q := ok.one k
    have q1 := count_pos hh
    rw [cnt_erase, if_pos rfl] at q1
    omega)
  clear h ok hk
  go_enter Tryz.func121, Tryz.ntmps121
  go_wp2_with fail
  have F1 : Hid (Fr x (paint x w.heap.size (c0 + 6)) (CT c0) w (w.alloc (.cells #[.bool false, .bool false, (Value.int .i64 0)] 224))) := Lib.hid (Fr.of_below ((Below.refl _ _).alloc (Nat.le_refl _) _) rfl)
  have H1 := Lib.hid (H.out.temp F1.out)
  have hr : (w.alloc (.cells #[.bool false, .bool false, (Value.int .i64 0)] 224)).heap[w.heap.size]? = some (.cells #[.bool false, .bool false, (Value.int .i64 0)] 224 (0, 0)) := heap_alloc_new w _
  have HR := Lib.hid hr
  have HX : Hid (paint x w.heap.size (c0 + 6) w.heap.size = c0 + 6) := Lib.hid (paint_new (Nat.le_refl _))
  have HBL : Hid (Below w.heap.size w (w.alloc (.cells #[.bool false, .bool false, (Value.int .i64 0)] 224))) := Lib.hid ((Below.refl _ _).alloc (Nat.le_refl _) _)
  clear hr F1
  generalize World.alloc w _ = W0 at H1 HR HBL ⊢
  refine (Has_any _ c0 cb s N _ k hok H1.out).mono ?_
  rintro e w1 ⟨rfl, rfl⟩
  rw [d1.out]
  go_wp2_with fail
  refine (take_once _ c0 cb s N _ k hok H1.out (by omega)).mono ?_
  rintro e w2 ⟨rfl, x2, hf2, hc2⟩
  have HF2 := Lib.hid hf2
  have HC2 := Lib.hid hc2
  clear hf2 hc2
  go_wp2_with fail
  refine (take_often _ c0 cb _ N _ k hok HC2.out (show s.often.length < 1099511627776 by omega)).mono ?_
  rintro e w3 ⟨rfl, x3, hf3, hc3⟩
  have HF3 := Lib.hid (HF2.out.trans hf3)
  have HC3 := Lib.hid hc3
  clear hf3 hc3
  go_wp2_with fail
  refine (put_often _ c0 cb _ N _ k hok HC3.out hni.out (by omega) (show (s.often.erase k).length < 1099511627776 by have := len_erase_le k s.often; omega)).mono ?_
  rintro e w4 ⟨rfl, x4, hf4, hc4⟩
  have HF4 := Lib.hid (HF3.out.trans hf4)
  have HC4 := Lib.hid (hc4.mono (show N + 1 ≤ N + 2 by omega))
  clear hf4 hc4
  have hr3 := (HF4.out.old w.heap.size (lt_of_block HR.out) (by rw [HX.out]; exact fun hh => by have := hh.2; omega)).trans HR.out
  have HX3 : Hid (x4 w.heap.size = c0 + 6) := Lib.hid (by rw [HF4.out.col _ (lt_of_block HR.out)]; exact HX.out)
  have u0 : w4.cell? ⟨w.heap.size, 0, none⟩ = some (.bool false) := by rw [cell_of_row w4 _ _ _ _ _ hr3]; rfl
  have u1 : w4.cell? ⟨w.heap.size, 1, none⟩ = some (.bool false) := by rw [cell_of_row w4 _ _ _ _ _ hr3]; rfl
  have u2 : w4.cell? ⟨w.heap.size, 2, none⟩ = some (Value.int .i64 0) := by rw [cell_of_row w4 _ _ _ _ _ hr3]; rfl
  have u3 : ∀ j, w4.frozen? ⟨w.heap.size, j, none⟩ = false := fun j => frozen_of_row w4 _ j _ _ hr3
  clear hr3
  go_wp2_with fail
  refine bodyPost_ret (v := .tuple #[touchedV true none, .int .i64 0]) (by simp [results, Tryz.results121, go_sem, touchedV, goneV, u0, u1, u2]) rfl ?_
  refine ⟨by rw [R.out]; rfl, ?_⟩
  rw [R.out]
  exact turned_end HBL.out HF4.out HC4.out (Fr.same rfl rfl rfl (by simp) (fun b hb hC => by
    have hne : b ≠ w.heap.size := by rintro rfl; exact hC HX3.out
    rw [Below.heap_setCell _ _ _ _ hne, Below.heap_setCell _ _ _ _ hne, Below.heap_setCell _ _ _ _ hne])) (fun b hb => by
    have hne : b ≠ w.heap.size := by omega
    rw [Below.heap_setCell _ _ _ _ hne, Below.heap_setCell _ _ _ _ hne, Below.heap_setCell _ _ _ _ hne])

set_option maxRecDepth 100000 in
set_option maxHeartbeats 6400000 in
theorem touch_stuck (x : Nat → Nat) (c0 cb : Nat) (s : St) (N : Nat) (k : K) (hok : ((Lit.int .i64 k).wf = true)) (w : World) (h : CIs x c0 w cb s N) (ok : Ok s) (hk : ¬ (k ∈ s.once ∨ k ∈ s.often)) (hst : stuck s = true) :
    Calls Tryz.prog 121 #[.pointer (some ⟨cb, 0, none⟩), (Value.int .i64 k)] w (TouchPost x c0 cb s N k w) := by
  have H := Lib.hid h
  have b0 := ok.size
  have b1 := ok.held
  have R : Hid (touchS s k = (s, false, none, 13)) := Lib.hid (by unfold touchS; rw [if_neg hk, if_pos hst])
  have d1 : Hid (decide (k ∈ s.once ∨ k ∈ s.often) = false) := Lib.hid (decide_eq_false hk)
  unfold stuck at hst
  simp only [Bool.and_eq_true, Bool.not_eq_true'] at hst
  obtain ⟨⟨hs1, hs2⟩, hs3⟩ := hst
  have S1 := Lib.hid hs1
  have S2 : Hid (freeK s.pins s.once = none) := Lib.hid (by simpa using hs2)
  have S3 : Hid (freeK s.pins s.often = none) := Lib.hid (by simpa using hs3)
  clear h ok hk hs1 hs2 hs3
  go_enter Tryz.func121, Tryz.ntmps121
  go_wp2_with fail
  have F1 : Hid (Fr x (paint x w.heap.size (c0 + 6)) (CT c0) w (w.alloc (.cells #[.bool false, .bool false, (Value.int .i64 0)] 224))) := Lib.hid (Fr.of_below ((Below.refl _ _).alloc (Nat.le_refl _) _) rfl)
  have H1 := Lib.hid (H.out.temp F1.out)
  have hr : (w.alloc (.cells #[.bool false, .bool false, (Value.int .i64 0)] 224)).heap[w.heap.size]? = some (.cells #[.bool false, .bool false, (Value.int .i64 0)] 224 (0, 0)) := heap_alloc_new w _
  have HR := Lib.hid hr
  have HX : Hid (paint x w.heap.size (c0 + 6) w.heap.size = c0 + 6) := Lib.hid (paint_new (Nat.le_refl _))
  have HBL : Hid (Below w.heap.size w (w.alloc (.cells #[.bool false, .bool false, (Value.int .i64 0)] 224))) := Lib.hid ((Below.refl _ _).alloc (Nat.le_refl _) _)
  clear F1 hr
  generalize World.alloc w _ = W0 at H1 HR HBL ⊢
  refine (Has_any _ c0 cb s N _ k hok H1.out).mono ?_
  rintro e w1 ⟨rfl, rfl⟩
  rw [d1.out]
  go_wp2_with fail
  refine (free_once_none _ c0 cb s N _ H1.out S2.out).mono ?_
  rintro e w1 ⟨rfl, rfl⟩
  go_wp2_with fail
  refine (free_often_none _ c0 cb s N _ H1.out S3.out).mono ?_
  rintro e w1 ⟨rfl, rfl⟩
  go_wp2_with fail
  refine (full_is _ c0 cb s N _ H1.out (by omega) (by omega) true S1.out).mono ?_
  rintro e w1 ⟨rfl, m, rfl⟩
  have hr2 : (W0.drewN m).heap[w.heap.size]? = some (.cells #[.bool false, .bool false, (Value.int .i64 0)] 224 (0, 0)) := HR.out
  have HC2 := Lib.hid ((H1.out.drewN m).mono (show N ≤ N + 2 by omega))
  have HB2 := Lib.hid (below_drewN HBL.out m)
  clear HBL H1
  generalize World.drewN W0 m = W2 at HC2 HB2 hr2 ⊢
  have u0 : W2.cell? ⟨w.heap.size, 0, none⟩ = some (.bool false) := by rw [cell_of_row W2 _ _ _ _ _ hr2]; rfl
  have u1 : W2.cell? ⟨w.heap.size, 1, none⟩ = some (.bool false) := by rw [cell_of_row W2 _ _ _ _ _ hr2]; rfl
  have u2 : W2.cell? ⟨w.heap.size, 2, none⟩ = some (Value.int .i64 0) := by rw [cell_of_row W2 _ _ _ _ _ hr2]; rfl
  have u3 : ∀ j, W2.frozen? ⟨w.heap.size, j, none⟩ = false := fun j => frozen_of_row W2 _ j _ _ hr2
  clear hr2
  go_wp2_with fail
  refine bodyPost_ret (v := .tuple #[touchedV false none, .int .i64 13]) (by simp [results, Tryz.results121, go_sem, touchedV, goneV, u0, u1, u2]) rfl ?_
  refine ⟨by rw [R.out]; rfl, ?_⟩
  rw [R.out]
  exact turned_end HB2.out (Fr.refl _ _ _) HC2.out (Fr.same rfl rfl rfl (by simp) (fun b hb hC => by
    have hne : b ≠ w.heap.size := by rintro rfl; exact hC HX.out
    rw [Below.heap_setCell _ _ _ _ hne, Below.heap_setCell _ _ _ _ hne, Below.heap_setCell _ _ _ _ hne])) (fun b hb => by
    have hne : b ≠ w.heap.size := by omega
    rw [Below.heap_setCell _ _ _ _ hne, Below.heap_setCell _ _ _ _ hne, Below.heap_setCell _ _ _ _ hne])

end Go.Proofs.YtbgbomlmgkgkoaaGreat.arcI
