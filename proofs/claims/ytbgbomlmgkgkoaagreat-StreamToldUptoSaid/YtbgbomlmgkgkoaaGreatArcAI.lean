/- The contract of a cache's add: room for a key that was never seen. -/
import Derived.BigQuiet
import Derived.StillTailTactics
import Derived.Test.YtbgbomlmgkgkoaaGreatArcR2I
import Derived.Test.YtbgbomlmgkgkoaaGreatArcPI
namespace Go.Proofs.YtbgbomlmgkgkoaaGreat.arcI
open Go.RowKit Go.Proofs.YtbgbomlmgkgkoaaGreat.own

theorem cache_lens {x : Nat → Nat} {c0 : Nat} {w : World} {cb : Nat} {s : St} {N : Nat} (h : CIs x c0 w cb s N) :
    ∃ a1 k1 a2 k2 a3 k3 a4 k4, w.cell? ⟨cb, 0, none⟩ = some (.int .i64 s.size) ∧ w.cell? ⟨cb, 1, none⟩ = some (.slice a1 s.once.length k1) ∧ w.cell? ⟨cb, 3, none⟩ = some (.slice a2 s.often.length k2) ∧
      w.cell? ⟨cb, 5, none⟩ = some (.slice a3 s.wonce.length k3) ∧ w.cell? ⟨cb, 7, none⟩ = some (.slice a4 s.woften.length k4) := by
  obtain ⟨a1, m1, a2, m2, a3, m3, a4, m4, pm, h0, hx, q1, q2, q3, q4, _⟩ := h
  obtain ⟨A1, C1, e1⟩ := own_shape q1.kvs
  obtain ⟨A2, C2, e2⟩ := own_shape q2.kvs
  obtain ⟨A3, C3, e3⟩ := own_shape q3.kvs
  obtain ⟨A4, C4, e4⟩ := own_shape q4.kvs
  exact ⟨A1, C1, A2, C2, A3, C3, A4, C4, by rw [cell_of_row w cb _ _ _ _ h0]; rfl, by rw [cell_of_row w cb _ _ _ _ h0, ← e1]; rfl, by rw [cell_of_row w cb _ _ _ _ h0, ← e2]; rfl,
    by rw [cell_of_row w cb _ _ _ _ h0, ← e3]; rfl, by rw [cell_of_row w cb _ _ _ _ h0, ← e4]; rfl⟩

theorem head_wonce {x : Nat → Nat} {c0 : Nat} {w : World} {cb : Nat} {s : St} {N : Nat} (h : CIs x c0 w cb s N) {k : K} {r : List K} (e : s.wonce = k :: r) {a : Option Addr} {c : Nat} (ha : w.cell? ⟨cb, 5, none⟩ = some (.slice a s.wonce.length c)) :
    ∃ g, a = some ⟨g, 0, none⟩ ∧ w.cell? ⟨g, 0, none⟩ = some (Value.int .i64 k) := by
  obtain ⟨a1, m1, a2, m2, a3, m3, a4, m4, pm, h0, hx, q1, q2, q3, q4, _⟩ := h
  obtain ⟨aT, cT, hv, _, HC⟩ := keys_open q3.kvs
  subst hv
  rw [cell_of_row w cb _ _ _ _ h0] at ha
  have ha' : some (Value.slice aT s.wonce.length cT) = some (Value.slice a s.wonce.length c) := ha
  simp only [Option.some.injEq, Value.slice.injEq] at ha'
  obtain ⟨rfl, _, rfl⟩ := ha'
  obtain ⟨g, h1, h2, h3, h4⟩ := HC.out 0 (by rw [e]; simp)
  exact ⟨g, h1, by rw [h4]; simp [e]⟩
theorem head_woften {x : Nat → Nat} {c0 : Nat} {w : World} {cb : Nat} {s : St} {N : Nat} (h : CIs x c0 w cb s N) {k : K} {r : List K} (e : s.woften = k :: r) {a : Option Addr} {c : Nat} (ha : w.cell? ⟨cb, 7, none⟩ = some (.slice a s.woften.length c)) :
    ∃ g, a = some ⟨g, 0, none⟩ ∧ w.cell? ⟨g, 0, none⟩ = some (Value.int .i64 k) := by
  obtain ⟨a1, m1, a2, m2, a3, m3, a4, m4, pm, h0, hx, q1, q2, q3, q4, _⟩ := h
  obtain ⟨aT, cT, hv, _, HC⟩ := keys_open q4.kvs
  subst hv
  rw [cell_of_row w cb _ _ _ _ h0] at ha
  have ha' : some (Value.slice aT s.woften.length cT) = some (Value.slice a s.woften.length c) := ha
  simp only [Option.some.injEq, Value.slice.injEq] at ha'
  obtain ⟨rfl, _, rfl⟩ := ha'
  obtain ⟨g, h1, h2, h3, h4⟩ := HC.out 0 (by rw [e]; simp)
  exact ⟨g, h1, by rw [h4]; simp [e]⟩
theorem gone_shape (gn : Option K) : ∃ z : K, goneV gn = (Value.int .i64 z) := by
  rcases gn with _ | g
  · exact ⟨(default : K), rfl⟩
  · exact ⟨g, rfl⟩

def AddPost (x : Nat → Nat) (c0 cb : Nat) (s : St) (N : Nat) (w : World) (e : Ending) (w' : World) : Prop :=
  e = .returned (touchedV false (addS s).2) ∧ Turned x c0 w w' cb (addS s).1 (N + 1)

set_option maxRecDepth 100000 in
set_option maxHeartbeats 6400000 in
theorem add_any (x : Nat → Nat) (c0 cb : Nat) (s : St) (N : Nat) (w : World) (h : CIs x c0 w cb s N) (ok : Ok s) (hN : N < 1099511627776)
    (hfree : isFull s = true → (freeK s.pins s.once).isSome = true ∨ (freeK s.pins s.often).isSome = true) :
    Calls Tryz.prog 147 #[.pointer (some ⟨cb, 0, none⟩)] w (AddPost x c0 cb s N w) := by
  have H := Lib.hid h
  have OK := Lib.hid ok
  have FREE := Lib.hid hfree
  have b0 := ok.size
  have b1 := ok.held
  have b2 := ok.first
  have b3 := ok.all
  clear h ok hfree
  go_enter Tryz.func147, Tryz.ntmps147
  go_wp2_with fail
  have F1 : Hid (Fr x (paint x w.heap.size (c0 + 6)) (CT c0) w (w.alloc (.cells #[.bool false, .bool false, (Value.int .i64 0)] 224))) := Lib.hid (Fr.of_below ((Below.refl _ _).alloc (Nat.le_refl _) _) rfl)
  have H1 := Lib.hid (H.out.temp F1.out)
  have hr : (w.alloc (.cells #[.bool false, .bool false, (Value.int .i64 0)] 224)).heap[w.heap.size]? = some (.cells #[.bool false, .bool false, (Value.int .i64 0)] 224 (0, 0)) := heap_alloc_new w _
  have HR := Lib.hid hr
  have HX : Hid (paint x w.heap.size (c0 + 6) w.heap.size = c0 + 6) := Lib.hid (paint_new (Nat.le_refl _))
  have HBL : Hid (Below w.heap.size w (w.alloc (.cells #[.bool false, .bool false, (Value.int .i64 0)] 224))) := Lib.hid ((Below.refl _ _).alloc (Nat.le_refl _) _)
  clear hr F1
  generalize World.alloc w _ = W0 at H1 HR HBL ⊢
  have t0 : W0.cell? ⟨w.heap.size, 0, none⟩ = some (.bool false) := by rw [cell_of_row W0 _ _ _ _ _ HR.out]; rfl
  have t1 : W0.cell? ⟨w.heap.size, 1, none⟩ = some (.bool false) := by rw [cell_of_row W0 _ _ _ _ _ HR.out]; rfl
  have t2 : W0.cell? ⟨w.heap.size, 2, none⟩ = some (Value.int .i64 0) := by rw [cell_of_row W0 _ _ _ _ _ HR.out]; rfl
  have t3 : ∀ j, W0.frozen? ⟨w.heap.size, j, none⟩ = false := fun j => frozen_of_row W0 _ j _ _ HR.out
  obtain ⟨a1, k1, a2, k2, a3, k3, a4, k4, g0, g1, g3, g5, g7⟩ := cache_lens H1.out
  go_quiet (fail)
  go_wp2_with fail
  go_quiet (fail)
  by_cases c1 : s.once.length + s.wonce.length = s.size
  · have d1 : ((s.once.length : Int) + (s.wonce.length : Int) == (s.size : Nat)) = true := beq_iff_eq.2 (by omega)
    by_cases c2 : s.once.length < s.size
    · obtain ⟨k, r, hw⟩ : ∃ k r, s.wonce = k :: r := List.exists_cons_of_length_pos (by omega)
      have R : Hid (addS s = roomS { s with wonce := r } false) := Lib.hid (by unfold addS; rw [if_pos c1, if_pos c2, hw]; rfl)
      have OK2 : Hid (Ok { s with wonce := r }) := Lib.hid (by have := OK.out.tailW; rw [hw] at this; exact this)
      have HE : Hid (s.wonce.erase k = r) := Lib.hid (by rw [hw]; simp)
      have hkok := OK.out.keys k (.inr (.inr (.inl (by rw [hw]; simp))))
      obtain ⟨g, rfl, hg0⟩ := head_wonce H1.out hw g5
      have hpos : 0 < s.wonce.length := by rw [hw]; simp
      clear hw
      have d2 : (s.once.length : Int) < (s.size : Nat) := by omega
      go_wp2_with fail
      go_quiet (fail)
      go_wp2_with fail
      have G0 : Hid (∀ n, CIs (paint x w.heap.size (c0 + 6)) c0 (W0.drewN n) cb s N) := Lib.hid fun n => H1.out.drewN n
      generalize hW1 : World.drewN (World.drewN (World.drewN W0 _) _) _ = W1
      have e5 : W1.cell? ⟨cb, 5, none⟩ = some (.slice (some ⟨g, 0, none⟩) s.wonce.length k3) := by rw [← hW1]; exact g5
      have e0 : W1.cell? ⟨g, 0, none⟩ = some (Value.int .i64 k) := by rw [← hW1]; exact hg0
      refine wp_region_still_tail 10 (by kernel_rfl) (by kernel_rfl) ?_
      simp only [List.take_succ_cons, List.take_zero, List.drop_succ_cons, List.drop_zero]
      generalize hW2 : ({ W1 with drawn := W1.drawn + 1 } : World) = W2
      have f5 : W2.cell? ⟨cb, 5, none⟩ = some (.slice (some ⟨g, 0, none⟩) s.wonce.length k3) := by rw [← hW2]; exact e5
      have f0 : W2.cell? ⟨g, 0, none⟩ = some (Value.int .i64 k) := by rw [← hW2]; exact e0
      repeat still_step
      refine wpStill_nil ?_
      have H2 : Hid (CIs (paint x w.heap.size (c0 + 6)) c0 W2 cb s N) := Lib.hid (by rw [← hW2, ← hW1]; exact (((H1.out.drewN _).drewN _).drewN _).drewN 1)
      have B2 : Hid (Below w.heap.size w W2) := Lib.hid (by rw [← hW2, ← hW1]; exact below_drewN (below_drewN (below_drewN (below_drewN HBL.out _) _) _) 1)
      have HR2 : Hid (W2.heap[w.heap.size]? = some (.cells #[.bool false, .bool false, (Value.int .i64 0)] 224 (0, 0))) := Lib.hid (by rw [← hW2, ← hW1]; exact HR.out)
      clear hW1 hW2
      go_wp2_with fail
      refine (take_wonce _ c0 cb s N _ k hkok H2.out (by omega)).mono ?_
      rintro e w2 ⟨rfl, x2, hf2, hc2⟩
      rw [HE.out] at hc2
      have HF2 := Lib.hid hf2
      have HC2 := Lib.hid hc2
      clear hf2 hc2
      go_wp2_with fail
      have h81 : s.once.length ≤ 8192 := by omega
      have h82 : s.often.length ≤ 8192 := by omega
      have h83 : ({ s with wonce := r } : St).wonce.length ≤ 8192 := by have := OK2.out.first; have := OK2.out.size; show r.length ≤ 8192; have e1 : s.once.length + r.length ≤ s.size := OK2.out.first; omega
      have h84 : s.woften.length ≤ 8192 := by omega
      refine (room_any _ c0 cb { s with wonce := r } N _ false HC2.out h81 h82 h83 h84 hN ?_ ?_ ?_ FREE.out).mono ?_
      · intro k hk
        exact OK2.out.keys k (hk.elim .inl (fun x => .inr (.inl x)))
      · intro k hk hk2
        have q := OK2.out.one k
        have q1 := count_pos hk
        have q2 := count_pos hk2
        omega
      · intro k hk hk2
        have q := OK2.out.one k
        have q1 := count_pos hk
        have q2 := count_pos hk2
        omega
      rintro e w3 ⟨rfl, x3, hf3, hc3⟩
      have HF3 := Lib.hid (HF2.out.trans hf3)
      have HC3 := Lib.hid hc3
      have hr3 := (HF3.out.old w.heap.size (lt_of_block HR2.out) (by rw [HX.out]; exact fun hh => by have := hh.2; omega)).trans HR2.out
      have HX3 : Hid (x3 w.heap.size = c0 + 6) := Lib.hid (by rw [HF3.out.col _ (lt_of_block HR2.out)]; exact HX.out)
      have u0 : w3.cell? ⟨w.heap.size, 0, none⟩ = some (.bool false) := by rw [cell_of_row w3 _ _ _ _ _ hr3]; rfl
      have u1 : w3.cell? ⟨w.heap.size, 1, none⟩ = some (.bool false) := by rw [cell_of_row w3 _ _ _ _ _ hr3]; rfl
      have u2 : w3.cell? ⟨w.heap.size, 2, none⟩ = some (Value.int .i64 0) := by rw [cell_of_row w3 _ _ _ _ _ hr3]; rfl
      have u3 : ∀ j, w3.frozen? ⟨w.heap.size, j, none⟩ = false := fun j => frozen_of_row w3 _ j _ _ hr3
      clear hf3 hc3 hr3 t0 t1 t2 t3 g0 g1 g3 g5 g7
      generalize HGN : (roomS { s with wonce := r } false).2 = gn
      obtain ⟨z, hz⟩ := gone_shape gn
      unfold touchedV
      rw [hz]
      go_wp2_with fail
      refine bodyPost_ret (v := touchedV false gn) (by simp [results, Tryz.results147, go_sem, touchedV, hz, u0, u1, u2]) rfl ?_
      refine ⟨by rw [R.out, HGN], ?_⟩
      rw [R.out]
      exact turned_end B2.out HF3.out HC3.out (Fr.same rfl rfl rfl (by simp) (fun b hb hC => by
        have hne : b ≠ w.heap.size := by rintro rfl; exact hC HX3.out
        rw [Below.heap_setCell _ _ _ _ hne, Below.heap_setCell _ _ _ _ hne, Below.heap_setCell _ _ _ _ hne])) (fun b hb => by
        have hne : b ≠ w.heap.size := by omega
        rw [Below.heap_setCell _ _ _ _ hne, Below.heap_setCell _ _ _ _ hne, Below.heap_setCell _ _ _ _ hne])
    · have ho : s.often = [] := List.eq_nil_of_length_eq_zero (by omega)
      have hf : isFull s = true := by unfold isFull; simp [ho]; omega
      have hfo : freeK s.pins s.often = none := by rw [ho]; rfl
      have hso : (freeK s.pins s.once).isSome = true := by
        rcases FREE.out hf with hh | hh
        · exact hh
        · rw [hfo] at hh; cases hh
      obtain ⟨k, hk⟩ := Option.isSome_iff_exists.1 hso
      have R : Hid (addS s = ({ s with once := s.once.erase k }, some k)) := Lib.hid (by unfold addS; rw [if_pos c1, if_neg c2, hk])
      have HK := Lib.hid hk
      have d2 : decide ((s.once.length : Int) < (s.size : Nat)) = false := decide_eq_false (by omega)
      clear ho hf hfo hso hk
      go_wp2_with fail
      go_quiet (fail)
      go_wp2_with fail
      refine (free_once_some _ c0 cb s N _ (H1.out.drewN _) k HK.out).mono ?_
      rintro e w1 ⟨rfl, rfl⟩
      go_wp2_with fail
      refine (take_once _ c0 cb s N _ k (OK.out.keys k (.inl (freeK_mem HK.out).1)) (H1.out.drewN _) (by omega)).mono ?_
      rintro e w2 ⟨rfl, x2, hf2, hc2⟩
      have HF2 := Lib.hid hf2
      have HC2 := Lib.hid (hc2.mono (show N ≤ N + 1 by omega))
      have hr2 := (hf2.old w.heap.size (lt_of_block HR.out) (by rw [HX.out]; exact fun hh => by have := hh.2; omega)).trans HR.out
      have HX2 : Hid (x2 w.heap.size = c0 + 6) := Lib.hid (by rw [hf2.col _ (lt_of_block HR.out)]; exact HX.out)
      have u0 : w2.cell? ⟨w.heap.size, 0, none⟩ = some (.bool false) := by rw [cell_of_row w2 _ _ _ _ _ hr2]; rfl
      have u1 : w2.cell? ⟨w.heap.size, 1, none⟩ = some (.bool false) := by rw [cell_of_row w2 _ _ _ _ _ hr2]; rfl
      have u2 : w2.cell? ⟨w.heap.size, 2, none⟩ = some (Value.int .i64 0) := by rw [cell_of_row w2 _ _ _ _ _ hr2]; rfl
      have u3 : ∀ j, w2.frozen? ⟨w.heap.size, j, none⟩ = false := fun j => frozen_of_row w2 _ j _ _ hr2
      clear hf2 hc2 hr2 t0 t1 t2 t3 g0 g1 g3 g5 g7
      go_wp2_with fail
      refine bodyPost_ret (v := touchedV false (some k)) (by simp [results, Tryz.results147, go_sem, touchedV, goneV, u0, u1, u2]) rfl ?_
      refine ⟨by rw [R.out], ?_⟩
      rw [R.out]
      exact turned_end (below_drewN HBL.out _) HF2.out HC2.out (Fr.same rfl rfl rfl (by simp) (fun b hb hC => by
        have hne : b ≠ w.heap.size := by rintro rfl; exact hC HX2.out
        rw [Below.heap_setCell _ _ _ _ hne, Below.heap_setCell _ _ _ _ hne, Below.heap_setCell _ _ _ _ hne])) (fun b hb => by
        have hne : b ≠ w.heap.size := by omega
        rw [Below.heap_setCell _ _ _ _ hne, Below.heap_setCell _ _ _ _ hne, Below.heap_setCell _ _ _ _ hne])
  · have d1 : ((s.once.length : Int) + (s.wonce.length : Int) == (s.size : Nat)) = false := beq_eq_false_iff_ne.2 (by omega)
    go_wp2_with fail
    go_quiet (fail)
    by_cases c3 : s.once.length + s.often.length + s.wonce.length + s.woften.length < s.size
    · have R : Hid (addS s = (s, none)) := Lib.hid (by unfold addS; rw [if_neg c1, if_pos c3])
      have d3 : (s.once.length : Int) + (s.wonce.length : Int) + (s.often.length : Int) + (s.woften.length : Int) < (s.size : Nat) := by omega
      go_wp2_with fail
      refine bodyPost_ret (v := touchedV false none) (by simp [results, Tryz.results147, go_sem, touchedV, goneV, t0, t1, t2]) rfl ?_
      refine ⟨by rw [R.out], ?_⟩
      rw [R.out]
      exact turned_end (below_drewN HBL.out _) (Fr.refl _ _ _) ((H1.out.drewN _).mono (by omega)) (Fr.same rfl rfl rfl (by simp) (fun b hb hC => by
        have hne : b ≠ w.heap.size := by rintro rfl; exact hC HX.out
        rw [Below.heap_setCell _ _ _ _ hne, Below.heap_setCell _ _ _ _ hne, Below.heap_setCell _ _ _ _ hne])) (fun b hb => by
        have hne : b ≠ w.heap.size := by omega
        rw [Below.heap_setCell _ _ _ _ hne, Below.heap_setCell _ _ _ _ hne, Below.heap_setCell _ _ _ _ hne])
    · have d3 : ¬ (s.once.length : Int) + (s.wonce.length : Int) + (s.often.length : Int) + (s.woften.length : Int) < (s.size : Nat) := by omega
      by_cases c4 : s.once.length + s.often.length + s.wonce.length + s.woften.length = 2 * s.size
      · obtain ⟨k, r, hw⟩ : ∃ k r, s.woften = k :: r := List.exists_cons_of_length_pos (by omega)
        have R : Hid (addS s = roomS { s with woften := r } false) := Lib.hid (by unfold addS; rw [if_neg c1, if_neg c3, if_pos c4, hw]; rfl)
        have OK2 : Hid (Ok { s with woften := r }) := Lib.hid (by have := OK.out.tailF; rw [hw] at this; exact this)
        have HE : Hid (s.woften.erase k = r) := Lib.hid (by rw [hw]; simp)
        have hkok := OK.out.keys k (.inr (.inr (.inr (by rw [hw]; simp))))
        obtain ⟨g, rfl, hg0⟩ := head_woften H1.out hw g7
        have hpos : 0 < s.woften.length := by rw [hw]; simp
        clear hw
        have d4 : ((s.once.length : Int) + (s.wonce.length : Int) + (s.often.length : Int) + (s.woften.length : Int) == 2 * (s.size : Nat)) = true := beq_iff_eq.2 (by omega)
        go_wp2_with fail
        have G0 : Hid (∀ n, CIs (paint x w.heap.size (c0 + 6)) c0 (W0.drewN n) cb s N) := Lib.hid fun n => H1.out.drewN n
        generalize hW1 : World.drewN W0 _ = W1
        have e5 : W1.cell? ⟨cb, 7, none⟩ = some (.slice (some ⟨g, 0, none⟩) s.woften.length k4) := by rw [← hW1]; exact g7
        have e0 : W1.cell? ⟨g, 0, none⟩ = some (Value.int .i64 k) := by rw [← hW1]; exact hg0
        refine wp_region_still_tail 10 (by kernel_rfl) (by kernel_rfl) ?_
        simp only [List.take_succ_cons, List.take_zero, List.drop_succ_cons, List.drop_zero]
        generalize hW2 : ({ W1 with drawn := W1.drawn + 1 } : World) = W2
        have f5 : W2.cell? ⟨cb, 7, none⟩ = some (.slice (some ⟨g, 0, none⟩) s.woften.length k4) := by rw [← hW2]; exact e5
        have f0 : W2.cell? ⟨g, 0, none⟩ = some (Value.int .i64 k) := by rw [← hW2]; exact e0
        repeat still_step
        refine wpStill_nil ?_
        have H2 : Hid (CIs (paint x w.heap.size (c0 + 6)) c0 W2 cb s N) := Lib.hid (by rw [← hW2, ← hW1]; exact (H1.out.drewN _).drewN 1)
        have B2 : Hid (Below w.heap.size w W2) := Lib.hid (by rw [← hW2, ← hW1]; exact below_drewN (below_drewN HBL.out _) 1)
        have HR2 : Hid (W2.heap[w.heap.size]? = some (.cells #[.bool false, .bool false, (Value.int .i64 0)] 224 (0, 0))) := Lib.hid (by rw [← hW2, ← hW1]; exact HR.out)
        clear hW1 hW2
        go_wp2_with fail
        refine (take_woften _ c0 cb s N _ k hkok H2.out (by omega)).mono ?_
        rintro e w2 ⟨rfl, x2, hf2, hc2⟩
        rw [HE.out] at hc2
        have HF2 := Lib.hid hf2
        have HC2 := Lib.hid hc2
        clear hf2 hc2
        go_wp2_with fail
        have h81 : s.once.length ≤ 8192 := by omega
        have h82 : s.often.length ≤ 8192 := by omega
        have h83 : s.wonce.length ≤ 8192 := by omega
        have h84 : ({ s with woften := r } : St).woften.length ≤ 8192 := by have e1 : s.once.length + s.often.length + s.wonce.length + r.length ≤ 2 * s.size := OK2.out.all; show r.length ≤ 8192; omega
        refine (room_any _ c0 cb { s with woften := r } N _ false HC2.out h81 h82 h83 h84 hN ?_ ?_ ?_ FREE.out).mono ?_
        · intro k hk
          exact OK2.out.keys k (hk.elim .inl (fun x => .inr (.inl x)))
        · intro k hk hk2
          have q := OK2.out.one k
          have q1 := count_pos hk
          have q2 := count_pos hk2
          omega
        · intro k hk hk2
          have q := OK2.out.one k
          have q1 := count_pos hk
          have q2 := count_pos hk2
          omega
        rintro e w3 ⟨rfl, x3, hf3, hc3⟩
        have HF3 := Lib.hid (HF2.out.trans hf3)
        have HC3 := Lib.hid hc3
        have hr3 := (HF3.out.old w.heap.size (lt_of_block HR2.out) (by rw [HX.out]; exact fun hh => by have := hh.2; omega)).trans HR2.out
        have HX3 : Hid (x3 w.heap.size = c0 + 6) := Lib.hid (by rw [HF3.out.col _ (lt_of_block HR2.out)]; exact HX.out)
        have u0 : w3.cell? ⟨w.heap.size, 0, none⟩ = some (.bool false) := by rw [cell_of_row w3 _ _ _ _ _ hr3]; rfl
        have u1 : w3.cell? ⟨w.heap.size, 1, none⟩ = some (.bool false) := by rw [cell_of_row w3 _ _ _ _ _ hr3]; rfl
        have u2 : w3.cell? ⟨w.heap.size, 2, none⟩ = some (Value.int .i64 0) := by rw [cell_of_row w3 _ _ _ _ _ hr3]; rfl
        have u3 : ∀ j, w3.frozen? ⟨w.heap.size, j, none⟩ = false := fun j => frozen_of_row w3 _ j _ _ hr3
        clear hf3 hc3 hr3 t0 t1 t2 t3 g0 g1 g3 g5 g7
        generalize HGN : (roomS { s with woften := r } false).2 = gn
        obtain ⟨z, hz⟩ := gone_shape gn
        unfold touchedV
        rw [hz]
        go_wp2_with fail
        refine bodyPost_ret (v := touchedV false gn) (by simp [results, Tryz.results147, go_sem, touchedV, hz, u0, u1, u2]) rfl ?_
        refine ⟨by rw [R.out, HGN], ?_⟩
        rw [R.out]
        exact turned_end B2.out HF3.out HC3.out (Fr.same rfl rfl rfl (by simp) (fun b hb hC => by
          have hne : b ≠ w.heap.size := by rintro rfl; exact hC HX3.out
          rw [Below.heap_setCell _ _ _ _ hne, Below.heap_setCell _ _ _ _ hne, Below.heap_setCell _ _ _ _ hne])) (fun b hb => by
          have hne : b ≠ w.heap.size := by omega
          rw [Below.heap_setCell _ _ _ _ hne, Below.heap_setCell _ _ _ _ hne, Below.heap_setCell _ _ _ _ hne])
      · have R : Hid (addS s = roomS s false) := Lib.hid (by unfold addS; rw [if_neg c1, if_neg c3, if_neg c4])
        have d4 : ((s.once.length : Int) + (s.wonce.length : Int) + (s.often.length : Int) + (s.woften.length : Int) == 2 * (s.size : Nat)) = false := beq_eq_false_iff_ne.2 (by omega)
        go_wp2_with fail
        refine (room_any _ c0 cb s N _ false (H1.out.drewN _) (by omega) (by omega) (by omega) (by omega) hN ?_ ?_ ?_ FREE.out).mono ?_
        · intro k hk
          exact OK.out.keys k (hk.elim .inl (fun x => .inr (.inl x)))
        · intro k hk hk2
          have q := OK.out.one k
          have q1 := count_pos hk
          have q2 := count_pos hk2
          omega
        · intro k hk hk2
          have q := OK.out.one k
          have q1 := count_pos hk
          have q2 := count_pos hk2
          omega
        rintro e w2 ⟨rfl, x2, hf2, hc2⟩
        have HF2 := Lib.hid hf2
        have HC2 := Lib.hid hc2
        have hr2 := (hf2.old w.heap.size (lt_of_block HR.out) (by rw [HX.out]; exact fun hh => by have := hh.2; omega)).trans HR.out
        have HX2 : Hid (x2 w.heap.size = c0 + 6) := Lib.hid (by rw [hf2.col _ (lt_of_block HR.out)]; exact HX.out)
        have u0 : w2.cell? ⟨w.heap.size, 0, none⟩ = some (.bool false) := by rw [cell_of_row w2 _ _ _ _ _ hr2]; rfl
        have u1 : w2.cell? ⟨w.heap.size, 1, none⟩ = some (.bool false) := by rw [cell_of_row w2 _ _ _ _ _ hr2]; rfl
        have u2 : w2.cell? ⟨w.heap.size, 2, none⟩ = some (Value.int .i64 0) := by rw [cell_of_row w2 _ _ _ _ _ hr2]; rfl
        have u3 : ∀ j, w2.frozen? ⟨w.heap.size, j, none⟩ = false := fun j => frozen_of_row w2 _ j _ _ hr2
        clear hf2 hc2 hr2 t0 t1 t2 t3 g0 g1 g3 g5 g7
        generalize HGN : (roomS s false).2 = gn
        obtain ⟨z, hz⟩ := gone_shape gn
        unfold touchedV
        rw [hz]
        go_wp2_with fail
        refine bodyPost_ret (v := touchedV false gn) (by simp [results, Tryz.results147, go_sem, touchedV, hz, u0, u1, u2]) rfl ?_
        refine ⟨by rw [R.out, HGN], ?_⟩
        rw [R.out]
        exact turned_end (below_drewN HBL.out _) HF2.out HC2.out (Fr.same rfl rfl rfl (by simp) (fun b hb hC => by
          have hne : b ≠ w.heap.size := by rintro rfl; exact hC HX2.out
          rw [Below.heap_setCell _ _ _ _ hne, Below.heap_setCell _ _ _ _ hne, Below.heap_setCell _ _ _ _ hne])) (fun b hb => by
          have hne : b ≠ w.heap.size := by omega
          rw [Below.heap_setCell _ _ _ _ hne, Below.heap_setCell _ _ _ _ hne, Below.heap_setCell _ _ _ _ hne])
end Go.Proofs.YtbgbomlmgkgkoaaGreat.arcI
