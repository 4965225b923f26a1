/- The contract of a cache's room: the oldest free key of the second list goes. And room as a whole. -/
import Derived.Test.YtbgbomlmgkgkoaaGreatArcRI
namespace Go.Proofs.YtbgbomlmgkgkoaaGreat.arcI
open Go.RowKit Go.Proofs.YtbgbomlmgkgkoaaGreat.own

set_option maxRecDepth 100000 in
set_option maxHeartbeats 6400000 in
theorem room_often (x : Nat → Nat) (c0 cb : Nat) (s : St) (N : Nat) (w : World) (oft : Bool) (h : CIs x c0 w cb s N) (h1 : s.once.length ≤ 8192) (h2 : s.often.length ≤ 8192) (h3 : s.woften.length ≤ 8192) (hN : N < 1099511627776) (hfull : isFull s = true) (k : K) (hok : ((Lit.int .i64 k).wf = true))
    (hp : pickOnce s oft = false) (hk : freeK s.pins s.often = some k) (hkw : k ∉ s.woften) :
    Calls Tryz.prog 146 #[.pointer (some ⟨cb, 0, none⟩), .bool oft] w (RoomPost x c0 cb s N oft w) := by
  have R : Hid (roomS s oft = ({ s with often := s.often.erase k, woften := s.woften ++ [k] }, some k)) := Lib.hid (by unfold roomS; rw [if_neg (by rw [hfull]; simp), if_neg (by rw [hp]; simp), hk])
  have HF := Lib.hid hfull
  have HK := Lib.hid hk
  have H := Lib.hid h
  unfold pickOnce at hp
  rw [hk] at hp
  have HP : Hid ((firstOf s oft && (freeK s.pins s.once).isSome) = false) := Lib.hid (by simpa using hp)
  clear h hfull hp hk
  go_enter Tryz.func146, Tryz.ntmps146
  go_wp2_with fail
  have F1 : Hid (Fr x (paint x w.heap.size (c0 + 6)) (CT c0) w (w.alloc (.cells #[.bool false, .bool false, (Value.int .i64 0)] 224))) := Lib.hid (Fr.of_below ((Below.refl _ _).alloc (Nat.le_refl _) _) rfl)
  have H1 := Lib.hid (H.out.temp F1.out)
  refine (full_is _ c0 cb s N _ H1.out h1 h2 true HF.out).mono ?_
  rintro e w1 ⟨rfl, m, rfl⟩
  go_wp2_with fail
  have F2 : Hid (Fr x (paint x w.heap.size (c0 + 6)) (CT c0) w ((w.alloc (.cells #[.bool false, .bool false, (Value.int .i64 0)] 224)).drewN m)) := Lib.hid (Fr.drewN F1.out m)
  have H2 := Lib.hid (H1.out.drewN m)
  have hr : ((w.alloc (.cells #[.bool false, .bool false, (Value.int .i64 0)] 224)).drewN m).heap[w.heap.size]? = some (.cells #[.bool false, .bool false, (Value.int .i64 0)] 224 (0, 0)) := heap_alloc_new w _
  have HR := Lib.hid hr
  have HX : Hid (paint x w.heap.size (c0 + 6) w.heap.size = c0 + 6) := Lib.hid (paint_new (Nat.le_refl _))
  have HBL : Hid (Below w.heap.size w ((w.alloc (.cells #[.bool false, .bool false, (Value.int .i64 0)] 224)).drewN m)) := Lib.hid (below_drewN ((Below.refl _ _).alloc (Nat.le_refl _) _) m)
  clear hr F1 H1
  generalize World.drewN (World.alloc w _) m = W1 at F2 H2 HR HBL ⊢
  obtain ⟨aT, cT, hc1, hc9⟩ := cache_cells H2.out
  rcases hfr : freeK s.pins s.once with _ | b
  · have HB := Lib.hid hfr
    clear hfr
    refine (free_once_none _ c0 cb s N _ H2.out HB.out).mono ?_
    rintro e w1 ⟨rfl, rfl⟩
    go_wp2_with fail
    refine (free_often_some _ c0 cb s N _ H2.out k HK.out).mono ?_
    rintro e w1 ⟨rfl, rfl⟩
    rcases Nat.eq_zero_or_pos s.once.length with h0 | hpos
    · have hz : s.once.length < 1 := by omega
      clear h0
      go_wp2_with fail
      refine (take_often _ c0 cb s N _ k hok H2.out (by omega)).mono ?_
      rintro e w2 ⟨rfl, x2, hf2, hc2⟩
      have HF2 := Lib.hid hf2
      have HC2 := Lib.hid hc2
      clear hf2 hc2
      go_wp2_with fail
      refine (put_woften _ c0 cb _ N _ k hok HC2.out hkw hN (show s.woften.length < 1099511627776 by omega)).mono ?_
      rintro e w3 ⟨rfl, x3, hf3, hc3⟩
      have HF3 := Lib.hid (HF2.out.trans hf3)
      have HC3 := Lib.hid hc3
      have hr3 := (HF3.out.old w.heap.size (lt_of_block HR.out) (by rw [HX.out]; exact fun hh => by have := hh.2; omega)).trans HR.out
      have HR3 := Lib.hid hr3
      have HX3 : Hid (x3 w.heap.size = c0 + 6) := Lib.hid (by rw [HF3.out.col _ (lt_of_block HR.out)]; exact HX.out)
      have t0 : w3.cell? ⟨w.heap.size, 0, none⟩ = some (.bool false) := by rw [cell_of_row w3 _ _ _ _ _ hr3]; rfl
      have t1 : w3.cell? ⟨w.heap.size, 1, none⟩ = some (.bool false) := by rw [cell_of_row w3 _ _ _ _ _ hr3]; rfl
      have t2 : w3.cell? ⟨w.heap.size, 2, none⟩ = some (Value.int .i64 0) := by rw [cell_of_row w3 _ _ _ _ _ hr3]; rfl
      have t3 : ∀ j, w3.frozen? ⟨w.heap.size, j, none⟩ = false := fun j => frozen_of_row w3 _ j _ _ hr3
      clear hf3 hc3 hr3
      go_wp2_with fail
      refine bodyPost_ret (v := touchedV false (some k)) (by simp [results, Tryz.results146, go_sem, touchedV, goneV, t0, t1, t2]) rfl ?_
      refine ⟨by rw [R.out], ?_⟩
      rw [R.out]
      exact turned_end HBL.out HF3.out HC3.out (Fr.same rfl rfl rfl (by simp) (fun b hb hC => by
        have hne : b ≠ w.heap.size := by rintro rfl; exact hC HX3.out
        rw [Below.heap_setCell _ _ _ _ hne, Below.heap_setCell _ _ _ _ hne, Below.heap_setCell _ _ _ _ hne])) (fun b hb => by
        have hne : b ≠ w.heap.size := by omega
        rw [Below.heap_setCell _ _ _ _ hne, Below.heap_setCell _ _ _ _ hne, Below.heap_setCell _ _ _ _ hne])
    · rcases pick_cases s oft with ⟨d1, d2, _⟩ | ⟨d1, d2, rfl, _⟩ | ⟨d1, d2, _⟩ | ⟨d1, d2, rfl, _⟩
      all_goals
        go_wp2_with fail
        refine (take_often _ c0 cb s N _ k hok H2.out (by omega)).mono ?_
        rintro e w2 ⟨rfl, x2, hf2, hc2⟩
        have HF2 := Lib.hid hf2
        have HC2 := Lib.hid hc2
        clear hf2 hc2
        go_wp2_with fail
        refine (put_woften _ c0 cb _ N _ k hok HC2.out hkw hN (show s.woften.length < 1099511627776 by omega)).mono ?_
        rintro e w3 ⟨rfl, x3, hf3, hc3⟩
        have HF3 := Lib.hid (HF2.out.trans hf3)
        have HC3 := Lib.hid hc3
        have hr3 := (HF3.out.old w.heap.size (lt_of_block HR.out) (by rw [HX.out]; exact fun hh => by have := hh.2; omega)).trans HR.out
        have HR3 := Lib.hid hr3
        have HX3 : Hid (x3 w.heap.size = c0 + 6) := Lib.hid (by rw [HF3.out.col _ (lt_of_block HR.out)]; exact HX.out)
        have t0 : w3.cell? ⟨w.heap.size, 0, none⟩ = some (.bool false) := by rw [cell_of_row w3 _ _ _ _ _ hr3]; rfl
        have t1 : w3.cell? ⟨w.heap.size, 1, none⟩ = some (.bool false) := by rw [cell_of_row w3 _ _ _ _ _ hr3]; rfl
        have t2 : w3.cell? ⟨w.heap.size, 2, none⟩ = some (Value.int .i64 0) := by rw [cell_of_row w3 _ _ _ _ _ hr3]; rfl
        have t3 : ∀ j, w3.frozen? ⟨w.heap.size, j, none⟩ = false := fun j => frozen_of_row w3 _ j _ _ hr3
        clear hf3 hc3 hr3
        go_wp2_with fail
        refine bodyPost_ret (v := touchedV false (some k)) (by simp [results, Tryz.results146, go_sem, touchedV, goneV, t0, t1, t2]) rfl ?_
        refine ⟨by rw [R.out], ?_⟩
        rw [R.out]
        exact turned_end HBL.out HF3.out HC3.out (Fr.same rfl rfl rfl (by simp) (fun b hb hC => by
          have hne : b ≠ w.heap.size := by rintro rfl; exact hC HX3.out
          rw [Below.heap_setCell _ _ _ _ hne, Below.heap_setCell _ _ _ _ hne, Below.heap_setCell _ _ _ _ hne])) (fun b hb => by
          have hne : b ≠ w.heap.size := by omega
          rw [Below.heap_setCell _ _ _ _ hne, Below.heap_setCell _ _ _ _ hne, Below.heap_setCell _ _ _ _ hne])
  · have HB := Lib.hid hfr
    have hpos : 1 ≤ s.once.length := List.length_pos_of_mem (freeK_mem hfr).1
    have hno : firstOf s oft = false := by have := HP.out; rw [hfr] at this; simpa using this
    clear hfr
    refine (free_once_some _ c0 cb s N _ H2.out b HB.out).mono ?_
    rintro e w1 ⟨rfl, rfl⟩
    go_wp2_with fail
    refine (free_often_some _ c0 cb s N _ H2.out k HK.out).mono ?_
    rintro e w1 ⟨rfl, rfl⟩
    rcases pick_cases s oft with ⟨_, _, hy⟩ | ⟨_, _, rfl, hy⟩ | ⟨d1, d2, _⟩ | ⟨d1, d2, rfl, _⟩
    · rw [hy] at hno; exact absurd hpos (of_decide_eq_false hno)
    · rw [hy] at hno; exact absurd hpos (of_decide_eq_false hno)
    all_goals
      clear hno
      go_wp2_with fail
      refine (take_often _ c0 cb s N _ k hok H2.out (by omega)).mono ?_
      rintro e w2 ⟨rfl, x2, hf2, hc2⟩
      have HF2 := Lib.hid hf2
      have HC2 := Lib.hid hc2
      clear hf2 hc2
      go_wp2_with fail
      refine (put_woften _ c0 cb _ N _ k hok HC2.out hkw hN (show s.woften.length < 1099511627776 by omega)).mono ?_
      rintro e w3 ⟨rfl, x3, hf3, hc3⟩
      have HF3 := Lib.hid (HF2.out.trans hf3)
      have HC3 := Lib.hid hc3
      have hr3 := (HF3.out.old w.heap.size (lt_of_block HR.out) (by rw [HX.out]; exact fun hh => by have := hh.2; omega)).trans HR.out
      have HR3 := Lib.hid hr3
      have HX3 : Hid (x3 w.heap.size = c0 + 6) := Lib.hid (by rw [HF3.out.col _ (lt_of_block HR.out)]; exact HX.out)
      have t0 : w3.cell? ⟨w.heap.size, 0, none⟩ = some (.bool false) := by rw [cell_of_row w3 _ _ _ _ _ hr3]; rfl
      have t1 : w3.cell? ⟨w.heap.size, 1, none⟩ = some (.bool false) := by rw [cell_of_row w3 _ _ _ _ _ hr3]; rfl
      have t2 : w3.cell? ⟨w.heap.size, 2, none⟩ = some (Value.int .i64 0) := by rw [cell_of_row w3 _ _ _ _ _ hr3]; rfl
      have t3 : ∀ j, w3.frozen? ⟨w.heap.size, j, none⟩ = false := fun j => frozen_of_row w3 _ j _ _ hr3
      clear hf3 hc3 hr3
      go_wp2_with fail
      refine bodyPost_ret (v := touchedV false (some k)) (by simp [results, Tryz.results146, go_sem, touchedV, goneV, t0, t1, t2]) rfl ?_
      refine ⟨by rw [R.out], ?_⟩
      rw [R.out]
      exact turned_end HBL.out HF3.out HC3.out (Fr.same rfl rfl rfl (by simp) (fun b hb hC => by
        have hne : b ≠ w.heap.size := by rintro rfl; exact hC HX3.out
        rw [Below.heap_setCell _ _ _ _ hne, Below.heap_setCell _ _ _ _ hne, Below.heap_setCell _ _ _ _ hne])) (fun b hb => by
        have hne : b ≠ w.heap.size := by omega
        rw [Below.heap_setCell _ _ _ _ hne, Below.heap_setCell _ _ _ _ hne, Below.heap_setCell _ _ _ _ hne])

/-- room, where a cache that is full has a key that may go -/
theorem room_any (x : Nat → Nat) (c0 cb : Nat) (s : St) (N : Nat) (w : World) (oft : Bool) (h : CIs x c0 w cb s N) (h1 : s.once.length ≤ 8192) (h2 : s.often.length ≤ 8192) (h3 : s.wonce.length ≤ 8192) (h4 : s.woften.length ≤ 8192) (hN : N < 1099511627776)
    (hok : ∀ k, k ∈ s.once ∨ k ∈ s.often → ((Lit.int .i64 k).wf = true)) (hw1 : ∀ k ∈ s.once, k ∉ s.wonce) (hw2 : ∀ k ∈ s.often, k ∉ s.woften)
    (hfree : isFull s = true → (freeK s.pins s.once).isSome = true ∨ (freeK s.pins s.often).isSome = true) :
    Calls Tryz.prog 146 #[.pointer (some ⟨cb, 0, none⟩), .bool oft] w (RoomPost x c0 cb s N oft w) := by
  cases hf : isFull s with
  | false => exact room_not x c0 cb s N w oft h h1 h2 hf
  | true =>
    have hfr := hfree hf
    cases hp : pickOnce s oft with
    | true =>
      rcases hk : freeK s.pins s.once with _ | k
      · exfalso
        unfold pickOnce at hp
        rw [hk] at hp hfr
        rcases hfr with h | h
        · cases h
        · rw [h] at hp; simp at hp
      · exact room_once x c0 cb s N w oft h h1 h2 h3 hN hf k (hok k (.inl (freeK_mem hk).1)) hp hk (hw1 k (freeK_mem hk).1)
    | false =>
      rcases hk : freeK s.pins s.often with _ | k
      · exfalso
        unfold pickOnce at hp
        rw [hk] at hp hfr
        rcases hfr with h | h
        · rw [h] at hp; cases hfo : firstOf s oft <;> rw [hfo] at hp <;> simp at hp
        · cases h
      · exact room_often x c0 cb s N w oft h h1 h2 h4 hN hf k (hok k (.inr (freeK_mem hk).1)) hp hk (hw2 k (freeK_mem hk).1)

end Go.Proofs.YtbgbomlmgkgkoaaGreat.arcI
