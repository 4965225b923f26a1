/- Statement ArcPlays: the document's cache: New, Pin, Unpin. -/
import Derived.BigQuiet
import Derived.BigRegion
import Derived.Test.YthcdfdkhmlkneaaArcF2
namespace Go.Proofs.Ythcdfdkhmlkneaa.arcI
open Go.RowKit Go.Proofs.Ythcdfdkhmlkneaa.own

theorem MIs.pinned {x : Nat → Nat} {d0 : Nat} {w : World} {mb : Nat} {s : St} {N : Nat} (h : MIs x d0 w mb s N) :
    ∃ pm, w.cell? ⟨mb, 6, none⟩ = some (.map (some pm)) ∧ MapIs w pm N s.pins ∧ ∀ w' N' f, N ≤ N' → w.grownBy w' (some pm) → MapIs w' pm N' f → MTurned x d0 w w' mb { s with pins := f } N' := by
  obtain ⟨v1, v2, v3, v4, pm, h0, hx, r1, r2, r3, r4, hp, hm⟩ := h
  refine ⟨pm, by rw [cell_of_row w mb _ _ _ _ h0]; rfl, hm, fun w' N' f hN hg hm' => ?_⟩
  have kp : Keeps w w' (fun b => b = pm) := (Keeps.refl w _).grown hg (fun j hj => by injection hj with hj; exact .inl hj.symm)
  have hf : Fr x (paint x w.heap.size (d0 + 1)) (fun e => e = d0 + 1) w w' := kp.fr rfl (fun b hb e => by rw [e]; exact hp)
  have hlt := lt_of_block h0
  refine ⟨_, hf.mono (fun e he => by subst he; exact ⟨by omega, by omega⟩), v1, v2, v3, v4, pm, ?_, ?_, r1.frame hf (by omega), r2.frame hf (by omega), r3.frame hf (by omega), r4.frame hf (by omega), ?_, hm'⟩
  · rw [hf.old mb hlt (by rw [hx]; omega)]; exact h0
  · rw [hf.col mb hlt]; exact hx
  · rw [hf.col pm hm.lt]; exact hp

theorem MTurned.drewN {x : Nat → Nat} {d0 : Nat} {w w' : World} {mb : Nat} {s : St} {N : Nat} {m : Nat} (h : MTurned x d0 (w.drewN m) w' mb s N) : MTurned x d0 w w' mb s N := by
  obtain ⟨x', hf, hm⟩ := h
  exact ⟨x', ⟨hf.os, hf.tape, hf.output, hf.size, hf.col, hf.new, hf.old⟩, hm⟩

theorem rNew_any (x : Nat → Nat) (d0 : Nat) (n : Nat) (h1 : 1 ≤ n) (h2 : n ≤ 4096) (w : World) :
    Calls Try.prog 20 #[.int .i64 n] w fun e w' => ∃ mb x', e = .returned (.tuple #[.pointer (some ⟨mb, 0, none⟩), .int .i64 0]) ∧ Fr x x' (DD d0) w w' ∧ MIs x' d0 w' mb (newS n) 0 ∧ Below w.heap.size w w' := by
  have hmm := @run_makeMap Try.prog
  go_enter Try.func20, Try.ntmps20
  go_wp2_with fail
  go_ret2
  have hs1 : (w.alloc (.map #[] 0)).heap.size = w.heap.size + 1 := by simp
  have hmap : MapIs ((w.alloc (.map #[] 0)).alloc (.cells #[.int .i64 n, .slice none 0 0, .slice none 0 0, .slice none 0 0, .slice none 0 0, .int .i64 (0 : Nat), .map (some w.heap.size)] 98)) w.heap.size 0 (fun _ => 0) :=
    (MapIs.made w).frame (Below.heap_alloc _ _ _ (by rw [hs1]; omega))
  have hcell := heap_alloc_new (w.alloc (.map #[] 0)) (.cells #[.int .i64 n, .slice none 0 0, .slice none 0 0, .slice none 0 0, .slice none 0 0, .int .i64 (0 : Nat), .map (some w.heap.size)] 98)
  rw [hs1] at hcell
  refine ⟨w.heap.size + 1, fun b => if b < w.heap.size then x b else if b = w.heap.size then d0 + 1 else d0, rfl, ⟨rfl, rfl, rfl, by simp; omega, fun b hb => if_pos hb, fun b h1 _ => ?_, fun b hb _ => ?_⟩, ?_, ((Below.refl _ _).alloc (Nat.le_refl _) _).alloc (by rw [hs1]; omega) _⟩
  · show DD d0 (if b < w.heap.size then x b else if b = w.heap.size then d0 + 1 else d0)
    rw [if_neg (by omega)]
    split
    · exact ⟨by omega, by omega⟩
    · exact ⟨Nat.le_refl _, by omega⟩
  · rw [Below.heap_alloc _ _ _ (by rw [hs1]; omega), Below.heap_alloc _ _ _ hb]
  · refine ⟨_, _, _, _, w.heap.size, hcell, ?_, ROc.nil _ _ _, ROc.nil _ _ _, ROc.nil _ _ _, ROc.nil _ _ _, ?_, hmap⟩
    · show (if w.heap.size + 1 < w.heap.size then x (w.heap.size + 1) else if w.heap.size + 1 = w.heap.size then d0 + 1 else d0) = d0
      rw [if_neg (by omega), if_neg (by omega)]
    · show (if w.heap.size < w.heap.size then x w.heap.size else if w.heap.size = w.heap.size then d0 + 1 else d0) = d0 + 1
      rw [if_neg (by omega), if_pos rfl]

set_option maxHeartbeats 3200000 in
theorem rPin_any (x : Nat → Nat) (d0 mb : Nat) (s : St) (N : Nat) (w : World) (k : K) (hok : (Lit.int .i64 k).wf = true) (h : MIs x d0 w mb s N) (hN : N < 1099511627776) (hp : s.pins k < 1099511627776) :
    Calls Try.prog 47 #[.pointer (some ⟨mb, 0, none⟩), .int .i64 k] w fun e w' => e = .returned (.int .i64 (pinR s k).2) ∧ MTurned x d0 w w' mb (pinR s k).1 (N + 1) := by
  have H := Lib.hid h
  by_cases hk : k ∈ s.once ∨ k ∈ s.often
  · have R : Hid (pinR s k = (pinS s k, 0)) := Lib.hid (by unfold pinR; rw [if_pos hk])
    have d1 : Hid (decide (k ∈ s.once ∨ k ∈ s.often) = true) := Lib.hid (decide_eq_true hk)
    have hw1 : MIs x d0 w.drew mb s N := h
    obtain ⟨pm, hc, hm, hT⟩ := hw1.pinned
    have hc0 : w.cell? ⟨mb, 6, none⟩ = some (.map (some pm)) := hc
    have hl := hm.look (k := k) hok
    have hwf : (Lit.int .i64 ((s.pins k + 1 : Nat) : Int)).wf = true := WalkArith.wf_i64 (by omega)
    obtain ⟨w1, hrun, hm1, ht⟩ := hm.store (k := k) hok (v := s.pins k + 1) hwf (by simp only [maxLen]; omega)
    have TT : Hid (MTurned x d0 w w1 mb (pinS s k) (N + 1)) := Lib.hid (MTurned.drewN (m := 1) (hT w1 (N + 1) _ (by omega) ht.grown hm1))
    obtain ⟨p, hpe⟩ : ∃ p, p = s.pins k := ⟨_, rfl⟩
    have hrun1 : (Instr.mapUpdate 74 (.map (some pm)) (.int .i64 k) (.int .i64 ((p : Int) + 1))).run Try.prog w.drew = .ok () w1 := by rw [hpe]; exact hrun
    rw [← hpe] at hl hp
    clear h hw1 hm hk hT hrun hm1 ht hwf hpe hc
    go_enter Try.func47, Try.ntmps47
    go_wp2_with fail
    refine (Held_any x d0 mb s N w k H.out).mono ?_
    rintro e w' ⟨rfl, rfl⟩
    rw [d1.out]
    go_wp2_with fail
    go_region
    all_goals
      go_wp2_with fail
      go_ret
      exact ⟨by rw [R.out]; rfl, by rw [R.out]; exact TT.out⟩
  · have R : Hid (pinR s k = (s, 6)) := Lib.hid (by unfold pinR; rw [if_neg hk])
    have d1 : Hid (decide (k ∈ s.once ∨ k ∈ s.often) = false) := Lib.hid (decide_eq_false hk)
    clear h hk
    go_enter Try.func47, Try.ntmps47
    go_wp2_with fail
    refine (Held_any x d0 mb s N w k H.out).mono ?_
    rintro e w' ⟨rfl, rfl⟩
    rw [d1.out]
    go_wp2_with fail
    go_ret
    exact ⟨by rw [R.out]; rfl, by rw [R.out]; exact ⟨x, Fr.refl _ _ _, H.out.mono (by omega)⟩⟩

set_option maxHeartbeats 3200000 in
theorem rUnpin_any (x : Nat → Nat) (d0 mb : Nat) (s : St) (N : Nat) (w : World) (k : K) (hok : (Lit.int .i64 k).wf = true) (h : MIs x d0 w mb s N) (hN : N < 1099511627776) (hp : s.pins k < 1099511627776) :
    Calls Try.prog 49 #[.pointer (some ⟨mb, 0, none⟩), .int .i64 k] w fun e w' => e = .returned (.int .i64 (unpinR s k).2) ∧ MTurned x d0 w w' mb (unpinR s k).1 (N + 1) := by
  have H := Lib.hid h
  by_cases hk : k ∈ s.once ∨ k ∈ s.often
  · have d1 : Hid (decide (k ∈ s.once ∨ k ∈ s.often) = true) := Lib.hid (decide_eq_true hk)
    have hw1 : MIs x d0 w.drew mb s N := h
    obtain ⟨pm, hc, hm, hT⟩ := hw1.pinned
    have hc0 : w.cell? ⟨mb, 6, none⟩ = some (.map (some pm)) := hc
    have hl := hm.look (k := k) hok
    have hl0 : (Instr.lookup 74 (.map (some pm)) (.int .i64 k) false).run Try.prog w = .ok (.int .i64 (s.pins k)) w := by
      have hm0 : MapIs w pm N s.pins := hm
      exact hm0.look (k := k) hok
    by_cases hz : s.pins k = 0
    · have R : Hid (unpinR s k = (s, 16)) := Lib.hid (by unfold unpinR; rw [if_pos hk, if_pos hz])
      rw [hz] at hl0
      clear h hw1 hm hk hT hz hc hl
      go_enter Try.func49, Try.ntmps49
      go_wp2_with fail
      refine (Held_any x d0 mb s N w k H.out).mono ?_
      rintro e w' ⟨rfl, rfl⟩
      rw [d1.out]
      go_wp2_with fail
      go_ret
      exact ⟨by rw [R.out]; rfl, by rw [R.out]; exact ⟨x, Fr.refl _ _ _, H.out.mono (by omega)⟩⟩
    · have R : Hid (unpinR s k = (unpinS s k, 0)) := Lib.hid (by unfold unpinR; rw [if_pos hk, if_neg hz])
      obtain ⟨p, hpe⟩ : ∃ p, s.pins k = p + 1 := ⟨s.pins k - 1, by omega⟩
      have hwf : (Lit.int .i64 ((p : Nat) : Int)).wf = true := WalkArith.wf_i64 (by omega)
      obtain ⟨w1, hrun, hm1, ht⟩ := hm.store (k := k) hok (v := p) hwf (by simp only [maxLen]; omega)
      have hpins : (unpinS s k).pins = upd s.pins k p := by
        funext a
        show (if a = k then s.pins k - 1 else s.pins a) = (if a = k then p else s.pins a)
        rw [hpe]; rfl
      have TT : Hid (MTurned x d0 w w1 mb (unpinS s k) (N + 1)) := Lib.hid (MTurned.drewN (m := 1) (by
        have := hT w1 (N + 1) _ (by omega) ht.grown hm1
        rw [← hpins] at this
        exact this))
      have hrun1 : (Instr.mapUpdate 74 (.map (some pm)) (.int .i64 k) (.int .i64 (p : Int))).run Try.prog w.drew = .ok () w1 := hrun
      have hl2 : (Instr.lookup 74 (.map (some pm)) (.int .i64 k) false).run Try.prog w.drew = .ok (.int .i64 ((p : Int) + 1)) w.drew := by rw [hl, hpe]; rfl
      have hl3 : (Instr.lookup 74 (.map (some pm)) (.int .i64 k) false).run Try.prog w = .ok (.int .i64 ((p : Int) + 1)) w := by rw [hl0, hpe]; rfl
      have hpq : ((p : Int) + 1 == 0) = false := beq_eq_false_iff_ne.2 (by omega)
      rw [hpe] at hp
      clear h hw1 hm hk hT hz hrun hm1 ht hwf hpe hc hl hl0 hpins
      go_enter Try.func49, Try.ntmps49
      go_wp2_with fail
      refine (Held_any x d0 mb s N w k H.out).mono ?_
      rintro e w' ⟨rfl, rfl⟩
      rw [d1.out]
      go_wp2_with fail
      go_region
      all_goals
        go_wp2_with fail
        go_ret
        exact ⟨by rw [R.out]; rfl, by rw [R.out]; exact TT.out⟩
  · have R : Hid (unpinR s k = (s, 6)) := Lib.hid (by unfold unpinR; rw [if_neg hk])
    have d1 : Hid (decide (k ∈ s.once ∨ k ∈ s.often) = false) := Lib.hid (decide_eq_false hk)
    clear h hk
    go_enter Try.func49, Try.ntmps49
    go_wp2_with fail
    refine (Held_any x d0 mb s N w k H.out).mono ?_
    rintro e w' ⟨rfl, rfl⟩
    rw [d1.out]
    go_wp2_with fail
    go_ret
    exact ⟨by rw [R.out]; rfl, by rw [R.out]; exact ⟨x, Fr.refl _ _ _, H.out.mono (by omega)⟩⟩

end Go.Proofs.Ythcdfdkhmlkneaa.arcI
