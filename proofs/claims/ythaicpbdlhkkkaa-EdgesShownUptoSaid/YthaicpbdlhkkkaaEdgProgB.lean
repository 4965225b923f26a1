/- Contracts of the program's layer 18: the line's edge; Next; Parse. -/
import Derived.Test.YthaicpbdlhkkkaaEdgProg
namespace Go.Proofs.Ythaicpbdlhkkkaa.edg
open Go.RowKit

theorem below_drewN {B : Nat} {a w : World} (h : Below B a w) (n : Nat) : Below B a (w.drewN n) := ⟨h.os, h.tape, h.output, h.size, h.block⟩

/-- what the program answers of a line: whether it is an edge, and, if so, that edge -/
def EdgePP (n : Int) (s : ByteArray) (w : World) (e : Ending) (w' : World) : Prop :=
  ∃ x y : Nat, e = .returned (.tuple #[.agg #[.int .u32 x, .int .u32 y], .bool (edgeOf n s.data.toList).isSome]) ∧ (∀ p, edgeOf n s.data.toList = some p → p = (x, y)) ∧ Below w.heap.size w w'

theorem edge_nocut {n : Int} {l : B} (h : (cutAt 32 l).2.2 = false) : edgeOf n l = none := by unfold edgeOf; rw [if_pos h]
theorem number_long {l : B} (h : 5 < l.length) : number l = none := by unfold number; rw [if_pos (.inr (.inl h))]
theorem edge_long {n : Int} {l : B} (h : 5 < (cutAt 32 l).1.length ∨ 5 < (cutAt 32 l).2.1.length) : edgeOf n l = none := by
  unfold edgeOf
  split
  · rfl
  · rcases h with h | h
    · rw [number_long h]
    · rw [number_long h]
      split <;> simp_all
theorem edge_ok {n : Int} {l : B} (h : (cutAt 32 l).2.2 = true) : (edgeOf n l).isSome = (numOk n (cutAt 32 l).1 && numOk n (cutAt 32 l).2.1) ∧ ∀ x y, number (cutAt 32 l).1 = some x → number (cutAt 32 l).2.1 = some y → ∀ p, edgeOf n l = some p → p = (x, y) := by
  unfold edgeOf numOk
  rw [h]
  simp only [Bool.true_eq_false, if_false]
  rcases number (cutAt 32 l).1 with _ | x <;> rcases number (cutAt 32 l).2.1 with _ | y
  · simp
  · simp
  · simp
  · simp only
    constructor
    · by_cases h1 : (x : Int) < n <;> by_cases h2 : (y : Int) < n <;> simp [h1, h2]
    · intro a b ha hb p hp
      injection ha with ha; injection hb with hb
      subst ha; subst hb
      split at hp
      · injection hp with hp; exact hp.symm
      · cases hp

theorem edge_world (w : World) (rb : Nat) (n : Int) (m : Nat) (hrb : w.cell? ⟨rb, 0, none⟩ = some (.int .i64 n)) :
    ((((w.alloc (.cells #[.pointer (some ⟨rb, 0, none⟩)] 27)).alloc (.cells #[.int .u32 0, .int .u32 0] 37)).alloc (.cells #[.bool false] 4)).drewN m).heap.size = w.heap.size + 1 + 1 + 1 ∧
    ((((w.alloc (.cells #[.pointer (some ⟨rb, 0, none⟩)] 27)).alloc (.cells #[.int .u32 0, .int .u32 0] 37)).alloc (.cells #[.bool false] 4)).drewN m).heap[w.heap.size]? = some (.cells #[.pointer (some ⟨rb, 0, none⟩)] 27 (0, 0)) ∧
    ((((w.alloc (.cells #[.pointer (some ⟨rb, 0, none⟩)] 27)).alloc (.cells #[.int .u32 0, .int .u32 0] 37)).alloc (.cells #[.bool false] 4)).drewN m).heap[w.heap.size + 1]? = some (.cells #[.int .u32 0, .int .u32 0] 37 (0, 0)) ∧
    ((((w.alloc (.cells #[.pointer (some ⟨rb, 0, none⟩)] 27)).alloc (.cells #[.int .u32 0, .int .u32 0] 37)).alloc (.cells #[.bool false] 4)).drewN m).heap[w.heap.size + 1 + 1]? = some (.cells #[.bool false] 4 (0, 0)) ∧
    ((((w.alloc (.cells #[.pointer (some ⟨rb, 0, none⟩)] 27)).alloc (.cells #[.int .u32 0, .int .u32 0] 37)).alloc (.cells #[.bool false] 4)).drewN m).cell? ⟨rb, 0, none⟩ = some (.int .i64 n) ∧
    Below w.heap.size w ((((w.alloc (.cells #[.pointer (some ⟨rb, 0, none⟩)] 27)).alloc (.cells #[.int .u32 0, .int .u32 0] 37)).alloc (.cells #[.bool false] 4)).drewN m) := by
  have hB : Below w.heap.size w ((((w.alloc (.cells #[.pointer (some ⟨rb, 0, none⟩)] 27)).alloc (.cells #[.int .u32 0, .int .u32 0] 37)).alloc (.cells #[.bool false] 4)).drewN m) := (by repeat (first | exact Below.refl _ _ | refine below_drewN ?_ _ | refine Below.setCell ?_ (by simp; try omega) _ | refine Below.alloc ?_ (by simp; try omega) _))
  refine ⟨by simp, ?_, ?_, ?_, ?_, hB⟩
  · exact (Below.heap_alloc _ _ _ (by simp; omega)).trans ((Below.heap_alloc _ _ _ (by simp)).trans (heap_alloc_new _ _))
  · refine (Below.heap_alloc _ _ _ (by simp)).trans ?_
    have h := heap_alloc_new (w.alloc (.cells #[.pointer (some ⟨rb, 0, none⟩)] 27)) (.cells #[.int .u32 0, .int .u32 0] 37)
    rw [World.size_alloc] at h
    exact h
  · have h := heap_alloc_new ((w.alloc (.cells #[.pointer (some ⟨rb, 0, none⟩)] 27)).alloc (.cells #[.int .u32 0, .int .u32 0] 37)) (.cells #[.bool false] 4)
    rw [World.size_alloc, World.size_alloc] at h
    exact h
  · rw [hB.cell (p := ⟨rb, 0, none⟩) (World.block_lt_of_cell? w _ hrb)]; exact hrb

set_option maxHeartbeats 3200000 in
theorem edge_any (n : Int) (rb : Nat) (s : ByteArray) (hs : s.size ≤ 16777216) (w : World) (hrb : w.cell? ⟨rb, 0, none⟩ = some (.int .i64 n)) :
    Calls Try.prog 41 #[.pointer (some ⟨rb, 0, none⟩), .string s] w (EdgePP n s w) := by
  have hlr := World.block_lt_of_cell? w _ hrb
  have hlr' : rb < w.heap.size := hlr
  rcases hf : (cutAt 32 s.data.toList).2.2 with _ | _
  · have E : Hid (edgeOf n s.data.toList = none) := Lib.hid (edge_nocut hf)
    have HF := Lib.hid hf
    clear hf
    go_enter Try.func41, Try.ntmps41
    go_wp2_with fail
    refine (cut_one 32 s _ (by simp only [maxLen]; omega)).mono ?_
    rintro e w' ⟨a, b, rfl, ha, hb, m, rfl⟩
    rw [HF.out]
    clear ha hb
    go_wp2_with fail
    exact bodyPost_ret (v := .tuple #[.agg #[.int .u32 0, .int .u32 0], .bool false]) (by simp [results, Try.results41, go_sem]) rfl ⟨0, 0, by rw [E.out]; rfl, (fun p hp => by rw [E.out] at hp; cases hp), (by repeat (first | exact Below.refl _ _ | refine below_drewN ?_ _ | refine Below.setCell ?_ (by simp; try omega) _ | refine Below.alloc ?_ (by simp; try omega) _))⟩
  · have HF := Lib.hid hf
    have HK := Lib.hid (edge_ok (n := n) hf)
    clear hf
    by_cases hl : 5 < (cutAt 32 s.data.toList).1.length ∨ 5 < (cutAt 32 s.data.toList).2.1.length
    · have E : Hid (edgeOf n s.data.toList = none) := Lib.hid (edge_long hl)
      go_enter Try.func41, Try.ntmps41
      go_wp2_with fail
      refine (cut_one 32 s _ (by simp only [maxLen]; omega)).mono ?_
      rintro e w' ⟨a, b, rfl, ha, hb, m, rfl⟩
      rw [HF.out]
      rw [← ha, ← hb, size_len, size_len] at hl
      clear ha hb
      by_cases hl1 : 5 < a.size
      · clear hl
        go_wp2_with fail
        exact bodyPost_ret (v := .tuple #[.agg #[.int .u32 0, .int .u32 0], .bool false]) (by simp [results, Try.results41, go_sem]) rfl ⟨0, 0, by rw [E.out]; rfl, (fun p hp => by rw [E.out] at hp; cases hp), (by repeat (first | exact Below.refl _ _ | refine below_drewN ?_ _ | refine Below.setCell ?_ (by simp; try omega) _ | refine Below.alloc ?_ (by simp; try omega) _))⟩
      · have hl2 : 5 < b.size := by omega
        clear hl
        go_wp2_with fail
        exact bodyPost_ret (v := .tuple #[.agg #[.int .u32 0, .int .u32 0], .bool false]) (by simp [results, Try.results41, go_sem]) rfl ⟨0, 0, by rw [E.out]; rfl, (fun p hp => by rw [E.out] at hp; cases hp), (by repeat (first | exact Below.refl _ _ | refine below_drewN ?_ _ | refine Below.setCell ?_ (by simp; try omega) _ | refine Below.alloc ?_ (by simp; try omega) _))⟩
    · go_enter Try.func41, Try.ntmps41
      go_wp2_with fail
      refine (cut_one 32 s _ (by simp only [maxLen]; omega)).mono ?_
      rintro e w' ⟨a, b, rfl, ha, hb, m, rfl⟩
      rw [HF.out]
      have hla : a.size ≤ 5 := by rw [← size_len, ha]; omega
      have hlb : b.size ≤ 5 := by rw [← size_len, hb]; omega
      have HA := Lib.hid ha
      have HB := Lib.hid hb
      clear ha hb hl
      go_wp2_with fail
      obtain ⟨f1, f2, f3, f4, f5, f6⟩ := edge_world w rb n m hrb
      generalize World.drewN (World.alloc (World.alloc (World.alloc w _) _) _) m = W0 at f1 f2 f3 f4 f5 f6 ⊢
      refine (closure_any n a hla false (w.heap.size + 1 + 1) w.heap.size rb W0 f4 (cell_of_one f2) f5).mono ?_
      rintro e w1 ⟨v1, rfl, hg1, hbb1, hv1⟩
      have HV1 := Lib.hid hv1
      clear hv1
      have g2 : w1.heap[w.heap.size]? = some (.cells #[.pointer (some ⟨rb, 0, none⟩)] 27 (0, 0)) := (hg1.block _ (by omega) (by simp; omega)).trans f2
      have g3 : w1.heap[w.heap.size + 1]? = some (.cells #[.int .u32 0, .int .u32 0] 37 (0, 0)) := (hg1.block _ (by omega) (by simp)).trans f3
      have g5 : w1.cell? ⟨rb, 0, none⟩ = some (.int .i64 n) := hg1.cell f5 (by simp; omega)
      have g6 : Below w.heap.size w w1 := f6.trans ⟨hg1.os, hg1.tape, hg1.output, hg1.size, fun k hk => hg1.block k (by omega) (by simp; omega)⟩
      have gz := hg1.size
      clear f2 f3 f4 f5 hg1
      go_wp2_with fail
      refine (closure_any n b hlb _ (w.heap.size + 1 + 1) w.heap.size rb w1 hbb1 (cell_of_one g2) g5).mono ?_
      rintro e w2 ⟨v2, rfl, hg2, hbb2, hv2⟩
      have HV2 := Lib.hid hv2
      have k3 : w2.heap[w.heap.size + 1]? = some (.cells #[.int .u32 0, .int .u32 0] 37 (0, 0)) := (hg2.block _ (by omega) (by simp)).trans g3
      have k6 : Below w.heap.size w w2 := g6.trans ⟨hg2.os, hg2.tape, hg2.output, hg2.size, fun k hk => hg2.block k (by omega) (by simp; omega)⟩
      have kz := hg2.size
      have c1 : w2.cell? ⟨w.heap.size + 1 + 1, 0, none⟩ = some (.bool (false || !numOk n a.data.toList || !numOk n b.data.toList)) := cell_of_one hbb2
      have c2 : w2.cell? ⟨w.heap.size + 1, 0, none⟩ = some (.int .u32 0) := by rw [cell_of_row w2 _ 0 _ _ _ k3]; rfl
      have c3 : w2.cell? ⟨w.heap.size + 1, 1, none⟩ = some (.int .u32 0) := by rw [cell_of_row w2 _ 1 _ _ _ k3]; rfl
      have c4 : ∀ j, w2.frozen? ⟨w.heap.size + 1, j, none⟩ = false := fun j => frozen_of_row w2 _ j _ _ k3
      have HB1 := Lib.hid hbb1
      have hz1 : w.heap.size + 1 < w2.heap.size := by omega
      have hz2 : w.heap.size + 1 + 1 < w2.heap.size := by omega
      clear hv2 hg2 hbb1 hbb2 g2 g3 g5 g6 k3 f1 gz kz f6
      go_wp2_with fail
      go_region
      go_wp2_with fail
      refine bodyPost_ret (v := .tuple #[.agg #[.int .u32 v1, .int .u32 v2], .bool (numOk n a.data.toList && numOk n b.data.toList)]) (by simp [results, Try.results41, go_sem, hz1, c2, c3]) rfl ⟨v1, v2, ?_, ?_, ?_⟩
      · rw [HK.out.1, HA.out, HB.out]
      · intro p hp
        have hsome : (edgeOf n s.data.toList).isSome = true := by rw [hp]; rfl
        rw [HK.out.1, ← HA.out, ← HB.out, Bool.and_eq_true] at hsome
        exact HK.out.2 v1 v2 (by rw [← HA.out]; exact HV1.out hsome.1) (by rw [← HB.out]; exact HV2.out hsome.2) p hp
      · exact (by repeat (first | exact k6 | refine Below.drew ?_ | refine below_drewN ?_ _ | refine Below.setCell ?_ (by simp; try omega) _ | refine Below.alloc ?_ (by simp; try omega) _))

end Go.Proofs.Ythaicpbdlhkkkaa.edg
