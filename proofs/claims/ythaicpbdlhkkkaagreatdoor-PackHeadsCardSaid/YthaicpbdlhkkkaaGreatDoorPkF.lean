/- pack: a head turned into the program's. -/
import Derived.Test.YthaicpbdlhkkkaaGreatDoorPkE
namespace Go.Proofs.YthaicpbdlhkkkaaGreatDoor.pk
open Go.RowKit Go.Proofs.YthaicpbdlhkkkaaGreatDoor.own Go.Proofs.YthaicpbdlhkkkaaGreatDoor.bit

theorem HB.mk {w W : World} {sz : Nat} {n m a d i z c b : Int} {T : TypeId} (h : HB w sz #[.int .i64 n, .int .i64 m, .int .i64 a, .int .i64 d, .int .i64 i, .int .i64 z, .int .i64 c, .int .i64 b] T W) : W.cell? ⟨sz, 0, none⟩ = some (.int .i64 n) ∧ W.cell? ⟨sz, 1, none⟩ = some (.int .i64 m) ∧ W.cell? ⟨sz, 2, none⟩ = some (.int .i64 a) ∧ W.cell? ⟨sz, 3, none⟩ = some (.int .i64 d) ∧ W.cell? ⟨sz, 4, none⟩ = some (.int .i64 i) ∧ W.cell? ⟨sz, 5, none⟩ = some (.int .i64 z) ∧ W.cell? ⟨sz, 6, none⟩ = some (.int .i64 c) ∧ W.cell? ⟨sz, 7, none⟩ = some (.int .i64 b) ∧ HB w sz #[.int .i64 n, .int .i64 m, .int .i64 a, .int .i64 d, .int .i64 i, .int .i64 z, .int .i64 c, .int .i64 b] T W := by
  have g := h.1
  refine ⟨?_, ?_, ?_, ?_, ?_, ?_, ?_, ?_, h⟩
  all_goals
    rw [cell_of_row _ _ _ _ _ _ g]
    rfl
theorem HB.of {A B C D E F G H : Prop} {w w' : World} {t : Nat} {row : Array Value} {T : TypeId} (h : A ∧ B ∧ C ∧ D ∧ E ∧ F ∧ G ∧ H ∧ HB w t row T w') : HB w t row T w' := h.2.2.2.2.2.2.2.2
theorem HB.drew {w w' : World} {t : Nat} {row : Array Value} {T : TypeId} (h : HB w t row T w') : HB w t row T w'.drew := h.next (Below.drew (Below.refl _ _))

set_option maxRecDepth 100000 in
set_option maxHeartbeats 3200000 in
theorem head_any (n m a d i z c b : Int) (w : World) :
    Calls Tryz.prog 4 #[headV n m a d i z c b] w fun e w' => e = .returned (headV n m a d i z c b) ∧ Below w.heap.size w w' := by
  have PC := Lib.hid (fun W => params_any a d i z c W)
  unfold headV
  go_enter Tryz.func4, Tryz.ntmps4
  go_upto_region 1 with fail
  have r0 := heap_alloc_new w (.cells #[.int .i64 n, .int .i64 m, .int .i64 a, .int .i64 d, .int .i64 i, .int .i64 z, .int .i64 c, .int .i64 b] 25)
  have k0 : Below w.heap.size w (w.alloc (.cells #[.int .i64 n, .int .i64 m, .int .i64 a, .int .i64 d, .int .i64 i, .int .i64 z, .int .i64 c, .int .i64 b] 25)) := (Below.refl _ _).alloc (Nat.le_refl _) _
  have z0 : (w.alloc (.cells #[.int .i64 n, .int .i64 m, .int .i64 a, .int .i64 d, .int .i64 i, .int .i64 z, .int .i64 c, .int .i64 b] 25)).heap.size = w.heap.size + 1 := by simp
  generalize w.alloc (.cells #[.int .i64 n, .int .i64 m, .int .i64 a, .int .i64 d, .int .i64 i, .int .i64 z, .int .i64 c, .int .i64 b] 25) = w1 at r0 k0 z0 ⊢
  have r1 := heap_alloc_new w1 (.cells #[.int .i64 0, .int .i64 0, .int .i64 0, .int .i64 0, .int .i64 0, .int .i64 0, .int .i64 0, .int .i64 0] 30)
  have q1 : (w1.alloc (.cells #[.int .i64 0, .int .i64 0, .int .i64 0, .int .i64 0, .int .i64 0, .int .i64 0, .int .i64 0, .int .i64 0] 30)).heap[w.heap.size]? = some (.cells #[.int .i64 n, .int .i64 m, .int .i64 a, .int .i64 d, .int .i64 i, .int .i64 z, .int .i64 c, .int .i64 b] 25 (0, 0)) := (Below.heap_alloc _ _ _ (lt_of_block r0)).trans r0
  have k1 : Below w.heap.size w (w1.alloc (.cells #[.int .i64 0, .int .i64 0, .int .i64 0, .int .i64 0, .int .i64 0, .int .i64 0, .int .i64 0, .int .i64 0] 30)) := k0.alloc k0.size _
  generalize w1.alloc (.cells #[.int .i64 0, .int .i64 0, .int .i64 0, .int .i64 0, .int .i64 0, .int .i64 0, .int .i64 0, .int .i64 0] 30) = W0 at r1 q1 k1 ⊢
  rw [z0] at r1
  obtain ⟨sz, hsz⟩ : ∃ k, w.heap.size = k := ⟨_, rfl⟩
  have HSZ := Lib.hid hsz
  have H0 : HB w sz #[.int .i64 n, .int .i64 m, .int .i64 a, .int .i64 d, .int .i64 i, .int .i64 z, .int .i64 c, .int .i64 b] 25 W0 := ⟨by rw [← hsz]; exact q1, k1⟩
  have HSET : Hid (∀ W j v, HB w sz #[.int .i64 n, .int .i64 m, .int .i64 a, .int .i64 d, .int .i64 i, .int .i64 z, .int .i64 c, .int .i64 b] 25 W → HB w sz #[.int .i64 n, .int .i64 m, .int .i64 a, .int .i64 d, .int .i64 i, .int .i64 z, .int .i64 c, .int .i64 b] 25 (W.setCell ⟨sz + 1, j, none⟩ v)) := Lib.hid (fun W j v h => h.set _ (by simp) (by simp; omega) _)
  rw [hsz] at r1 ⊢
  have MK := Lib.hid (fun W (h : HB w sz #[.int .i64 n, .int .i64 m, .int .i64 a, .int .i64 d, .int .i64 i, .int .i64 z, .int .i64 c, .int .i64 b] 25 W) => h.mk)
  clear r0 k0 z0 q1 k1 hsz
  go_region_held3 (fun w' => w'.cell? ⟨sz, 0, none⟩ = some (.int .i64 n) ∧ w'.cell? ⟨sz, 1, none⟩ = some (.int .i64 m) ∧ w'.cell? ⟨sz, 2, none⟩ = some (.int .i64 a) ∧ w'.cell? ⟨sz, 3, none⟩ = some (.int .i64 d) ∧ w'.cell? ⟨sz, 4, none⟩ = some (.int .i64 i) ∧ w'.cell? ⟨sz, 5, none⟩ = some (.int .i64 z) ∧ w'.cell? ⟨sz, 6, none⟩ = some (.int .i64 c) ∧ w'.cell? ⟨sz, 7, none⟩ = some (.int .i64 b) ∧ HB w sz #[.int .i64 n, .int .i64 m, .int .i64 a, .int .i64 d, .int .i64 i, .int .i64 z, .int .i64 c, .int .i64 b] 25 w')
    (first
      | (refine MK.out _ ?_; with_reducible exact HB.drew H0)
      | (refine MK.out _ ?_; with_reducible exact h2)
      | (refine MK.out _ ?_; (repeat' (with_reducible apply HSET.out)); with_reducible exact h2))
    (first
      | (go_at_call 14; refine (PC.out _).mono ?_; rintro e w2 ⟨rfl, k2⟩; have h2 := HB.next (HB.drew H0) k2; have H2 := Lib.hid h2.2; have r2 := (k2.block _ (lt_of_block r1)).trans r1; have d0 : w2.cell? ⟨sz + 1, 0, none⟩ = some (.int .i64 0) := (by rw [cell_of_row _ _ _ _ _ _ r2]; rfl); have d1 : w2.cell? ⟨sz + 1, 1, none⟩ = some (.int .i64 0) := (by rw [cell_of_row _ _ _ _ _ _ r2]; rfl); have d2 : w2.cell? ⟨sz + 1, 2, none⟩ = some (.int .i64 0) := (by rw [cell_of_row _ _ _ _ _ _ r2]; rfl); have d3 : w2.cell? ⟨sz + 1, 3, none⟩ = some (.int .i64 0) := (by rw [cell_of_row _ _ _ _ _ _ r2]; rfl); have d4 : w2.cell? ⟨sz + 1, 4, none⟩ = some (.int .i64 0) := (by rw [cell_of_row _ _ _ _ _ _ r2]; rfl); have d5 : w2.cell? ⟨sz + 1, 5, none⟩ = some (.int .i64 0) := (by rw [cell_of_row _ _ _ _ _ _ r2]; rfl); have d6 : w2.cell? ⟨sz + 1, 6, none⟩ = some (.int .i64 0) := (by rw [cell_of_row _ _ _ _ _ _ r2]; rfl); have d7 : w2.cell? ⟨sz + 1, 7, none⟩ = some (.int .i64 0) := (by rw [cell_of_row _ _ _ _ _ _ r2]; rfl); have fg : ∀ j, w2.frozen? ⟨sz + 1, j, none⟩ = false := (fun j => frozen_of_row w2 _ j _ _ r2); clear r2))
  go_wp2_with fail
  have hs : ∀ j, w.heap.size ≤ (⟨sz + 1, j, none⟩ : Addr).block := fun j => by have := HSZ.out; simp; omega
  refine bodyPost_ret (v := headV n m a d i z c b) (by simp [results, Tryz.results4, go_sem, headV, *]) rfl ⟨rfl, ?_⟩
  exact (((((((H2.out.setCell (hs _) _).setCell (hs _) _).setCell (hs _) _).setCell (hs _) _).setCell (hs _) _).setCell (hs _) _).setCell (hs _) _).setCell (hs _) _
end Go.Proofs.YthaicpbdlhkkkaaGreatDoor.pk
