/- pack: the program's Text: a writer, and rows beside it. -/
import Derived.Test.YthaicpbdlhkkkaaGreatDoorPkH
namespace Go.Proofs.YthaicpbdlhkkkaaGreatDoor.pk
open Go.RowKit Go.Proofs.YthaicpbdlhkkkaaGreatDoor.own Go.Proofs.YthaicpbdlhkkkaaGreatDoor.bit

/-- a writer that was made after w0, and rows beside it that stand -/
def WT (w0 : World) (wb : Nat) (l : Bits) (ks : List (Nat × Obj)) (W : World) : Prop :=
  ∃ x, Fr (fun _ => 100) x (fun c => c < 50) w0 W ∧ WrC x 0 W wb l ∧ ∀ p ∈ ks, x p.1 = 49 ∧ W.heap[p.1]? = some p.2
theorem WT.below {w0 W : World} {wb : Nat} {l : Bits} {ks : List (Nat × Obj)} (h : WT w0 wb l ks W) : Below w0.heap.size w0 W := by
  obtain ⟨x, hf, _⟩ := h
  exact ⟨hf.os, hf.tape, hf.output, hf.size, fun b hb => hf.old b hb (by show ¬ (100 : Nat) < 50; decide)⟩
theorem WT.next {w0 W W2 : World} {wb : Nat} {l : Bits} {ks : List (Nat × Obj)} (h : WT w0 wb l ks W) (k : Below W.heap.size W W2) : WT w0 wb l ks W2 := by
  obtain ⟨x, hf, hw, hk⟩ := h
  have f2 : Fr x (paint x W.heap.size 49) (fun c => c = 49) W W2 := Fr.of_below k rfl
  refine ⟨_, hf.trans (f2.mono (fun c hc => by subst hc; decide)), hw.frame f2 (by decide), fun p hp => ?_⟩
  obtain ⟨h1, h2⟩ := hk p hp
  have hl := lt_of_block h2
  refine ⟨?_, (k.block _ hl).trans h2⟩
  unfold paint
  simp [h1]
theorem WT.keep {w0 W : World} {wb : Nat} {l : Bits} {ks : List (Nat × Obj)} (h : WT w0 wb l ks W) (o : Obj) : WT w0 wb l ((W.heap.size, o) :: ks) (W.alloc o) := by
  obtain ⟨x, hf, hw, hk⟩ := h
  have k : Below W.heap.size W (W.alloc o) := (Below.refl _ _).alloc (Nat.le_refl _) _
  have f2 : Fr x (paint x W.heap.size 49) (fun c => c = 49) W (W.alloc o) := Fr.of_below k rfl
  refine ⟨_, hf.trans (f2.mono (fun c hc => by subst hc; decide)), hw.frame f2 (by decide), fun p hp => ?_⟩
  rcases List.mem_cons.1 hp with rfl | hp
  · exact ⟨paint_new (Nat.le_refl _), heap_alloc_new W _⟩
  · obtain ⟨h1, h2⟩ := hk p hp
    have hl := lt_of_block h2
    refine ⟨?_, (k.block _ hl).trans h2⟩
    unfold paint
    simp [h1]
theorem WT.row {w0 W : World} {wb : Nat} {l : Bits} {ks : List (Nat × Obj)} (h : WT w0 wb l ks W) {b : Nat} {o : Obj} (hm : (b, o) ∈ ks) : W.heap[b]? = some o := by
  obtain ⟨x, hf, hw, hk⟩ := h
  exact (hk _ hm).2
theorem WT.new (w0 : World) : Calls Tryz.prog 15 #[] w0 fun e w' => ∃ wb, e = .returned (.pointer (some ⟨wb, 0, none⟩)) ∧ WT w0 wb [] [] w' := by
  refine (new_any (fun _ => 100) 0 w0).mono ?_
  rintro e w' ⟨wb, x', rfl, f2, h2, _, _⟩
  exact ⟨wb, rfl, x', f2.mono (fun c hc => by show c < 50; omega), h2, fun p hp => by simp at hp⟩
theorem WT.put {w0 W : World} {wb : Nat} {l : Bits} {ks : List (Nat × Obj)} (v n : Nat) (hv : v < 2 ^ n) (hn : n ≤ 64) (hl : l.length + n ≤ 134217728) (h : WT w0 wb l ks W) :
    Calls Tryz.prog 16 #[.pointer (some ⟨wb, 0, none⟩), .int .u64 (v : Int), .int .i64 (n : Int)] W fun e w' => e = .returned (.int .i64 0) ∧ WT w0 wb (l ++ ofN n v) ks w' := by
  obtain ⟨x, hf, hw, hk⟩ := h
  refine (Put_ok x 0 W wb l v n hv hn hl hw).mono ?_
  rintro e w' ⟨rfl, x', f2, h2⟩
  refine ⟨rfl, x', hf.trans (f2.mono (fun c hc => by show c < 50; omega)), h2, fun p hp => ?_⟩
  obtain ⟨h1, h3⟩ := hk p hp
  have h4 := f2.col _ (lt_of_block h3)
  have h5 := f2.old _ (lt_of_block h3) (by show ¬ x p.1 = 0; rw [h1]; decide)
  exact ⟨h4.trans h1, h5.trans h3⟩
theorem WT.text {w0 W : World} {wb : Nat} {l : Bits} {ks : List (Nat × Obj)} (h : WT w0 wb l ks W) :
    Calls Tryz.prog 17 #[.pointer (some ⟨wb, 0, none⟩)] W fun e w' => e = .returned (.tuple #[.string (txt (packN l)), .int .i64 0]) ∧ W = w' := by
  obtain ⟨x, _, hw, _⟩ := h
  exact text_any x 0 W wb l hw
end Go.Proofs.YthaicpbdlhkkkaaGreatDoor.pk
