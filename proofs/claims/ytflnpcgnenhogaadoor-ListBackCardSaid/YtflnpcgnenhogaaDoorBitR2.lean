/- bitio: a reader: the contracts of Open, Seek. -/
import Derived.Test.YtflnpcgnenhogaaDoorBitR
namespace Go.Proofs.YtflnpcgnenhogaaDoor.bit
open Go.RowKit Go.Proofs.YtflnpcgnenhogaaDoor.own

theorem ropen_any (x : Nat → Nat) (c : Nat) (s : ByteArray) (hs : s.size ≤ 1152921504606846975) (w : World) :
    Calls Tryd.prog 20 #[.string s] w fun e w' => ∃ rb x', e = .returned (.pointer (some ⟨rb, 0, none⟩)) ∧ Fr x x' (fun e => e = c) w w' ∧ RdC x' c w' rb s 0 ∧ w.heap.size ≤ rb ∧ Below w.heap.size w w' := by
  go_enter Tryd.func20, Tryd.ntmps20
  go_wp2_with fail
  go_ret
  have hb : Below w.heap.size w (w.alloc (.cells #[.string s, .int .i64 0] 93)) := (Below.refl _ _).alloc (Nat.le_refl _) _
  exact ⟨w.heap.size, paint x w.heap.size c, rfl, Fr.of_below hb rfl, ⟨heap_alloc_new w _, paint_new (Nat.le_refl _), Nat.zero_le _, hs⟩, Nat.le_refl _, hb⟩

set_option maxRecDepth 100000 in
theorem Seek_any (x : Nat → Nat) (c : Nat) (s : ByteArray) (a at_ rb : Nat) (w : World) (h : RdC x c w rb s a) (hat : at_ ≤ 8 * s.size) :
    Calls Tryd.prog 40 #[.pointer (some ⟨rb, 0, none⟩), .int .i64 (at_ : Int)] w fun e w' => e = .returned (.int .i64 0) ∧ Fr x x (fun e => e = c) w w' ∧ RdC x c w' rb s at_ := by
  obtain ⟨h0, hx, ha, hs⟩ := h
  have H0 := Lib.hid h0
  have c0 : w.cell? ⟨rb, 0, none⟩ = some (.string s) := by rw [cell_of_row w rb _ _ _ _ h0]; rfl
  have c1 : w.cell? ⟨rb, 1, none⟩ = some (.int .i64 (a : Int)) := by rw [cell_of_row w rb _ _ _ _ h0]; rfl
  have cf : ∀ j, w.frozen? ⟨rb, j, none⟩ = false := fun j => frozen_of_row w rb j _ _ h0
  have hw1 : IntKind.i64.wrap (8 * (s.size : Int)) = 8 * (s.size : Int) := IntWalk.i64_in _ (by omega)
  have i1 : ¬ (at_ : Int) < 0 := by omega
  have i2 : ¬ 8 * (s.size : Int) < (at_ : Int) := by omega
  clear h0
  go_enter Tryd.func40, Tryd.ntmps40
  go_wp2_with fail
  go_ret
  have hrow := heap_setCell_same w rb 1 _ _ (.int .i64 (at_ : Int)) H0.out
  exact ⟨rfl, Fr.same rfl rfl rfl (by simp) (fun d _ hd => Below.heap_setCell _ _ _ _ (fun e => hd (by rw [e]; exact hx))), by rw [hrow]; rfl, hx, hat, hs⟩
end Go.Proofs.YtflnpcgnenhogaaDoor.bit
