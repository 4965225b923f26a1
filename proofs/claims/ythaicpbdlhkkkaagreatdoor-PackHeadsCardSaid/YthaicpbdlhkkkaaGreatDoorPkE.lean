/- pack: the document's Check of a head; a head turned into the program's. -/
import Derived.Deep.RegionHeld3
import Derived.Test.YthaicpbdlhkkkaaGreatDoorPkD
namespace Go.Proofs.YthaicpbdlhkkkaaGreatDoor.pk
open Go.RowKit Go.Proofs.YthaicpbdlhkkkaaGreatDoor.own Go.Proofs.YthaicpbdlhkkkaaGreatDoor.bit

set_option maxRecDepth 100000 in
set_option maxHeartbeats 1600000 in
theorem dhcheck_any (n m a d i z c b : Int) (w : World) :
    Calls Tryz.prog 12 #[headV n m a d i z c b] w (Told (headOk n m a d i z c b) w) := by
  have PC := Lib.hid (fun W => dpcheck_any a d i z c W)
  unfold headV
  have HO : Hid (headOk n m a d i z c b ↔ (0 ≤ n ∧ n ≤ 65536 ∧ 0 ≤ m ∧ m ≤ 1048576 ∧ 0 ≤ b ∧ b ≤ 134217728 ∧ (n = 0 → m = 0 ∧ b = 0)) ∧ parOk a d i z c) := Lib.hid (by unfold headOk; exact ⟨fun h => ⟨⟨h.1, h.2.1, h.2.2.1, h.2.2.2.1, h.2.2.2.2.1, h.2.2.2.2.2.1, h.2.2.2.2.2.2.1⟩, h.2.2.2.2.2.2.2⟩, fun h => ⟨h.1.1, h.1.2.1, h.1.2.2.1, h.1.2.2.2.1, h.1.2.2.2.2.1, h.1.2.2.2.2.2.1, h.1.2.2.2.2.2.2, h.2⟩⟩)
  by_cases hb : 0 ≤ n ∧ n ≤ 65536 ∧ 0 ≤ m ∧ m ≤ 1048576
  · obtain ⟨h1, h2, h3, h4⟩ := hb
    by_cases hp : parOk a d i z c
    · have HP := Lib.hid hp
      have OK : Hid (headOk n m a d i z c b ↔ 0 ≤ b ∧ b ≤ 134217728 ∧ (n = 0 → m = 0 ∧ b = 0)) := Lib.hid (by rw [HO.out]; exact ⟨fun h => h.1.2.2.2.2, fun h => ⟨⟨h1, h2, h3, h4, h⟩, hp⟩⟩)
      have hc : b < 0 ∨ (0 ≤ b ∧ 134217728 < b) ∨ (n = 0 ∧ 0 ≤ b ∧ b ≤ 134217728 ∧ 0 < m + b) ∨ (n = 0 ∧ m = 0 ∧ b = 0) ∨ (0 < n ∧ 0 ≤ b ∧ b ≤ 134217728) := by omega
      have hn0 : 0 < n → (n == 0) = false := fun h => beq_eq_false_iff_ne.2 (by omega)
      clear hp HO
      rcases hc with h5 | ⟨h5, h6⟩ | ⟨rfl, h5, h6, h7⟩ | ⟨rfl, rfl, rfl⟩ | ⟨h5, h6, h7⟩
      · clear hn0
        go_enter Tryz.func12, Tryz.ntmps12
        go_wp2_with fail
        have r0 := heap_alloc_new w (.cells #[.int .i64 n, .int .i64 m, .int .i64 a, .int .i64 d, .int .i64 i, .int .i64 z, .int .i64 c, .int .i64 b] 25)
        have k0 : Below w.heap.size w (w.alloc (.cells #[.int .i64 n, .int .i64 m, .int .i64 a, .int .i64 d, .int .i64 i, .int .i64 z, .int .i64 c, .int .i64 b] 25)) := (Below.refl _ _).alloc (Nat.le_refl _) _
        refine (PC.out _).mono ?_
        rintro e w2 ⟨k2, ⟨-, rfl⟩ | ⟨hno, -⟩⟩
        rotate_left
        · exact absurd HP.out hno
        have KB := Lib.hid (below_more k0 k2)
        have r2 := (k2.block _ (lt_of_block r0)).trans r0
        have c0 : w2.cell? ⟨w.heap.size, 0, none⟩ = some (.int .i64 n) := by rw [cell_of_row _ _ _ _ _ _ r2]; rfl
        have c1 : w2.cell? ⟨w.heap.size, 1, none⟩ = some (.int .i64 m) := by rw [cell_of_row _ _ _ _ _ _ r2]; rfl
        have c7 : w2.cell? ⟨w.heap.size, 7, none⟩ = some (.int .i64 b) := by rw [cell_of_row _ _ _ _ _ _ r2]; rfl
        clear r0 r2 k0 k2
        go_wp2_with fail
        go_ret
        refine ⟨KB.out, ?_⟩
        rw [OK.out]
        first
          | exact .inl ⟨by omega, rfl⟩
          | exact .inr ⟨by omega, rfl⟩
          | exact .inl ⟨by simp, rfl⟩
          | exact .inr ⟨fun h => by have := h.2.2 trivial; omega, rfl⟩
      · clear hn0
        go_enter Tryz.func12, Tryz.ntmps12
        go_wp2_with fail
        have r0 := heap_alloc_new w (.cells #[.int .i64 n, .int .i64 m, .int .i64 a, .int .i64 d, .int .i64 i, .int .i64 z, .int .i64 c, .int .i64 b] 25)
        have k0 : Below w.heap.size w (w.alloc (.cells #[.int .i64 n, .int .i64 m, .int .i64 a, .int .i64 d, .int .i64 i, .int .i64 z, .int .i64 c, .int .i64 b] 25)) := (Below.refl _ _).alloc (Nat.le_refl _) _
        refine (PC.out _).mono ?_
        rintro e w2 ⟨k2, ⟨-, rfl⟩ | ⟨hno, -⟩⟩
        rotate_left
        · exact absurd HP.out hno
        have KB := Lib.hid (below_more k0 k2)
        have r2 := (k2.block _ (lt_of_block r0)).trans r0
        have c0 : w2.cell? ⟨w.heap.size, 0, none⟩ = some (.int .i64 n) := by rw [cell_of_row _ _ _ _ _ _ r2]; rfl
        have c1 : w2.cell? ⟨w.heap.size, 1, none⟩ = some (.int .i64 m) := by rw [cell_of_row _ _ _ _ _ _ r2]; rfl
        have c7 : w2.cell? ⟨w.heap.size, 7, none⟩ = some (.int .i64 b) := by rw [cell_of_row _ _ _ _ _ _ r2]; rfl
        clear r0 r2 k0 k2
        go_wp2_with fail
        go_ret
        refine ⟨KB.out, ?_⟩
        rw [OK.out]
        first
          | exact .inl ⟨by omega, rfl⟩
          | exact .inr ⟨by omega, rfl⟩
          | exact .inl ⟨by simp, rfl⟩
          | exact .inr ⟨fun h => by have := h.2.2 trivial; omega, rfl⟩
      · clear hn0
        go_enter Tryz.func12, Tryz.ntmps12
        go_wp2_with fail
        have r0 := heap_alloc_new w (.cells #[.int .i64 0, .int .i64 m, .int .i64 a, .int .i64 d, .int .i64 i, .int .i64 z, .int .i64 c, .int .i64 b] 25)
        have k0 : Below w.heap.size w (w.alloc (.cells #[.int .i64 0, .int .i64 m, .int .i64 a, .int .i64 d, .int .i64 i, .int .i64 z, .int .i64 c, .int .i64 b] 25)) := (Below.refl _ _).alloc (Nat.le_refl _) _
        refine (PC.out _).mono ?_
        rintro e w2 ⟨k2, ⟨-, rfl⟩ | ⟨hno, -⟩⟩
        rotate_left
        · exact absurd HP.out hno
        have KB := Lib.hid (below_more k0 k2)
        have r2 := (k2.block _ (lt_of_block r0)).trans r0
        have c0 : w2.cell? ⟨w.heap.size, 0, none⟩ = some (.int .i64 0) := by rw [cell_of_row _ _ _ _ _ _ r2]; rfl
        have c1 : w2.cell? ⟨w.heap.size, 1, none⟩ = some (.int .i64 m) := by rw [cell_of_row _ _ _ _ _ _ r2]; rfl
        have c7 : w2.cell? ⟨w.heap.size, 7, none⟩ = some (.int .i64 b) := by rw [cell_of_row _ _ _ _ _ _ r2]; rfl
        clear r0 r2 k0 k2
        go_wp2_with fail
        go_ret
        refine ⟨KB.out, ?_⟩
        rw [OK.out]
        first
          | exact .inl ⟨by omega, rfl⟩
          | exact .inr ⟨by omega, rfl⟩
          | exact .inl ⟨by simp, rfl⟩
          | exact .inr ⟨fun h => by have := h.2.2 trivial; omega, rfl⟩
      · clear hn0
        go_enter Tryz.func12, Tryz.ntmps12
        go_wp2_with fail
        have r0 := heap_alloc_new w (.cells #[.int .i64 0, .int .i64 0, .int .i64 a, .int .i64 d, .int .i64 i, .int .i64 z, .int .i64 c, .int .i64 0] 25)
        have k0 : Below w.heap.size w (w.alloc (.cells #[.int .i64 0, .int .i64 0, .int .i64 a, .int .i64 d, .int .i64 i, .int .i64 z, .int .i64 c, .int .i64 0] 25)) := (Below.refl _ _).alloc (Nat.le_refl _) _
        refine (PC.out _).mono ?_
        rintro e w2 ⟨k2, ⟨-, rfl⟩ | ⟨hno, -⟩⟩
        rotate_left
        · exact absurd HP.out hno
        have KB := Lib.hid (below_more k0 k2)
        have r2 := (k2.block _ (lt_of_block r0)).trans r0
        have c0 : w2.cell? ⟨w.heap.size, 0, none⟩ = some (.int .i64 0) := by rw [cell_of_row _ _ _ _ _ _ r2]; rfl
        have c1 : w2.cell? ⟨w.heap.size, 1, none⟩ = some (.int .i64 0) := by rw [cell_of_row _ _ _ _ _ _ r2]; rfl
        have c7 : w2.cell? ⟨w.heap.size, 7, none⟩ = some (.int .i64 0) := by rw [cell_of_row _ _ _ _ _ _ r2]; rfl
        clear r0 r2 k0 k2
        go_wp2_with fail
        go_ret
        refine ⟨KB.out, ?_⟩
        rw [OK.out]
        first
          | exact .inl ⟨by omega, rfl⟩
          | exact .inr ⟨by omega, rfl⟩
          | exact .inl ⟨by simp, rfl⟩
          | exact .inr ⟨fun h => by have := h.2.2 trivial; omega, rfl⟩
      · have h8 := hn0 h5
        clear hn0
        go_enter Tryz.func12, Tryz.ntmps12
        go_wp2_with fail
        have r0 := heap_alloc_new w (.cells #[.int .i64 n, .int .i64 m, .int .i64 a, .int .i64 d, .int .i64 i, .int .i64 z, .int .i64 c, .int .i64 b] 25)
        have k0 : Below w.heap.size w (w.alloc (.cells #[.int .i64 n, .int .i64 m, .int .i64 a, .int .i64 d, .int .i64 i, .int .i64 z, .int .i64 c, .int .i64 b] 25)) := (Below.refl _ _).alloc (Nat.le_refl _) _
        refine (PC.out _).mono ?_
        rintro e w2 ⟨k2, ⟨-, rfl⟩ | ⟨hno, -⟩⟩
        rotate_left
        · exact absurd HP.out hno
        have KB := Lib.hid (below_more k0 k2)
        have r2 := (k2.block _ (lt_of_block r0)).trans r0
        have c0 : w2.cell? ⟨w.heap.size, 0, none⟩ = some (.int .i64 n) := by rw [cell_of_row _ _ _ _ _ _ r2]; rfl
        have c1 : w2.cell? ⟨w.heap.size, 1, none⟩ = some (.int .i64 m) := by rw [cell_of_row _ _ _ _ _ _ r2]; rfl
        have c7 : w2.cell? ⟨w.heap.size, 7, none⟩ = some (.int .i64 b) := by rw [cell_of_row _ _ _ _ _ _ r2]; rfl
        clear r0 r2 k0 k2
        go_wp2_with fail
        go_ret
        refine ⟨KB.out, ?_⟩
        rw [OK.out]
        first
          | exact .inl ⟨by omega, rfl⟩
          | exact .inr ⟨by omega, rfl⟩
          | exact .inl ⟨by simp, rfl⟩
          | exact .inr ⟨fun h => by have := h.2.2 trivial; omega, rfl⟩
    · have HP := Lib.hid hp
      have NO : Hid (¬ headOk n m a d i z c b) := Lib.hid (fun h => hp (HO.out.1 h).2)
      clear hp HO
      go_enter Tryz.func12, Tryz.ntmps12
      go_wp2_with fail
      have k0 : Below w.heap.size w (w.alloc (.cells #[.int .i64 n, .int .i64 m, .int .i64 a, .int .i64 d, .int .i64 i, .int .i64 z, .int .i64 c, .int .i64 b] 25)) := (Below.refl _ _).alloc (Nat.le_refl _) _
      refine (PC.out _).mono ?_
      rintro e w2 ⟨k2, ⟨hok, -⟩ | ⟨-, rfl⟩⟩
      · exact absurd hok HP.out
      have KB := Lib.hid (below_more k0 k2)
      clear k0 k2
      go_wp2_with fail
      go_ret
      exact ⟨KB.out, .inr ⟨NO.out, rfl⟩⟩
  · have NO : Hid (¬ headOk n m a d i z c b) := Lib.hid (fun hp => hb (by have h := (HO.out.1 hp).1; exact ⟨h.1, h.2.1, h.2.2.1, h.2.2.2.1⟩))
    have hc : n < 0 ∨ (0 ≤ n ∧ 65536 < n) ∨ (0 ≤ n ∧ n ≤ 65536 ∧ m < 0) ∨ (0 ≤ n ∧ n ≤ 65536 ∧ 0 ≤ m ∧ 1048576 < m) := by omega
    clear hb HO
    rcases hc with h1 | ⟨h1, h2⟩ | ⟨h1, h2, h3⟩ | ⟨h1, h2, h3, h4⟩
    all_goals
      go_enter Tryz.func12, Tryz.ntmps12
      go_wp2_with fail
      go_ret
      exact ⟨(by repeat (first | exact Below.refl _ _ | refine below_drewN ?_ _ | refine Below.setCell ?_ (by simp; try omega) _ | refine Below.alloc ?_ (by simp; try omega) _)), .inr ⟨NO.out, rfl⟩⟩

theorem params_any (a d i z c : Int) (w : World) :
    Calls Tryz.prog 14 #[.agg #[.int .i64 a, .int .i64 d, .int .i64 i, .int .i64 z, .int .i64 c]] w fun e w' => e = .returned (.agg #[.int .i64 a, .int .i64 d, .int .i64 i, .int .i64 z, .int .i64 c]) ∧ Below w.heap.size w w' := by
  go_enter Tryz.func14, Tryz.ntmps14
  go_wp2_with fail
  refine bodyPost_ret (v := .agg #[.int .i64 a, .int .i64 d, .int .i64 i, .int .i64 z, .int .i64 c]) (by simp [results, Tryz.results14, go_sem]) rfl ⟨rfl, (by repeat (first | exact Below.refl _ _ | refine below_drewN ?_ _ | refine Below.setCell ?_ (by simp; try omega) _ | refine Below.alloc ?_ (by simp; try omega) _))⟩

/-- the argument's row stands -/
def HB (w : World) (t : Nat) (row : Array Value) (T : TypeId) (w' : World) : Prop := w'.heap[t]? = some (.cells row T (0, 0)) ∧ Below w.heap.size w w'
theorem HB.set {w w' : World} {t : Nat} {row : Array Value} {T : TypeId} (h : HB w t row T w') (p : Addr) (hp : p.block ≠ t) (hs : w.heap.size ≤ p.block) (v : Value) : HB w t row T (w'.setCell p v) :=
  ⟨(Below.heap_setCell w' p v t (Ne.symm hp)).trans h.1, h.2.setCell hs v⟩
theorem HB.next {w w' w2 : World} {t : Nat} {row : Array Value} {T : TypeId} (h : HB w t row T w') (k : Below w'.heap.size w' w2) : HB w t row T w2 :=
  ⟨(k.block _ (lt_of_block h.1)).trans h.1, below_more h.2 k⟩

end Go.Proofs.YthaicpbdlhkkkaaGreatDoor.pk
