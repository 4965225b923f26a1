/- pack: a head's Check, and the document's; heads turned into the program's. -/
import Derived.Deep.RegionLaw
import Derived.Test.YthaicpbdlhkkkaaGreatDoorPkC
namespace Go.Proofs.YthaicpbdlhkkkaaGreatDoor.pk
open Go.RowKit Go.Proofs.YthaicpbdlhkkkaaGreatDoor.own Go.Proofs.YthaicpbdlhkkkaaGreatDoor.bit

set_option maxRecDepth 100000 in
theorem dpcheck_any (a d i z c : Int) (w : World) :
    Calls Tryz.prog 27 #[.agg #[.int .i64 a, .int .i64 d, .int .i64 i, .int .i64 z, .int .i64 c]] w (Told (parOk a d i z c) w) := by
  have PL := Lib.hid (fun W => dplist_any a d i z c W)
  have LC := Lib.hid (fun W => dlcheck_any a i z W)
  by_cases hl : listOk a i z
  · have hc : (0 ≤ d ∧ d ≤ 16 ∧ 0 ≤ c ∧ c ≤ 65536) ∨ d < 0 ∨ (0 ≤ d ∧ 16 < d) ∨ (0 ≤ d ∧ d ≤ 16 ∧ c < 0) ∨ (0 ≤ d ∧ d ≤ 16 ∧ 0 ≤ c ∧ 65536 < c) := by omega
    have HL := Lib.hid hl
    have PO : Hid (parOk a d i z c ↔ 0 ≤ d ∧ d ≤ 16 ∧ 0 ≤ c ∧ c ≤ 65536) := Lib.hid (by unfold parOk; exact ⟨fun h => ⟨h.1, h.2.1, h.2.2.1, h.2.2.2.1⟩, fun h => ⟨h.1, h.2.1, h.2.2.1, h.2.2.2, hl⟩⟩)
    clear hl
    rcases hc with ⟨h1, h2, h3, h4⟩ | h1 | ⟨h1, h2⟩ | ⟨h1, h2, h3⟩ | ⟨h1, h2, h3, h4⟩
    all_goals
      go_enter Tryz.func27, Tryz.ntmps27
      go_wp2_with fail
      refine (PL.out _).mono ?_
      rintro e w1 ⟨rfl, k1⟩
      go_wp2_with fail
      refine (LC.out _).mono ?_
      rintro e w2 ⟨k2, ⟨-, rfl⟩ | ⟨hno, -⟩⟩
      rotate_left
      · exact absurd HL.out hno
      have KB : Below w.heap.size w w2 := below_more (below_more ((Below.refl _ _).alloc (Nat.le_refl _) (.cells #[.int .i64 a, .int .i64 d, .int .i64 i, .int .i64 z, .int .i64 c] 23)) k1) k2
      have r0 := heap_alloc_new w (.cells #[.int .i64 a, .int .i64 d, .int .i64 i, .int .i64 z, .int .i64 c] 23)
      have r2 := (below_more k1 k2).block _ (lt_of_block r0) |>.trans r0
      have c1 : w2.cell? ⟨w.heap.size, 1, none⟩ = some (.int .i64 d) := by rw [cell_of_row _ _ _ _ _ _ r2]; rfl
      have c4 : w2.cell? ⟨w.heap.size, 4, none⟩ = some (.int .i64 c) := by rw [cell_of_row _ _ _ _ _ _ r2]; rfl
      clear r0 r2 k1 k2
      go_wp2_with fail
      go_ret
      refine ⟨KB, ?_⟩
      rw [PO.out]
      first
        | exact .inl ⟨by omega, rfl⟩
        | exact .inr ⟨by omega, rfl⟩
  · have HL := Lib.hid hl
    have NO : Hid (¬ parOk a d i z c) := Lib.hid (fun hp => hl hp.2.2.2.2)
    clear hl
    go_enter Tryz.func27, Tryz.ntmps27
    go_wp2_with fail
    refine (PL.out _).mono ?_
    rintro e w1 ⟨rfl, k1⟩
    go_wp2_with fail
    refine (LC.out _).mono ?_
    rintro e w2 ⟨k2, ⟨hok, -⟩ | ⟨-, rfl⟩⟩
    · exact absurd hok HL.out
    have KB : Below w.heap.size w w2 := below_more (below_more ((Below.refl _ _).alloc (Nat.le_refl _) (.cells #[.int .i64 a, .int .i64 d, .int .i64 i, .int .i64 z, .int .i64 c] 23)) k1) k2
    clear k1 k2
    go_wp2_with fail
    go_ret
    exact ⟨KB, .inr ⟨NO.out, rfl⟩⟩

def headV (n m a d i z c b : Int) : Value := .agg #[.int .i64 n, .int .i64 m, .int .i64 a, .int .i64 d, .int .i64 i, .int .i64 z, .int .i64 c, .int .i64 b]

set_option maxRecDepth 100000 in
set_option maxHeartbeats 1600000 in
theorem hcheck_any (n m a d i z c b : Int) (w : World) :
    Calls Tryz.prog 11 #[headV n m a d i z c b] w (Told (headOk n m a d i z c b) w) := by
  have PC := Lib.hid (fun W => pcheck_any a d i z c W)
  unfold headV
  have HO : Hid (headOk n m a d i z c b ↔ (0 ≤ n ∧ n ≤ 65536 ∧ 0 ≤ m ∧ m ≤ 1048576 ∧ 0 ≤ b ∧ b ≤ 134217728 ∧ (n = 0 → m = 0 ∧ b = 0)) ∧ parOk a d i z c) := Lib.hid (by unfold headOk; exact ⟨fun h => ⟨⟨h.1, h.2.1, h.2.2.1, h.2.2.2.1, h.2.2.2.2.1, h.2.2.2.2.2.1, h.2.2.2.2.2.2.1⟩, h.2.2.2.2.2.2.2⟩, fun h => ⟨h.1.1, h.1.2.1, h.1.2.2.1, h.1.2.2.2.1, h.1.2.2.2.2.1, h.1.2.2.2.2.2.1, h.1.2.2.2.2.2.2, h.2⟩⟩)
  by_cases hb : 0 ≤ n ∧ n ≤ 65536 ∧ 0 ≤ m ∧ m ≤ 1048576 ∧ 0 ≤ b ∧ b ≤ 134217728 ∧ (n = 0 → m = 0 ∧ b = 0)
  · have OK : Hid (parOk a d i z c ↔ headOk n m a d i z c b) := Lib.hid (by rw [HO.out]; exact ⟨fun h => ⟨hb, h⟩, fun h => h.2⟩)
    obtain ⟨h1, h2, h3, h4, h5, h6, h7⟩ := hb
    have W1 : IntKind.i64.wrap (m + b) = m + b := IntWalk.i64_in _ (by omega)
    have hcase : (n = 0 ∧ m = 0 ∧ b = 0) ∨ (0 < n ∧ (n == 0) = false) := by
      by_cases h : n = 0
      · exact .inl ⟨h, (h7 h).1, (h7 h).2⟩
      · exact .inr ⟨by omega, beq_eq_false_iff_ne.2 h⟩
    clear h7
    rcases hcase with ⟨rfl, rfl, rfl⟩ | ⟨h8, h9⟩
    all_goals
      go_enter Tryz.func11, Tryz.ntmps11
      go_wp2_with fail
      refine (PC.out _).mono ?_
      rintro e w2 ht
      have KB : Below w.heap.size w w2 := below_more ((Below.refl _ _).alloc (Nat.le_refl _) _) ht.1
      obtain ⟨-, ⟨hok, rfl⟩ | ⟨hno, rfl⟩⟩ := ht
      · have H := Lib.hid (OK.out.1 hok)
        clear hok
        go_wp2_with fail
        go_ret
        exact ⟨KB, .inl ⟨H.out, rfl⟩⟩
      · have H := Lib.hid (fun hp => hno (OK.out.2 hp))
        clear hno
        go_wp2_with fail
        go_ret
        exact ⟨KB, .inr ⟨H.out, rfl⟩⟩
  · have NO : Hid (¬ headOk n m a d i z c b) := Lib.hid (fun hp => hb (HO.out.1 hp).1)
    have hc : n < 0 ∨ (0 ≤ n ∧ 65536 < n) ∨ (0 ≤ n ∧ n ≤ 65536 ∧ m < 0) ∨ (0 ≤ n ∧ n ≤ 65536 ∧ 0 ≤ m ∧ 1048576 < m) ∨ (0 ≤ n ∧ n ≤ 65536 ∧ 0 ≤ m ∧ m ≤ 1048576 ∧ b < 0) ∨ (0 ≤ n ∧ n ≤ 65536 ∧ 0 ≤ m ∧ m ≤ 1048576 ∧ 0 ≤ b ∧ 134217728 < b) ∨ (n = 0 ∧ 0 ≤ m ∧ m ≤ 1048576 ∧ 0 ≤ b ∧ b ≤ 134217728 ∧ 0 < m + b) := by omega
    clear hb HO
    rcases hc with h1 | ⟨h1, h2⟩ | ⟨h1, h2, h3⟩ | ⟨h1, h2, h3, h4⟩ | ⟨h1, h2, h3, h4, h5⟩ | ⟨h1, h2, h3, h4, h5, h6⟩ | ⟨rfl, h3, h4, h5, h6, h7⟩
    all_goals
      go_enter Tryz.func11, Tryz.ntmps11
      go_wp2_with fail
      go_ret
      exact ⟨(by repeat (first | exact Below.refl _ _ | refine below_drewN ?_ _ | refine Below.setCell ?_ (by simp; try omega) _ | refine Below.alloc ?_ (by simp; try omega) _)), .inr ⟨NO.out, rfl⟩⟩
end Go.Proofs.YthaicpbdlhkkkaaGreatDoor.pk
