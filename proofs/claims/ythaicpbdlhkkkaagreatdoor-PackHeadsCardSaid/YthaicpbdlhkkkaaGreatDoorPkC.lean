/- pack: Check, and the document's. -/
import Derived.BigQuiet
import Derived.Test.YthaicpbdlhkkkaaGreatDoorPkB
namespace Go.Proofs.YthaicpbdlhkkkaaGreatDoor.pk
open Go.RowKit Go.Proofs.YthaicpbdlhkkkaaGreatDoor.own Go.Proofs.YthaicpbdlhkkkaaGreatDoor.bit

def listOk (a i z : Int) : Prop := 0 ≤ a ∧ a ≤ 16 ∧ 1 ≤ z ∧ z ≤ 16 ∧ (i = 0 ∨ 2 ≤ i ∧ i ≤ 64)
def parOk (a d i z c : Int) : Prop := 0 ≤ d ∧ d ≤ 16 ∧ 0 ≤ c ∧ c ≤ 65536 ∧ listOk a i z
def headOk (n m a d i z c b : Int) : Prop := 0 ≤ n ∧ n ≤ 65536 ∧ 0 ≤ m ∧ m ≤ 1048576 ∧ 0 ≤ b ∧ b ≤ 134217728 ∧ (n = 0 → m = 0 ∧ b = 0) ∧ parOk a d i z c
/-- a call that tells whether: 0, or 1 -/
def Told (ok : Prop) (w : World) (e : Ending) (w' : World) : Prop :=
  Below w.heap.size w w' ∧ ((ok ∧ e = .returned (.int .i64 0)) ∨ (¬ ok ∧ e = .returned (.int .i64 1)))
theorem below_more {w w' w2 : World} (h : Below w.heap.size w w') (k : Below w'.heap.size w' w2) : Below w.heap.size w w2 := h.trans (k.mono h.size)
theorem Told.iff {p q : Prop} {w w' : World} {e : Ending} (h : Told p w e w') (hpq : p ↔ q) : Told q w e w' := by
  obtain ⟨hb, h | h⟩ := h
  · exact ⟨hb, .inl ⟨hpq.1 h.1, h.2⟩⟩
  · exact ⟨hb, .inr ⟨fun hq => h.1 (hpq.2 hq), h.2⟩⟩

set_option maxRecDepth 100000 in
theorem lcheck_any (a i z : Int) (w : World) :
    Calls Tryz.prog 45 #[.agg #[.int .i64 a, .int .i64 i, .int .i64 z]] w (Told (listOk a i z) w) := by
  go_enter Tryz.func45, Tryz.ntmps45
  go_wp2_with fail
  all_goals
    go_ret
    refine ⟨(by repeat (first | exact Below.refl _ _ | refine below_drewN ?_ _ | refine Below.setCell ?_ (by simp; try omega) _ | refine Below.alloc ?_ (by simp; try omega) _)), ?_⟩
    unfold listOk
    first
      | exact .inl ⟨by omega, rfl⟩
      | exact .inr ⟨by omega, rfl⟩
      | (exfalso; rename_i hh; obtain ⟨hh1, hh2⟩ := hh; omega)
      | (rename_i hh; rcases hh with hh | ⟨hh1, hh2⟩; first | exact .inl ⟨by omega, rfl⟩ | (exfalso; simp at hh; omega); exact .inl ⟨by omega, rfl⟩)

set_option maxRecDepth 100000 in
theorem dlcheck_any (a i z : Int) (w : World) :
    Calls Tryz.prog 46 #[.agg #[.int .i64 a, .int .i64 i, .int .i64 z]] w (Told (listOk a i z) w) := by
  go_enter Tryz.func46, Tryz.ntmps46
  go_wp2_with fail
  all_goals
    go_ret
    refine ⟨(by repeat (first | exact Below.refl _ _ | refine below_drewN ?_ _ | refine Below.setCell ?_ (by simp; try omega) _ | refine Below.alloc ?_ (by simp; try omega) _)), ?_⟩
    unfold listOk
    first
      | exact .inl ⟨by omega, rfl⟩
      | exact .inr ⟨by omega, rfl⟩
      | (simp only [bne_iff_ne, ne_eq] at *; first | exact .inl ⟨by omega, rfl⟩ | exact .inr ⟨by omega, rfl⟩)

theorem plist_any (a d i z c : Int) (w : World) :
    Calls Tryz.prog 44 #[.agg #[.int .i64 a, .int .i64 d, .int .i64 i, .int .i64 z, .int .i64 c]] w fun e w' => e = .returned (.agg #[.int .i64 a, .int .i64 i, .int .i64 z]) ∧ Below w.heap.size w w' := by
  go_enter Tryz.func44, Tryz.ntmps44
  go_wp2_with fail
  refine bodyPost_ret (v := .agg #[.int .i64 a, .int .i64 i, .int .i64 z]) (by simp [results, Tryz.results44, go_sem]) rfl ⟨rfl, (by repeat (first | exact Below.refl _ _ | refine below_drewN ?_ _ | refine Below.setCell ?_ (by simp; try omega) _ | refine Below.alloc ?_ (by simp; try omega) _))⟩
theorem dplist_any (a d i z c : Int) (w : World) :
    Calls Tryz.prog 47 #[.agg #[.int .i64 a, .int .i64 d, .int .i64 i, .int .i64 z, .int .i64 c]] w fun e w' => e = .returned (.agg #[.int .i64 a, .int .i64 i, .int .i64 z]) ∧ Below w.heap.size w w' := by
  go_enter Tryz.func47, Tryz.ntmps47
  go_wp2_with fail
  refine bodyPost_ret (v := .agg #[.int .i64 a, .int .i64 i, .int .i64 z]) (by simp [results, Tryz.results47, go_sem]) rfl ⟨rfl, (by repeat (first | exact Below.refl _ _ | refine below_drewN ?_ _ | refine Below.setCell ?_ (by simp; try omega) _ | refine Below.alloc ?_ (by simp; try omega) _))⟩

set_option maxRecDepth 100000 in
theorem pcheck_any (a d i z c : Int) (w : World) :
    Calls Tryz.prog 26 #[.agg #[.int .i64 a, .int .i64 d, .int .i64 i, .int .i64 z, .int .i64 c]] w (Told (parOk a d i z c) w) := by
  have PL := Lib.hid (fun W => plist_any a d i z c W)
  have LC := Lib.hid (fun W => lcheck_any a i z W)
  by_cases h : 0 ≤ d ∧ d ≤ 16 ∧ 0 ≤ c ∧ c ≤ 65536
  · obtain ⟨h1, h2, h3, h4⟩ := h
    have OK : Hid (listOk a i z ↔ parOk a d i z c) := Lib.hid (by unfold parOk; exact ⟨fun h => ⟨h1, h2, h3, h4, h⟩, fun h => h.2.2.2.2⟩)
    go_enter Tryz.func26, Tryz.ntmps26
    go_wp2_with fail
    refine (PL.out _).mono ?_
    rintro e w1 ⟨rfl, k1⟩
    go_wp2_with fail
    refine (LC.out _).mono ?_
    rintro e w2 ht
    have KB : Below w.heap.size w w2 := below_more (below_more ((Below.refl _ _).alloc (Nat.le_refl _) _) k1) ht.1
    obtain ⟨-, ⟨hok, rfl⟩ | ⟨hno, rfl⟩⟩ := ht
    · have H := Lib.hid (OK.out.1 hok)
      clear hok
      go_wp2_with fail
      go_ret
      exact ⟨KB, .inl ⟨H.out, rfl⟩⟩
    · have H := Lib.hid (fun hp => hno (OK.out.2 hp))
      clear hno
      go_wp2_with fail
      go_ret
      exact ⟨KB, .inr ⟨H.out, rfl⟩⟩
  · have NO : Hid (¬ parOk a d i z c) := Lib.hid (fun hp => h (by unfold parOk at hp; exact ⟨hp.1, hp.2.1, hp.2.2.1, hp.2.2.2.1⟩))
    have hc : d < 0 ∨ (0 ≤ d ∧ 16 < d) ∨ (0 ≤ d ∧ d ≤ 16 ∧ c < 0) ∨ (0 ≤ d ∧ d ≤ 16 ∧ 0 ≤ c ∧ 65536 < c) := by omega
    clear h
    rcases hc with h1 | ⟨h1, h2⟩ | ⟨h1, h2, h3⟩ | ⟨h1, h2, h3, h4⟩
    all_goals
      go_enter Tryz.func26, Tryz.ntmps26
      go_wp2_with fail
      go_ret
      exact ⟨(by repeat (first | exact Below.refl _ _ | refine below_drewN ?_ _ | refine Below.setCell ?_ (by simp; try omega) _ | refine Below.alloc ?_ (by simp; try omega) _)), .inr ⟨NO.out, rfl⟩⟩
end Go.Proofs.YthaicpbdlhkkkaaGreatDoor.pk
