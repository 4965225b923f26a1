/- strings.Cut at a separator of one byte: it returns what 'cutAt' says. -/
import Derived.Test.YthaicpbdlhkkkaaEdgRef
import Derived.Test.YthaicpbdlhkkkaaShelf
namespace Go.Proofs.Ythaicpbdlhkkkaa.edg
open Go.RowKit

theorem cut_none (c : UInt8) : ∀ l : B, Lib.indexByte l c = -1 → cutAt c l = (l, [], false)
  | [], _ => rfl
  | x :: r, h => by
    unfold Lib.indexByte at h
    by_cases hx : x = c
    · simp [hx] at h
    · have hb : (x == c) = false := by simpa using hx
      simp only [hb, Bool.false_eq_true, if_false] at h
      have hge := Lib.indexByte_ge r c
      have h2 : Lib.indexByte r c = -1 := by
        by_cases h3 : Lib.indexByte r c = -1
        · exact h3
        · have hb3 : (Lib.indexByte r c == -1) = false := beqF h3
          rw [hb3] at h
          simp at h
          omega
      simp only [cutAt, if_neg hx, cut_none c r h2]
theorem cut_some (c : UInt8) : ∀ (l : B) (i : Nat), Lib.indexByte l c = i → i < l.length ∧ cutAt c l = (l.take i, l.drop (i + 1), true)
  | [], i, h => by simp [Lib.indexByte] at h
  | x :: r, i, h => by
    unfold Lib.indexByte at h
    by_cases hx : x = c
    · simp [hx] at h
      obtain rfl : i = 0 := by omega
      subst hx
      simp [cutAt]
    · have hb : (x == c) = false := by simpa using hx
      simp only [hb, Bool.false_eq_true, if_false] at h
      have hge := Lib.indexByte_ge r c
      by_cases h3 : Lib.indexByte r c = -1
      · rw [h3] at h; simp at h
      · have hb3 : (Lib.indexByte r c == -1) = false := beqF h3
        rw [hb3] at h
        simp only [Bool.false_eq_true, if_false] at h
        obtain ⟨j, rfl⟩ : ∃ j : Nat, i = j + 1 := ⟨(Lib.indexByte r c).toNat, by omega⟩
        have := cut_some c r j (by omega)
        refine ⟨by simp; omega, ?_⟩
        simp only [cutAt, if_neg hx, this.2]
        simp

def CutPost (c : UInt8) (s : ByteArray) (w : World) (e : Ending) (w' : World) : Prop :=
  ∃ a b : ByteArray, e = .returned (.tuple #[.string a, .string b, .bool (cutAt c s.data.toList).2.2]) ∧ a.data.toList = (cutAt c s.data.toList).1 ∧ b.data.toList = (cutAt c s.data.toList).2.1 ∧ ∃ m, w.drewN m = w'

set_option maxHeartbeats 800000 in
theorem slCut_one (c : UInt8) (s : ByteArray) (w : World) (hs : s.size ≤ maxLen) :
    Calls Try.prog 69 #[.string s, .string ⟨#[c]⟩] w (CutPost c s w) := by
  unfold maxLen at hs
  have hge := Lib.indexByte_ge s.data.toList c
  rcases Int.lt_or_le (Lib.indexByte s.data.toList c) 0 with hlt | hle
  · have hi : Lib.indexByte s.data.toList c = -1 := by omega
    have HC := Lib.hid (cut_none c _ hi)
    go_enter Try.func69, Try.ntmps69
    go_wp2_with fail
    refine (Try.stringslite_Index_one s c _).mono ?_
    rintro e w' ⟨rfl, rfl⟩
    rw [hi]
    clear hi hlt hge
    go_wp2_with fail
    go_ret3
    exact ⟨s, ByteArray.empty, by rw [HC.out]; rfl, by rw [HC.out], by rw [HC.out]; rfl, 0, rfl⟩
  · obtain ⟨i, hi⟩ : ∃ i : Nat, Lib.indexByte s.data.toList c = i := ⟨(Lib.indexByte s.data.toList c).toNat, by omega⟩
    obtain ⟨hil, hc⟩ := cut_some c _ i hi
    rw [size_len] at hil
    have HC := Lib.hid hc
    clear hc hle hge
    go_enter Try.func69, Try.ntmps69
    go_wp2_with fail
    refine (Try.stringslite_Index_one s c _).mono ?_
    rintro e w' ⟨rfl, rfl⟩
    rw [hi]
    clear hi
    go_wp2_with fail
    go_quiet (fail)
    go_wp2_with fail
    go_ret3
    exact ⟨s.extract 0 i, s.extract (i + 1) s.size, by rw [HC.out]; rfl, by rw [HC.out, take_extract], by rw [HC.out, Lib.extract_to_end], _, rfl⟩

theorem cut_one (c : UInt8) (s : ByteArray) (w : World) (hs : s.size ≤ maxLen) :
    Calls Try.prog 40 #[.string s, .string ⟨#[c]⟩] w (CutPost c s w) := by
  go_enter Try.func40, Try.ntmps40
  go_wp2_with fail
  refine (slCut_one c s _ hs).mono ?_
  rintro e w' ⟨a, b, rfl, ha, hb, m, rfl⟩
  have HA := Lib.hid ha
  have HB := Lib.hid hb
  clear ha hb
  go_wp2_with fail
  go_ret3
  exact ⟨a, b, rfl, HA.out, HB.out, m, rfl⟩

end Go.Proofs.Ythaicpbdlhkkkaa.edg
