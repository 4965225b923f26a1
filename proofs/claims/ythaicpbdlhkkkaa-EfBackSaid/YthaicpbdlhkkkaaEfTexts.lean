/- Statement EfTexts: the walk of the law: a text is read by place, byte for byte. -/
import Derived.BigQuiet
import Derived.BigRegion
import Derived.WalkKit
import Derived.WalkSpells
import Derived.Lib.Hide
import Derived.Lib.Strings
import Derived.IntWalk
import Derived.Test.YthaicpbdlhkkkaaEvE
import Derived.Test.YthaicpbdlhkkkaaRows
namespace Go.Proofs.Ythaicpbdlhkkkaa.efT
open Go.RowKit

/-- what awake() answers, in whatever world -/
theorem awake_run : ev.isTrue (ev.callA Try.prog (ev.tabP Try.prog) (ev.codeQ Try.prog (ev.tabP Try.prog) 1000000) 25 [] ⟨.leaf, 1000⟩) = true := by kernel_rfl
theorem awake_any (w : World) : Calls Try.prog 25 #[] w fun e w' => e = .returned (.bool true) ∧ Below w.heap.size w w' :=
  ev.toldL (n := 1000000) (ev.tabP_ok (by kernel_rfl)) (by kernel_rfl) (ev.Laid.leaf w) awake_run

theorem readAt_no (s : ByteArray) (off n : Int) (hs : s.size ≤ maxLen) (h : off < 0 ∨ (¬ off < 0 ∧ n < 0) ∨ (¬ off < 0 ∧ ¬ n < 0 ∧ (s.size : Int) < off) ∨ (¬ off < 0 ∧ ¬ n < 0 ∧ ¬ (s.size : Int) < off ∧ (s.size : Int) - off < n)) (w : World) :
    Calls Try.prog 24 #[.string s, .int .i64 off, .int .i64 n] w fun e w' => e = .returned (.tuple #[.string ⟨#[]⟩, .int .i64 1]) ∧ w = w' := by
  unfold maxLen at hs
  rcases h with h | ⟨h1, h⟩ | ⟨h1, h2, h⟩ | ⟨h1, h2, h3, h⟩
  case' inr.inr.inr => have hw : IntKind.i64.wrap ((s.size : Int) - off) = (s.size : Int) - off := IntWalk.i64_in _ (by omega)
  all_goals
    go_enter Try.func24, Try.ntmps24
    go_wp2_with fail
    go_ret2
    exact ⟨rfl, rfl⟩

theorem readAt_yes (s : ByteArray) (off n : Nat) (hs : s.size ≤ maxLen) (h : off + n ≤ s.size) (w : World) :
    Calls Try.prog 24 #[.string s, .int .i64 off, .int .i64 n] w fun e w' => e = .returned (.tuple #[.string (s.extract off (off + n)), .int .i64 0]) ∧ w = w' := by
  unfold maxLen at hs
  have h1 : ¬ (off : Int) < 0 := by omega
  have h2 : ¬ (n : Int) < 0 := by omega
  have h3 : ¬ (s.size : Int) < (off : Int) := by omega
  have h4 : ¬ (s.size : Int) - (off : Int) < (n : Int) := by omega
  have hw : IntKind.i64.wrap ((s.size : Int) - (off : Int)) = (s.size : Int) - (off : Int) := IntWalk.i64_in _ (by omega)
  have hw2 : IntKind.i64.wrap ((off : Int) + (n : Int)) = (off : Int) + (n : Int) := IntWalk.i64_in _ (by omega)
  go_enter Try.func24, Try.ntmps24
  go_wp2_with fail
  go_ret2
  exact ⟨rfl, rfl⟩

theorem length_any (s : ByteArray) (w : World) :
    Calls Try.prog 26 #[.string s] w fun e w' => e = .returned (.int .i64 s.size) ∧ w = w' := by
  go_enter Try.func26, Try.ntmps26
  go_wp2_with fail
  go_ret
  exact ⟨rfl, rfl⟩

set_option maxHeartbeats 3200000 in
theorem efTexts_walk (s : ByteArray) (off n : Int) (hs : s.size ≤ maxLen) (w : World) :
    Calls Try.prog 7 #[.string s, .int .i64 off, .int .i64 n] w fun e w' => e = .returned (.bool true) ∧ Below w.heap.size w w' := by
  by_cases h : off < 0 ∨ (¬ off < 0 ∧ n < 0) ∨ (¬ off < 0 ∧ ¬ n < 0 ∧ (s.size : Int) < off) ∨ (¬ off < 0 ∧ ¬ n < 0 ∧ ¬ (s.size : Int) < off ∧ (s.size : Int) - off < n)
  · have RA := Lib.hid (readAt_no s off n hs h w)
    have hs2 := hs
    unfold maxLen at hs2
    rcases h with h | ⟨h1, h⟩ | ⟨h1, h2, h⟩ | ⟨h1, h2, h3, h⟩
    case' inr.inr.inr => have hw : IntKind.i64.wrap ((s.size : Int) - off) = (s.size : Int) - off := IntWalk.i64_in _ (by omega)
    all_goals
      go_enter Try.func7, Try.ntmps7
      go_wp2_with fail
      refine RA.out.mono ?_
      rintro e w1 ⟨rfl, rfl⟩
      go_wp2_with fail
      refine (awake_any _).mono ?_
      rintro e w1 ⟨rfl, hb⟩
      have HB := Lib.hid hb
      clear hb
      go_wp2_with fail
      go_ret
      exact ⟨rfl, HB.out⟩
  · have hs2 := hs
    unfold maxLen at hs2
    obtain ⟨o, rfl⟩ : ∃ o : Nat, off = o := ⟨off.toNat, by omega⟩
    obtain ⟨m, rfl⟩ : ∃ m : Nat, n = m := ⟨n.toNat, by omega⟩
    have hle : o + m ≤ s.size := by omega
    have h1 : ¬ (o : Int) < 0 := by omega
    have h2 : ¬ (m : Int) < 0 := by omega
    have h3 : ¬ (s.size : Int) < (o : Int) := by omega
    have h4 : ¬ (s.size : Int) - (o : Int) < (m : Int) := by omega
    have hw : IntKind.i64.wrap ((s.size : Int) - (o : Int)) = (s.size : Int) - (o : Int) := IntWalk.i64_in _ (by omega)
    have hw2 : IntKind.i64.wrap ((o : Int) + (m : Int)) = (o : Int) + (m : Int) := IntWalk.i64_in _ (by omega)
    clear h
    go_enter Try.func7, Try.ntmps7
    go_wp2_with fail
    refine (readAt_yes s o m hs hle _).mono ?_
    rintro e w1 ⟨rfl, rfl⟩
    go_wp2_with fail
    refine (length_any s _).mono ?_
    rintro e w1 ⟨rfl, rfl⟩
    go_wp2_with fail
    refine (awake_any _).mono ?_
    rintro e w1 ⟨rfl, hb⟩
    have HB := Lib.hid hb
    clear hb
    go_wp2_with fail
    go_ret
    exact ⟨rfl, HB.out⟩
end Go.Proofs.Ythaicpbdlhkkkaa.efT
