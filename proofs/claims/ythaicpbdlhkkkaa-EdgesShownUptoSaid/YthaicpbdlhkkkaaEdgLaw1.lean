/- The walk of EdgesReads: a text is read as the document says, by Parse and by a reader. -/
import Derived.Test.YthaicpbdlhkkkaaEdgProgD
namespace Go.Proofs.Ythaicpbdlhkkkaa.edg
open Go.RowKit

theorem ar1 : parseRes 10 ⟨#[49, 32, 50, 10, 35, 32, 110, 111, 10, 10, 51, 32, 57, 10]⟩ = ([(1, 2), (3, 9)], 0, 0) := by decide +kernel
theorem ar2 : parseRes 10 ⟨#[49, 32, 50, 10, 51, 32, 49, 48]⟩ = ([], 2, 15) := by decide +kernel

theorem parse_is (n : Int) (s : ByteArray) (l : List (Nat × Nat)) (a b : Nat) (h : parseRes n s = (l, a, b)) (w : World) :
    Calls Try.prog 10 #[.int .i64 n, .string s] w fun e w' => ∃ v, e = .returned (.tuple #[v, .int .i64 a, .int .i64 b]) ∧ w'.ownsRow w.heap.size 37 2 v l.length (edgeCells l) ∧ Below w.heap.size w w' :=
  (parse_any n s w).mono fun e w' hh => by unfold ParsePost at hh; rw [h] at hh; exact hh
theorem refParse_is (n : Int) (s : ByteArray) (l : List (Nat × Nat)) (a b : Nat) (h : parseRes n s = (l, a, b)) (w : World) :
    Calls Try.prog 11 #[.int .i64 n, .string s] w fun e w' => ∃ v, e = .returned (.tuple #[v, .int .i64 a, .int .i64 b]) ∧ w'.ownsRow w.heap.size 37 2 v l.length (edgeCells l) ∧ Below w.heap.size w w' :=
  (refParse_any n s w).mono fun e w' hh => by unfold ParsePost at hh; rw [h] at hh; exact hh

set_option maxRecDepth 20000 in
set_option maxHeartbeats 800000 in
theorem awake_any (w : World) :
    Calls Try.prog 15 #[] w fun e w' => e = .returned (.bool true) ∧ Below w.heap.size w w' := by
  go_enter Try.func15, Try.ntmps15
  go_wp2_with fail
  refine (parse_is 10 _ _ _ _ ar1 _).mono ?_
  rintro e w1 ⟨v1, rfl, ho1, hb1⟩
  rcases own_cases ho1 with ⟨h1, _⟩ | ⟨g, cap, rfl, hg1, hg2, hg3, hg4, hcell⟩
  · cases h1
  have k1 := cell_row ho1 rfl 1 (by decide)
  have hz1 := hb1.size
  go_wp2_with fail
  refine (parse_is 10 _ _ _ _ ar2 _).mono ?_
  rintro e w2 ⟨v2, rfl, ho2, hb2⟩
  have q1 : w2.cell? ⟨g, 2, none⟩ = some (.int .u32 3) := by rw [hb2.cell (p := ⟨g, 2, none⟩) hg2]; exact k1.1
  have q2 : w2.cell? ⟨g, 3, none⟩ = some (.int .u32 9) := by rw [hb2.cell (p := ⟨g, 3, none⟩) hg2]; exact k1.2
  have HB := Lib.hid (hb1.trans (hb2.mono hz1))
  clear k1 hcell ho1 ho2 hb1 hb2
  unfold maxLen at hg4
  go_wp2_with fail
  go_ret
  exact ⟨rfl, HB.out⟩

end Go.Proofs.Ythaicpbdlhkkkaa.edg
