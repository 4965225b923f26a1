/- Contracts of the document's Parse, and of the statement's own 'same'. -/
import Derived.Test.YthaicpbdlhkkkaaEdgRefB
namespace Go.Proofs.Ythaicpbdlhkkkaa.edg
open Go.RowKit

def edgeCells (l : List (Nat × Nat)) : List Value := l.flatMap fun t => [.int .u32 t.1, .int .u32 t.2]
theorem edgeCells_snoc (l : List (Nat × Nat)) (x y : Nat) : edgeCells l ++ [.int .u32 x, .int .u32 y] = edgeCells (l ++ [(x, y)]) := by simp [edgeCells]

/-- what Parse answers: the edges, the bad line, the error -/
def parseRes (n : Int) (s : ByteArray) : List (Nat × Nat) × Nat × Nat :=
  if mayRead n s = true then
    if 0 < (scan n (lines s.data.toList) 0).2 then ([], (scan n (lines s.data.toList) 0).2, 15) else ((scan n (lines s.data.toList) 0).1.map (·.1), 0, 0)
  else ([], 0, 1)

def ParsePost (n : Int) (s : ByteArray) (w : World) (e : Ending) (w' : World) : Prop :=
  ∃ v, e = .returned (.tuple #[v, .int .i64 (parseRes n s).2.1, .int .i64 (parseRes n s).2.2]) ∧
    w'.ownsRow w.heap.size 37 2 v (parseRes n s).1.length (edgeCells (parseRes n s).1) ∧ Below w.heap.size w w'

theorem Try.infoEdge : (Try.prog.info? 37).map (fun i => (i.zero, i.size, i.bytes)) = some (some (.agg #[.int .u32 0, .int .u32 0]), 2, 8) := by kernel_rfl
theorem edge_oneCell (x y : Int) : ∀ u ∈ [Value.int .u32 x, .int .u32 y], u.oneCell' = true := by
  intro u hu; simp at hu; rcases hu with rfl | rfl <;> rfl

theorem told_at (l : List ((Nat × Nat) × Nat)) (k : Nat) (h : k < l.length) :
    (toldCells l)[k * 3]? = some (.int .u32 l[k].1.1) ∧ (toldCells l)[k * 3 + 1]? = some (.int .u32 l[k].1.2) ∧ (toldCells l)[k * 3 + 2]? = some (.int .i64 l[k].2) := by
  induction l generalizing k with
  | nil => simp at h
  | cons t l ih =>
    cases k with
    | zero => simp [toldCells]
    | succ k =>
      have := ih k (by simpa using h)
      have e : toldCells (t :: l) = [.int .u32 t.1.1, .int .u32 t.1.2, .int .i64 t.2] ++ toldCells l := by simp [toldCells]
      rw [e, show (k + 1) * 3 = 3 + k * 3 from by omega]
      simp only [List.getElem_cons_succ]
      refine ⟨?_, ?_, ?_⟩
      · rw [List.getElem?_append_right (by simp)]; simpa using this.1
      · rw [List.getElem?_append_right (by simp; omega), show 3 + k * 3 + 1 - [Value.int .u32 t.1.1, .int .u32 t.1.2, .int .i64 t.2].length = k * 3 + 1 from by simp; omega]; exact this.2.1
      · rw [List.getElem?_append_right (by simp; omega), show 3 + k * 3 + 2 - [Value.int .u32 t.1.1, .int .u32 t.1.2, .int .i64 t.2].length = k * 3 + 2 from by simp; omega]; exact this.2.2
theorem edge_at (l : List (Nat × Nat)) (k : Nat) (h : k < l.length) :
    (edgeCells l)[k * 2]? = some (.int .u32 l[k].1) ∧ (edgeCells l)[k * 2 + 1]? = some (.int .u32 l[k].2) := by
  induction l generalizing k with
  | nil => simp at h
  | cons t l ih =>
    cases k with
    | zero => simp [edgeCells]
    | succ k =>
      have := ih k (by simpa using h)
      have e : edgeCells (t :: l) = [.int .u32 t.1, .int .u32 t.2] ++ edgeCells l := by simp [edgeCells]
      rw [e, show (k + 1) * 2 = 2 + k * 2 from by omega]
      simp only [List.getElem_cons_succ]
      refine ⟨?_, ?_⟩
      · rw [List.getElem?_append_right (by simp)]; simpa using this.1
      · rw [List.getElem?_append_right (by simp; omega), show 2 + k * 2 + 1 - [Value.int .u32 t.1, .int .u32 t.2].length = k * 2 + 1 from by simp; omega]; exact this.2

theorem may_is (n : Int) (s : ByteArray) (b : Bool) (h : mayRead n s = b) (w : World) :
    Calls Try.prog 14 #[.int .i64 n, .string s] w fun e w' => e = .returned (.bool b) ∧ w = w' :=
  (may_any n s w).mono fun e w' hh => ⟨by rw [hh.1, h], hh.2⟩

set_option maxHeartbeats 1600000 in
theorem refParse_any (n : Int) (s : ByteArray) (w : World) :
    Calls Try.prog 11 #[.int .i64 n, .string s] w (ParsePost n s w) := by
  obtain ⟨i0, hi, hz0, hz1, hz2⟩ := info_parts Try.infoEdge
  rcases hm : mayRead n s with _ | _
  · have HM := Lib.hid hm
    have R : Hid (parseRes n s = ([], 0, 1)) := Lib.hid (by unfold parseRes; rw [if_neg (by rw [hm]; simp)])
    clear hm
    go_enter Try.func11, Try.ntmps11
    go_wp2_with fail
    refine (may_is _ _ _ HM.out _).mono ?_
    rintro e w' ⟨rfl, rfl⟩
    go_wp2_with fail
    go_ret3
    exact ⟨_, by rw [R.out]; rfl, by rw [R.out]; exact World.ownsRow_nil _ _ _ _, Below.refl _ _⟩
  · have HM := Lib.hid hm
    have hs : s.size ≤ 16777216 := by unfold mayRead at hm; simp at hm; omega
    have R0 : Hid (parseRes n s = if 0 < (scan n (lines s.data.toList) 0).2 then ([], (scan n (lines s.data.toList) 0).2, 15) else ((scan n (lines s.data.toList) 0).1.map (·.1), 0, 0)) := Lib.hid (by
      unfold parseRes; rw [if_pos hm])
    clear hm
    go_enter Try.func11, Try.ntmps11
    go_wp2_with fail
    refine (may_is _ _ _ HM.out _).mono ?_
    rintro e w' ⟨rfl, rfl⟩
    go_wp2_with fail
    refine (all_any n s _ hs).mono ?_
    rintro e w1 ⟨vT, rfl, hownT, hbT, hTs⟩
    generalize scan n (lines s.data.toList) 0 = r at R0 hownT hTs ⊢
    obtain ⟨T, bad⟩ := r
    simp only [] at R0 hownT hTs ⊢
    have hw1 := hbT.size
    by_cases hbad : 0 < bad
    · have R : Hid (parseRes n s = ([], bad, 15)) := Lib.hid (by rw [R0.out, if_pos hbad])
      clear hownT R0
      go_wp2_with fail
      go_ret3
      exact ⟨_, by rw [R.out]; rfl, by rw [R.out]; exact World.ownsRow_nil _ _ _ _, hbT⟩
    · have R : Hid (parseRes n s = (T.map (·.1), 0, 0)) := Lib.hid (by rw [R0.out, if_neg hbad])
      clear R0
      rcases own_cases hownT with ⟨h0, rfl⟩ | ⟨g, cap, rfl, hg1, hg2, hg3, hg4, hcell⟩
      · have hT : T = [] := List.eq_nil_of_length_eq_zero h0
        have R' : Hid (parseRes n s = ([], 0, 0)) := Lib.hid (by rw [R.out, hT]; rfl)
        clear hT hownT R
        go_wp2_with fail
        refine wp_loop_rounds 1 ?_
        rw [rounds_succ]
        go_wp2_with fail
        go_ret3
        exact ⟨_, by rw [R'.out]; rfl, by rw [R'.out]; exact World.ownsRow_nil _ _ _ _, hbT⟩
      · have HC : Hid (∀ k (h : k < T.length), w1.cell? ⟨g, k * 3, none⟩ = some (.int .u32 T[k].1.1) ∧ w1.cell? ⟨g, k * 3 + 1, none⟩ = some (.int .u32 T[k].1.2)) := Lib.hid (by
          intro k h
          rw [hcell (k * 3) (by omega), hcell (k * 3 + 1) (by omega)]
          exact ⟨(told_at T k h).1, (told_at T k h).2.1⟩)
        clear hcell hownT
        unfold maxLen at hg4
        go_wp2_with fail
        go_loopw [9, 10] (fun v i wr => ∃ k : Nat, k ≤ T.length ∧ i = .int .i64 k ∧ wr.ownsRow w1.heap.size 37 2 v k (edgeCells ((T.map (·.1)).take k)) ∧ Below w1.heap.size w1 wr)
          (fun _ i _ => T.length - (intOf i).toNat)
        case atStart => exact ⟨0, Nat.zero_le _, rfl, World.ownsRow_nil _ _ _ _, Below.refl _ _⟩
        case round =>
          obtain ⟨k, hk, rfl, hown, hb⟩ := hrel
          by_cases hlt : k < T.length
          · have hck := HC.out k hlt
            rw [← hb.cell (p := ⟨g, k * 3, none⟩) hg2, ← hb.cell (p := ⟨g, k * 3 + 1, none⟩) hg2] at hck
            obtain ⟨hc1, hc2⟩ := hck
            have htk : Hid ((T.map (·.1)).take (k + 1) = (T.map (·.1)).take k ++ [T[k].1]) := Lib.hid (by
              rw [List.take_succ_eq_append_getElem (by simpa using hlt)]; simp)
            go_wp2_with (at_builtin; refine wpList_append_own _ rfl _ _ 22 rfl w1.heap.size 37 i0 _ 2 8 Try.underlying22 hi hz0 hz1 hz2 rfl (by decide) _ k (edgeCells ((T.map (·.1)).take k)) rfl (hown.alloc _) ⟨wr.heap.size, 0, none⟩ 1 1 [.int .u32 T[k].1.1, .int .u32 T[k].1.2] rfl rfl ?c1 (edge_oneCell _ _) ?c3 ?c4 ?c5 ?_)
            try case c1 => exact cells_new' _ [.int .u32 T[k].1.1, .int .u32 T[k].1.2] _ _ rfl
            case c3 => simp only [maxLen]; omega
            case c4 => omega
            case c5 => have := hb.size; simp; omega
            intro v1 w3 hown3 hg3 _
            have hb3 := below_append hb hown hg3
            have hown4 : w3.ownsRow w1.heap.size 37 2 v1 (k + 1) (edgeCells ((T.map (·.1)).take (k + 1))) := by
              rw [htk.out, ← edgeCells_snoc]; exact hown3
            clear hown3 hown hg3
            go_wp2_with fail
            go_roundw
            case rel => exact ⟨k + 1, by omega, by go_num, hown4, hb3⟩
            case measure => simp [intOf]; omega
          · obtain rfl : k = T.length := by omega
            clear hlt hk
            have hown' : wr.ownsRow w1.heap.size 37 2 u9 (T.map (·.1)).length (edgeCells (T.map (·.1))) := by
              have := hown; rw [List.take_of_length_le (by simp)] at this; rw [List.length_map]; exact this
            clear hown
            go_wp2_with fail
            go_ret3
            exact ⟨_, by rw [R.out]; rfl, by rw [R.out]; exact own_base hown' hw1, hbT.trans (hb.mono hw1)⟩

/-! ### same -/
theorem cell_row {w : World} {g : Nat} {l : List (Nat × Nat)} {n cap base : Nat} (h : w.ownsRow base 37 2 (.slice (some ⟨g, 0, none⟩) n cap) n (edgeCells l)) (hn : n = l.length) (k : Nat) (hk : k < l.length) :
    w.cell? ⟨g, k * 2, none⟩ = some (.int .u32 l[k].1) ∧ w.cell? ⟨g, k * 2 + 1, none⟩ = some (.int .u32 l[k].2) := by
  rw [h.cellAt (k * 2) (by omega), h.cellAt (k * 2 + 1) (by omega)]
  exact edge_at l k hk

theorem own_shape {w : World} {base : Nat} {e : TypeId} {size n : Nat} {v : Value} {xs : List Value} (h : w.ownsRow base e size v n xs) : ∃ a cap, v = .slice a n cap := by
  rcases h.2 with ⟨rfl, rfl⟩ | ⟨g, cap, cur, rfl, _⟩
  · exact ⟨_, _, rfl⟩
  · exact ⟨_, _, rfl⟩

theorem same_zero (a b : Option Addr) (c d : Nat) (w : World) :
    Calls Try.prog 12 #[.slice a 0 c, .slice b 0 d] w fun e w' => e = .returned (.bool true) ∧ w = w' := by
  go_enter Try.func12, Try.ntmps12
  go_wp2_with fail
  refine wp_loop_rounds 1 ?_
  rw [rounds_succ]
  go_wp2_with fail
  go_ret
  exact ⟨rfl, rfl⟩

set_option maxHeartbeats 1600000 in
theorem same_more (l : List (Nat × Nat)) (g g' cap cap' : Nat) (w : World) (h0 : 0 < l.length) (hm : l.length ≤ 9223372036854775807)
    (HA : Hid (∀ k (h : k < l.length), w.cell? ⟨g, k * 2, none⟩ = some (.int .u32 l[k].1) ∧ w.cell? ⟨g, k * 2 + 1, none⟩ = some (.int .u32 l[k].2)))
    (HB : Hid (∀ k (h : k < l.length), w.cell? ⟨g', k * 2, none⟩ = some (.int .u32 l[k].1) ∧ w.cell? ⟨g', k * 2 + 1, none⟩ = some (.int .u32 l[k].2))) :
    Calls Try.prog 12 #[.slice (some ⟨g, 0, none⟩) l.length cap, .slice (some ⟨g', 0, none⟩) l.length cap'] w fun e w' => e = .returned (.bool true) ∧ ∃ m, w.drewN m = w' := by
  go_enter Try.func12, Try.ntmps12
  go_wp2_with fail
  go_loopw [5] (fun i wr => ∃ k m : Nat, k ≤ l.length ∧ i = .int .i64 k ∧ wr = w.drewN m) (fun i _ => l.length - (intOf i).toNat)
  case atStart => exact ⟨0, 0, Nat.zero_le _, rfl, rfl⟩
  case round =>
    obtain ⟨k, m, hk, rfl, rfl⟩ := hrel
    by_cases hlt : k < l.length
    · obtain ⟨a1, a2⟩ := HA.out k hlt
      obtain ⟨b1, b2⟩ := HB.out k hlt
      go_wp2_with fail
      go_quiet (fail)
      go_wp2_with fail
      go_roundw
      case rel => exact ⟨k + 1, m + nq, by omega, by go_num, rfl⟩
      case measure => simp [intOf]; omega
    · go_wp2_with fail
      go_ret
      exact ⟨rfl, m, rfl⟩

theorem same_yes (l : List (Nat × Nat)) (va vb : Value) (ba bb : Nat) (w : World)
    (ha : w.ownsRow ba 37 2 va l.length (edgeCells l)) (hb : w.ownsRow bb 37 2 vb l.length (edgeCells l)) :
    Calls Try.prog 12 #[va, vb] w fun e w' => e = .returned (.bool true) ∧ ∃ m, w.drewN m = w' := by
  by_cases h0 : l.length = 0
  · obtain ⟨a, c, rfl⟩ := own_shape ha
    obtain ⟨b, d, rfl⟩ := own_shape hb
    rw [h0]
    exact (same_zero a b c d w).mono fun e w' hh => ⟨hh.1, 0, hh.2⟩
  · rcases own_cases ha with ⟨h1, _⟩ | ⟨g, cap, rfl, hg1, hg2, hg3, hg4, hcell⟩
    · exact absurd h1 h0
    rcases own_cases hb with ⟨h1, _⟩ | ⟨g', cap', rfl, hg1', hg2', hg3', hg4', hcell'⟩
    · exact absurd h1 h0
    unfold maxLen at hg4
    exact same_more l g g' cap cap' w (by omega) (by omega) (Lib.hid fun k h => cell_row ha rfl k h) (Lib.hid fun k h => cell_row hb rfl k h)

end Go.Proofs.Ythaicpbdlhkkkaa.edg
