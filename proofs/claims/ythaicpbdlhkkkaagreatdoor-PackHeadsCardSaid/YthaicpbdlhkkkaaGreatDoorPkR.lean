/- pack: the walk of PackHeads. -/
import Derived.Test.YthaicpbdlhkkkaaGreatDoorPkQ
namespace Go.Proofs.YthaicpbdlhkkkaaGreatDoor.pk
open Go.RowKit Go.Proofs.YthaicpbdlhkkkaaGreatDoor.own Go.Proofs.YthaicpbdlhkkkaaGreatDoor.bit Go.Proofs.YthaicpbdlhkkkaaGreatDoor.ef

/-- three heads in memory -/
def R3 (w : World) (hb xb yb : Nat) (n m a d i z c b n' m' a' d' i' z' c' b' : Int) (W : World) : Prop :=
  W.heap[hb]? = some (.cells #[.int .i64 n, .int .i64 m, .int .i64 a, .int .i64 d, .int .i64 i, .int .i64 z, .int .i64 c, .int .i64 b] 25 (0, 0)) ∧ W.heap[xb]? = some (.cells #[.int .i64 n', .int .i64 m', .int .i64 a', .int .i64 d', .int .i64 i', .int .i64 z', .int .i64 c', .int .i64 b'] 30 (0, 0)) ∧ W.heap[yb]? = some (.cells #[.int .i64 n', .int .i64 m', .int .i64 a', .int .i64 d', .int .i64 i', .int .i64 z', .int .i64 c', .int .i64 b'] 25 (0, 0)) ∧ Below w.heap.size w W
theorem R3.next {w W W2 : World} {hb xb yb : Nat} {n m a d i z c b n' m' a' d' i' z' c' b' : Int} (h : R3 w hb xb yb n m a d i z c b n' m' a' d' i' z' c' b' W) (k : Below W.heap.size W W2) : R3 w hb xb yb n m a d i z c b n' m' a' d' i' z' c' b' W2 :=
  ⟨(k.block _ (lt_of_block h.1)).trans h.1, (k.block _ (lt_of_block h.2.1)).trans h.2.1, (k.block _ (lt_of_block h.2.2.1)).trans h.2.2.1, below_more h.2.2.2 k⟩
theorem R3.drew {w W : World} {hb xb yb : Nat} {n m a d i z c b n' m' a' d' i' z' c' b' : Int} (h : R3 w hb xb yb n m a d i z c b n' m' a' d' i' z' c' b' W) : R3 w hb xb yb n m a d i z c b n' m' a' d' i' z' c' b' W.drew := h.next (Below.drew (Below.refl _ _))
theorem R3.below {w W : World} {hb xb yb : Nat} {n m a d i z c b n' m' a' d' i' z' c' b' : Int} (h : R3 w hb xb yb n m a d i z c b n' m' a' d' i' z' c' b' W) : Below w.heap.size w W := h.2.2.2
def eight (W : World) (b : Nat) (x0 x1 x2 x3 x4 x5 x6 x7 : Int) : Prop := W.cell? ⟨b, 0, none⟩ = some (.int .i64 x0) ∧ W.cell? ⟨b, 1, none⟩ = some (.int .i64 x1) ∧ W.cell? ⟨b, 2, none⟩ = some (.int .i64 x2) ∧ W.cell? ⟨b, 3, none⟩ = some (.int .i64 x3) ∧ W.cell? ⟨b, 4, none⟩ = some (.int .i64 x4) ∧ W.cell? ⟨b, 5, none⟩ = some (.int .i64 x5) ∧ W.cell? ⟨b, 6, none⟩ = some (.int .i64 x6) ∧ W.cell? ⟨b, 7, none⟩ = some (.int .i64 x7)
theorem eight_of {W : World} {t : Nat} {n m a d i z c b : Int} {T : TypeId} (g : W.heap[t]? = some (.cells #[.int .i64 n, .int .i64 m, .int .i64 a, .int .i64 d, .int .i64 i, .int .i64 z, .int .i64 c, .int .i64 b] T (0, 0))) : eight W t n m a d i z c b := by
  refine ⟨?_, ?_, ?_, ?_, ?_, ?_, ?_, ?_⟩
  all_goals
    rw [cell_of_row _ _ _ _ _ _ g]
    rfl

theorem R3.mk {w W : World} {hb xb yb : Nat} {n m a d i z c b n' m' a' d' i' z' c' b' : Int} (h : R3 w hb xb yb n m a d i z c b n' m' a' d' i' z' c' b' W) : W.cell? ⟨hb, 0, none⟩ = some (.int .i64 n) ∧ W.cell? ⟨hb, 1, none⟩ = some (.int .i64 m) ∧ W.cell? ⟨hb, 2, none⟩ = some (.int .i64 a) ∧ W.cell? ⟨hb, 3, none⟩ = some (.int .i64 d) ∧ W.cell? ⟨hb, 4, none⟩ = some (.int .i64 i) ∧ W.cell? ⟨hb, 5, none⟩ = some (.int .i64 z) ∧ W.cell? ⟨hb, 6, none⟩ = some (.int .i64 c) ∧ W.cell? ⟨hb, 7, none⟩ = some (.int .i64 b) ∧ W.cell? ⟨xb, 0, none⟩ = some (.int .i64 n') ∧ W.cell? ⟨xb, 1, none⟩ = some (.int .i64 m') ∧ W.cell? ⟨xb, 2, none⟩ = some (.int .i64 a') ∧ W.cell? ⟨xb, 3, none⟩ = some (.int .i64 d') ∧ W.cell? ⟨xb, 4, none⟩ = some (.int .i64 i') ∧ W.cell? ⟨xb, 5, none⟩ = some (.int .i64 z') ∧ W.cell? ⟨xb, 6, none⟩ = some (.int .i64 c') ∧ W.cell? ⟨xb, 7, none⟩ = some (.int .i64 b') ∧ W.cell? ⟨yb, 0, none⟩ = some (.int .i64 n') ∧ W.cell? ⟨yb, 1, none⟩ = some (.int .i64 m') ∧ W.cell? ⟨yb, 2, none⟩ = some (.int .i64 a') ∧ W.cell? ⟨yb, 3, none⟩ = some (.int .i64 d') ∧ W.cell? ⟨yb, 4, none⟩ = some (.int .i64 i') ∧ W.cell? ⟨yb, 5, none⟩ = some (.int .i64 z') ∧ W.cell? ⟨yb, 6, none⟩ = some (.int .i64 c') ∧ W.cell? ⟨yb, 7, none⟩ = some (.int .i64 b') ∧ R3 w hb xb yb n m a d i z c b n' m' a' d' i' z' c' b' W := by
  obtain ⟨p0, p1, p2, p3, p4, p5, p6, p7⟩ := eight_of h.1
  obtain ⟨q0, q1, q2, q3, q4, q5, q6, q7⟩ := eight_of h.2.1
  obtain ⟨s0, s1, s2, s3, s4, s5, s6, s7⟩ := eight_of h.2.2.1
  exact ⟨p0, p1, p2, p3, p4, p5, p6, p7, q0, q1, q2, q3, q4, q5, q6, q7, s0, s1, s2, s3, s4, s5, s6, s7, h⟩

set_option maxRecDepth 100000 in
set_option maxHeartbeats 6400000 in
theorem packHeads_walk (n m a d i z c b : Int) (s : ByteArray) (hs : s.size ≤ 1073741824000000) (w : World)
    (AW : ∀ W, Below w.heap.size w W → Calls Tryz.prog 13 #[] W fun e w' => e = .returned (.bool true) ∧ Below W.heap.size W w') :
    Calls Tryz.prog 3 #[headV n m a d i z c b, .string s] w fun e w' => e = .returned (.bool true) ∧ Below w.heap.size w w' := by
  obtain ⟨tv, te, T1, T2⟩ := text_same n m a d i z c b
  obtain ⟨sv, se, S1, S2⟩ := size_same n m a d i z c b
  obtain ⟨ce, C1, C2⟩ := check_same n m a d i z c b
  obtain ⟨n', m', a', d', i', z', c', b', re, D1, D2⟩ := read_same s hs
  have T1 := Lib.hid T1
  have T2 := Lib.hid T2
  have S1 := Lib.hid S1
  have S2 := Lib.hid S2
  have C1 := Lib.hid C1
  have C2 := Lib.hid C2
  have D1 := Lib.hid D1
  have D2 := Lib.hid D2
  have AW := Lib.hid AW
  have PH := Lib.hid (fun W => head_any n m a d i z c b W)
  have PY := Lib.hid (fun W => head_any n' m' a' d' i' z' c' b' W)
  unfold headV at T1 T2 S1 S2 C1 C2 D1 D2 PH PY ⊢
  go_enter Tryz.func3, Tryz.ntmps3
  go_upto_region 1 with fail
  have r0 := heap_alloc_new w (.cells #[.int .i64 n, .int .i64 m, .int .i64 a, .int .i64 d, .int .i64 i, .int .i64 z, .int .i64 c, .int .i64 b] 25)
  have k0 : Below w.heap.size w (w.alloc (.cells #[.int .i64 n, .int .i64 m, .int .i64 a, .int .i64 d, .int .i64 i, .int .i64 z, .int .i64 c, .int .i64 b] 25)) := (Below.refl _ _).alloc (Nat.le_refl _) _
  generalize w.alloc (.cells #[.int .i64 n, .int .i64 m, .int .i64 a, .int .i64 d, .int .i64 i, .int .i64 z, .int .i64 c, .int .i64 b] 25) = w0 at r0 k0 ⊢
  obtain ⟨hb, hhb⟩ : ∃ k, w.heap.size = k := ⟨_, rfl⟩
  have H0 : Hid (HB w hb #[.int .i64 n, .int .i64 m, .int .i64 a, .int .i64 d, .int .i64 i, .int .i64 z, .int .i64 c, .int .i64 b] 25 w0) := Lib.hid ⟨by rw [← hhb]; exact r0, k0⟩
  rw [hhb]
  clear r0 k0 hhb
  obtain ⟨e0, e1, e2, e3, e4, e5, e6, e7⟩ := eight_of H0.out.1
  go_wp2_with fail
  refine (PH.out _).mono ?_
  clear e0 e1 e2 e3 e4 e5 e6 e7
  rintro e w1 ⟨rfl, k1⟩
  have H1 := Lib.hid (H0.out.next k1)
  obtain ⟨e0, e1, e2, e3, e4, e5, e6, e7⟩ := eight_of H1.out.1
  clear k1 H0
  go_wp2_with fail
  refine (T1.out _).mono ?_
  clear e0 e1 e2 e3 e4 e5 e6 e7
  rintro e w2 ⟨rfl, k2⟩
  have H2 := Lib.hid (H1.out.next k2)
  obtain ⟨e0, e1, e2, e3, e4, e5, e6, e7⟩ := eight_of H2.out.1
  clear k2 H1
  go_wp2_with fail
  refine (T2.out _).mono ?_
  clear e0 e1 e2 e3 e4 e5 e6 e7
  rintro e w3 ⟨rfl, k3⟩
  have H3 := Lib.hid (H2.out.next k3)
  obtain ⟨e0, e1, e2, e3, e4, e5, e6, e7⟩ := eight_of H3.out.1
  clear k3 H2
  go_wp2_with fail
  refine (PH.out _).mono ?_
  clear e0 e1 e2 e3 e4 e5 e6 e7
  rintro e w4 ⟨rfl, k4⟩
  have H4 := Lib.hid (H3.out.next k4)
  obtain ⟨e0, e1, e2, e3, e4, e5, e6, e7⟩ := eight_of H4.out.1
  clear k4 H3
  go_wp2_with fail
  refine (S1.out _).mono ?_
  clear e0 e1 e2 e3 e4 e5 e6 e7
  rintro e w5 ⟨rfl, k5⟩
  have H5 := Lib.hid (H4.out.next k5)
  obtain ⟨e0, e1, e2, e3, e4, e5, e6, e7⟩ := eight_of H5.out.1
  clear k5 H4
  go_wp2_with fail
  refine (S2.out _).mono ?_
  clear e0 e1 e2 e3 e4 e5 e6 e7
  rintro e w6 ⟨rfl, k6⟩
  have H6 := Lib.hid (H5.out.next k6)
  obtain ⟨e0, e1, e2, e3, e4, e5, e6, e7⟩ := eight_of H6.out.1
  clear k6 H5
  clear e0 e1 e2 e3 e4 e5 e6 e7
  go_wp2_with fail
  refine (D1.out _).mono ?_
  rintro e w7 ⟨rfl, k7⟩
  have h7 := H6.out.next k7
  go_upto_region 6 with fail
  have rx := heap_alloc_new w7 (.cells #[.int .i64 n', .int .i64 m', .int .i64 a', .int .i64 d', .int .i64 i', .int .i64 z', .int .i64 c', .int .i64 b'] 30)
  have h8 := h7.next ((Below.refl _ _).alloc (Nat.le_refl _) (.cells #[.int .i64 n', .int .i64 m', .int .i64 a', .int .i64 d', .int .i64 i', .int .i64 z', .int .i64 c', .int .i64 b'] 30))
  generalize w7.alloc (.cells #[.int .i64 n', .int .i64 m', .int .i64 a', .int .i64 d', .int .i64 i', .int .i64 z', .int .i64 c', .int .i64 b'] 30) = w8 at rx h8 ⊢
  obtain ⟨xb, hxb⟩ : ∃ k, w7.heap.size = k := ⟨_, rfl⟩
  rw [hxb] at rx ⊢
  have H8 := Lib.hid h8
  have RX := Lib.hid rx
  clear h7 h8 rx k7 hxb H6
  go_wp2_with fail
  refine (D2.out _).mono ?_
  rintro e w9 ⟨rfl, k9⟩
  go_upto_region 7 with fail
  have h9 := H8.out.next k9
  have rx := (k9.block _ (lt_of_block RX.out)).trans RX.out
  have ky : Below w9.heap.size w9 (w9.alloc (.cells #[.int .i64 n', .int .i64 m', .int .i64 a', .int .i64 d', .int .i64 i', .int .i64 z', .int .i64 c', .int .i64 b'] 25)) := (Below.refl _ _).alloc (Nat.le_refl _) _
  have ry := heap_alloc_new w9 (.cells #[.int .i64 n', .int .i64 m', .int .i64 a', .int .i64 d', .int .i64 i', .int .i64 z', .int .i64 c', .int .i64 b'] 25)
  have h10 := h9.next ky
  have rx := (ky.block _ (lt_of_block rx)).trans rx
  generalize w9.alloc (.cells #[.int .i64 n', .int .i64 m', .int .i64 a', .int .i64 d', .int .i64 i', .int .i64 z', .int .i64 c', .int .i64 b'] 25) = w10 at rx ry h10 ⊢
  obtain ⟨yb, hyb⟩ : ∃ k, w9.heap.size = k := ⟨_, rfl⟩
  rw [hyb] at ry ⊢
  have H0 : R3 w hb xb yb n m a d i z c b n' m' a' d' i' z' c' b' w10 := ⟨h10.1, rx, ry, h10.2⟩
  clear h9 rx ry h10 ky k9 hyb RX H8
  have MK : Hid (∀ W, R3 w hb xb yb n m a d i z c b n' m' a' d' i' z' c' b' W → W.cell? ⟨hb, 0, none⟩ = some (.int .i64 n) ∧ W.cell? ⟨hb, 1, none⟩ = some (.int .i64 m) ∧ W.cell? ⟨hb, 2, none⟩ = some (.int .i64 a) ∧ W.cell? ⟨hb, 3, none⟩ = some (.int .i64 d) ∧ W.cell? ⟨hb, 4, none⟩ = some (.int .i64 i) ∧ W.cell? ⟨hb, 5, none⟩ = some (.int .i64 z) ∧ W.cell? ⟨hb, 6, none⟩ = some (.int .i64 c) ∧ W.cell? ⟨hb, 7, none⟩ = some (.int .i64 b) ∧ W.cell? ⟨xb, 0, none⟩ = some (.int .i64 n') ∧ W.cell? ⟨xb, 1, none⟩ = some (.int .i64 m') ∧ W.cell? ⟨xb, 2, none⟩ = some (.int .i64 a') ∧ W.cell? ⟨xb, 3, none⟩ = some (.int .i64 d') ∧ W.cell? ⟨xb, 4, none⟩ = some (.int .i64 i') ∧ W.cell? ⟨xb, 5, none⟩ = some (.int .i64 z') ∧ W.cell? ⟨xb, 6, none⟩ = some (.int .i64 c') ∧ W.cell? ⟨xb, 7, none⟩ = some (.int .i64 b') ∧ W.cell? ⟨yb, 0, none⟩ = some (.int .i64 n') ∧ W.cell? ⟨yb, 1, none⟩ = some (.int .i64 m') ∧ W.cell? ⟨yb, 2, none⟩ = some (.int .i64 a') ∧ W.cell? ⟨yb, 3, none⟩ = some (.int .i64 d') ∧ W.cell? ⟨yb, 4, none⟩ = some (.int .i64 i') ∧ W.cell? ⟨yb, 5, none⟩ = some (.int .i64 z') ∧ W.cell? ⟨yb, 6, none⟩ = some (.int .i64 c') ∧ W.cell? ⟨yb, 7, none⟩ = some (.int .i64 b') ∧ R3 w hb xb yb n m a d i z c b n' m' a' d' i' z' c' b' W) := Lib.hid (fun W h => h.mk)
  go_region_held3 (fun w' => w'.cell? ⟨hb, 0, none⟩ = some (.int .i64 n) ∧ w'.cell? ⟨hb, 1, none⟩ = some (.int .i64 m) ∧ w'.cell? ⟨hb, 2, none⟩ = some (.int .i64 a) ∧ w'.cell? ⟨hb, 3, none⟩ = some (.int .i64 d) ∧ w'.cell? ⟨hb, 4, none⟩ = some (.int .i64 i) ∧ w'.cell? ⟨hb, 5, none⟩ = some (.int .i64 z) ∧ w'.cell? ⟨hb, 6, none⟩ = some (.int .i64 c) ∧ w'.cell? ⟨hb, 7, none⟩ = some (.int .i64 b) ∧ w'.cell? ⟨xb, 0, none⟩ = some (.int .i64 n') ∧ w'.cell? ⟨xb, 1, none⟩ = some (.int .i64 m') ∧ w'.cell? ⟨xb, 2, none⟩ = some (.int .i64 a') ∧ w'.cell? ⟨xb, 3, none⟩ = some (.int .i64 d') ∧ w'.cell? ⟨xb, 4, none⟩ = some (.int .i64 i') ∧ w'.cell? ⟨xb, 5, none⟩ = some (.int .i64 z') ∧ w'.cell? ⟨xb, 6, none⟩ = some (.int .i64 c') ∧ w'.cell? ⟨xb, 7, none⟩ = some (.int .i64 b') ∧ w'.cell? ⟨yb, 0, none⟩ = some (.int .i64 n') ∧ w'.cell? ⟨yb, 1, none⟩ = some (.int .i64 m') ∧ w'.cell? ⟨yb, 2, none⟩ = some (.int .i64 a') ∧ w'.cell? ⟨yb, 3, none⟩ = some (.int .i64 d') ∧ w'.cell? ⟨yb, 4, none⟩ = some (.int .i64 i') ∧ w'.cell? ⟨yb, 5, none⟩ = some (.int .i64 z') ∧ w'.cell? ⟨yb, 6, none⟩ = some (.int .i64 c') ∧ w'.cell? ⟨yb, 7, none⟩ = some (.int .i64 b') ∧ R3 w hb xb yb n m a d i z c b n' m' a' d' i' z' c' b' w')
    (first
      | (refine MK.out _ ?_; with_reducible exact R3.drew H0)
      | (refine MK.out _ ?_; with_reducible exact h2))
    (first
    | (go_at_call_of 4 (Value.agg #[.int .i64 n', .int .i64 m', .int .i64 a', .int .i64 d', .int .i64 i', .int .i64 z', .int .i64 c', .int .i64 b']); refine (PY.out _).mono ?_; rintro e w3 ⟨rfl, k1⟩; (first | have h2 := R3.next (by with_reducible assumption) k1 | have h2 := R3.next (R3.drew (by with_reducible assumption)) k1); clear k1)
    | (go_at_call_of 4 (Value.agg #[.int .i64 n, .int .i64 m, .int .i64 a, .int .i64 d, .int .i64 i, .int .i64 z, .int .i64 c, .int .i64 b]); refine (PH.out _).mono ?_; rintro e w3 ⟨rfl, k1⟩; (first | have h2 := R3.next (by with_reducible assumption) k1 | have h2 := R3.next (R3.drew (by with_reducible assumption)) k1); clear k1)
    | (go_at_call 11; refine (C1.out _).mono ?_; rintro e w3 ⟨rfl, k1⟩; (first | have h2 := R3.next (by with_reducible assumption) k1 | have h2 := R3.next (R3.drew (by with_reducible assumption)) k1); clear k1)
    | (go_at_call 12; refine (C2.out _).mono ?_; rintro e w3 ⟨rfl, k1⟩; (first | have h2 := R3.next (by with_reducible assumption) k1 | have h2 := R3.next (R3.drew (by with_reducible assumption)) k1); clear k1)
    | (go_at_call 13; refine (AW.out _ ?_).mono ?_; (first | (with_reducible exact R3.below h2) | (with_reducible exact R3.below (R3.drew h2))); rintro e w3 ⟨rfl, k1⟩; have h2 := R3.next (by with_reducible assumption) k1; clear k1; have KK := Lib.hid (R3.below h2)))
  go_wp2_with fail
  go_ret
  exact ⟨rfl, KK.out⟩
end Go.Proofs.YthaicpbdlhkkkaaGreatDoor.pk
