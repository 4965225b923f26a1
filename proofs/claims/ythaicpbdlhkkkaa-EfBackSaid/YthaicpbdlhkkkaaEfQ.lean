/- ef: several writers side by side; Put where it may be full. -/
import Derived.Test.YthaicpbdlhkkkaaEfO
import Derived.Deep.RegionHeld3
namespace Go.Proofs.Ythaicpbdlhkkkaa.ef
open Go.RowKit Go.Proofs.Ythaicpbdlhkkkaa.own Go.Proofs.Ythaicpbdlhkkkaa.bit

theorem ofN_zero (n : Nat) : ofN n 0 = List.replicate n false := by
  induction n with
  | zero => rfl
  | succ n ih => rw [ofN, ih, List.replicate_succ]; simp

theorem Put_full (x : Nat → Nat) (c : Nat) (w : World) (wb : Nat) (l : Bits) (v n : Nat) (hv : v < 2 ^ n) (hn : n ≤ 64) (hl : 134217728 < l.length + n) (h : WrC x c w wb l) :
    Calls Try.prog 65 #[.pointer (some ⟨wb, 0, none⟩), .int .u64 (v : Int), .int .i64 (n : Int)] w fun e w' => e = .returned (.int .i64 3) ∧ w = w' := by
  have FI := Lib.hid (fits_any v n w)
  have D : Hid (decide (64 ≤ n ∨ v < 2 ^ n) = true) := Lib.hid (decide_eq_true (.inr hv))
  have hll : l.length ≤ 134217728 := by obtain ⟨_, _, _, _, _, hl⟩ := h; exact hl
  have c1 : w.cell? ⟨wb, 1, none⟩ = some (.int .i64 (l.length : Int)) := by obtain ⟨_, h0, _⟩ := h; rw [cell_of_row w wb _ _ _ _ h0]; rfl
  obtain ⟨ll, hll2⟩ : ∃ k, l.length = k := ⟨_, rfl⟩
  rw [hll2] at c1 hl hll
  have i1 : ¬ (n : Int) < 0 := by omega
  have i2 : ¬ (64 : Int) < (n : Int) := by omega
  have i3 : (134217728 : Int) - (ll : Int) < (n : Int) := by omega
  have hw : IntKind.i64.wrap ((134217728 : Int) - (ll : Int)) = 134217728 - (ll : Int) := IntWalk.i64_in _ (by omega)
  clear h hv hn hl hll2
  go_enter Try.func65, Try.ntmps65
  go_wp2_with fail
  refine FI.out.mono ?_
  rintro e w1 ⟨rfl, rfl⟩
  rw [D.out]
  go_wp2_with fail
  go_ret
  exact ⟨rfl, rfl⟩

/-- writers side by side, all made after w0 -/
def BS (w0 : World) (ws : List (Nat × Bits)) (w' : World) : Prop :=
  ∃ x, Fr (fun _ => 100) x (fun c => c < 50) w0 w' ∧ ∀ i p, ws[i]? = some p → WrC x i w' p.1 p.2
theorem BS.start (w : World) : BS w [] w := ⟨fun _ => 100, Fr.refl _ _ _, fun i p h => by simp at h⟩
theorem BS.below {w0 w' : World} {ws : List (Nat × Bits)} (h : BS w0 ws w') : Below w0.heap.size w0 w' := by
  obtain ⟨x, hf, _⟩ := h
  exact fr_below hf (fun b _ => by show ¬ (100 : Nat) < 50; decide)
theorem BS.len_le {w0 w' : World} {ws : List (Nat × Bits)} (h : BS w0 ws w') {i : Nat} {p : Nat × Bits} (hp : ws[i]? = some p) : p.2.length ≤ 134217728 := by
  obtain ⟨x, _, hw⟩ := h
  obtain ⟨_, _, _, _, _, hl⟩ := hw i p hp
  exact hl
/-- what is made beside them bears a colour of its own -/
theorem BS.next {w0 w' w2 : World} {ws : List (Nat × Bits)} (h : BS w0 ws w') (hl : ws.length ≤ 40) (k : Below w'.heap.size w' w2) : BS w0 ws w2 := by
  obtain ⟨x, hf, hw⟩ := h
  have f2 : Fr x (paint x w'.heap.size 49) (fun c => c = 49) w' w2 := Fr.of_below k rfl
  refine ⟨_, hf.trans (f2.mono (fun c hc => by subst hc; decide)), fun i p hp => (hw i p hp).frame f2 ?_⟩
  have : i < ws.length := (List.getElem?_eq_some_iff.1 hp).1
  omega
theorem bs_new (w0 w : World) (ws : List (Nat × Bits)) (hl : ws.length ≤ 40) (h : BS w0 ws w) :
    Calls Try.prog 64 #[] w fun e w' => ∃ wb, e = .returned (.pointer (some ⟨wb, 0, none⟩)) ∧ BS w0 (ws ++ [(wb, [])]) w' := by
  obtain ⟨x, hf, hw⟩ := h
  refine (new_any x ws.length w).mono ?_
  rintro e w' ⟨wb, x', rfl, f2, h2, _, _⟩
  refine ⟨wb, rfl, x', hf.trans (f2.mono (fun c hc => by show c < 50; omega)), fun i p hp => ?_⟩
  by_cases hi : i < ws.length
  · rw [List.getElem?_append_left hi] at hp
    exact (hw i p hp).frame f2 (by omega)
  · rw [List.getElem?_append_right (by omega)] at hp
    have h0 : i - ws.length = 0 := by
      have := (List.getElem?_eq_some_iff.1 hp).1
      simp at this
      omega
    rw [h0] at hp
    simp at hp
    subst hp
    rw [show i = ws.length by omega]
    exact h2
theorem bs_put (w0 w : World) (ws : List (Nat × Bits)) (hl : ws.length ≤ 40) (i wb : Nat) (l : Bits) (hi : ws[i]? = some (wb, l)) (v n : Nat) (hv : v < 2 ^ n) (hn : n ≤ 64) (h : BS w0 ws w) :
    Calls Try.prog 65 #[.pointer (some ⟨wb, 0, none⟩), .int .u64 (v : Int), .int .i64 (n : Int)] w fun e w' => (∃ k : Int, e = .returned (.int .i64 k)) ∧ BS w0 (ws.set i (wb, if l.length + n ≤ 134217728 then l ++ ofN n v else l)) w' := by
  obtain ⟨x, hf, hw⟩ := h
  have hil : i < ws.length := (List.getElem?_eq_some_iff.1 hi).1
  have hwi := hw i _ hi
  by_cases hfit : l.length + n ≤ 134217728
  · rw [if_pos hfit]
    refine (Put_ok x i w wb l v n hv hn hfit hwi).mono ?_
    rintro e w' ⟨rfl, x', f2, h2⟩
    refine ⟨⟨0, rfl⟩, x', hf.trans (f2.mono (fun c hc => by show c < 50; omega)), fun j p hp => ?_⟩
    by_cases hj : j = i
    · subst hj
      rw [List.getElem?_set_self hil] at hp
      injection hp with hp
      subst hp
      exact h2
    · rw [List.getElem?_set_ne (by omega)] at hp
      exact (hw j p hp).frame f2 hj
  · rw [if_neg hfit]
    refine (Put_full x i w wb l v n hv hn (by omega) hwi).mono ?_
    rintro e w' ⟨rfl, rfl⟩
    refine ⟨⟨3, rfl⟩, x, hf, fun j p hp => ?_⟩
    have e : ws.set i (wb, l) = ws := by
      apply List.ext_getElem?
      intro m
      by_cases hm : m = i
      · subst hm; rw [List.getElem?_set_self hil, hi]
      · rw [List.getElem?_set_ne (by omega)]
    rw [e] at hp
    exact hw j p hp
theorem bs_len (w0 w : World) (ws : List (Nat × Bits)) (i wb : Nat) (l : Bits) (hi : ws[i]? = some (wb, l)) (h : BS w0 ws w) :
    Calls Try.prog 66 #[.pointer (some ⟨wb, 0, none⟩)] w fun e w' => e = .returned (.int .i64 (l.length : Int)) ∧ w = w' := by
  obtain ⟨x, _, hw⟩ := h
  exact len_any x i w wb l (hw i _ hi)
theorem bs_text (w0 w : World) (ws : List (Nat × Bits)) (i wb : Nat) (l : Bits) (hi : ws[i]? = some (wb, l)) (h : BS w0 ws w) :
    Calls Try.prog 67 #[.pointer (some ⟨wb, 0, none⟩)] w fun e w' => e = .returned (.tuple #[.string (txt (packN l)), .int .i64 0]) ∧ w = w' := by
  obtain ⟨x, _, hw⟩ := h
  exact text_any x i w wb l (hw i _ hi)
end Go.Proofs.Ythaicpbdlhkkkaa.ef
