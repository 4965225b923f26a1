/- codes: a reading: take, zeros. -/
import Derived.Test.YtflnpcgnenhogaaDoorLsF
import Derived.Test.YtflnpcgnenhogaaDoorBitR2
namespace Go.Proofs.YtflnpcgnenhogaaDoor.ls
open Go.RowKit Go.Proofs.YtflnpcgnenhogaaDoor.own Go.Proofs.YtflnpcgnenhogaaDoor.bit

theorem below_drewN {B : Nat} {w w' : World} (h : Below B w w') (n : Nat) : Below B w (w'.drewN n) := ⟨h.os, h.tape, h.output, h.size, h.block⟩
set_option maxRecDepth 100000 in
theorem Take_no (x : Nat → Nat) (c : Nat) (w : World) (rb : Nat) (s : ByteArray) (a n : Nat) (hn : n ≤ 64) (ha : 8 * s.size < a + n) (h : RdC x c w rb s a) :
    Calls Tryd.prog 77 #[.pointer (some ⟨rb, 0, none⟩), .int .i64 (n : Int)] w fun e w' => e = .returned (.tuple #[.int .u64 0, .int .i64 4]) ∧ Below w.heap.size w w' := by
  obtain ⟨h0, hx, hb, hs⟩ := h
  have hrl := lt_of_block h0
  have W1 : Hid (RdC (paint x w.heap.size c) c (w.alloc (.cells #[.pointer (some ⟨rb, 0, none⟩)] 52)) rb s a) := Lib.hid ⟨(Below.heap_alloc _ _ _ hrl).trans h0, by rw [paint_old hrl]; exact hx, hb, hs⟩
  clear h0
  have i1 : decide ((n : Int) < 0) = false := decide_eq_false (by omega)
  have i2 : decide ((64 : Int) < (n : Int)) = false := decide_eq_false (by omega)
  have i3 : decide (8 * s.size - a < n) = true := decide_eq_true (by omega)
  have i4 : decide (((8 * s.size - a : Nat) : Int) < (n : Int)) = true := decide_eq_true (by omega)
  go_enter Tryd.func77, Tryd.ntmps77
  go_wp2_with fail
  refine (left_any _ c _ rb s a W1.out).mono ?_
  rintro e w1 ⟨rfl, m1, rfl⟩
  go_wp2_with fail
  go_ret2
  exact ⟨rfl, below_drewN ((Below.refl _ _).alloc (Nat.le_refl _) _) m1⟩

/-- a reading in memory, its reader and rows beside: what was read since w -/
def RQ (x : Nat → Nat) (d t : Nat) (w : World) (rb qb : Nat) (s : ByteArray) (a : Nat) (bad : Bool) (ks : List (Nat × Obj)) (W : World) : Prop :=
  ∃ x', Fr x x' (fun e => e = d ∨ e = t) w W ∧ RdC x' d W rb s a ∧ (x' qb = t ∧ W.heap[qb]? = some (.cells #[.pointer (some ⟨rb, 0, none⟩), .bool bad] 148 (0, 0))) ∧ ∀ p ∈ ks, x' p.1 = t ∧ p.1 ≠ qb ∧ W.heap[p.1]? = some p.2
theorem RQ.row {x : Nat → Nat} {d t : Nat} {w W : World} {rb qb a : Nat} {s : ByteArray} {bad : Bool} {ks : List (Nat × Obj)} (h : RQ x d t w rb qb s a bad ks W) {b : Nat} {o : Obj} (hm : (b, o) ∈ ks) : W.heap[b]? = some o := by
  obtain ⟨x', _, _, _, hk⟩ := h
  exact (hk _ hm).2.2
theorem RQ.le {x : Nat → Nat} {d t : Nat} {w W : World} {rb qb a : Nat} {s : ByteArray} {bad : Bool} {ks : List (Nat × Obj)} (h : RQ x d t w rb qb s a bad ks W) : a ≤ 8 * s.size := by
  obtain ⟨x', _, hr, _⟩ := h
  exact hr.2.2.1
theorem RQ.q {x : Nat → Nat} {d t : Nat} {w W : World} {rb qb a : Nat} {s : ByteArray} {bad : Bool} {ks : List (Nat × Obj)} (h : RQ x d t w rb qb s a bad ks W) : W.heap[qb]? = some (.cells #[.pointer (some ⟨rb, 0, none⟩), .bool bad] 148 (0, 0)) := by
  obtain ⟨x', _, _, hq, _⟩ := h
  exact hq.2
theorem RQ.next {x : Nat → Nat} {d t : Nat} {w W W' : World} {rb qb a : Nat} {s : ByteArray} {bad : Bool} {ks : List (Nat × Obj)} (h : RQ x d t w rb qb s a bad ks W) (k : Below W.heap.size W W') : RQ x d t w rb qb s a bad ks W' := by
  obtain ⟨x', hf, ⟨hr1, hr2, hr3⟩, ⟨hq1, hq2⟩, hk⟩ := h
  have f2 : Fr x' (paint x' W.heap.size t) (fun e => e = t) W W' := Fr.of_below k rfl
  refine ⟨_, hf.trans (f2.mono (fun c hc => .inr hc)), ⟨(k.block _ (lt_of_block hr1)).trans hr1, (paint_old (lt_of_block hr1)).trans hr2, hr3⟩, ⟨(paint_old (lt_of_block hq2)).trans hq1, (k.block _ (lt_of_block hq2)).trans hq2⟩, fun p hp => ?_⟩
  obtain ⟨h1, h2, h3⟩ := hk p hp
  exact ⟨(paint_old (lt_of_block h3)).trans h1, h2, (k.block _ (lt_of_block h3)).trans h3⟩
theorem RQ.keep {x : Nat → Nat} {d t : Nat} {w W : World} {rb qb a : Nat} {s : ByteArray} {bad : Bool} {ks : List (Nat × Obj)} (h : RQ x d t w rb qb s a bad ks W) (row : Array Value) (T : TypeId) : RQ x d t w rb qb s a bad ((W.heap.size, .cells row T (0, 0)) :: ks) (W.alloc (.cells row T)) := by
  have hq := lt_of_block h.q
  obtain ⟨x', hf, ⟨hr1, hr2, hr3⟩, ⟨hq1, hq2⟩, hk⟩ := h
  have k : Below W.heap.size W (W.alloc (.cells row T)) := (Below.refl _ _).alloc (Nat.le_refl _) _
  have f2 : Fr x' (paint x' W.heap.size t) (fun e => e = t) W (W.alloc (.cells row T)) := Fr.of_below k rfl
  refine ⟨_, hf.trans (f2.mono (fun c hc => .inr hc)), ⟨(k.block _ (lt_of_block hr1)).trans hr1, (paint_old (lt_of_block hr1)).trans hr2, hr3⟩, ⟨(paint_old (lt_of_block hq2)).trans hq1, (k.block _ (lt_of_block hq2)).trans hq2⟩, fun p hp => ?_⟩
  rcases List.mem_cons.1 hp with rfl | hp
  · exact ⟨paint_new (Nat.le_refl _), fun e => by simp only at e; omega, heap_alloc_new W _⟩
  · obtain ⟨h1, h2, h3⟩ := hk p hp
    exact ⟨(paint_old (lt_of_block h3)).trans h1, h2, (k.block _ (lt_of_block h3)).trans h3⟩
theorem RQ.less {x : Nat → Nat} {d t : Nat} {w W : World} {rb qb a : Nat} {s : ByteArray} {bad : Bool} {p : Nat × Obj} {ks : List (Nat × Obj)} (h : RQ x d t w rb qb s a bad (p :: ks) W) : RQ x d t w rb qb s a bad ks W := by
  obtain ⟨x', hf, hr, hq, hk⟩ := h
  exact ⟨x', hf, hr, hq, fun q hq => hk q (List.mem_cons_of_mem _ hq)⟩
theorem RQ.drewN {x : Nat → Nat} {d t : Nat} {w W : World} {rb qb a : Nat} {s : ByteArray} {bad : Bool} {ks : List (Nat × Obj)} (h : RQ x d t w rb qb s a bad ks W) (n : Nat) : RQ x d t w rb qb s a bad ks (W.drewN n) := h.next ⟨rfl, rfl, rfl, Nat.le_refl _, fun _ _ => rfl⟩
theorem RQ.mark {x : Nat → Nat} {d t : Nat} {w W : World} {rb qb a : Nat} {s : ByteArray} {bad : Bool} {ks : List (Nat × Obj)} (h : RQ x d t w rb qb s a bad ks W) (hdt : d ≠ t) (bad' : Bool) : RQ x d t w rb qb s a bad' ks (W.setCell ⟨qb, 1, none⟩ (.bool bad')) := by
  obtain ⟨x', hf, ⟨hr1, hr2, hr3⟩, ⟨hq1, hq2⟩, hk⟩ := h
  have ne : ∀ b, b ≠ qb → (W.setCell ⟨qb, 1, none⟩ (.bool bad')).heap[b]? = W.heap[b]? := fun b hb' => Below.heap_setCell W ⟨qb, 1, none⟩ _ b hb'
  have f2 : Fr x' x' (fun c => c = t) W (W.setCell ⟨qb, 1, none⟩ (.bool bad')) := Fr.same rfl rfl rfl (by simp) (fun b _ hd => ne b (fun e => hd (by rw [e]; exact hq1)))
  refine ⟨x', hf.trans (f2.mono (fun c hc => .inr hc)), ⟨(ne _ (fun e => by rw [e] at hr2; exact hdt (hr2.symm.trans hq1))).trans hr1, hr2, hr3⟩, ⟨hq1, ?_⟩, fun p hp => ?_⟩
  · rw [heap_setCell_same W qb 1 _ _ _ hq2]; rfl
  · obtain ⟨h1, h2, h3⟩ := hk p hp
    exact ⟨h1, h2, (ne _ h2).trans h3⟩
theorem RQ.bits {x : Nat → Nat} {d t : Nat} {w W : World} {rb qb a : Nat} {s : ByteArray} {bad : Bool} {ks : List (Nat × Obj)} (h : RQ x d t w rb qb s a bad ks W) (hdt : d ≠ t) (n : Nat) (hn : n ≤ 64) (ha : a + n ≤ 8 * s.size) :
    Calls Tryd.prog 77 #[.pointer (some ⟨rb, 0, none⟩), .int .i64 (n : Int)] W fun e w' =>
      e = .returned (.tuple #[.int .u64 ((num (((unpack (nats s)).drop a).take n) : Nat) : Int), .int .i64 0]) ∧ RQ x d t w rb qb s (a + n) bad ks w' := by
  obtain ⟨x', hf, hr, ⟨hq1, hq2⟩, hk⟩ := h
  refine (Take_any x' d W rb s a n hn ha hr).mono ?_
  rintro e w' ⟨rfl, x2, f2, h2⟩
  have nd : ∀ b, x' b = t → ¬ x' b = d := fun b hb e => hdt (e.symm.trans hb)
  refine ⟨rfl, x2, hf.trans (f2.mono (fun c hc => .inl hc)), h2, ⟨(f2.col _ (lt_of_block hq2)).trans hq1, (f2.old _ (lt_of_block hq2) (nd _ hq1)).trans hq2⟩, fun p hp => ?_⟩
  obtain ⟨h1, h3, h4⟩ := hk p hp
  exact ⟨(f2.col _ (lt_of_block h4)).trans h1, h3, (f2.old _ (lt_of_block h4) (nd _ h1)).trans h4⟩
theorem RQ.nobits {x : Nat → Nat} {d t : Nat} {w W : World} {rb qb a : Nat} {s : ByteArray} {bad : Bool} {ks : List (Nat × Obj)} (h : RQ x d t w rb qb s a bad ks W) (n : Nat) (hn : n ≤ 64) (ha : 8 * s.size < a + n) :
    Calls Tryd.prog 77 #[.pointer (some ⟨rb, 0, none⟩), .int .i64 (n : Int)] W fun e w' => e = .returned (.tuple #[.int .u64 0, .int .i64 4]) ∧ RQ x d t w rb qb s a bad ks w' := by
  obtain ⟨x', _, hr, _⟩ := id h
  refine (Take_no x' d W rb s a n hn ha hr).mono ?_
  rintro e w' ⟨rfl, k⟩
  exact ⟨rfl, h.next k⟩

/-- what bits tell, and where the reader is then -/
def tkP (s : ByteArray) (a n : Nat) : Nat × Nat := if a + n ≤ 8 * s.size then (num (((unpack (nats s)).drop a).take n), a + n) else (0, a)
theorem tkP_lt (s : ByteArray) (a n : Nat) (hn : n ≤ 64) : (tkP s a n).1 < 18446744073709551616 := by
  unfold tkP
  split
  · refine Nat.lt_of_lt_of_le (num_lt _) ?_
    calc 2 ^ (((unpack (nats s)).drop a).take n).length ≤ 2 ^ 64 := Nat.pow_le_pow_right (by decide) (by rw [List.length_take]; omega)
      _ = 18446744073709551616 := rfl
  · exact (by decide : (0 : Nat) < 18446744073709551616)
set_option maxRecDepth 100000 in
set_option maxHeartbeats 1600000 in
theorem qtake_any (x : Nat → Nat) (d t : Nat) (hdt : d ≠ t) (w : World) (rb qb : Nat) (s : ByteArray) (a n : Nat) (hn : n ≤ 64) (bad : Bool) (ks : List (Nat × Obj)) (W : World) (h : RQ x d t w rb qb s a bad ks W) :
    Calls Tryd.prog 93 #[.pointer (some ⟨qb, 0, none⟩), .int .i64 (n : Int)] W fun e w' =>
      e = .returned (.int .u64 ((tkP s a n).1 : Int)) ∧ RQ x d t w rb qb s (tkP s a n).2 (bad || decide (8 * s.size < a + n)) ks w' := by
  have q0 := h.q
  have c0 : W.cell? ⟨qb, 0, none⟩ = some (.pointer (some ⟨rb, 0, none⟩)) := by rw [cell_of_row _ _ _ _ _ _ q0]; rfl
  clear q0
  by_cases ha : a + n ≤ 8 * s.size
  · have BI := Lib.hid (h.bits hdt n hn ha)
    have e1 : tkP s a n = (num (((unpack (nats s)).drop a).take n), a + n) := by unfold tkP; rw [if_pos ha]
    rw [e1, decide_eq_false (by omega), Bool.or_false]
    dsimp only
    generalize num (((unpack (nats s)).drop a).take n) = v at BI ⊢
    clear h e1 ha
    go_enter Tryd.func93, Tryd.ntmps93
    go_wp2_with fail
    refine BI.out.mono ?_
    rintro e w1 ⟨rfl, h1⟩
    have H1 := Lib.hid (h1.mark hdt bad)
    have q1 := h1.q
    have c1 : w1.cell? ⟨qb, 1, none⟩ = some (.bool bad) := by rw [cell_of_row _ _ _ _ _ _ q1]; rfl
    have f1 : ∀ j, w1.frozen? ⟨qb, j, none⟩ = false := fun j => frozen_of_row w1 qb j _ _ q1
    clear h1 q1
    cases bad
    · go_wp2_with fail
      go_ret
      exact ⟨rfl, H1.out⟩
    · go_wp2_with fail
      go_ret
      exact ⟨rfl, H1.out⟩
  · have BI := Lib.hid (h.nobits n hn (by omega))
    have e1 : tkP s a n = (0, a) := by unfold tkP; rw [if_neg ha]
    rw [e1, decide_eq_true (by omega), Bool.or_true]
    dsimp only
    clear h e1 ha
    go_enter Tryd.func93, Tryd.ntmps93
    go_wp2_with fail
    refine BI.out.mono ?_
    rintro e w1 ⟨rfl, h1⟩
    have H1 := Lib.hid (h1.mark hdt true)
    have q1 := h1.q
    have c1 : w1.cell? ⟨qb, 1, none⟩ = some (.bool bad) := by rw [cell_of_row _ _ _ _ _ _ q1]; rfl
    have f1 : ∀ j, w1.frozen? ⟨qb, j, none⟩ = false := fun j => frozen_of_row w1 qb j _ _ q1
    clear h1 q1
    cases bad
    · go_wp2_with fail
      go_ret
      exact ⟨rfl, H1.out⟩
    · go_wp2_with fail
      go_ret
      exact ⟨rfl, H1.out⟩

theorem bits_len (s : ByteArray) : (unpack (nats s)).length = 8 * s.size := by rw [unpack_length, nats_length]
theorem zer_step (f : Nat) (B : Bits) (a : Nat) : zer (f + 1) (B.drop a) = if B.length < a + 1 then none else if num ((B.drop a).take 1) = 1 then some 0 else (zer f (B.drop (a + 1))).map (· + 1) := by
  by_cases h : a < B.length
  · rw [if_neg (by omega), List.drop_eq_getElem_cons h, zer]
    cases B[a] <;> simp [num]
  · rw [if_pos (by omega), List.drop_eq_nil_of_le (by omega), zer]
/-- what reading zeros leaves -/
def zerP (a : Nat) (o : Option Nat) (v a' : Nat) (bad : Bool) : Prop :=
  match o with
  | some n => v = n ∧ a' = a + n + 1 ∧ bad = false
  | none => v = 0 ∧ bad = true
set_option maxRecDepth 100000 in
set_option maxHeartbeats 1600000 in
theorem zeros_any (x : Nat → Nat) (d t : Nat) (hdt : d ≠ t) (w : World) (rb qb : Nat) (s : ByteArray) (a most : Nat) (hm : most ≤ 65535) (ks : List (Nat × Obj)) (W : World) (h : RQ x d t w rb qb s a false ks W) :
    Calls Tryd.prog 91 #[.pointer (some ⟨qb, 0, none⟩), .int .i64 (most : Int)] W fun e w' =>
      ∃ v a' : Nat, ∃ bad : Bool, e = .returned (.int .i64 (v : Int)) ∧ zerP a (zer (most + 1) ((unpack (nats s)).drop a)) v a' bad ∧ RQ x d t w rb qb s a' bad ks w' := by
  have H := Lib.hid h
  obtain ⟨o, ho⟩ : ∃ o, zer (most + 1) ((unpack (nats s)).drop a) = o := ⟨_, rfl⟩
  have HO := Lib.hid ho
  rw [ho]
  clear h ho
  go_enter Tryd.func91, Tryd.ntmps91
  go_wp2_with fail
  go_loopw [5] (fun vi wr => ∃ i a2 : Nat, ∃ bad, vi = .int .i64 (i : Int) ∧ i ≤ most + 1 ∧ RQ x d t w rb qb s a2 bad ks wr ∧ ((bad = false ∧ a2 = a + i ∧ o = (zer (most + 1 - i) ((unpack (nats s)).drop (a + i))).map (· + i)) ∨ (bad = true ∧ o = none))) (fun vi _ => most + 2 - (intOf vi).toNat)
  case atStart => exact ⟨0, a, false, rfl, Nat.zero_le _, H.out, .inl ⟨rfl, rfl, by rw [← HO.out]; simp⟩⟩
  case round =>
    obtain ⟨i, a2, bad, rfl, hi, hR, hc⟩ := hrel
    have q1 := hR.q
    have c1 : wr.cell? ⟨qb, 1, none⟩ = some (.bool bad) := by rw [cell_of_row _ _ _ _ _ _ q1]; rfl
    have f1 : ∀ j, wr.frozen? ⟨qb, j, none⟩ = false := fun j => frozen_of_row wr qb j _ _ q1
    clear q1
    by_cases hlt : i ≤ most
    · have hle : (i : Int) ≤ (most : Int) := by omega
      have hd : decide ((i : Int) ≤ (most : Int)) = true := decide_eq_true hle
      cases bad
      · obtain ⟨-, ha2, ho⟩ := hc.resolve_right (fun h => by cases h.1)
        subst ha2
        have TK := Lib.hid (qtake_any x d t hdt w rb qb s (a + i) 1 (by decide) false ks wr hR)
        have ZS := Lib.hid (zer_step (most - i) (unpack (nats s)) (a + i))
        rw [bits_len, show most - i + 1 = most + 1 - i by omega] at ZS
        rw [ZS.out] at ho
        have HOO := Lib.hid ho
        clear ho hc hR
        have w1 : IntKind.i64.wrap ((i : Int) + 1) = ((i + 1 : Nat) : Int) := by rw [IntWalk.i64_in _ (by omega)]; omega
        obtain ⟨tv, ta, htk⟩ : ∃ tv ta, tkP s (a + i) 1 = (tv, ta) := ⟨_, _, rfl⟩
        have htk2 := htk
        rw [htk] at TK
        dsimp only at TK
        unfold tkP at htk2
        by_cases hl : a + i + 1 ≤ 8 * s.size
        · rw [if_pos hl] at htk2
          obtain ⟨rfl, rfl⟩ := Prod.mk.inj htk2
          rw [decide_eq_false (by omega)] at TK
          rw [if_neg (by omega)] at HOO
          obtain ⟨tb, htb⟩ : ∃ b, num (((unpack (nats s)).drop (a + i)).take 1) = b := ⟨_, rfl⟩
          rw [htb] at TK HOO
          clear htk htk2 htb hl
          by_cases h1 : tb = 1
          · subst h1
            have OO := HOO.out
            rw [if_pos rfl] at OO
            have OO2 := Lib.hid OO
            clear HOO OO
            go_wp2_with fail
            refine TK.out.mono ?_
            rintro e w2 ⟨rfl, h2⟩
            have H2 := Lib.hid h2
            clear h2
            go_wp2_with fail
            go_ret
            refine ⟨i, a + i + 1, false, rfl, ?_, H2.out⟩
            rw [OO2.out]
            show _ = 0 + i ∧ a + i + 1 = a + (0 + i) + 1 ∧ _
            exact ⟨by omega, by omega, rfl⟩
          · have OO := HOO.out
            rw [if_neg h1] at OO
            have OO2 := Lib.hid OO
            have hb1 : ((tb : Int) == 1) = false := beq_eq_false_iff_ne.2 (by omega)
            clear HOO OO
            go_wp2_with fail
            refine TK.out.mono ?_
            rintro e w2 ⟨rfl, h2⟩
            have H2 := Lib.hid h2
            clear h2
            go_wp2_with fail
            go_roundw
            case rel =>
              refine ⟨i + 1, a + i + 1, false, by go_num, by omega, H2.out, .inl ⟨rfl, by omega, ?_⟩⟩
              rw [OO2.out, Option.map_map, show most - i = most + 1 - (i + 1) by omega, Nat.add_assoc]
              congr 1
              funext k
              show k + 1 + i = k + (i + 1)
              omega
            case measure => simp [intOf]; omega
        · rw [if_neg hl] at htk2
          obtain ⟨rfl, rfl⟩ := Prod.mk.inj htk2
          rw [decide_eq_true (by omega)] at TK
          have OO := HOO.out
          rw [if_pos (by omega)] at OO
          have OO2 := Lib.hid OO
          have hb1 : ((0 : Int) == 1) = false := rfl
          clear HOO OO htk htk2 hl
          go_wp2_with fail
          refine TK.out.mono ?_
          rintro e w2 ⟨rfl, h2⟩
          have H2 := Lib.hid h2
          clear h2
          go_wp2_with fail
          go_roundw
          case rel => exact ⟨i + 1, a + i, true, by go_num, by omega, H2.out, .inr ⟨rfl, OO2.out⟩⟩
          case measure => simp [intOf]; omega
      · obtain ⟨-, ho⟩ := hc.resolve_left (fun h => by cases h.1)
        have HR := Lib.hid (hR.mark hdt true)
        clear hR hc
        go_wp2_with fail
        go_ret
        exact ⟨0, a2, true, rfl, by rw [ho]; exact ⟨rfl, rfl⟩, HR.out⟩
    · have hle : ¬ (i : Int) ≤ (most : Int) := by omega
      have hd : decide ((i : Int) ≤ (most : Int)) = false := decide_eq_false hle
      have ho : o = none := by
        rcases hc with ⟨_, _, h⟩ | ⟨_, h⟩
        · rw [h, show most + 1 - i = 0 by omega]; rfl
        · exact h
      have HR := Lib.hid (hR.mark hdt true)
      clear hR hc
      go_wp2_with fail
      go_ret
      exact ⟨0, rfl, a2, .inr ⟨⟨rfl, rfl⟩, HR.out⟩⟩
end Go.Proofs.YtflnpcgnenhogaaDoor.ls
