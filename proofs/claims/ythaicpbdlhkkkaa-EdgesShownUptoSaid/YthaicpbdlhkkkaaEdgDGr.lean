/- Statement EdgesShown: the document's Group. -/
import Derived.Test.YthaicpbdlhkkkaaEdgPutW
import Derived.Test.YthaicpbdlhkkkaaEdgBkQ
import Derived.Deep.RegionLaw
namespace Go.Proofs.Ythaicpbdlhkkkaa.edg
open Go.RowKit Go.Proofs.Ythaicpbdlhkkkaa.own Go.Proofs.Ythaicpbdlhkkkaa.so

/-! ### the plain law -/
theorem ins_length (xs : List Int) (t : Int) : (ins xs t).length ≤ xs.length + 1 := by
  induction xs with
  | nil => simp [ins]
  | cons y r ih =>
    unfold ins
    split
    · simp only [List.length_cons]; omega
    · split <;> simp
theorem fold_mem (xs : List Int) : ∀ acc (x : Int), x ∈ xs.foldl ins acc ↔ x ∈ acc ∨ x ∈ xs := by
  induction xs with
  | nil => simp
  | cons y r ih =>
    intro acc x
    rw [List.foldl_cons, ih, ins_mem, List.mem_cons, or_assoc]
theorem fold_rises (xs : List Int) : ∀ acc : List Int, acc.Pairwise (· < ·) → (xs.foldl ins acc).Pairwise (· < ·) := by
  induction xs with
  | nil => exact fun _ h => h
  | cons y r ih => exact fun acc h => ih _ (ins_rises acc y h)
theorem fold_length (xs : List Int) : ∀ acc : List Int, (xs.foldl ins acc).length ≤ acc.length + xs.length := by
  induction xs with
  | nil => simp
  | cons y r ih =>
    intro acc
    have h1 := ih (ins acc y)
    have h2 := ins_length acc y
    rw [List.foldl_cons, List.length_cons]
    omega
/-- a row in the document -/
def dl (xs : List Int) : List Int := xs.foldl ins []
theorem dl_snoc (xs : List Int) (t : Int) : dl (xs ++ [t]) = ins (dl xs) t := by simp [dl]
theorem dl_length (xs : List Int) : (dl xs).length ≤ xs.length := by
  have := fold_length xs []
  simpa [dl] using this
theorem dl_fin (xs : List Int) : dl xs = fin xs := rise_same _ _ (fold_rises xs [] List.Pairwise.nil) (fin_rises xs) (fun x => by rw [fin_mem, dl, fold_mem]; simp)
def dgrp (l : List (Nat × Nat)) (v : Nat) : List Int := dl (grp l v)
theorem dgrp_fin (l : List (Nat × Nat)) : dgrp l = fun v => fin (grp l v) := by funext v; exact dl_fin _
theorem dgrp_length (l : List (Nat × Nat)) (v : Nat) : (dgrp l v).length ≤ l.length := Nat.le_trans (dl_length _) (grp_length l v)
theorem dgrp_take (l : List (Nat × Nat)) (k : Nat) (h : k < l.length) : dgrp (l.take (k + 1)) = upd (dgrp (l.take k)) l[k].1 (ins (dgrp (l.take k) l[k].1) (l[k].2 : Int)) := by
  funext v
  unfold dgrp
  rw [grp_take l k h]
  by_cases e : v = l[k].1
  · subst e
    rw [upd_same, upd_same, dl_snoc]
  · rw [upd_other _ _ _ e, upd_other _ _ _ e]

/-- a number is put into a row -/
theorem put_step {w wr W : World} {B n f t : Nat} {L : Nat → List Int} {vs : Nat → Value} (B1 : Below B w wr) (Q1 : wr.heap[B]? = some (.cells (rowC n vs) 47 (0, 0))) (V1 : GV B B n L vs wr) (hf : f < n) (hW : Below wr.heap.size wr W) (hl : (L f).length ≤ 1073741824) :
    Calls Try.prog 45 #[vs f, .int .u32 (t : Int)] W fun e w2 => ∃ a' c', e = .returned (.slice a' (ins (L f) t).length c') ∧ w2.cell? ⟨B, f, none⟩ = some (vs f) ∧ w2.frozen? ⟨B, f, none⟩ = false ∧ Below B w w2 ∧ GR w B B n (upd L f (ins (L f) t)) (w2.setCell ⟨B, f, none⟩ (.slice a' (ins (L f) t).length c')) := by
  have hB : B < wr.heap.size := lt_of_block Q1
  have BW : Below B w W := B1.trans (hW.mono (Nat.le_of_lt hB))
  have QW := (hW.block _ hB).trans Q1
  have VW := V1.next hW
  have LW : B ≤ W.heap.size := Nat.le_trans (Nat.le_of_lt hB) hW.size
  refine (put_any W B (vs f) (L f) (VW.1 f hf).1 LW t hl).mono ?_
  rintro e w2 ⟨v', rfl, k2, own2, hat⟩
  obtain ⟨a', c', rfl⟩ := own_shape own2
  have q2 := (k2.block _ (lt_of_block QW)).trans QW
  refine ⟨a', c', rfl, (cell_of_row w2 _ _ _ _ _ q2).trans (rowC_at n vs f hf), frozen_of_row w2 _ f _ _ q2, BW.trans (k2.mono LW), ?_⟩
  have hg : W.grownBy w2 (vs f).ownBlock := ⟨k2.os, k2.tape, k2.output, k2.size, fun b hb _ => k2.block b hb⟩
  rcases hat with e | ⟨q, hq, hqs⟩
  · exact GR.put (k := 0) BW (Nat.le_refl _) QW VW hf LW own2 hg (.inl (by rw [e]))
  · exact GR.put (k := q) BW (Nat.le_refl _) QW VW hf LW own2 hg (.inr ⟨hq, hqs⟩)
set_option maxRecDepth 100000 in
set_option maxHeartbeats 3200000 in
theorem dgroup_all (w : World) (aT : Option Addr) (l : List (Nat × Nat)) (c n : Nat) (hn : n ≤ 65536) (h : EdgIs w aT l) (hlen : l.length ≤ 1073741824) :
    Calls Try.prog 21 #[.int .i64 (n : Int), .slice aT l.length c] w fun e w' => ((∀ t ∈ l, t.1 < n ∧ t.2 < n) ∧ ∃ gb, e = .returned (.tuple #[.slice (some ⟨gb, 0, none⟩) n n, .int .i64 0]) ∧ GR w w.heap.size gb n (fun v => fin (grp l v)) w') ∨ (¬ (∀ t ∈ l, t.1 < n ∧ t.2 < n) ∧ e = .returned (.tuple #[.slice none 0 0, .int .i64 1]) ∧ Below w.heap.size w w') := by
  have HE := Lib.hid h
  clear h
  have n0 : ¬ (n : Int) < 0 := by omega
  have n1 : ¬ (65536 : Int) < (n : Int) := by omega
  obtain ⟨i0, hi, hz0, hz1, hz2⟩ := info_parts Try.infoRow
  obtain ⟨w1, hrun, hown, hg⟩ := run_make_full w w.heap.size 44 47 i0 _ 1 (by kernel_rfl) hi hz0 hz1 .i64 .i64 n (by rw [hz2]; omega) (by simp only [maxLen]; omega) (Nat.le_refl _)
  have G0 : Hid (GR w w.heap.size w.heap.size n (dgrp (l.take 0)) w1) := Lib.hid (by
    refine ⟨(Below.refl _ _).grown hg (Nat.le_refl _) (fun k hk => by cases hk), Nat.le_refl _, fun _ => .slice none 0 0, ?_, fun i hi => ⟨?_, ?_⟩, fun i j _ _ _ b hb => by cases hb⟩
    · rcases hown.2 with ⟨e, _⟩ | ⟨g, cap, cur, hv, _, hb, _, _, h3, h4⟩
      · cases e
      · injection hv with hv _ hc
        injection hv with hv
        injection hv with hv
        subst hv hc
        rw [hb]
        have e : cur = rowC n (fun _ => .slice none 0 0) := by
          apply Array.ext'
          rw [Nat.mul_one] at h3 h4
          rw [List.take_of_length_le (by simp; omega)] at h4
          rw [h4]
          show (madeCells #[Value.slice none 0 0] n).toList = _
          rw [toList_madeCells_one]
          unfold rowC
          apply List.ext_getElem?
          intro i
          by_cases h : i < n <;> simp [h]
        rw [e]
    · exact ⟨rfl, .inl ⟨rfl, rfl⟩⟩
    · intro e; cases e)
  clear hown hg hi hz0 hz1 hz2
  go_enter Try.func21, Try.ntmps21
  go_wp2_with fail
  clear hrun
  obtain ⟨B, hB⟩ : ∃ B, w.heap.size = B := ⟨_, rfl⟩
  rw [hB] at G0 ⊢
  have HB := Lib.hid hB
  clear hB
  go_loopw [7] (fun vi wr => ∃ k : Nat, vi = .int .i64 (k : Int) ∧ k ≤ l.length ∧ (∀ t ∈ l.take k, t.1 < n ∧ t.2 < n) ∧ GR w B B n (dgrp (l.take k)) wr) (fun vi _ => l.length - (intOf vi).toNat)
  case atStart => exact ⟨0, rfl, Nat.zero_le _, fun t ht => by simp at ht, G0.out⟩
  case round =>
    obtain ⟨k, rfl, hk, hP, hG⟩ := hrel
    have HP := Lib.hid hP
    clear hP
    have HG := Lib.hid hG
    by_cases hlt : k < l.length
    · obtain ⟨g, o, ha, hgl, hc0, hc1, u0, u1⟩ := HE.out k hlt
      subst ha
      have e0 := (hG.1.cell (p := ⟨g, o + k * 2, none⟩) (by have := HB.out; simp; omega)).trans hc0
      have e1 := (hG.1.cell (p := ⟨g, o + k * 2 + 1, none⟩) (by have := HB.out; simp; omega)).trans hc1
      have HP1 : Hid (l[k].1 < n ∧ l[k].2 < n → ∀ t ∈ l.take (k + 1), t.1 < n ∧ t.2 < n) := Lib.hid (fun h t ht => by
        rw [List.take_succ_eq_append_getElem hlt] at ht
        rcases List.mem_append.1 ht with ht | ht
        · exact HP.out t ht
        · simp only [List.mem_singleton] at ht; rw [ht]; exact h)
      have HP2 : Hid (¬ (l[k].1 < n ∧ l[k].2 < n) → ¬ ∀ t ∈ l, t.1 < n ∧ t.2 < n) := Lib.hid (fun h g => h (g _ (List.getElem_mem hlt)))
      have GT := Lib.hid (dgrp_take l k hlt)
      obtain ⟨f, hf2⟩ : ∃ f, l[k].1 = f := ⟨_, rfl⟩
      obtain ⟨t, ht2⟩ : ∃ t, l[k].2 = t := ⟨_, rfl⟩
      rw [hf2] at e0 u0 GT HP1 HP2
      rw [ht2] at e1 u1 GT HP1 HP2
      clear hf2 ht2 hc0 hc1 hG
      have k0 : (k : Int) < (l.length : Int) := by omega
      have w0 : IntKind.i64.wrap (f : Int) = (f : Int) := IntWalk.i64_in _ (by omega)
      have w1 : IntKind.i64.wrap (t : Int) = (t : Int) := IntWalk.i64_in _ (by omega)
      by_cases hf : f < n
      · have m1 : ¬ (n : Int) ≤ (f : Int) := by omega
        by_cases ht : t < n
        · have m2 : ¬ (n : Int) ≤ (t : Int) := by omega
          have B1 := HG.out.1
          obtain ⟨-, -, vs, Q1, V1⟩ := HG.out
          have PUT := Lib.hid (fun W (hW : Below wr.heap.size wr W) => put_step (t := t) B1 Q1 V1 hf hW (Nat.le_trans (dgrp_length _ f) (by rw [List.length_take]; omega)))
          obtain ⟨av, cap, hvf⟩ := own_shape (V1.1 f hf).1
          have gf : wr.cell? ⟨B, f, none⟩ = some (.slice av (dgrp (l.take k) f).length cap) := by rw [← hvf]; exact (cell_of_row wr _ _ _ _ _ Q1).trans (rowC_at n vs f hf)
          rw [hvf] at PUT
          have EC := Lib.hid (fun W (h : Below B w W) => (h.cell (p := ⟨g, o + k * 2, none⟩) (by have := HB.out; simp; omega)).trans (by have h := B1.cell (p := ⟨g, o + k * 2, none⟩) (by have := HB.out; simp; omega); exact h.symm.trans e0))
          have DR : Hid (Below wr.heap.size wr wr.drew) := Lib.hid ((Below.refl _ _).drew)
          have f0 : (f : Int) < (n : Int) := by omega
          clear HG B1 Q1 V1 hvf
          go_upto_region 9 with fail
          go_region_law (first
            | (go_simp; go_at_call 45; refine (PUT.out _ (by first | with_reducible exact DR.out | with_reducible exact Below.refl _ _)).mono ?_; rintro e w2 ⟨a2, c2, rfl, cs, fs, b2, hR⟩; have d0 := EC.out _ b2; have R := Lib.hid hR; clear hR b2; dsimp only))
          all_goals
            go_wp2_with fail
            go_roundw
            case rel => exact ⟨k + 1, by go_num, by omega, HP1.out ⟨hf, ht⟩, by rw [GT.out]; exact R.out⟩
            case measure => simp [intOf]; omega
        · have HB2 := Lib.hid (HP2.out (fun h => ht h.2))
          have BE := Lib.hid HG.out.1
          have m2 : (n : Int) ≤ (t : Int) := by omega
          clear HG ht hf
          go_wp2_with fail
          go_ret2
          exact .inr ⟨by have h := HB2.out; first | exact h | simpa using h, rfl, by rw [HB.out]; exact BE.out⟩
      · have HB2 := Lib.hid (HP2.out (fun h => hf h.1))
        have BE := Lib.hid HG.out.1
        have m1 : (n : Int) ≤ (f : Int) := by omega
        clear HG hf
        go_wp2_with fail
        go_ret2
        exact .inr ⟨by have h := HB2.out; first | exact h | simpa using h, rfl, by rw [HB.out]; exact BE.out⟩
    · have hkl : k = l.length := by omega
      have HALL : Hid (∀ t ∈ l, t.1 < n ∧ t.2 < n) := Lib.hid (by have h := HP.out; rwa [hkl, List.take_length] at h)
      have G1 : Hid (GR w B B n (fun v => fin (grp l v)) wr) := Lib.hid (by
        have h := HG.out
        rw [hkl, List.take_length, dgrp_fin] at h
        exact h)
      have k0 : ¬ (k : Int) < (l.length : Int) := by omega
      clear hG HG hkl
      go_wp2_with fail
      go_ret2
      exact .inl ⟨(by first | exact HALL.out | exact fun a b h => HALL.out (a, b) h), B, rfl, by rw [HB.out]; exact G1.out⟩
end Go.Proofs.Ythaicpbdlhkkkaa.edg
