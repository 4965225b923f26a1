/- The walk of EdgesReads. -/
import Derived.Test.YtogkcmmbckgkiaaEdgLaw1
namespace Go.Proofs.Ytogkcmmbckgkiaa.edg
open Go.RowKit

def lastLine (T : List ((Nat × Nat) × Nat)) : Nat → Nat
  | 0 => 0
  | k + 1 => (T[k]?.map (·.2)).getD 0

theorem all_is (n : Int) (s : ByteArray) (T : List ((Nat × Nat) × Nat)) (bad : Nat) (h : scan n (lines s.data.toList) 0 = (T, bad)) (w : World) (hs : s.size ≤ 16777216) :
    Calls Try.prog 13 #[.int .i64 n, .string s] w fun e w' => ∃ v, e = .returned (.tuple #[v, .int .i64 bad]) ∧ w'.ownsRow w.heap.size 41 3 v T.length (toldCells T) ∧ Below w.heap.size w w' ∧ T.length ≤ s.size :=
  (all_any n s w hs).mono fun e w' hh => by unfold AllPost at hh; rw [h] at hh; exact hh

set_option maxHeartbeats 3200000 in
theorem edgesReads_no (n : Int) (s : ByteArray) (hm : mayRead n s = false) (w : World) :
    Calls Try.prog 3 #[.int .i64 n, .string s] w fun e w' => e = .returned (.bool true) ∧ Below w.heap.size w w' := by
  have R : Hid (parseRes n s = ([], 0, 1)) := Lib.hid (by unfold parseRes; rw [if_neg (by rw [hm]; simp)])
  have HM := Lib.hid hm
  clear hm
  go_enter Try.func3, Try.ntmps3
  go_wp2_with fail
  refine (parse_is n s _ _ _ R.out _).mono ?_
  rintro e w1 ⟨v1, rfl, ho1, hb1⟩
  have hz1 := hb1.size
  go_wp2_with fail
  refine (refParse_is n s _ _ _ R.out _).mono ?_
  rintro e w2 ⟨v2, rfl, ho2, hb2⟩
  have hz2 := hb2.size
  go_wp2_with fail
  refine (same_yes [] v1 v2 _ _ _ (own_below ho1 hb2) ho2).mono ?_
  rintro e w3 ⟨rfl, m, rfl⟩
  clear ho1 ho2
  go_wp2_with fail
  refine (newReader_no _ _ HM.out _).mono ?_
  rintro e w4 ⟨rfl, rfl⟩
  go_wp2_with fail
  refine (may_is _ _ _ HM.out _).mono ?_
  rintro e w4 ⟨rfl, rfl⟩
  go_wp2_with fail
  refine (awake_any _).mono ?_
  rintro e w5 ⟨rfl, hb5⟩
  have HB := Lib.hid ((hb1.trans (hb2.mono hz1)).trans ((below_drewN (Below.refl _ _) m).trans (hb5.mono (by simp; omega))))
  clear hb1 hb2 hb5
  go_wp2_with fail
  go_ret
  exact ⟨rfl, HB.out⟩

theorem told_open {w : World} {base : Nat} {v : Value} {T : List ((Nat × Nat) × Nat)} (h : w.ownsRow base 41 3 v T.length (toldCells T)) :
    ∃ aT cT, v = .slice aT T.length cT ∧ Hid (∀ k (_ : k < T.length), ∃ g, aT = some ⟨g, 0, none⟩ ∧ base ≤ g ∧ g < w.heap.size ∧ w.cell? ⟨g, k * 3, none⟩ = some (.int .u32 T[k].1.1) ∧ w.cell? ⟨g, k * 3 + 1, none⟩ = some (.int .u32 T[k].1.2) ∧ w.cell? ⟨g, k * 3 + 2, none⟩ = some (.int .i64 T[k].2)) := by
  rcases own_cases h with ⟨h0, rfl⟩ | ⟨g, cap, rfl, hg1, hg2, hg3, hg4, hcell⟩
  · exact ⟨none, 0, by rw [h0], Lib.hid fun k hk => by omega⟩
  · refine ⟨_, _, rfl, Lib.hid fun k hk => ⟨g, rfl, hg1, hg2, ?_, ?_, ?_⟩⟩
    · rw [hcell _ (by omega)]; exact (told_at T k hk).1
    · rw [hcell _ (by omega)]; exact (told_at T k hk).2.1
    · rw [hcell _ (by omega)]; exact (told_at T k hk).2.2

theorem next_of_scan {n : Int} {ls : List B} {k : Nat} {t : (Nat × Nat) × Nat} {rest : List ((Nat × Nat) × Nat)} {bad : Nat} (h : scan n ls k = (t :: rest, bad)) :
    ∃ r, nextP n ls k = (0, t.1, r, t.2) ∧ scan n r t.2 = (rest, bad) := by
  induction ls generalizing k with
  | nil => simp [scan] at h
  | cons l r ih =>
    rcases hs : silent l with _ | _
    · rcases he : edgeOf n l with _ | e
      · simp [scan, hs, he] at h
      · simp only [scan, hs, he, Prod.mk.injEq, List.cons.injEq, Bool.false_eq_true, if_false] at h
        obtain ⟨⟨rfl, h2⟩, h3⟩ := h
        exact ⟨r, by simp [nextP, hs, he], by rw [← h2, ← h3]⟩
    · simp only [scan, hs, if_true] at h
      obtain ⟨r', h1, h2⟩ := ih h
      exact ⟨r', by simp only [nextP, hs, if_true]; exact h1, h2⟩
theorem next_of_end {n : Int} {ls : List B} {k : Nat} {bad : Nat} (h : scan n ls k = ([], bad)) :
    (bad = 0 ∧ ∃ k', nextP n ls k = (6, (0, 0), [], k')) ∨ (0 < bad ∧ ∃ r, nextP n ls k = (15, (0, 0), r, bad)) := by
  induction ls generalizing k with
  | nil => simp [scan] at h; exact .inl ⟨h.symm, k, rfl⟩
  | cons l r ih =>
    rcases hs : silent l with _ | _
    · rcases he : edgeOf n l with _ | e
      · simp [scan, hs, he] at h
        exact .inr ⟨by omega, r, by simp [nextP, hs, he, h]⟩
      · simp [scan, hs, he] at h
    · simp only [scan, hs, if_true] at h
      rcases ih h with ⟨h1, k', h2⟩ | ⟨h1, r', h2⟩
      · exact .inl ⟨h1, k', by simp only [nextP, hs, if_true]; exact h2⟩
      · exact .inr ⟨h1, r', by simp only [nextP, hs, if_true]; exact h2⟩
theorem quiet_left {P : Program} {f : FuncId} {args : Array Value} {w : World} {n : Nat} {v : Value}
    (h : Calls P f args (w.drewN n) fun e w' => e = .returned v ∧ w.drewN n = w') : Calls P f args (w.drewN n) fun e w'' => e = .returned v ∧ ∃ m, w'' = w.drewN m :=
  h.mono fun _ _ ⟨he, hm⟩ => ⟨he, n, hm.symm⟩

set_option maxRecDepth 100000 in
set_option maxHeartbeats 6400000 in
theorem edgesReads_yes (n : Int) (s : ByteArray) (hm : mayRead n s = true) (w : World) :
    Calls Try.prog 3 #[.int .i64 n, .string s] w fun e w' => e = .returned (.bool true) ∧ Below w.heap.size w w' := by
  have HM := Lib.hid hm
  have hs : s.size ≤ 16777216 := by unfold mayRead at hm; simp at hm; omega
  clear hm
  rcases hR : parseRes n s with ⟨l, a, b⟩
  have R := Lib.hid hR
  clear hR
  rcases hS : scan n (lines s.data.toList) 0 with ⟨T, bad⟩
  have HS := Lib.hid hS
  clear hS
  go_enter Try.func3, Try.ntmps3
  go_wp2_with fail
  refine (parse_is n s _ _ _ R.out _).mono ?_
  rintro e w1 ⟨v1, rfl, ho1, hb1⟩
  have hz1 := hb1.size
  go_wp2_with fail
  refine (refParse_is n s _ _ _ R.out _).mono ?_
  rintro e w2 ⟨v2, rfl, ho2, hb2⟩
  have hz2 := hb2.size
  go_wp2_with fail
  refine (same_yes l v1 v2 _ _ _ (own_below ho1 hb2) ho2).mono ?_
  rintro e w3 ⟨rfl, m, rfl⟩
  clear ho1 ho2
  have HB3 : Hid (Below w.heap.size w (w2.drewN m)) := Lib.hid (below_drewN (hb1.trans (hb2.mono hz1)) m)
  have hz3 : w.heap.size ≤ (w2.drewN m).heap.size := HB3.out.size
  clear hb1 hb2 hz1 hz2
  generalize w2.drewN m = W3 at HB3 hz3 ⊢
  go_wp2_with fail
  refine (newReader_yes _ _ HM.out _).mono ?_
  rintro e w4 ⟨rfl, hrd4, hb4⟩
  have hz4 := hb4.size
  have hrb4 : W3.heap.size < w4.heap.size := by obtain ⟨_, _, _, h⟩ := hrd4; exact lt_of_block h
  go_wp2_with fail
  refine (may_is _ _ _ HM.out _).mono ?_
  rintro e w4 ⟨rfl, rfl⟩
  go_wp2_with fail
  refine (all_is n s T bad HS.out _ hs).mono ?_
  rintro e w5 ⟨vT, rfl, hoT, hb5, hTs⟩
  have hz5 := hb5.size
  have HRD5 : Hid (RdIs w5 W3.heap.size n (lines s.data.toList) 0 0 false) := Lib.hid (rd_frame hrd4 (hb5.block _ hrb4))
  have HB5 : Hid (Below w.heap.size w w5) := Lib.hid (HB3.out.trans ((hb4.mono hz3).trans (hb5.mono (by omega))))
  clear hrd4 hb4 hb5 HB3 R
  obtain ⟨aT, cT, HV, HC⟩ := told_open hoT
  rw [HV]
  clear HV hoT
  go_wp2_with fail
  go_loopw [15, 16] (fun la i wr => ∃ (k at_ : Nat) (ls : List B), k ≤ T.length ∧ i = .int .i64 k ∧ la = .int .i64 (lastLine T k) ∧ RdIs wr W3.heap.size n ls at_ (lastLine T k) false ∧ scan n ls at_ = (T.drop k, bad) ∧ w5.grownBy wr (some W3.heap.size)) (fun _ i _ => T.length - (intOf i).toNat)
  case atStart => exact ⟨0, 0, lines s.data.toList, Nat.zero_le _, rfl, rfl, HRD5.out, by rw [HS.out]; rfl, only_refl _ _⟩
  case round =>
    obtain ⟨k, at_, ls, hk, rfl, rfl, hrd, hsc, hgr⟩ := hrel
    have hgz := hgr.size
    by_cases hlt : k < T.length
    · obtain ⟨g, hg, hg1, hg2, hg3, hg4, hg5⟩ := HC.out k hlt
      subst hg
      have hd : T.drop k = T[k] :: T.drop (k + 1) := List.drop_eq_getElem_cons hlt
      rw [hd] at hsc
      obtain ⟨r, hn1, hn2⟩ := next_of_scan hsc
      have HN1 := Lib.hid hn1
      have HN2 := Lib.hid hn2
      have HLL : Hid (lastLine T (k + 1) = T[k].2) := Lib.hid (by simp [lastLine, hlt])
      clear hd hsc hn1 hn2
      go_wp2_with fail
      refine (next_is n _ ls at_ _ _ hrd _ _ _ _ _ HN1.out).mono ?_
      rintro e w6 ⟨rfl, hrd6, hg6⟩
      have hrb6 : W3.heap.size < w6.heap.size := by obtain ⟨_, _, _, h⟩ := hrd6; exact lt_of_block h
      have HG6 := Lib.hid (only_trans hgr hg6)
      have q1 : w6.cell? ⟨g, k * 3, none⟩ = some (.int .u32 T[k].1.1) := HG6.out.cell hg3 (by simp; omega)
      have q2 : w6.cell? ⟨g, k * 3 + 1, none⟩ = some (.int .u32 T[k].1.2) := HG6.out.cell hg4 (by simp; omega)
      have q3 : w6.cell? ⟨g, k * 3 + 2, none⟩ = some (.int .i64 T[k].2) := HG6.out.cell hg5 (by simp; omega)
      have hgl : g < w6.heap.size := Nat.lt_of_lt_of_le hg2 HG6.out.size
      have HR6 := Lib.hid hrd6
      have HW6 : Hid (∀ m, RdIs ((w6.alloc (.cells #[.int .u32 T[k].1.1, .int .u32 T[k].1.2] 37)).drewN m) W3.heap.size n r T[k].2 T[k].2 false) := Lib.hid (fun m => by
        obtain ⟨a, b, c, d⟩ := HR6.out
        exact ⟨a, b, c, rd_alloc (o := .cells #[.int .u32 T[k].1.1, .int .u32 T[k].1.2] 37) d⟩)
      clear hrd hrd6 hg6 hgr hg3 hg4 hg5
      go_wp2_with fail
      go_quiet ((go_at_call 15; exact quiet_left (line_any W3.heap.size n r T[k].2 T[k].2 false _ (HW6.out _))))
      go_wp2_with fail
      go_roundw
      case rel =>
        refine ⟨k + 1, T[k].2, r, by omega, by go_num, by rw [HLL.out], ?_, HN2.out, only_drewN (only_alloc HG6.out _) _⟩
        rw [HLL.out]
        exact HW6.out _
      case measure => simp [intOf]; omega
    · obtain rfl : k = T.length := by omega
      have hd : T.drop T.length = [] := List.drop_length
      rw [hd] at hsc
      have HG := Lib.hid hgr
      have HRD := Lib.hid hrd
      clear hlt hk hd hgr hrd HRD5 HC
      rcases next_of_end hsc with ⟨rfl, k', hn⟩ | ⟨hpos, r, hn⟩
      · have HN := Lib.hid hn
        clear hn hsc
        go_wp2_with fail
        refine wp_loop_rounds 3 ?_
        rw [rounds_succ]
        go_wp2_with fail
        refine (next_is n _ ls at_ _ _ HRD.out _ _ _ _ _ HN.out).mono ?_
        rintro e w6 ⟨rfl, hrd6, hg6⟩
        have HG6 := Lib.hid (only_trans HG.out hg6)
        have HR6 : Hid (RdIs (w6.alloc (.cells #[.int .u32 0, .int .u32 0] 37)) W3.heap.size n [] k' (lastLine T T.length) false) := Lib.hid (by
          obtain ⟨a, b, c, d⟩ := hrd6
          exact ⟨a, b, c, rd_alloc d⟩)
        clear hrd6 hg6
        go_wp2_with fail
        refine (line_any W3.heap.size n [] k' (lastLine T T.length) false _ HR6.out).mono ?_
        rintro e w7 ⟨rfl, rfl⟩
        go_wp2_with fail
        rw [rounds_succ]
        go_wp2_with fail
        refine (next_is n _ [] k' _ _ HR6.out 6 0 0 [] k' rfl).mono ?_
        rintro e w7 ⟨rfl, hrd7, hg7⟩
        have HG7 := Lib.hid (only_trans (only_alloc HG6.out (.cells #[.int .u32 0, .int .u32 0] 37)) hg7)
        have HR7 : Hid (RdIs (w7.alloc (.cells #[.int .u32 0, .int .u32 0] 37)) W3.heap.size n [] k' (lastLine T T.length) false) := Lib.hid (by
          obtain ⟨a, b, c, d⟩ := hrd7
          exact ⟨a, b, c, rd_alloc d⟩)
        clear hrd7 hg7
        go_wp2_with fail
        refine (line_any W3.heap.size n [] k' (lastLine T T.length) false _ HR7.out).mono ?_
        rintro e w8 ⟨rfl, rfl⟩
        go_wp2_with fail
        rw [rounds_succ]
        go_wp2_with fail
        refine (awake_any _).mono ?_
        rintro e w9 ⟨rfl, hb9⟩
        have HBF := Lib.hid ((((HB5.out.grown HG7.out HB5.out.size (fun j hj => by injection hj; omega)).alloc (Nat.le_trans HB5.out.size HG7.out.size) (.cells #[.int .u32 0, .int .u32 0] 37))).trans (hb9.mono (by have := HB5.out.size; have := HG7.out.size; simp; omega)))
        clear hb9
        go_wp2_with fail
        go_ret
        exact ⟨rfl, HBF.out⟩
      · have HN := Lib.hid hn
        clear hn hsc
        have d1 : decide ((0 : Int) < (bad : Int)) = true := by simp; omega
        have d2 : (((bad : Nat) : Int) == 0) = false := beqF (by omega)
        go_wp2_with fail
        refine wp_loop_rounds 3 ?_
        rw [rounds_succ]
        go_wp2_with fail
        refine (next_is n _ ls at_ _ _ HRD.out _ _ _ _ _ HN.out).mono ?_
        rintro e w6 ⟨rfl, hrd6, hg6⟩
        have HG6 := Lib.hid (only_trans HG.out hg6)
        have HR6 : Hid (RdIs (w6.alloc (.cells #[.int .u32 0, .int .u32 0] 37)) W3.heap.size n r bad bad true) := Lib.hid (by
          obtain ⟨a, b, c, d⟩ := hrd6
          exact ⟨a, b, c, rd_alloc d⟩)
        clear hrd6 hg6
        go_wp2_with fail
        refine (line_any W3.heap.size n r bad bad true _ HR6.out).mono ?_
        rintro e w7 ⟨rfl, rfl⟩
        go_wp2_with fail
        rw [rounds_succ]
        go_wp2_with fail
        refine (next_bad n _ r bad bad _ HR6.out).mono ?_
        rintro e w7 ⟨rfl, hrd7, hb7⟩
        have HG7 := Lib.hid (only_below (only_alloc HG6.out (.cells #[.int .u32 0, .int .u32 0] 37)) hb7)
        have HR7 : Hid (RdIs (w7.alloc (.cells #[.int .u32 0, .int .u32 0] 37)) W3.heap.size n r bad bad true) := Lib.hid (by
          obtain ⟨a, b, c, d⟩ := hrd7
          exact ⟨a, b, c, rd_alloc d⟩)
        clear hrd7 hb7
        go_wp2_with fail
        refine (line_any W3.heap.size n r bad bad true _ HR7.out).mono ?_
        rintro e w8 ⟨rfl, rfl⟩
        go_wp2_with fail
        rw [rounds_succ]
        go_wp2_with fail
        refine (awake_any _).mono ?_
        rintro e w9 ⟨rfl, hb9⟩
        have HBF := Lib.hid ((((HB5.out.grown HG7.out HB5.out.size (fun j hj => by injection hj; omega)).alloc (Nat.le_trans HB5.out.size HG7.out.size) (.cells #[.int .u32 0, .int .u32 0] 37))).trans (hb9.mono (by have := HB5.out.size; have := HG7.out.size; simp; omega)))
        clear hb9
        go_wp2_with fail
        go_ret
        exact ⟨rfl, HBF.out⟩

theorem edgesReads_walk (n : Int) (s : ByteArray) (w : World) :
    Calls Try.prog 3 #[.int .i64 n, .string s] w fun e w' => e = .returned (.bool true) ∧ Below w.heap.size w w' := by
  rcases hm : mayRead n s with _ | _
  · exact edgesReads_no n s hm w
  · exact edgesReads_yes n s hm w

end Go.Proofs.Ytogkcmmbckgkiaa.edg
