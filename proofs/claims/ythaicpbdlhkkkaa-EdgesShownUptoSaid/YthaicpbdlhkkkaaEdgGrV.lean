/- edges: the walk of Group. -/
import Derived.Test.YthaicpbdlhkkkaaEdgGrp
import Derived.StillTailTactics
namespace Go.Proofs.Ythaicpbdlhkkkaa.edg
open Go.RowKit Go.Proofs.Ythaicpbdlhkkkaa.own Go.Proofs.Ythaicpbdlhkkkaa.so

theorem upd_upd {α : Type} (g : Nat → α) (f : Nat) (x y : α) : upd (upd g f x) f y = upd g f y := by
  funext i
  unfold upd
  split <;> rfl
/-- the rows when so many are sorted -/
def mid (l : List (Nat × Nat)) (k v : Nat) : List Int := if v < k then fin (grp l v) else grp l v
theorem mid_step (l : List (Nat × Nat)) (k : Nat) : mid l (k + 1) = upd (mid l k) k (fin (grp l k)) := by
  funext v
  unfold mid upd
  by_cases h : v = k
  · subst h
    rw [if_pos (by omega), if_pos rfl]
  · rw [if_neg h]
    show _ = if v < k then fin (grp l v) else grp l v
    by_cases h2 : v < k
    · rw [if_pos h2, if_pos (by omega)]
    · rw [if_neg h2, if_neg (by omega)]
theorem mid_end (l : List (Nat × Nat)) (n : Nat) (w w0 : World) (base gb : Nat) (h : GR w0 base gb n (mid l n) w) : GR w0 base gb n (fun v => fin (grp l v)) w := by
  obtain ⟨h1, h2, vs, h3, h4, h5⟩ := h
  refine ⟨h1, h2, vs, h3, fun i hi => ?_, h5⟩
  have := h4 i hi
  unfold mid at this
  rw [if_pos hi] at this
  exact this
theorem mid_at (l : List (Nat × Nat)) (k : Nat) : mid l k k = grp l k := by
  unfold mid
  rw [if_neg (by omega)]

/-- a number more in a row -/
theorem grp_step {w W6 w7 : World} {B n f eb H gg len cap2 : Nat} {t : Int} {L : Nat → List Int} {vs : Nat → Value} {ex ey : Int} {T : TypeId} (B6 : Below B w W6) (Q6 : W6.heap[B]? = some (.cells (rowC n vs) 47 (0, 0))) (V6 : GV B B n L vs W6)
    (R6 : W6.heap[eb]? = some (.cells #[.int .u32 ex, .int .u32 ey] T (0, 0))) (NE : ∀ b, (vs f).ownBlock = some b → b < eb) (hf : f < n) (LB6 : B ≤ W6.heap.size) (hH : W6.heap.size ≤ H) (hlen : len = (L f).length)
    (own7 : w7.ownsRow B 35 1 (.slice (some ⟨gg, 0, none⟩) (len + 1) cap2) (len + 1) ((L f).map U ++ [.int .u32 t])) (hg7 : W6.grownBy w7 (vs f).ownBlock) (hat7 : (vs f).ownBlock = some gg ∨ gg = H) :
    w7.cell? ⟨B, f, none⟩ = some (vs f) ∧ w7.frozen? ⟨B, f, none⟩ = false ∧ w7.cell? ⟨eb, 0, none⟩ = some (.int .u32 ex) ∧ w7.cell? ⟨eb, 1, none⟩ = some (.int .u32 ey) ∧ GR w B B n (upd L f (L f ++ [t])) (w7.setCell ⟨B, f, none⟩ (.slice (some ⟨gg, 0, none⟩) (len + 1) cap2)) := by
  subst hlen
  have qs := (hg7.block B (lt_of_block Q6) (fun e => (V6.1 f hf).2 e.symm)).trans Q6
  have re := (hg7.block eb (lt_of_block R6) (fun e => Nat.lt_irrefl _ (NE eb e.symm))).trans R6
  refine ⟨(cell_of_row w7 _ _ _ _ _ qs).trans (rowC_at n vs f hf), frozen_of_row w7 _ f _ _ qs, (cell_of_row w7 _ _ _ _ _ re).trans rfl, (cell_of_row w7 _ _ _ _ _ re).trans rfl, ?_⟩
  refine GR.put (k := H) (xs' := L f ++ [t]) B6 (Nat.le_refl _) Q6 V6 hf LB6 ?_ hg7 (hat7.imp (fun e => e.symm) (fun e => ⟨by rw [e]; rfl, hH⟩))
  rw [List.length_append, List.map_append]
  exact own7

set_option maxRecDepth 100000 in
set_option maxHeartbeats 3200000 in
theorem group_all (w : World) (aT : Option Addr) (l : List (Nat × Nat)) (c n : Nat) (hn : n ≤ 65536) (h : EdgIs w aT l) (hlen : l.length ≤ 1099511627776) :
    Calls Try.prog 20 #[.int .i64 (n : Int), .slice aT l.length c] w fun e w' => ((∀ t ∈ l, t.1 < n ∧ t.2 < n) ∧ ∃ gb, e = .returned (.tuple #[.slice (some ⟨gb, 0, none⟩) n n, .int .i64 0]) ∧ GR w w.heap.size gb n (fun v => fin (grp l v)) w') ∨ (¬ (∀ t ∈ l, t.1 < n ∧ t.2 < n) ∧ e = .returned (.tuple #[.slice none 0 0, .int .i64 1]) ∧ Below w.heap.size w w') := by
  have HE := Lib.hid h
  clear h
  have n0 : ¬ (n : Int) < 0 := by omega
  have n1 : ¬ (65536 : Int) < (n : Int) := by omega
  obtain ⟨i0, hi, hz0, hz1, hz2⟩ := info_parts Try.infoRow
  obtain ⟨w1, hrun, hown, hg⟩ := run_make_full w w.heap.size 44 47 i0 _ 1 (by kernel_rfl) hi hz0 hz1 .i64 .i64 n (by rw [hz2]; omega) (by simp only [maxLen]; omega) (Nat.le_refl _)
  have G0 : Hid (GR w w.heap.size w.heap.size n (grp (l.take 0)) w1) := Lib.hid (by
    refine ⟨(Below.refl _ _).grown hg (Nat.le_refl _) (fun k hk => by cases hk), Nat.le_refl _, fun _ => .slice none 0 0, ?_, fun i hi => ⟨?_, ?_⟩, fun i j _ _ _ b hb => by cases hb⟩
    · rcases hown.2 with ⟨e, _⟩ | ⟨g, cap, cur, hv, _, hb, _, _, h3, h4⟩
      · cases e
      · injection hv with hv _ hc
        injection hv with hv
        injection hv with hv
        subst hv hc
        rw [hb]
        have e : cur = rowC n (fun _ => .slice none 0 0) := by
          apply Array.ext'
          rw [Nat.mul_one] at h3 h4
          rw [List.take_of_length_le (by simp; omega)] at h4
          rw [h4]
          show (madeCells #[Value.slice none 0 0] n).toList = _
          rw [toList_madeCells_one]
          unfold rowC
          apply List.ext_getElem?
          intro i
          by_cases h : i < n <;> simp [h]
        rw [e]
    · exact ⟨rfl, .inl ⟨rfl, rfl⟩⟩
    · intro e; cases e)
  clear hown hg hi hz0 hz1 hz2
  go_enter Try.func20, Try.ntmps20
  go_wp2_with fail
  clear hrun
  obtain ⟨B, hB⟩ : ∃ B, w.heap.size = B := ⟨_, rfl⟩
  rw [hB] at G0 ⊢
  have HB := Lib.hid hB
  clear hB
  go_loopw [20] (fun vi wr => ∃ k : Nat, vi = .int .i64 (k : Int) ∧ k ≤ l.length ∧ (∀ t ∈ l.take k, t.1 < n ∧ t.2 < n) ∧ GR w B B n (grp (l.take k)) wr) (fun vi _ => l.length - (intOf vi).toNat)
  case atStart => exact ⟨0, rfl, Nat.zero_le _, fun t ht => by simp at ht, G0.out⟩
  case round =>
    obtain ⟨k, rfl, hk, hP, hG⟩ := hrel
    have HP := Lib.hid hP
    clear hP
    have HG := Lib.hid hG
    by_cases hlt : k < l.length
    · obtain ⟨g, o, ha, hgl, hc0, hc1, u0, u1⟩ := HE.out k hlt
      subst ha
      have e0 := (hG.1.cell (p := ⟨g, o + k * 2, none⟩) (by have := HB.out; simp; omega)).trans hc0
      have e1 := (hG.1.cell (p := ⟨g, o + k * 2 + 1, none⟩) (by have := HB.out; simp; omega)).trans hc1
      have HP1 : Hid (l[k].1 < n ∧ l[k].2 < n → ∀ t ∈ l.take (k + 1), t.1 < n ∧ t.2 < n) := Lib.hid (fun h t ht => by
        rw [List.take_succ_eq_append_getElem hlt] at ht
        rcases List.mem_append.1 ht with ht | ht
        · exact HP.out t ht
        · simp only [List.mem_singleton] at ht; rw [ht]; exact h)
      have HP2 : Hid (¬ (l[k].1 < n ∧ l[k].2 < n) → ¬ ∀ t ∈ l, t.1 < n ∧ t.2 < n) := Lib.hid (fun h g => h (g _ (List.getElem_mem hlt)))
      have GT := Lib.hid (grp_take l k hlt)
      obtain ⟨f, hf2⟩ : ∃ f, l[k].1 = f := ⟨_, rfl⟩
      obtain ⟨t, ht2⟩ : ∃ t, l[k].2 = t := ⟨_, rfl⟩
      rw [hf2] at e0 u0 GT HP1 HP2
      rw [ht2] at e1 u1 GT HP1 HP2
      clear hf2 ht2 hc0 hc1 hG
      have k0 : (k : Int) < (l.length : Int) := by omega
      by_cases hin : f < n ∧ t < n
      · obtain ⟨hf, ht⟩ := hin
        go_upto_region 7 with fail
        clear e0 e1
        obtain ⟨hB1, -, vs, hrow, hv⟩ := HG.out
        have hgb := lt_of_block hrow
        have hbw : B ≤ wr.heap.size := by omega
        have k1 : Below wr.heap.size wr (wr.alloc (.cells #[.int .u32 (f : Int), .int .u32 (t : Int)] 37)) := (Below.refl _ _).alloc (Nat.le_refl _) _
        have r1 := heap_alloc_new wr (.cells #[.int .u32 (f : Int), .int .u32 (t : Int)] 37)
        have B5 := Lib.hid (hB1.trans (k1.mono hbw))
        have Q5 := Lib.hid ((k1.block _ hgb).trans hrow)
        have V5 := Lib.hid (hv.next k1)
        have NE := Lib.hid (fun b (hb : (vs f).ownBlock = some b) => ((hv.1 f hf).1.lt b hb).2)
        obtain ⟨eb, heb⟩ : ∃ b, wr.heap.size = b := ⟨_, rfl⟩
        rw [heb] at r1 hbw NE hgb ⊢
        generalize wr.alloc (.cells #[.int .u32 (f : Int), .int .u32 (t : Int)] 37) = W5 at r1 B5 Q5 V5 ⊢
        have R5 := Lib.hid r1
        have GB := Lib.hid hgb
        have HBW := Lib.hid hbw
        obtain ⟨av, cap, hvf⟩ := own_shape (V5.out.1 f hf).1
        have HVF := Lib.hid hvf
        have c0 : W5.cell? ⟨eb, 0, none⟩ = some (.int .u32 (f : Int)) := by rw [cell_of_row W5 _ _ _ _ _ r1]; rfl
        have c1 : W5.cell? ⟨eb, 1, none⟩ = some (.int .u32 (t : Int)) := by rw [cell_of_row W5 _ _ _ _ _ r1]; rfl
        have m1 : ¬ ((n : Int) ≤ max (f : Int) (t : Int)) := by omega
        clear k1 r1 HG heb hB1 hrow hv hgb hbw
        go_upto_region 9 with fail
        obtain ⟨j0, hj, hj0, hj1, hj2⟩ := info_parts Try.infoU32
        have gf : W5.cell? ⟨B, f, none⟩ = some (.slice av (grp (l.take k) f).length cap) := by rw [← HVF.out]; exact (cell_of_row W5 _ _ _ _ _ Q5.out).trans (rowC_at n vs f hf)
        have f0 : (f : Int) < (n : Int) := by omega
        have LB5 : Hid (B ≤ W5.heap.size) := Lib.hid (Nat.le_of_lt (lt_of_block Q5.out))
        have LK := Lib.hid (grp_length (l.take k) f)
        have LK2 : Hid ((l.take k).length ≤ 1099511627776) := Lib.hid (by rw [List.length_take]; omega)
        have ka : Below W5.heap.size W5 (W5.alloc (.cells #[.int .u32 (t : Int)] 35)) := (Below.refl _ _).alloc (Nat.le_refl _) _
        have b0 := (ka.cell (World.block_lt_of_cell? _ _ c0)).trans c0
        have b1 := (ka.cell (World.block_lt_of_cell? _ _ c1)).trans c1
        have b2 := (ka.cell (World.block_lt_of_cell? _ _ gf)).trans gf
        have B6 := Lib.hid (B5.out.trans (ka.mono LB5.out))
        have Q6 := Lib.hid ((ka.block _ (lt_of_block Q5.out)).trans Q5.out)
        have V6 := Lib.hid (V5.out.next ka)
        have R6 := Lib.hid ((ka.block _ (lt_of_block R5.out)).trans R5.out)
        have LB6 : Hid (B ≤ (W5.alloc (.cells #[.int .u32 (t : Int)] 35)).heap.size) := Lib.hid (Nat.le_trans LB5.out ka.size)
        have OWN := Lib.hid (V6.out.1 f hf).1
        rw [hvf] at OWN
        have NEW := Lib.hid (World.news_of_block (cs := #[.int .u32 (t : Int)]) (t := 35) (fr := (0, 0)) (heap_alloc_new W5 (.cells #[.int .u32 (t : Int)] 35)))
        have STEP := Lib.hid (fun (gg cap2 : Nat) (w7 : World) (own7 : w7.ownsRow B 35 1 (.slice (some ⟨gg, 0, none⟩) ((grp (l.take k) f).length + 1) cap2) ((grp (l.take k) f).length + 1) ((grp (l.take k) f).map U ++ [.int .u32 (t : Int)])) (hg7 : (W5.alloc (.cells #[.int .u32 (t : Int)] 35)).drew.grownBy w7 (Value.slice av (grp (l.take k) f).length cap).ownBlock) (hat7 : (Value.slice av (grp (l.take k) f).length cap).ownBlock = some gg ∨ gg = W5.heap.size + 1) =>
          grp_step (gg := gg) (cap2 := cap2) (w7 := w7) (t := (t : Int)) (len := (grp (l.take k) f).length) (H := W5.heap.size + 1) B6.out Q6.out V6.out R6.out NE.out hf LB6.out (by simp) rfl own7 (by rw [HVF.out]; exact ⟨hg7.os, hg7.tape, hg7.output, hg7.size, hg7.block⟩) (by rw [HVF.out]; exact hat7))
        clear ka B5 Q5 V5 R5 m1
        go_region_law (first
          | (refine step_append_lies _ (by rfl) _ _ _ (by rfl) B 35 j0 _ 1 4 Try.underlying47 hj hj0 hj1 hj2 rfl (by decide) _ _ _ (by rfl) OWN.out ⟨W5.heap.size, 0, none⟩ 1 1 [.int .u32 (t : Int)] (by rfl) (by rfl) NEW.out (by simp [Value.oneCell']) (by decide) (by have h1 := LK.out; have h2 := LK2.out; simp only [maxLen]; omega) (by have h1 := LK.out; have h2 := LK2.out; omega) LB6.out (W5.heap.size + 1) (by simp) ?_; intro gg cap2 w7 own7 hg7 hat7 hlt7; obtain ⟨cs, fs, d0, d1, hR⟩ := STEP.out _ _ _ own7 hg7 hat7; have R := Lib.hid hR; clear hR own7 hg7 hat7))
        all_goals
          go_wp2_with fail
          go_roundw
          case rel => exact ⟨k + 1, by go_num, by omega, HP1.out ⟨hf, ht⟩, by rw [GT.out]; simpa using R.out⟩
          case measure => simp [intOf]; omega
      · have HB2 := Lib.hid (HP2.out hin)
        have BE := Lib.hid HG.out.1
        have m1 : (n : Int) ≤ max (f : Int) (t : Int) := by omega
        clear HG hin
        go_wp2_with fail
        go_ret2
        exact .inr ⟨HB2.out, rfl, by rw [HB.out]; exact BE.out.alloc (by have h1 := BE.out.size; have h2 := HB.out; omega) _⟩
    · have hkl : k = l.length := by omega
      have HALL : Hid (∀ t ∈ l, t.1 < n ∧ t.2 < n) := Lib.hid (by have h := HP.out; rwa [hkl, List.take_length] at h)
      have G1 : Hid (GR w B B n (mid l 0) wr) := Lib.hid (by
        have h := HG.out
        rw [hkl, List.take_length] at h
        have e : mid l 0 = grp l := by funext v; unfold mid; rw [if_neg (by omega)]
        rw [e]; exact h)
      have k0 : ¬ (k : Int) < (l.length : Int) := by omega
      clear hG HG hkl
      go_wp2_with fail
      go_loopw [49] (fun vi wr => ∃ k : Nat, vi = .int .i64 (k : Int) ∧ k ≤ n ∧ GR w B B n (mid l k) wr) (fun vi _ => n - (intOf vi).toNat)
      case atStart => exact ⟨0, rfl, Nat.zero_le _, G1.out⟩
      case round =>
        obtain ⟨v, rfl, hv, hG⟩ := hrel
        have HG := Lib.hid hG
        by_cases hlt2 : v < n
        · obtain ⟨B1, -, vs, Q1, V1⟩ := hG
          have own := (V1.1 v hlt2).1
          rw [mid_at] at own
          have LK := Lib.hid (grp_length l v)
          have hbs : B ≤ wr.heap.size := Nat.le_of_lt (lt_of_block Q1)
          have SR := Lib.hid (sort_row wr B (vs v) (grp l v) own (by have := LK.out; omega))
          obtain ⟨av, cap, hvs⟩ := own_shape own
          have HVS := Lib.hid hvs
          have c0 : wr.cell? ⟨B, v, none⟩ = some (.slice av (grp l v).length cap) := by rw [← hvs]; exact (cell_of_row wr _ _ _ _ _ Q1).trans (rowC_at n vs v hlt2)
          have v0 : (v : Int) < (n : Int) := by omega
          rw [hvs] at SR
          have HB1 := Lib.hid B1
          have HQ1 := Lib.hid Q1
          have HV1 := Lib.hid V1
          have HBS := Lib.hid hbs
          clear B1 Q1 V1 own hvs hbs HG
          go_wp2_with fail
          refine SR.out.mono ?_
          rintro e w2 ⟨rfl, own2, hg2⟩
          rw [← HVS.out] at own2 hg2
          have own2' : w2.ownsRow B 35 1 (vs v) (srt (grp l v)).length ((srt (grp l v)).map U) := by rw [srt_length]; exact own2
          obtain ⟨B2, Q2, V2⟩ := GR.stay HB1.out HQ1.out HV1.out hlt2 HBS.out own2' hg2
          have hbs2 : B ≤ w2.heap.size := Nat.le_of_lt (lt_of_block Q2)
          have CR := Lib.hid (compact_row w2 B (vs v) (srt (grp l v)) own2' (by rw [srt_length]; have := LK.out; omega))
          have c1 : w2.cell? ⟨B, v, none⟩ = some (.slice av (grp l v).length cap) := by rw [← HVS.out]; exact (cell_of_row w2 _ _ _ _ _ Q2).trans (rowC_at n vs v hlt2)
          rw [HVS.out] at CR
          have HB2 := Lib.hid B2
          have HQ2 := Lib.hid Q2
          have HV2 := Lib.hid V2
          have HBS2 := Lib.hid hbs2
          clear B2 Q2 V2 hbs2 own2 own2' hg2 c0 SR HB1 HQ1 HV1 HBS
          go_wp2_with fail
          refine CR.out.mono ?_
          rintro e w3 ⟨v', rfl, own3, hg3, hat3⟩
          rw [← HVS.out] at hg3 hat3
          have R := Lib.hid (GR.put (k := w2.heap.size) (xs' := fin (grp l v)) HB2.out (Nat.le_refl _) HQ2.out HV2.out hlt2 HBS2.out own3 hg3 (.inl hat3))
          have q3 := (hg3.block B (lt_of_block HQ2.out) (fun e => (HV2.out.1 v hlt2).2 e.symm)).trans HQ2.out
          have c3 : w3.cell? ⟨B, v, none⟩ = some (vs v) := (cell_of_row w3 _ _ _ _ _ q3).trans (rowC_at n vs v hlt2)
          have f3 : w3.frozen? ⟨B, v, none⟩ = false := frozen_of_row w3 _ v _ _ q3
          obtain ⟨a3, cap3, rfl⟩ := own_shape own3
          clear q3 own3 hg3 hat3 c1 CR HB2 HQ2 HV2 HBS2
          go_wp2_with fail
          go_roundw
          case rel => exact ⟨v + 1, by go_num, by omega, by rw [mid_step, ← upd_upd (mid l v) v (srt (grp l v))]; exact R.out⟩
          case measure => simp [intOf]; omega
        · have v0 : ¬ (v : Int) < (n : Int) := by omega
          have E : Hid (GR w B B n (fun v => fin (grp l v)) wr) := Lib.hid (by
            have e : v = n := by omega
            rw [e] at hG
            exact mid_end l n wr w B B hG)
          clear hG HG
          go_wp2_with fail
          go_ret2
          exact .inl ⟨(by first | exact HALL.out | exact fun a b h => HALL.out (a, b) h), B, rfl, by rw [HB.out]; exact E.out⟩
theorem group_any (w : World) (aT : Option Addr) (l : List (Nat × Nat)) (c n : Nat) (hn : n ≤ 65536) (h : EdgIs w aT l) (hlen : l.length ≤ 1099511627776) (hin : ∀ t ∈ l, t.1 < n ∧ t.2 < n) :
    Calls Try.prog 20 #[.int .i64 (n : Int), .slice aT l.length c] w fun e w' => ∃ gb, e = .returned (.tuple #[.slice (some ⟨gb, 0, none⟩) n n, .int .i64 0]) ∧ GR w w.heap.size gb n (fun v => fin (grp l v)) w' := by
  refine (group_all w aT l c n hn h hlen).mono ?_
  rintro e w' (⟨_, hh⟩ | ⟨hno, _⟩)
  · exact hh
  · exact absurd hin hno
set_option maxRecDepth 100000 in
/-- Group where the number of vertices is none. -/
theorem group_none (w : World) (aT : Option Addr) (k c : Nat) (n : Int) (hn : n < 0 ∨ 65536 < n) :
    Calls Try.prog 20 #[.int .i64 n, .slice aT k c] w fun e w' => e = .returned (.tuple #[.slice none 0 0, .int .i64 1]) ∧ w = w' := by
  by_cases h0 : n < 0
  · go_enter Try.func20, Try.ntmps20
    go_wp2_with fail
    go_ret2
    exact ⟨rfl, rfl⟩
  · have h1 : (65536 : Int) < n := by omega
    clear hn
    go_enter Try.func20, Try.ntmps20
    go_wp2_with fail
    go_ret2
    exact ⟨rfl, rfl⟩
end Go.Proofs.Ythaicpbdlhkkkaa.edg
