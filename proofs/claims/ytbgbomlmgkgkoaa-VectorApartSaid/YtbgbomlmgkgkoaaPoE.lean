/- pool: the contracts of Size, Write, Pin, Unpin, Text, Stats. -/
import Derived.Test.YtbgbomlmgkgkoaaPoD
import Derived.BigQuiet
namespace Go.Proofs.Ytbgbomlmgkgkoaa.arcI
open Go.RowKit Go.Proofs.Ytbgbomlmgkgkoaa.own Go.Proofs.Ytbgbomlmgkgkoaa.dv Go.Proofs.Ytbgbomlmgkgkoaa.po

theorem SSize_any (x : Nat → Nat) (c0 d0 sb db eb cb pm : Nat) (blk : Int → Nat) (s : Sp) (D : Dev) (N : Nat) (w : World) (h : TI x c0 w sb db eb cb pm blk s N) (hd : DIs x d0 w db D N) (ok : D.Ok) :
    Calls Try.prog 26 #[.pointer (some ⟨sb, 0, none⟩)] w fun e w' => e = .returned (.int .i64 (D.size : Nat)) ∧ w = w' := by
  obtain ⟨q0, -⟩ := h.cells
  have HD := Lib.hid hd
  have OK := Lib.hid ok
  clear h hd ok
  go_enter Try.func26, Try.ntmps26
  go_wp2_with fail
  refine (Size_any x d0 db D N _ HD.out OK.out).mono ?_
  rintro e w1 ⟨rfl, rfl⟩
  go_wp2_with fail
  go_ret
  exact ⟨rfl, rfl⟩

theorem Write_do (no : Int) (x : Nat → Nat) (c0 sb db eb cb pm : Nat) (blk : Int → Nat) (s : Sp) (N : Nat) (w : World) (tb : Nat) (p : Pg) (u : ByteArray) (hk : KOK no) (h : TI x c0 w sb db eb cb pm blk s N) (hp : s.pg no = some p) (ht : w.heap[tb]? = some (.cells #[.string u] 9 (0, 0))) :
    Calls Try.prog 50 #[.pointer (some ⟨blk no, 0, none⟩), .pointer (some ⟨tb, 0, none⟩)] w fun e w' => e = .returned (.tuple #[]) ∧ Fr x x (TC c0) w w' ∧ TI x c0 w' sb db eb cb pm blk (setPg s no ⟨u, true, p.pins⟩) N := by
  obtain ⟨p0, p1, -, pf⟩ := h.page hk hp
  have t0 : w.cell? ⟨tb, 0, none⟩ = some (.string u) := by rw [cell_of_row w _ _ _ _ _ ht]; rfl
  have hpg := (h.pgs no p hk hp).1
  have hg1 := grownBy_setCell_at w (blk no) 0 (.string u)
  have hg2 := grownBy_setCell_at (w.setCell ⟨blk no, 0, none⟩ (.string u)) (blk no) 1 (.bool true)
  have hset : ((w.setCell ⟨blk no, 0, none⟩ (.string u)).setCell ⟨blk no, 1, none⟩ (.bool true)).heap[blk no]? = some (.cells (pgCells ⟨u, true, p.pins⟩) 106 (0, 0)) := by
    rw [heap_setCell_same _ _ 1 _ _ _ (heap_setCell_same w _ 0 _ _ _ hpg)]; rfl
  have S := h.setPage hk (by rw [hp]; rfl) ⟨u, true, p.pins⟩ (grown_trans hg1 hg2) (by simp) hset (Nat.le_refl N) (h.b6 no p hk hp)
  have SS := Lib.hid S
  clear h hp ht hpg hg1 hg2 hset S
  go_enter Try.func50, Try.ntmps50
  go_wp2_with fail
  go_end0
  exact ⟨rfl, SS.out⟩

set_option maxRecDepth 100000 in
set_option maxHeartbeats 1600000 in
theorem SWrite_any (x : Nat → Nat) (c0 d0 sb db eb : Nat) (s : Sp) (D : Dev) (N : Nat) (w : World) (no : Int) (u : ByteArray) (h : SIs x c0 d0 w sb db eb s D N) (ok : SpOk s D) (hcd : c0 + 9 < d0 ∨ d0 + 2 < c0) (h0 : 0 ≤ no) (h1 : no < D.nb) (hN : N + 8 < 1099511627776) (hu : u.size = D.size) (he : (touchS s.arc no).2.2.2 = 0) :
    Calls Try.prog 12 #[.pointer (some ⟨sb, 0, none⟩), .int .i64 no, .string u] w fun e w' => e = .returned (.int .i64 0) ∧ STurned x c0 d0 w w' sb db eb (setPg (fetchS s D no true).1.1 no ⟨u, true, s.arc.pins no⟩) (fetchS s D no true).1.2 (N + 8) := by
  obtain ⟨⟨cb, pm, blk, t⟩, d⟩ := h
  have hb := ok.dev.blocks
  have hk : KOK no := WalkArith.wf_i64 (by omega)
  obtain ⟨⟨p, hp, hp2, -⟩, -⟩ := fetch_ok s D no true ok h0 h1 (by unfold fetchS; rw [if_pos he]; split <;> rfl)
  have hsz : D.size ≤ 4096 := by have := ok.dev.sectors; unfold Dev.size; omega
  have hb1 : Below w.heap.size w (w.alloc (.cells #[.string u] 9)) := (Below.refl _ w).alloc (Nat.le_refl _) _
  have t1 := t.below hb1 (x' := paint x w.heap.size (c0 + 6)) (fun b hb => paint_old hb)
  have d1 := d.below hb1 (x' := paint x w.heap.size (c0 + 6)) (fun b hb => paint_old hb)
  have xb : paint x w.heap.size (c0 + 6) w.heap.size = c0 + 6 := paint_new (Nat.le_refl _)
  have hbx := World.alloc_heap_new w (.cells #[.string u] 9)
  have hF : Fr x (paint x w.heap.size (c0 + 6)) (PC c0 d0) w (w.alloc (.cells #[.string u] 9)) := Fr.of_below hb1 PC6
  have T1 := Lib.hid t1
  have D1 := Lib.hid d1
  have XB := Lib.hid xb
  have HBX := Lib.hid hbx
  have HF := Lib.hid hF
  have OK := Lib.hid ok
  have HE := Lib.hid he
  have HK := Lib.hid hk
  have HP := Lib.hid hp
  have HP2 := Lib.hid hp2
  have E : (((u.size : Nat) : Int) != ((D.size : Nat) : Int)) = false := by rw [hu]; simp
  clear t d hk hp hp2 hb1 t1 d1 xb hbx hF ok he hu
  go_enter Try.func12, Try.ntmps12
  go_wp2_with fail
  generalize (World.alloc w _) = W1 at T1 D1 HBX HF ⊢
  generalize paint x w.heap.size (c0 + 6) = x1 at T1 D1 XB HF
  refine (sready_ok x1 c0 d0 sb db eb cb pm blk s D N W1 T1.out D1.out OK.out.dead OK.out.up).mono ?_
  rintro e w2 ⟨rfl, rfl⟩
  have k0 : W1.cell? ⟨w.heap.size, 0, none⟩ = some (.string u) := by rw [cell_of_row W1 _ _ _ _ _ HBX.out]; rfl
  have SQ : Hid (∀ m, Calls Try.prog 26 #[.pointer (some ⟨sb, 0, none⟩)] (W1.drewN m) fun e w' => e = .returned (.int .i64 (D.size : Nat)) ∧ ∃ n, w' = (W1.drewN m).drewN n) :=
    Lib.hid (fun m => (SSize_any x1 c0 d0 sb db eb cb pm blk s D N _ (T1.out.drewN m) (D1.out.drewN m) OK.out.dev).mono (fun e w' hh => ⟨hh.1, 0, hh.2.symm⟩))
  go_wp2_with fail
  go_quiet (first | (go_at_call 26; exact Calls.quiet_of (SQ.out _)))
  go_wp2_with fail
  refine (fetch_done x1 c0 d0 sb db eb cb pm blk s D N _ no true 50 (enters_of Try.func50 (by kernel_rfl) rfl) [.pointer (some ⟨w.heap.size, 0, none⟩)]
    (fun w' => ∃ x2, Fr x1 x2 (PC c0 d0) (W1.drewN nq) w' ∧ SIs x2 c0 d0 w' sb db eb (setPg (fetchS s D no true).1.1 no ⟨u, true, s.arc.pins no⟩) (fetchS s D no true).1.2 (N + 8)) (T1.out.drewN nq) (D1.out.drewN nq) OK.out hcd h0 h1 hN HE.out ?_).mono ?_
  · intro x2 w2 blk2 f2 t2 d2
    have lb := lt_of_block HBX.out
    have hbx2 : w2.heap[w.heap.size]? = some (.cells #[.string u] 9 (0, 0)) := (f2.old _ lb (by rw [XB.out]; exact fun hc => not6 hcd _ hc rfl)).trans HBX.out
    refine (Write_do no x2 c0 sb db eb cb pm blk2 _ (N + 8) w2 w.heap.size p _ HK.out t2 HP.out hbx2).mono ?_
    rintro e w3 ⟨rfl, f3, t3⟩
    rw [HP2.out] at t3
    exact ⟨rfl, x2, (f2.mono (PD_PC c0 d0)).trans (f3.mono (fun e he => PD_PC c0 d0 e (.inl he))), ⟨cb, pm, blk2, t3⟩, d2.frame f3 (fun e he hc => (no_PD hcd).1 e he hc)⟩
  · rintro e w3 ⟨rfl, x3, f3, s3⟩
    have F3 := Lib.hid f3
    have S3 := Lib.hid s3
    clear f3 s3
    go_wp2_with fail
    go_ret
    exact ⟨rfl, x3, (Fr.drewN HF.out nq).trans F3.out, S3.out⟩

/-! ### pins -/
def pinDone (s : Sp) (no : Int) (p : Pg) : Sp :=
  { s with pg := updP s.pg no (some { p with pins := p.pins + 1 }), arc := pinS s.arc no, pinned := if p.pins = 0 then s.pinned + 1 else s.pinned, most := if p.pins = 0 then max s.most (s.pinned + 1) else s.most }
def unpinDone (s : Sp) (no : Int) (p : Pg) : Sp :=
  { s with pg := updP s.pg no (some { p with pins := p.pins - 1 }), arc := unpinS s.arc no, pinned := if p.pins = 1 then s.pinned - 1 else s.pinned }

set_option maxRecDepth 100000 in
set_option maxHeartbeats 3200000 in
theorem Pin_do (no : Int) (x : Nat → Nat) (c0 sb db eb cb pm : Nat) (blk : Int → Nat) (s : Sp) (N : Nat) (w : World) (b1 b2 : Nat) (p : Pg) (hk : KOK no) (h : TI x c0 w sb db eb cb pm blk s N) (hp : s.pg no = some p) (ha : no ∈ s.arc.once ∨ no ∈ s.arc.often) (hpp : p.pins = s.arc.pins no) (hN : N + 1 < 1099511627776)
    (h1 : w.heap[b1]? = some (.cells #[.pointer (some ⟨sb, 0, none⟩)] 23 (0, 0))) (h2 : w.heap[b2]? = some (.cells #[.int .i64 no] 3 (0, 0))) (x1 : x b1 = c0 + 6) (x2 : x b2 = c0 + 6) :
    Calls Try.prog 51 #[.pointer (some ⟨blk no, 0, none⟩), .pointer (some ⟨b1, 0, none⟩), .pointer (some ⟨b2, 0, none⟩)] w fun e w' => e = .returned (.tuple #[]) ∧ ∃ x', Fr x x' (TC c0) w w' ∧ TI x' c0 w' sb db eb cb pm blk (pinDone s no p) (N + 1) := by
  have hpin : p.pins ≤ N := h.b6 no p hk hp
  have H := Lib.hid h
  have HK := Lib.hid hk
  have HP := Lib.hid hp
  have HA := Lib.hid ha
  have HPP := Lib.hid hpp
  have H1 := Lib.hid h1
  have H2 := Lib.hid h2
  have X1 := Lib.hid x1
  have X2 := Lib.hid x2
  clear h hk hp ha hpp h1 h2 x1 x2
  go_enter Try.func51, Try.ntmps51
  go_wp2_with fail
  refine wp_region_still_tail 5 (by kernel_rfl) (by kernel_rfl) ?_
  simp only [List.take_succ_cons, List.take_zero, List.drop_succ_cons, List.drop_zero]
  have F2 : Hid (Fr x x (TC c0) w ({ w with drawn := w.drawn + 1 } : World)) := Lib.hid (Fr.drewN (Fr.refl _ _ _) 1)
  have T2 : Hid (TI x c0 ({ w with drawn := w.drawn + 1 } : World) sb db eb cb pm blk s N) := Lib.hid (H.out.drewN 1)
  have A1 : Hid (({ w with drawn := w.drawn + 1 } : World).heap[b1]? = some (.cells #[.pointer (some ⟨sb, 0, none⟩)] 23 (0, 0))) := Lib.hid H1.out
  have A2 : Hid (({ w with drawn := w.drawn + 1 } : World).heap[b2]? = some (.cells #[.int .i64 no] 3 (0, 0))) := Lib.hid H2.out
  clear H H1 H2
  generalize ({ w with drawn := w.drawn + 1 } : World) = W2 at F2 T2 A1 A2 ⊢
  have k1 : W2.cell? ⟨b1, 0, none⟩ = some (.pointer (some ⟨sb, 0, none⟩)) := by rw [cell_of_row W2 _ _ _ _ _ A1.out]; rfl
  have k2 : W2.cell? ⟨b2, 0, none⟩ = some (.int .i64 no) := by rw [cell_of_row W2 _ _ _ _ _ A2.out]; rfl
  have k3 : W2.cell? ⟨sb, 2, none⟩ = some (.pointer (some ⟨cb, 0, none⟩)) := by obtain ⟨-, -, a, -⟩ := T2.out.cells; exact a
  repeat still_step
  refine wpStill_nil ?_
  go_wp2_with fail
  refine (Pin_any x c0 cb s.arc N W2 no HK.out T2.out.ci (by omega) (by rw [← HPP.out]; omega)).mono ?_
  rintro e w3 ⟨rfl, x3, f3, c3⟩
  have hpr : pinR s.arc no = (pinS s.arc no, 0) := by unfold pinR; rw [if_pos HA.out]
  rw [hpr] at c3 ⊢
  have t3 := T2.out.arc f3 c3 (by omega) rfl
  have sb1 : b1 ≠ sb := fun e => by have a := T2.out.xs; rw [← e, X1.out] at a; omega
  -- the page
  obtain ⟨-, -, q2, qf⟩ := t3.page HK.out HP.out
  have hpg := (t3.pgs no p HK.out HP.out).1
  have hset : (w3.setCell ⟨blk no, 2, none⟩ (.int .i64 ((p.pins : Int) + 1))).heap[blk no]? = some (.cells (pgCells { p with pins := p.pins + 1 }) 106 (0, 0)) := by
    rw [heap_setCell_same w3 _ 2 _ _ _ hpg]; rfl
  have S := t3.setPage HK.out (by show (s.pg no).isSome = true; rw [HP.out]; rfl) { p with pins := p.pins + 1 } (grownBy_setCell_at w3 (blk no) 2 (.int .i64 ((p.pins : Int) + 1))) (by simp) hset (Nat.le_refl (N + 1)) (by show p.pins + 1 ≤ N + 1; omega)
  have l1 := lt_of_block A1.out
  have l2 := lt_of_block A2.out
  have B1 : w3.heap[b1]? = some (.cells #[.pointer (some ⟨sb, 0, none⟩)] 23 (0, 0)) := (f3.old _ l1 (by rw [X1.out]; intro hc; have := hc.2; omega)).trans A1.out
  have n1 : b1 ≠ blk no := fun e => by have a := (T2.out.pgs no p HK.out HP.out).2; rw [← e, X1.out] at a; omega
  have j1 : w3.cell? ⟨b1, 0, none⟩ = some (.pointer (some ⟨sb, 0, none⟩)) := by rw [cell_of_row w3 _ _ _ _ _ B1]; rfl
  obtain ⟨-, -, -, -, -, -, -, -, -, u9, u10, -, uf⟩ := t3.cells
  have hne : blk no ≠ sb := fun e => by have a := (t3.pgs no p HK.out HP.out).2; have b := t3.xs; rw [e] at a; omega
  have F3 := Lib.hid ((F2.out.trans (f3.mono (CD_TC c0))).trans S.1)
  have T3 := Lib.hid S.2
  have bp : s.pinned ≤ N := T2.out.b4
  have bm : s.most ≤ N := T2.out.b5
  clear F2 T2 A1 A2 k1 k2 k3 f3 c3 t3 hpr hpg hset S
  by_cases hz : p.pins = 0
  · have hz2 : (((p.pins : Nat) : Int) + 1 == 1) = true := beq_iff_eq.2 (by omega)
    have HZ := Lib.hid hz
    clear hz
    go_upto_region 4 with fail
    have C := T3.out.setAt 9 (.int .i64 ((s.pinned + 1 : Nat) : Int)) { s with arc := pinS s.arc no, pg := updP s.pg no (some { p with pins := p.pins + 1 }), pinned := s.pinned + 1 } (N + 1) (Nat.le_refl _) rfl rfl rfl rfl T3.out.b1 T3.out.b2 T3.out.b3 (by show s.pinned + 1 ≤ N + 1; omega) T3.out.b5
    have ee : (((s.pinned + 1 : Nat)) : Int) = (s.pinned : Int) + 1 := by omega
    rw [ee] at C
    have D1 : ((w3.setCell ⟨blk no, 2, none⟩ (.int .i64 ((p.pins : Int) + 1))).setCell ⟨sb, 9, none⟩ (.int .i64 ((s.pinned : Int) + 1))).heap[b1]? = some (.cells #[.pointer (some ⟨sb, 0, none⟩)] 23 (0, 0)) := by
      rw [Below.heap_setCell _ _ _ _ sb1, Below.heap_setCell _ _ _ _ n1]; exact B1
    have F4 := Lib.hid (F3.out.trans C.1)
    have T4 := Lib.hid C.2
    have D1 := Lib.hid D1
    clear F3 T3 C ee j1 u9 u10 uf q2 qf B1 n1
    generalize (World.setCell _ ⟨sb, 9, none⟩ _) = W4 at F4 T4 D1 ⊢
    refine wp_region_still_tail 15 (by kernel_rfl) (by kernel_rfl) ?_
    simp only [List.take_succ_cons, List.take_zero, List.drop_succ_cons, List.drop_zero]
    have F5 : Hid (Fr x x3 (TC c0) w ({ W4 with drawn := W4.drawn + 1 } : World)) := Lib.hid (Fr.drewN F4.out 1)
    have T5 : Hid (TI x3 c0 ({ W4 with drawn := W4.drawn + 1 } : World) sb db eb cb pm blk { s with arc := pinS s.arc no, pg := updP s.pg no (some { p with pins := p.pins + 1 }), pinned := s.pinned + 1 } (N + 1)) := Lib.hid (T4.out.drewN 1)
    have D5 : Hid (({ W4 with drawn := W4.drawn + 1 } : World).heap[b1]? = some (.cells #[.pointer (some ⟨sb, 0, none⟩)] 23 (0, 0))) := Lib.hid D1.out
    clear F4 T4 D1
    generalize ({ W4 with drawn := W4.drawn + 1 } : World) = W5 at F5 T5 D5 ⊢
    have k1 : W5.cell? ⟨b1, 0, none⟩ = some (.pointer (some ⟨sb, 0, none⟩)) := by rw [cell_of_row W5 _ _ _ _ _ D5.out]; rfl
    obtain ⟨-, -, -, -, -, -, -, -, -, u9, u10, -, uf⟩ := T5.out.cells
    have C := T5.out.setAt 10 (.int .i64 ((max s.most (s.pinned + 1) : Nat) : Int)) (pinDone s no p) (N + 1) (Nat.le_refl _) (by unfold pinDone; rw [if_pos HZ.out, if_pos HZ.out]; rfl) rfl rfl rfl T5.out.b1 T5.out.b2 T5.out.b3 (by unfold pinDone; rw [if_pos HZ.out]; exact T5.out.b4) (by show (if p.pins = 0 then max s.most (s.pinned + 1) else s.most) ≤ N + 1; rw [if_pos HZ.out]; omega)
    have hmx : Hid (max (s.most : Int) ((s.pinned : Int) + 1) = ((max s.most (s.pinned + 1) : Nat) : Int)) := Lib.hid (by omega)
    have F6 := Lib.hid (F5.out.trans C.1)
    have T6 := Lib.hid C.2
    clear F5 T5 D5 C
    repeat still_step
    refine wpStill_nil ?_
    go_wp2_with fail
    go_end0
    rw [hmx.out]
    exact ⟨rfl, _, F6.out, T6.out⟩
  · have hz2 : (((p.pins : Nat) : Int) + 1 == 1) = false := beq_eq_false_iff_ne.2 (by omega)
    have HZ := Lib.hid hz
    clear hz
    go_wp2_with fail
    go_end0
    refine ⟨rfl, _, F3.out, ?_⟩
    have e : pinDone s no p = { s with arc := pinS s.arc no, pg := updP s.pg no (some { p with pins := p.pins + 1 }) } := by unfold pinDone; rw [if_neg HZ.out, if_neg HZ.out]
    rw [e]
    exact T3.out

theorem cont_size {s : Sp} {D : Dev} (ok : SpOk s D) (k : Int) : (cont s D k).size = D.size := by
  unfold cont
  rcases h : s.pg k with _ | p
  · exact ok.dev.now k
  · exact ok.text k p h

set_option maxRecDepth 100000 in
set_option maxHeartbeats 1600000 in
theorem SPin_any (x : Nat → Nat) (c0 d0 sb db eb : Nat) (s : Sp) (D : Dev) (N : Nat) (w : World) (no : Int) (h : SIs x c0 d0 w sb db eb s D N) (ok : SpOk s D) (hcd : c0 + 9 < d0 ∨ d0 + 2 < c0) (h0 : 0 ≤ no) (h1 : no < D.nb) (hN : N + 9 < 1099511627776) (he : (touchS s.arc no).2.2.2 = 0) :
    Calls Try.prog 14 #[.pointer (some ⟨sb, 0, none⟩), .int .i64 no] w fun e w' => e = .returned (.int .i64 0) ∧ ∃ p, (fetchS s D no false).1.1.pg no = some p ∧ STurned x c0 d0 w w' sb db eb (pinDone (fetchS s D no false).1.1 no p) (fetchS s D no false).1.2 (N + 9) := by
  obtain ⟨⟨cb, pm, blk, t⟩, d⟩ := h
  have hb := ok.dev.blocks
  have hk : KOK no := WalkArith.wf_i64 (by omega)
  have hfe : (fetchS s D no false).2 = 0 := by unfold fetchS; rw [if_pos he]; split <;> rfl
  obtain ⟨⟨p, hp, hp2, hp3⟩, hpa, -, -, -, -, -, -, hok⟩ := fetch_ok s D no false ok h0 h1 hfe
  have hk2 := hok p hp2 (by rw [(hp3 rfl).1]; exact cont_size ok no) (fun hd => (hp3 rfl).2 hd)
  have hheld : no ∈ (fetchS s D no false).1.1.arc.once ∨ no ∈ (fetchS s D no false).1.1.arc.often := (hk2.held no).1 (by show (updP _ no (some p) no).isSome = true; rw [updP_same]; rfl)
  have hpp : p.pins = (fetchS s D no false).1.1.arc.pins no := by rw [hpa]; exact hp2
  have hb1 : Below w.heap.size w ((w.alloc (.cells #[.pointer (some ⟨sb, 0, none⟩)] 23)).alloc (.cells #[.int .i64 no] 3)) := ((Below.refl _ w).alloc (Nat.le_refl _) _).alloc (by simp) _
  have t1 := t.below hb1 (x' := paint x w.heap.size (c0 + 6)) (fun b hb => paint_old hb)
  have d1 := d.below hb1 (x' := paint x w.heap.size (c0 + 6)) (fun b hb => paint_old hb)
  have xb : paint x w.heap.size (c0 + 6) w.heap.size = c0 + 6 := paint_new (Nat.le_refl _)
  have xb2 : paint x w.heap.size (c0 + 6) (w.heap.size + 1) = c0 + 6 := paint_new (by omega)
  have hbx : ((w.alloc (.cells #[.pointer (some ⟨sb, 0, none⟩)] 23)).alloc (.cells #[.int .i64 no] 3)).heap[w.heap.size]? = some (.cells #[.pointer (some ⟨sb, 0, none⟩)] 23 (0, 0)) := (Below.heap_alloc _ _ _ (by simp)).trans (World.alloc_heap_new w _)
  have hbx2 : ((w.alloc (.cells #[.pointer (some ⟨sb, 0, none⟩)] 23)).alloc (.cells #[.int .i64 no] 3)).heap[w.heap.size + 1]? = some (.cells #[.int .i64 no] 3 (0, 0)) := by
    have := World.alloc_heap_new (w.alloc (.cells #[.pointer (some ⟨sb, 0, none⟩)] 23)) (.cells #[.int .i64 no] 3)
    rwa [World.size_alloc] at this
  have hF : Fr x (paint x w.heap.size (c0 + 6)) (PC c0 d0) w ((w.alloc (.cells #[.pointer (some ⟨sb, 0, none⟩)] 23)).alloc (.cells #[.int .i64 no] 3)) := Fr.of_below hb1 PC6
  have T1 := Lib.hid t1
  have D1 := Lib.hid d1
  have XB := Lib.hid xb
  have XB2 := Lib.hid xb2
  have HBX := Lib.hid hbx
  have HBX2 := Lib.hid hbx2
  have HF := Lib.hid hF
  have OK := Lib.hid ok
  have HE := Lib.hid he
  have HK := Lib.hid hk
  have HP := Lib.hid hp
  have HH := Lib.hid hheld
  have HPP := Lib.hid hpp
  clear t d hk hp hp2 hp3 hb1 t1 d1 xb hbx hF ok he hfe hpa hok hk2 hheld hpp xb2 hbx2
  go_enter Try.func14, Try.ntmps14
  go_wp2_with fail
  generalize (World.alloc _ _) = W1 at T1 D1 HBX HBX2 HF ⊢
  generalize paint x w.heap.size (c0 + 6) = x1 at T1 D1 XB XB2 HF
  refine (sready_ok x1 c0 d0 sb db eb cb pm blk s D N W1 T1.out D1.out OK.out.dead OK.out.up).mono ?_
  rintro e w2 ⟨rfl, rfl⟩
  have k1 : W1.cell? ⟨w.heap.size, 0, none⟩ = some (.pointer (some ⟨sb, 0, none⟩)) := by rw [cell_of_row W1 _ _ _ _ _ HBX.out]; rfl
  have k2 : W1.cell? ⟨w.heap.size + 1, 0, none⟩ = some (.int .i64 no) := by rw [cell_of_row W1 _ _ _ _ _ HBX2.out]; rfl
  go_wp2_with fail
  refine (fetch_done x1 c0 d0 sb db eb cb pm blk s D N _ no false 51 (enters_of Try.func51 (by kernel_rfl) rfl) [.pointer (some ⟨w.heap.size, 0, none⟩), .pointer (some ⟨w.heap.size + 1, 0, none⟩)]
    (fun w' => ∃ x2, Fr x1 x2 (PC c0 d0) W1 w' ∧ SIs x2 c0 d0 w' sb db eb (pinDone (fetchS s D no false).1.1 no p) (fetchS s D no false).1.2 (N + 9)) T1.out D1.out OK.out hcd h0 h1 (by omega) HE.out ?_).mono ?_
  · intro x2 w2 blk2 f2 t2 d2
    have n6 : ¬ PD c0 d0 (c0 + 6) := fun hc => not6 hcd _ hc rfl
    have lb := lt_of_block HBX.out
    have lb2 := lt_of_block HBX2.out
    have hbx2 : w2.heap[w.heap.size]? = some (.cells #[.pointer (some ⟨sb, 0, none⟩)] 23 (0, 0)) := (f2.old _ lb (by rw [XB.out]; exact n6)).trans HBX.out
    have hbx3 : w2.heap[w.heap.size + 1]? = some (.cells #[.int .i64 no] 3 (0, 0)) := (f2.old _ lb2 (by rw [XB2.out]; exact n6)).trans HBX2.out
    refine (Pin_do no x2 c0 sb db eb cb pm blk2 _ (N + 8) w2 w.heap.size (w.heap.size + 1) p HK.out t2 HP.out HH.out HPP.out (by omega) hbx2 hbx3 ((f2.col _ lb).trans XB.out) ((f2.col _ lb2).trans XB2.out)).mono ?_
    rintro e w3 ⟨rfl, x3, f3, t3⟩
    exact ⟨rfl, x3, (f2.mono (PD_PC c0 d0)).trans (f3.mono (fun e he => PD_PC c0 d0 e (.inl he))), ⟨cb, pm, blk2, t3⟩, (d2.frame f3 (fun e he hc => (no_PD hcd).1 e he hc)).mono (by omega)⟩
  · rintro e w3 ⟨rfl, x3, f3, s3⟩
    have F3 := Lib.hid f3
    have S3 := Lib.hid s3
    clear f3 s3
    go_wp2_with fail
    go_ret
    exact ⟨rfl, p, HP.out, x3, HF.out.trans F3.out, S3.out⟩

end Go.Proofs.Ytbgbomlmgkgkoaa.arcI
