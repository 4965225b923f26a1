/- pool: the contracts of Unpin, Text, Set, Stats; what is refused. -/
import Derived.Test.YtbgbomlmgkgkoaaPoE
namespace Go.Proofs.Ytbgbomlmgkgkoaa.arcI
open Go.RowKit Go.Proofs.Ytbgbomlmgkgkoaa.own Go.Proofs.Ytbgbomlmgkgkoaa.dv Go.Proofs.Ytbgbomlmgkgkoaa.po

/-- a page that is not pinned can't be let go, told or set -/
theorem Unpin_no (x : Nat → Nat) (c0 d0 sb db eb : Nat) (s : Sp) (D : Dev) (N : Nat) (w : World) (no : Int) (h : SIs x c0 d0 w sb db eb s D N) (hdd : s.dead = false) (hk : KOK no) (h2 : s.pg no = none ∨ ∃ p, s.pg no = some p ∧ p.pins = 0) :
    Calls Try.prog 15 #[.pointer (some ⟨sb, 0, none⟩), .int .i64 no] w fun e w' => e = .returned (.int .i64 16) ∧ w = w' := by
  obtain ⟨⟨cb, pm, blk, t⟩, -⟩ := h
  have T := Lib.hid t
  have H2 := Lib.hid h2
  have HK := Lib.hid hk
  have HD := Lib.hid hdd
  clear t h2 hk hdd
  go_enter Try.func15, Try.ntmps15
  go_wp2_with fail
  refine (held_none x c0 sb db eb cb pm blk s N w no HK.out T.out HD.out H2.out).mono ?_
  rintro e w1 ⟨rfl, rfl⟩
  go_wp2_with fail
  go_ret
  exact ⟨rfl, rfl⟩
theorem Text_no (x : Nat → Nat) (c0 d0 sb db eb : Nat) (s : Sp) (D : Dev) (N : Nat) (w : World) (no : Int) (h : SIs x c0 d0 w sb db eb s D N) (hdd : s.dead = false) (hk : KOK no) (h2 : s.pg no = none ∨ ∃ p, s.pg no = some p ∧ p.pins = 0) :
    Calls Try.prog 16 #[.pointer (some ⟨sb, 0, none⟩), .int .i64 no] w fun e w' => e = .returned (.tuple #[.string ⟨#[]⟩, .int .i64 16]) ∧ w = w' := by
  obtain ⟨⟨cb, pm, blk, t⟩, -⟩ := h
  have T := Lib.hid t
  have H2 := Lib.hid h2
  have HK := Lib.hid hk
  have HD := Lib.hid hdd
  clear t h2 hk hdd
  go_enter Try.func16, Try.ntmps16
  go_wp2_with fail
  refine (held_none x c0 sb db eb cb pm blk s N w no HK.out T.out HD.out H2.out).mono ?_
  rintro e w1 ⟨rfl, rfl⟩
  go_wp2_with fail
  go_ret2
  exact ⟨rfl, rfl⟩
theorem Text_any (x : Nat → Nat) (c0 d0 sb db eb : Nat) (s : Sp) (D : Dev) (N : Nat) (w : World) (no : Int) (h : SIs x c0 d0 w sb db eb s D N) (hdd : s.dead = false) (hk : KOK no) {p : Pg} (hp : s.pg no = some p) (hz : 0 < p.pins) :
    Calls Try.prog 16 #[.pointer (some ⟨sb, 0, none⟩), .int .i64 no] w fun e w' => e = .returned (.tuple #[.string p.text, .int .i64 0]) ∧ w = w' := by
  obtain ⟨⟨cb, pm, blk, t⟩, -⟩ := h
  have T := Lib.hid t
  have HP := Lib.hid hp
  have HK := Lib.hid hk
  have HD := Lib.hid hdd
  obtain ⟨p0, -, -, -⟩ := t.page hk hp
  clear t hp hk hdd
  go_enter Try.func16, Try.ntmps16
  go_wp2_with fail
  refine (held_some x c0 sb db eb cb pm blk s N w no HK.out T.out HD.out HP.out hz).mono ?_
  rintro e w1 ⟨rfl, rfl⟩
  go_wp2_with fail
  go_ret2
  exact ⟨rfl, rfl⟩

set_option maxRecDepth 100000 in
set_option maxHeartbeats 1600000 in
theorem Set_any (x : Nat → Nat) (c0 d0 sb db eb : Nat) (s : Sp) (D : Dev) (N : Nat) (w : World) (no : Int) (u : ByteArray) (h : SIs x c0 d0 w sb db eb s D N) (hdd : s.dead = false) (ok : D.Ok) (hcd : c0 + 9 < d0 ∨ d0 + 2 < c0) (hk : KOK no) {p : Pg} (hp : s.pg no = some p) (hz : 0 < p.pins) (hu : u.size = D.size) :
    Calls Try.prog 23 #[.pointer (some ⟨sb, 0, none⟩), .int .i64 no, .string u] w fun e w' => e = .returned (.int .i64 0) ∧ STurned x c0 d0 w w' sb db eb (setPg s no ⟨u, true, p.pins⟩) D N := by
  obtain ⟨⟨cb, pm, blk, t⟩, d⟩ := h
  have hsz : D.size ≤ 4096 := by have := ok.sectors; unfold Dev.size; omega
  have T := Lib.hid t
  have DD := Lib.hid d
  have OK := Lib.hid ok
  have HP := Lib.hid hp
  have HK := Lib.hid hk
  have HD := Lib.hid hdd
  have E : (((u.size : Nat) : Int) != ((D.size : Nat) : Int)) = false := by rw [hu]; simp
  obtain ⟨p0, p1, -, pf⟩ := t.page hk hp
  have hpg := (t.pgs no p hk hp).1
  have hg1 := grownBy_setCell_at w (blk no) 0 (.string u)
  have hg2 := grownBy_setCell_at (w.setCell ⟨blk no, 0, none⟩ (.string u)) (blk no) 1 (.bool true)
  have hset : ((w.setCell ⟨blk no, 0, none⟩ (.string u)).setCell ⟨blk no, 1, none⟩ (.bool true)).heap[blk no]? = some (.cells (pgCells ⟨u, true, p.pins⟩) 106 (0, 0)) := by
    rw [heap_setCell_same _ _ 1 _ _ _ (heap_setCell_same w _ 0 _ _ _ hpg)]; rfl
  have S := t.setPage hk (by rw [hp]; rfl) ⟨u, true, p.pins⟩ (grown_trans hg1 hg2) (by simp) hset (Nat.le_refl N) (t.b6 no p hk hp)
  have SS := Lib.hid S
  clear t d ok hp hk hdd hu hpg hg1 hg2 hset S
  go_enter Try.func23, Try.ntmps23
  go_wp2_with fail
  refine (held_some x c0 sb db eb cb pm blk s N w no HK.out T.out HD.out HP.out hz).mono ?_
  rintro e w1 ⟨rfl, rfl⟩
  go_wp2_with fail
  refine (SSize_any x c0 d0 sb db eb cb pm blk s D N w T.out DD.out OK.out).mono ?_
  rintro e w1 ⟨rfl, rfl⟩
  go_wp2_with fail
  go_ret
  exact ⟨rfl, x, SS.out.1.mono (fun e he => PD_PC c0 d0 e (.inl he)), ⟨cb, pm, blk, SS.out.2⟩, DD.out.frame SS.out.1 (fun e he hc => (no_PD hcd).1 e he hc)⟩

set_option maxRecDepth 100000 in
set_option maxHeartbeats 3200000 in
theorem Unpin_any2 (x : Nat → Nat) (c0 d0 sb db eb : Nat) (s : Sp) (D : Dev) (N : Nat) (w : World) (no : Int) (h : SIs x c0 d0 w sb db eb s D N) (ok : SpOk s D) (hcd : c0 + 9 < d0 ∨ d0 + 2 < c0) (hk : KOK no) {p : Pg} (hp : s.pg no = some p) (hz : 0 < p.pins) (hpz : p.pins = 1 → 0 < s.pinned) (hN : N + 1 < 1099511627776) :
    Calls Try.prog 15 #[.pointer (some ⟨sb, 0, none⟩), .int .i64 no] w fun e w' => e = .returned (.int .i64 0) ∧ STurned x c0 d0 w w' sb db eb (unpinDone s no p) D (N + 2) := by
  obtain ⟨⟨cb, pm, blk, t⟩, d⟩ := h
  have hpin : p.pins ≤ N := t.b6 no p hk hp
  have bp : s.pinned ≤ N := t.b4
  have hpp : p.pins = s.arc.pins no := ok.pins no p hp
  have ha : no ∈ s.arc.once ∨ no ∈ s.arc.often := (ok.held no).1 (by rw [hp]; rfl)
  have hpr : unpinR s.arc no = (unpinS s.arc no, 0) := by unfold unpinR; rw [if_pos ha, if_neg (by omega)]
  obtain ⟨-, -, q2, qf⟩ := t.page hk hp
  have hpg := (t.pgs no p hk hp).1
  have hset : (w.setCell ⟨blk no, 2, none⟩ (.int .i64 ((p.pins : Int) - 1))).heap[blk no]? = some (.cells (pgCells { p with pins := p.pins - 1 }) 106 (0, 0)) := by
    rw [heap_setCell_same w _ 2 _ _ _ hpg]
    have : ((p.pins : Int) - 1) = ((p.pins - 1 : Nat) : Int) := by omega
    rw [this]; rfl
  have S := t.setPage hk (by rw [hp]; rfl) { p with pins := p.pins - 1 } (grownBy_setCell_at w (blk no) 2 (.int .i64 ((p.pins : Int) - 1))) (by simp) hset (Nat.le_succ N) (by show p.pins - 1 ≤ N + 1; omega)
  have hne : blk no ≠ sb := fun e => by have a := (t.pgs no p hk hp).2; have b := t.xs; rw [e] at a; omega
  obtain ⟨-, -, u2, -, -, -, -, -, -, u9, -, -, uf⟩ := t.cells
  have T := Lib.hid t
  have DD := Lib.hid d
  have HP := Lib.hid hp
  have HK := Lib.hid hk
  have HD := Lib.hid ok.dead
  have HPP := Lib.hid hpp
  have HPR := Lib.hid hpr
  have SS := Lib.hid S
  have hpinb : p.pins < 1099511627776 := by omega
  clear t d ok hp hk hpp ha hpr hpg hset S
  go_enter Try.func15, Try.ntmps15
  go_wp2_with fail
  refine (held_some x c0 sb db eb cb pm blk s N w no HK.out T.out HD.out HP.out hz).mono ?_
  rintro e w1 ⟨rfl, rfl⟩
  by_cases h1 : p.pins = 1
  · have hb : (((p.pins : Nat) : Int) - 1 == 0) = true := beq_iff_eq.2 (by omega)
    have hps := hpz h1
    have C := SS.out.2.setAt 9 (.int .i64 ((s.pinned - 1 : Nat) : Int)) { s with pg := updP s.pg no (some { p with pins := p.pins - 1 }), pinned := s.pinned - 1 } (N + 1) (Nat.le_refl _) rfl rfl rfl rfl SS.out.2.b1 SS.out.2.b2 SS.out.2.b3 (by show s.pinned - 1 ≤ N + 1; omega) SS.out.2.b5
    have ee : (((s.pinned - 1 : Nat)) : Int) = (s.pinned : Int) - 1 := by omega
    rw [ee] at C
    have F2 := Lib.hid (SS.out.1.trans C.1)
    have T2 := Lib.hid C.2
    have H1 := Lib.hid h1
    clear C ee h1
    go_wp2_with fail
    refine (Unpin_any x c0 cb s.arc (N + 1) _ no HK.out T2.out.ci (by omega) (by rw [← HPP.out]; omega)).mono ?_
    rintro e w3 ⟨rfl, x3, f3, c3⟩
    rw [HPR.out] at c3 ⊢
    have t3 := T2.out.arc f3 c3 (by omega) rfl
    have F3 := Lib.hid (F2.out.trans (f3.mono (CD_TC c0)))
    have T3 := Lib.hid t3
    clear f3 c3 t3
    go_wp2_with fail
    go_ret
    have e1 : unpinDone s no p = { s with pg := updP s.pg no (some { p with pins := p.pins - 1 }), arc := unpinS s.arc no, pinned := s.pinned - 1 } := by unfold unpinDone; rw [if_pos H1.out]
    rw [e1]
    exact ⟨rfl, x3, F3.out.mono (fun e he => PD_PC c0 d0 e (.inl he)), ⟨cb, pm, blk, T3.out⟩, (DD.out.frame F3.out (fun e he hc => (no_PD hcd).1 e he hc)).mono (by omega)⟩
  · have hb : (((p.pins : Nat) : Int) - 1 == 0) = false := beq_eq_false_iff_ne.2 (by omega)
    have H1 := Lib.hid h1
    clear h1
    go_wp2_with fail
    refine (Unpin_any x c0 cb s.arc (N + 1) _ no HK.out SS.out.2.ci (by omega) (by rw [← HPP.out]; omega)).mono ?_
    rintro e w3 ⟨rfl, x3, f3, c3⟩
    rw [HPR.out] at c3 ⊢
    have t3 := SS.out.2.arc f3 c3 (by omega) rfl
    have F3 := Lib.hid (SS.out.1.trans (f3.mono (CD_TC c0)))
    have T3 := Lib.hid t3
    clear f3 c3 t3
    go_wp2_with fail
    go_ret
    have e1 : unpinDone s no p = { s with pg := updP s.pg no (some { p with pins := p.pins - 1 }), arc := unpinS s.arc no } := by unfold unpinDone; rw [if_neg H1.out]
    rw [e1]
    exact ⟨rfl, x3, F3.out.mono (fun e he => PD_PC c0 d0 e (.inl he)), ⟨cb, pm, blk, T3.out⟩, (DD.out.frame F3.out (fun e he hc => (no_PD hcd).1 e he hc)).mono (by omega)⟩

/-! ### Stats -/
def statsV (s : Sp) : Value := .agg #[.int .i64 s.arc.size, .int .i64 s.hits, .int .i64 s.misses, .int .i64 s.written, .int .i64 s.cnt, .int .i64 s.pinned, .int .i64 s.most]
set_option maxRecDepth 100000 in
set_option maxHeartbeats 1600000 in
theorem Stats_any (x : Nat → Nat) (c0 d0 sb db eb : Nat) (s : Sp) (D : Dev) (N : Nat) (w : World) (h : SIs x c0 d0 w sb db eb s D N) :
    Calls Try.prog 17 #[.pointer (some ⟨sb, 0, none⟩)] w fun e w' => e = .returned (statsV s) ∧ Below w.heap.size w w' := by
  obtain ⟨⟨cb, pm, blk, t⟩, d⟩ := h
  obtain ⟨-, -, -, q3, q4, q5, q6, q7, q8, q9, q10, -, qf⟩ := t.cells
  have hsl : sb < w.heap.size := lt_of_block t.h0
  have hlen : ∀ W : World, W.heap[pm]? = w.heap[pm]? → (Builtin.len_ #[109] 3 #[.map (some pm)]).run Try.prog W = .ok (.int .i64 s.cnt) W := fun W hW => (t.vm.frame hW).len (e := 102) Try.underlying109 _
  have hcn : s.cnt ≤ N := t.vm.size_le
  have hpl := t.vm.lt
  clear t d
  go_enter Try.func17, Try.ntmps17
  go_upto_region 4 with fail
  generalize hW : World.alloc (World.alloc w _) _ = W
  have hb : Below w.heap.size w W := by rw [← hW]; exact ((Below.refl _ w).alloc (Nat.le_refl _) _).alloc (by simp) _
  have hh := hlen W (hb.block pm hpl)
  subst hW
  clear hlen
  have HB := Lib.hid hb
  clear hb
  go_wp2_with fail
  refine bodyPost_ret (v := statsV s) (by simp [results, Try.f17, go_sem, statsV]) rfl ?_
  exact ⟨rfl, ((Below.refl _ w).alloc (Nat.le_refl _) _).alloc (by simp) _⟩

/-! ### what is refused for want of a frame -/
set_option maxRecDepth 100000 in
set_option maxHeartbeats 1600000 in
theorem Read_ref (x : Nat → Nat) (c0 d0 sb db eb : Nat) (s : Sp) (D : Dev) (N : Nat) (w : World) (no : Int) (h : SIs x c0 d0 w sb db eb s D N) (ok : SpOk s D) (hcd : c0 + 9 < d0 ∨ d0 + 2 < c0) (h0 : 0 ≤ no) (h1 : no < D.nb) (hN : N + 8 < 1099511627776) (he : (touchS s.arc no).2.2.2 ≠ 0) :
    Calls Try.prog 11 #[.pointer (some ⟨sb, 0, none⟩), .int .i64 no] w fun e w' => e = .returned (.tuple #[.string ⟨#[]⟩, .int .i64 13]) ∧ STurned x c0 d0 w w' sb db eb s D (N + 8) := by
  obtain ⟨⟨cb, pm, blk, t⟩, d⟩ := h
  have hb1 : Below w.heap.size w (w.alloc (.cells #[.string ⟨#[]⟩] 9)) := (Below.refl _ w).alloc (Nat.le_refl _) _
  have t1 := t.below hb1 (x' := paint x w.heap.size (c0 + 6)) (fun b hb => paint_old hb)
  have d1 := d.below hb1 (x' := paint x w.heap.size (c0 + 6)) (fun b hb => paint_old hb)
  have xb : paint x w.heap.size (c0 + 6) w.heap.size = c0 + 6 := paint_new (Nat.le_refl _)
  have hbx := World.alloc_heap_new w (.cells #[.string ⟨#[]⟩] 9)
  have hF : Fr x (paint x w.heap.size (c0 + 6)) (PC c0 d0) w (w.alloc (.cells #[.string ⟨#[]⟩] 9)) := Fr.of_below hb1 PC6
  have T1 := Lib.hid t1
  have D1 := Lib.hid d1
  have XB := Lib.hid xb
  have HBX := Lib.hid hbx
  have HF := Lib.hid hF
  have OK := Lib.hid ok
  have HE := Lib.hid he
  clear t d hb1 t1 d1 xb hbx hF ok he
  go_enter Try.func11, Try.ntmps11
  go_wp2_with fail
  generalize (World.alloc w _) = W1 at T1 D1 HBX HF ⊢
  generalize paint x w.heap.size (c0 + 6) = x1 at T1 D1 XB HF
  refine (sready_ok x1 c0 d0 sb db eb cb pm blk s D N W1 T1.out D1.out OK.out.dead OK.out.up).mono ?_
  rintro e w2 ⟨rfl, rfl⟩
  go_wp2_with fail
  refine (fetch_refused x1 c0 d0 sb db eb cb pm blk s D N W1 no false _ T1.out D1.out OK.out hcd h0 h1 hN HE.out).mono ?_
  rintro e w3 ⟨rfl, x3, f3, t3, d3⟩
  have lb := lt_of_block HBX.out
  have hb3 : w3.heap[w.heap.size]? = some (.cells #[.string ⟨#[]⟩] 9 (0, 0)) := (f3.old _ lb (by rw [XB.out]; exact fun hc => not6 hcd _ hc rfl)).trans HBX.out
  have k0 : w3.cell? ⟨w.heap.size, 0, none⟩ = some (.string ⟨#[]⟩) := by rw [cell_of_row w3 _ _ _ _ _ hb3]; rfl
  have kf : w3.frozen? ⟨w.heap.size, 0, none⟩ = false := frozen_of_row w3 _ _ _ _ hb3
  have F3 := Lib.hid f3
  have T3 := Lib.hid t3
  have D3 := Lib.hid d3
  have xb3 : Hid (x3 w.heap.size = c0 + 6) := Lib.hid ((f3.col _ lb).trans XB.out)
  clear f3 t3 d3 hb3
  go_wp2_with fail
  have f4 : Fr x3 x3 (fun e => e = c0 + 6) w3 (w3.setCell ⟨w.heap.size, 0, none⟩ (.string ⟨#[]⟩)) := Fr.same rfl rfl rfl (by simp) (fun b _ hC => Below.heap_setCell w3 _ _ _ (by rintro rfl; exact hC xb3.out))
  have k1 : (w3.setCell ⟨w.heap.size, 0, none⟩ (.string ⟨#[]⟩)).cell? ⟨w.heap.size, 0, none⟩ = some (.string ⟨#[]⟩) := World.cell?_setCell_same' _ _ _ (by rw [k0]; rfl)
  refine bodyPost_ret (v := .tuple #[.string ⟨#[]⟩, .int .i64 13]) (by simp [results, Try.f11, go_sem, k1]) rfl ?_
  exact ⟨rfl, x3, (HF.out.trans (F3.out.mono (PD_PC c0 d0))).trans (f4.mono (fun e he => by rw [he]; exact PC6)), ⟨cb, pm, blk, T3.out.frame f4 (fun e he hc => he.2 hc)⟩, D3.out.frame f4 (fun e he => not6 hcd e (.inr he))⟩

set_option maxRecDepth 100000 in
set_option maxHeartbeats 1600000 in
theorem Write_ref (x : Nat → Nat) (c0 d0 sb db eb : Nat) (s : Sp) (D : Dev) (N : Nat) (w : World) (no : Int) (u : ByteArray) (h : SIs x c0 d0 w sb db eb s D N) (ok : SpOk s D) (hcd : c0 + 9 < d0 ∨ d0 + 2 < c0) (h0 : 0 ≤ no) (h1 : no < D.nb) (hN : N + 8 < 1099511627776) (hu : u.size = D.size) (he : (touchS s.arc no).2.2.2 ≠ 0) :
    Calls Try.prog 12 #[.pointer (some ⟨sb, 0, none⟩), .int .i64 no, .string u] w fun e w' => e = .returned (.int .i64 13) ∧ STurned x c0 d0 w w' sb db eb s D (N + 8) := by
  obtain ⟨⟨cb, pm, blk, t⟩, d⟩ := h
  have hsz : D.size ≤ 4096 := by have := ok.dev.sectors; unfold Dev.size; omega
  have hb1 : Below w.heap.size w (w.alloc (.cells #[.string u] 9)) := (Below.refl _ w).alloc (Nat.le_refl _) _
  have t1 := t.below hb1 (x' := paint x w.heap.size (c0 + 6)) (fun b hb => paint_old hb)
  have d1 := d.below hb1 (x' := paint x w.heap.size (c0 + 6)) (fun b hb => paint_old hb)
  have hbx := World.alloc_heap_new w (.cells #[.string u] 9)
  have hF : Fr x (paint x w.heap.size (c0 + 6)) (PC c0 d0) w (w.alloc (.cells #[.string u] 9)) := Fr.of_below hb1 PC6
  have T1 := Lib.hid t1
  have D1 := Lib.hid d1
  have HBX := Lib.hid hbx
  have HF := Lib.hid hF
  have OK := Lib.hid ok
  have HE := Lib.hid he
  have E : (((u.size : Nat) : Int) != ((D.size : Nat) : Int)) = false := by rw [hu]; simp
  clear t d hb1 t1 d1 hbx hF ok he hu
  go_enter Try.func12, Try.ntmps12
  go_wp2_with fail
  generalize (World.alloc w _) = W1 at T1 D1 HBX HF ⊢
  generalize paint x w.heap.size (c0 + 6) = x1 at T1 D1 HF
  refine (sready_ok x1 c0 d0 sb db eb cb pm blk s D N W1 T1.out D1.out OK.out.dead OK.out.up).mono ?_
  rintro e w2 ⟨rfl, rfl⟩
  have k0 : W1.cell? ⟨w.heap.size, 0, none⟩ = some (.string u) := by rw [cell_of_row W1 _ _ _ _ _ HBX.out]; rfl
  have SQ : Hid (∀ m, Calls Try.prog 26 #[.pointer (some ⟨sb, 0, none⟩)] (W1.drewN m) fun e w' => e = .returned (.int .i64 (D.size : Nat)) ∧ ∃ n, w' = (W1.drewN m).drewN n) :=
    Lib.hid (fun m => (SSize_any x1 c0 d0 sb db eb cb pm blk s D N _ (T1.out.drewN m) (D1.out.drewN m) OK.out.dev).mono (fun e w' hh => ⟨hh.1, 0, hh.2.symm⟩))
  go_wp2_with fail
  go_quiet (first | (go_at_call 26; exact Calls.quiet_of (SQ.out _)))
  go_wp2_with fail
  refine (fetch_refused x1 c0 d0 sb db eb cb pm blk s D N (W1.drewN nq) no true _ (T1.out.drewN nq) (D1.out.drewN nq) OK.out hcd h0 h1 hN HE.out).mono ?_
  rintro e w3 ⟨rfl, x3, f3, t3, d3⟩
  have F3 := Lib.hid f3
  have T3 := Lib.hid t3
  have D3 := Lib.hid d3
  clear f3 t3 d3
  go_wp2_with fail
  go_ret
  exact ⟨rfl, x3, (Fr.drewN HF.out nq).trans (F3.out.mono (PD_PC c0 d0)), ⟨cb, pm, blk, T3.out⟩, D3.out⟩

set_option maxRecDepth 100000 in
set_option maxHeartbeats 1600000 in
theorem Pin_ref (x : Nat → Nat) (c0 d0 sb db eb : Nat) (s : Sp) (D : Dev) (N : Nat) (w : World) (no : Int) (h : SIs x c0 d0 w sb db eb s D N) (ok : SpOk s D) (hcd : c0 + 9 < d0 ∨ d0 + 2 < c0) (h0 : 0 ≤ no) (h1 : no < D.nb) (hN : N + 8 < 1099511627776) (he : (touchS s.arc no).2.2.2 ≠ 0) :
    Calls Try.prog 14 #[.pointer (some ⟨sb, 0, none⟩), .int .i64 no] w fun e w' => e = .returned (.int .i64 13) ∧ STurned x c0 d0 w w' sb db eb s D (N + 8) := by
  obtain ⟨⟨cb, pm, blk, t⟩, d⟩ := h
  have hb1 : Below w.heap.size w ((w.alloc (.cells #[.pointer (some ⟨sb, 0, none⟩)] 23)).alloc (.cells #[.int .i64 no] 3)) := ((Below.refl _ w).alloc (Nat.le_refl _) _).alloc (by simp) _
  have t1 := t.below hb1 (x' := paint x w.heap.size (c0 + 6)) (fun b hb => paint_old hb)
  have d1 := d.below hb1 (x' := paint x w.heap.size (c0 + 6)) (fun b hb => paint_old hb)
  have hbx : ((w.alloc (.cells #[.pointer (some ⟨sb, 0, none⟩)] 23)).alloc (.cells #[.int .i64 no] 3)).heap[w.heap.size]? = some (.cells #[.pointer (some ⟨sb, 0, none⟩)] 23 (0, 0)) := (Below.heap_alloc _ _ _ (by simp)).trans (World.alloc_heap_new w _)
  have hbx2 : ((w.alloc (.cells #[.pointer (some ⟨sb, 0, none⟩)] 23)).alloc (.cells #[.int .i64 no] 3)).heap[w.heap.size + 1]? = some (.cells #[.int .i64 no] 3 (0, 0)) := by
    have := World.alloc_heap_new (w.alloc (.cells #[.pointer (some ⟨sb, 0, none⟩)] 23)) (.cells #[.int .i64 no] 3)
    rwa [World.size_alloc] at this
  have hF : Fr x (paint x w.heap.size (c0 + 6)) (PC c0 d0) w ((w.alloc (.cells #[.pointer (some ⟨sb, 0, none⟩)] 23)).alloc (.cells #[.int .i64 no] 3)) := Fr.of_below hb1 PC6
  have T1 := Lib.hid t1
  have D1 := Lib.hid d1
  have HBX := Lib.hid hbx
  have HBX2 := Lib.hid hbx2
  have HF := Lib.hid hF
  have OK := Lib.hid ok
  have HE := Lib.hid he
  clear t d hb1 t1 d1 hbx hbx2 hF ok he
  go_enter Try.func14, Try.ntmps14
  go_wp2_with fail
  generalize (World.alloc _ _) = W1 at T1 D1 HBX HBX2 HF ⊢
  generalize paint x w.heap.size (c0 + 6) = x1 at T1 D1 HF
  refine (sready_ok x1 c0 d0 sb db eb cb pm blk s D N W1 T1.out D1.out OK.out.dead OK.out.up).mono ?_
  rintro e w2 ⟨rfl, rfl⟩
  have k1 : W1.cell? ⟨w.heap.size, 0, none⟩ = some (.pointer (some ⟨sb, 0, none⟩)) := by rw [cell_of_row W1 _ _ _ _ _ HBX.out]; rfl
  have k2 : W1.cell? ⟨w.heap.size + 1, 0, none⟩ = some (.int .i64 no) := by rw [cell_of_row W1 _ _ _ _ _ HBX2.out]; rfl
  go_wp2_with fail
  refine (fetch_refused x1 c0 d0 sb db eb cb pm blk s D N W1 no false _ T1.out D1.out OK.out hcd h0 h1 hN HE.out).mono ?_
  rintro e w3 ⟨rfl, x3, f3, t3, d3⟩
  have F3 := Lib.hid f3
  have T3 := Lib.hid t3
  have D3 := Lib.hid d3
  clear f3 t3 d3
  go_wp2_with fail
  go_ret
  exact ⟨rfl, x3, HF.out.trans (F3.out.mono (PD_PC c0 d0)), ⟨cb, pm, blk, T3.out⟩, D3.out⟩

end Go.Proofs.Ytbgbomlmgkgkoaa.arcI
