/- pool: the contracts of Size, Write, Pin, Unpin, Text, Stats. -/
import Derived.Test.YtbgbomlmgkgkoaaGreatPoD
import Derived.BigQuiet
namespace Go.Proofs.YtbgbomlmgkgkoaaGreat.arcI
open Go.RowKit Go.Proofs.YtbgbomlmgkgkoaaGreat.own Go.Proofs.YtbgbomlmgkgkoaaGreat.dv Go.Proofs.YtbgbomlmgkgkoaaGreat.po

theorem SSize_any (x : Nat → Nat) (c0 d0 sb db eb cb pm : Nat) (blk : Int → Nat) (s : Sp) (D : Dev) (N : Nat) (w : World) (h : TI x c0 w sb db eb cb pm blk s N) (hd : DIs x d0 w db D N) (ok : D.Ok) :
    Calls Tryz.prog 16 #[.pointer (some ⟨sb, 0, none⟩)] w fun e w' => e = .returned (.int .i64 (D.size : Nat)) ∧ w = w' := by
  obtain ⟨q0, -⟩ := h.cells
  have HD := Lib.hid hd
  have OK := Lib.hid ok
  clear h hd ok
  go_enter Tryz.func16, Tryz.ntmps16
  go_wp2_with fail
  refine (Size_any x d0 db D N _ HD.out OK.out).mono ?_
  rintro e w1 ⟨rfl, rfl⟩
  go_wp2_with fail
  go_ret
  exact ⟨rfl, rfl⟩

theorem Write_do (no : Int) (x : Nat → Nat) (c0 sb db eb cb pm : Nat) (blk : Int → Nat) (s : Sp) (N : Nat) (w : World) (tb : Nat) (p : Pg) (u : ByteArray) (hk : KOK no) (h : TI x c0 w sb db eb cb pm blk s N) (hp : s.pg no = some p) (ht : w.heap[tb]? = some (.cells #[.string u] 9 (0, 0))) :
    Calls Tryz.prog 115 #[.pointer (some ⟨blk no, 0, none⟩), .pointer (some ⟨tb, 0, none⟩)] w fun e w' => e = .returned (.tuple #[]) ∧ Fr x x (TC c0) w w' ∧ TI x c0 w' sb db eb cb pm blk (setPg s no ⟨u, true, p.pins⟩) N := by
  obtain ⟨p0, p1, -, pf⟩ := h.page hk hp
  have t0 : w.cell? ⟨tb, 0, none⟩ = some (.string u) := by rw [cell_of_row w _ _ _ _ _ ht]; rfl
  have hpg := (h.pgs no p hk hp).1
  have hg1 := grownBy_setCell_at w (blk no) 0 (.string u)
  have hg2 := grownBy_setCell_at (w.setCell ⟨blk no, 0, none⟩ (.string u)) (blk no) 1 (.bool true)
  have hset : ((w.setCell ⟨blk no, 0, none⟩ (.string u)).setCell ⟨blk no, 1, none⟩ (.bool true)).heap[blk no]? = some (.cells (pgCells ⟨u, true, p.pins⟩) 143 (0, 0)) := by
    rw [heap_setCell_same _ _ 1 _ _ _ (heap_setCell_same w _ 0 _ _ _ hpg)]; rfl
  have S := h.setPage hk (by rw [hp]; rfl) ⟨u, true, p.pins⟩ (grown_trans hg1 hg2) (by simp) hset (Nat.le_refl N) (h.b6 no p hk hp)
  have SS := Lib.hid S
  clear h hp ht hpg hg1 hg2 hset S
  go_enter Tryz.func115, Tryz.ntmps115
  go_wp2_with fail
  go_end0
  exact ⟨rfl, SS.out⟩

set_option maxRecDepth 100000 in
set_option maxHeartbeats 1600000 in
theorem SWrite_any (x : Nat → Nat) (c0 d0 sb db eb : Nat) (s : Sp) (D : Dev) (N : Nat) (w : World) (no : Int) (u : ByteArray) (h : SIs x c0 d0 w sb db eb s D N) (ok : SpOk s D) (hcd : c0 + 9 < d0 ∨ d0 + 2 < c0) (h0 : 0 ≤ no) (h1 : no < D.nb) (hN : N + 8 < 1099511627776) (hu : u.size = D.size) (he : (touchS s.arc no).2.2.2 = 0) :
    Calls Tryz.prog 83 #[.pointer (some ⟨sb, 0, none⟩), .int .i64 no, .string u] w fun e w' => e = .returned (.int .i64 0) ∧ STurned x c0 d0 w w' sb db eb (setPg (fetchS s D no true).1.1 no ⟨u, true, s.arc.pins no⟩) (fetchS s D no true).1.2 (N + 8) := by
  obtain ⟨⟨cb, pm, blk, t⟩, d⟩ := h
  have hb := ok.dev.blocks
  have hk : KOK no := WalkArith.wf_i64 (by omega)
  obtain ⟨⟨p, hp, hp2, -⟩, -⟩ := fetch_ok s D no true ok h0 h1 (by unfold fetchS; rw [if_pos he]; split <;> rfl)
  have hsz : D.size ≤ 4096 := by have := ok.dev.sectors; unfold Dev.size; omega
  have hb1 : Below w.heap.size w (w.alloc (.cells #[.string u] 9)) := (Below.refl _ w).alloc (Nat.le_refl _) _
  have t1 := t.below hb1 (x' := paint x w.heap.size (c0 + 6)) (fun b hb => paint_old hb)
  have d1 := d.below hb1 (x' := paint x w.heap.size (c0 + 6)) (fun b hb => paint_old hb)
  have xb : paint x w.heap.size (c0 + 6) w.heap.size = c0 + 6 := paint_new (Nat.le_refl _)
  have hbx := World.alloc_heap_new w (.cells #[.string u] 9)
  have hF : Fr x (paint x w.heap.size (c0 + 6)) (PC c0 d0) w (w.alloc (.cells #[.string u] 9)) := Fr.of_below hb1 PC6
  have T1 := Lib.hid t1
  have D1 := Lib.hid d1
  have XB := Lib.hid xb
  have HBX := Lib.hid hbx
  have HF := Lib.hid hF
  have OK := Lib.hid ok
  have HE := Lib.hid he
  have HK := Lib.hid hk
  have HP := Lib.hid hp
  have HP2 := Lib.hid hp2
  have E : (((u.size : Nat) : Int) != ((D.size : Nat) : Int)) = false := by rw [hu]; simp
  clear t d hk hp hp2 hb1 t1 d1 xb hbx hF ok he hu
  go_enter Tryz.func83, Tryz.ntmps83
  go_wp2_with fail
  generalize (World.alloc w _) = W1 at T1 D1 HBX HF ⊢
  generalize paint x w.heap.size (c0 + 6) = x1 at T1 D1 XB HF
  refine (sready_ok x1 c0 d0 sb db eb cb pm blk s D N W1 T1.out D1.out OK.out.dead OK.out.up).mono ?_
  rintro e w2 ⟨rfl, rfl⟩
  have k0 : W1.cell? ⟨w.heap.size, 0, none⟩ = some (.string u) := by rw [cell_of_row W1 _ _ _ _ _ HBX.out]; rfl
  have SQ : Hid (∀ m, Calls Tryz.prog 16 #[.pointer (some ⟨sb, 0, none⟩)] (W1.drewN m) fun e w' => e = .returned (.int .i64 (D.size : Nat)) ∧ ∃ n, w' = (W1.drewN m).drewN n) :=
    Lib.hid (fun m => (SSize_any x1 c0 d0 sb db eb cb pm blk s D N _ (T1.out.drewN m) (D1.out.drewN m) OK.out.dev).mono (fun e w' hh => ⟨hh.1, 0, hh.2.symm⟩))
  go_wp2_with fail
  go_quiet (first | (go_at_call 16; exact Calls.quiet_of (SQ.out _)))
  go_wp2_with fail
  refine (fetch_done x1 c0 d0 sb db eb cb pm blk s D N _ no true 115 (enters_of Tryz.func115 (by kernel_rfl) rfl) [.pointer (some ⟨w.heap.size, 0, none⟩)]
    (fun w' => ∃ x2, Fr x1 x2 (PC c0 d0) (W1.drewN nq) w' ∧ SIs x2 c0 d0 w' sb db eb (setPg (fetchS s D no true).1.1 no ⟨u, true, s.arc.pins no⟩) (fetchS s D no true).1.2 (N + 8)) (T1.out.drewN nq) (D1.out.drewN nq) OK.out hcd h0 h1 hN HE.out ?_).mono ?_
  · intro x2 w2 blk2 f2 t2 d2
    have lb := lt_of_block HBX.out
    have hbx2 : w2.heap[w.heap.size]? = some (.cells #[.string u] 9 (0, 0)) := (f2.old _ lb (by rw [XB.out]; exact fun hc => not6 hcd _ hc rfl)).trans HBX.out
    refine (Write_do no x2 c0 sb db eb cb pm blk2 _ (N + 8) w2 w.heap.size p _ HK.out t2 HP.out hbx2).mono ?_
    rintro e w3 ⟨rfl, f3, t3⟩
    rw [HP2.out] at t3
    exact ⟨rfl, x2, (f2.mono (PD_PC c0 d0)).trans (f3.mono (fun e he => PD_PC c0 d0 e (.inl he))), ⟨cb, pm, blk2, t3⟩, d2.frame f3 (fun e he hc => (no_PD hcd).1 e he hc)⟩
  · rintro e w3 ⟨rfl, x3, f3, s3⟩
    have F3 := Lib.hid f3
    have S3 := Lib.hid s3
    clear f3 s3
    go_wp2_with fail
    go_ret
    exact ⟨rfl, x3, (Fr.drewN HF.out nq).trans F3.out, S3.out⟩

/-! ### pins -/
def pinDone (s : Sp) (no : Int) (p : Pg) : Sp :=
  { s with pg := updP s.pg no (some { p with pins := p.pins + 1 }), arc := pinS s.arc no, pinned := if p.pins = 0 then s.pinned + 1 else s.pinned, most := if p.pins = 0 then max s.most (s.pinned + 1) else s.most }
def unpinDone (s : Sp) (no : Int) (p : Pg) : Sp :=
  { s with pg := updP s.pg no (some { p with pins := p.pins - 1 }), arc := unpinS s.arc no, pinned := if p.pins = 1 then s.pinned - 1 else s.pinned }

theorem cont_size {s : Sp} {D : Dev} (ok : SpOk s D) (k : Int) : (cont s D k).size = D.size := by
  unfold cont
  rcases h : s.pg k with _ | p
  · exact ok.dev.now k
  · exact ok.text k p h

end Go.Proofs.YtbgbomlmgkgkoaaGreat.arcI
