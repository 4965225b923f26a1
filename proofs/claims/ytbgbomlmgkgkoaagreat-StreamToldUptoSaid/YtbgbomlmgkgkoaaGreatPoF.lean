/- pool: the contracts of Unpin, Text, Set, Stats; what is refused. -/
import Derived.Test.YtbgbomlmgkgkoaaGreatPoE
namespace Go.Proofs.YtbgbomlmgkgkoaaGreat.arcI
open Go.RowKit Go.Proofs.YtbgbomlmgkgkoaaGreat.own Go.Proofs.YtbgbomlmgkgkoaaGreat.dv Go.Proofs.YtbgbomlmgkgkoaaGreat.po

/-! ### Stats -/
def statsV (s : Sp) : Value := .agg #[.int .i64 s.arc.size, .int .i64 s.hits, .int .i64 s.misses, .int .i64 s.written, .int .i64 s.cnt, .int .i64 s.pinned, .int .i64 s.most]
set_option maxRecDepth 100000 in
set_option maxHeartbeats 1600000 in
theorem Stats_any (x : Nat → Nat) (c0 d0 sb db eb : Nat) (s : Sp) (D : Dev) (N : Nat) (w : World) (h : SIs x c0 d0 w sb db eb s D N) :
    Calls Tryz.prog 27 #[.pointer (some ⟨sb, 0, none⟩)] w fun e w' => e = .returned (statsV s) ∧ Below w.heap.size w w' := by
  obtain ⟨⟨cb, pm, blk, t⟩, d⟩ := h
  obtain ⟨-, -, -, q3, q4, q5, q6, q7, q8, q9, q10, -, qf⟩ := t.cells
  have hsl : sb < w.heap.size := lt_of_block t.h0
  have hlen : ∀ W : World, W.heap[pm]? = w.heap[pm]? → (Builtin.len_ #[112] 3 #[.map (some pm)]).run Tryz.prog W = .ok (.int .i64 s.cnt) W := fun W hW => (t.vm.frame hW).len (e := 113) Tryz.underlying112 _
  have hcn : s.cnt ≤ N := t.vm.size_le
  have hpl := t.vm.lt
  clear t d
  go_enter Tryz.func27, Tryz.ntmps27
  go_upto_region 4 with fail
  generalize hW : World.alloc (World.alloc w _) _ = W
  have hb : Below w.heap.size w W := by rw [← hW]; exact ((Below.refl _ w).alloc (Nat.le_refl _) _).alloc (by simp) _
  have hh := hlen W (hb.block pm hpl)
  subst hW
  clear hlen
  have HB := Lib.hid hb
  clear hb
  go_wp2_with fail
  refine bodyPost_ret (v := statsV s) (by simp [results, Tryz.f27, go_sem, statsV]) rfl ?_
  exact ⟨rfl, ((Below.refl _ w).alloc (Nat.le_refl _) _).alloc (by simp) _⟩

/-! ### what is refused for want of a frame -/
set_option maxRecDepth 100000 in
set_option maxHeartbeats 1600000 in
theorem Read_ref (x : Nat → Nat) (c0 d0 sb db eb : Nat) (s : Sp) (D : Dev) (N : Nat) (w : World) (no : Int) (h : SIs x c0 d0 w sb db eb s D N) (ok : SpOk s D) (hcd : c0 + 9 < d0 ∨ d0 + 2 < c0) (h0 : 0 ≤ no) (h1 : no < D.nb) (hN : N + 8 < 1099511627776) (he : (touchS s.arc no).2.2.2 ≠ 0) :
    Calls Tryz.prog 48 #[.pointer (some ⟨sb, 0, none⟩), .int .i64 no] w fun e w' => e = .returned (.tuple #[.string ⟨#[]⟩, .int .i64 13]) ∧ STurned x c0 d0 w w' sb db eb s D (N + 8) := by
  obtain ⟨⟨cb, pm, blk, t⟩, d⟩ := h
  have hb1 : Below w.heap.size w (w.alloc (.cells #[.string ⟨#[]⟩] 9)) := (Below.refl _ w).alloc (Nat.le_refl _) _
  have t1 := t.below hb1 (x' := paint x w.heap.size (c0 + 6)) (fun b hb => paint_old hb)
  have d1 := d.below hb1 (x' := paint x w.heap.size (c0 + 6)) (fun b hb => paint_old hb)
  have xb : paint x w.heap.size (c0 + 6) w.heap.size = c0 + 6 := paint_new (Nat.le_refl _)
  have hbx := World.alloc_heap_new w (.cells #[.string ⟨#[]⟩] 9)
  have hF : Fr x (paint x w.heap.size (c0 + 6)) (PC c0 d0) w (w.alloc (.cells #[.string ⟨#[]⟩] 9)) := Fr.of_below hb1 PC6
  have T1 := Lib.hid t1
  have D1 := Lib.hid d1
  have XB := Lib.hid xb
  have HBX := Lib.hid hbx
  have HF := Lib.hid hF
  have OK := Lib.hid ok
  have HE := Lib.hid he
  clear t d hb1 t1 d1 xb hbx hF ok he
  go_enter Tryz.func48, Tryz.ntmps48
  go_wp2_with fail
  generalize (World.alloc w _) = W1 at T1 D1 HBX HF ⊢
  generalize paint x w.heap.size (c0 + 6) = x1 at T1 D1 XB HF
  refine (sready_ok x1 c0 d0 sb db eb cb pm blk s D N W1 T1.out D1.out OK.out.dead OK.out.up).mono ?_
  rintro e w2 ⟨rfl, rfl⟩
  go_wp2_with fail
  refine (fetch_refused x1 c0 d0 sb db eb cb pm blk s D N W1 no false _ T1.out D1.out OK.out hcd h0 h1 hN HE.out).mono ?_
  rintro e w3 ⟨rfl, x3, f3, t3, d3⟩
  have lb := lt_of_block HBX.out
  have hb3 : w3.heap[w.heap.size]? = some (.cells #[.string ⟨#[]⟩] 9 (0, 0)) := (f3.old _ lb (by rw [XB.out]; exact fun hc => not6 hcd _ hc rfl)).trans HBX.out
  have k0 : w3.cell? ⟨w.heap.size, 0, none⟩ = some (.string ⟨#[]⟩) := by rw [cell_of_row w3 _ _ _ _ _ hb3]; rfl
  have kf : w3.frozen? ⟨w.heap.size, 0, none⟩ = false := frozen_of_row w3 _ _ _ _ hb3
  have F3 := Lib.hid f3
  have T3 := Lib.hid t3
  have D3 := Lib.hid d3
  have xb3 : Hid (x3 w.heap.size = c0 + 6) := Lib.hid ((f3.col _ lb).trans XB.out)
  clear f3 t3 d3 hb3
  go_wp2_with fail
  have f4 : Fr x3 x3 (fun e => e = c0 + 6) w3 (w3.setCell ⟨w.heap.size, 0, none⟩ (.string ⟨#[]⟩)) := Fr.same rfl rfl rfl (by simp) (fun b _ hC => Below.heap_setCell w3 _ _ _ (by rintro rfl; exact hC xb3.out))
  have k1 : (w3.setCell ⟨w.heap.size, 0, none⟩ (.string ⟨#[]⟩)).cell? ⟨w.heap.size, 0, none⟩ = some (.string ⟨#[]⟩) := World.cell?_setCell_same' _ _ _ (by rw [k0]; rfl)
  refine bodyPost_ret (v := .tuple #[.string ⟨#[]⟩, .int .i64 13]) (by simp [results, Tryz.f48, go_sem, k1]) rfl ?_
  exact ⟨rfl, x3, (HF.out.trans (F3.out.mono (PD_PC c0 d0))).trans (f4.mono (fun e he => by rw [he]; exact PC6)), ⟨cb, pm, blk, T3.out.frame f4 (fun e he hc => he.2 hc)⟩, D3.out.frame f4 (fun e he => not6 hcd e (.inr he))⟩

set_option maxRecDepth 100000 in
set_option maxHeartbeats 1600000 in
theorem Write_ref (x : Nat → Nat) (c0 d0 sb db eb : Nat) (s : Sp) (D : Dev) (N : Nat) (w : World) (no : Int) (u : ByteArray) (h : SIs x c0 d0 w sb db eb s D N) (ok : SpOk s D) (hcd : c0 + 9 < d0 ∨ d0 + 2 < c0) (h0 : 0 ≤ no) (h1 : no < D.nb) (hN : N + 8 < 1099511627776) (hu : u.size = D.size) (he : (touchS s.arc no).2.2.2 ≠ 0) :
    Calls Tryz.prog 83 #[.pointer (some ⟨sb, 0, none⟩), .int .i64 no, .string u] w fun e w' => e = .returned (.int .i64 13) ∧ STurned x c0 d0 w w' sb db eb s D (N + 8) := by
  obtain ⟨⟨cb, pm, blk, t⟩, d⟩ := h
  have hsz : D.size ≤ 4096 := by have := ok.dev.sectors; unfold Dev.size; omega
  have hb1 : Below w.heap.size w (w.alloc (.cells #[.string u] 9)) := (Below.refl _ w).alloc (Nat.le_refl _) _
  have t1 := t.below hb1 (x' := paint x w.heap.size (c0 + 6)) (fun b hb => paint_old hb)
  have d1 := d.below hb1 (x' := paint x w.heap.size (c0 + 6)) (fun b hb => paint_old hb)
  have hbx := World.alloc_heap_new w (.cells #[.string u] 9)
  have hF : Fr x (paint x w.heap.size (c0 + 6)) (PC c0 d0) w (w.alloc (.cells #[.string u] 9)) := Fr.of_below hb1 PC6
  have T1 := Lib.hid t1
  have D1 := Lib.hid d1
  have HBX := Lib.hid hbx
  have HF := Lib.hid hF
  have OK := Lib.hid ok
  have HE := Lib.hid he
  have E : (((u.size : Nat) : Int) != ((D.size : Nat) : Int)) = false := by rw [hu]; simp
  clear t d hb1 t1 d1 hbx hF ok he hu
  go_enter Tryz.func83, Tryz.ntmps83
  go_wp2_with fail
  generalize (World.alloc w _) = W1 at T1 D1 HBX HF ⊢
  generalize paint x w.heap.size (c0 + 6) = x1 at T1 D1 HF
  refine (sready_ok x1 c0 d0 sb db eb cb pm blk s D N W1 T1.out D1.out OK.out.dead OK.out.up).mono ?_
  rintro e w2 ⟨rfl, rfl⟩
  have k0 : W1.cell? ⟨w.heap.size, 0, none⟩ = some (.string u) := by rw [cell_of_row W1 _ _ _ _ _ HBX.out]; rfl
  have SQ : Hid (∀ m, Calls Tryz.prog 16 #[.pointer (some ⟨sb, 0, none⟩)] (W1.drewN m) fun e w' => e = .returned (.int .i64 (D.size : Nat)) ∧ ∃ n, w' = (W1.drewN m).drewN n) :=
    Lib.hid (fun m => (SSize_any x1 c0 d0 sb db eb cb pm blk s D N _ (T1.out.drewN m) (D1.out.drewN m) OK.out.dev).mono (fun e w' hh => ⟨hh.1, 0, hh.2.symm⟩))
  go_wp2_with fail
  go_quiet (first | (go_at_call 16; exact Calls.quiet_of (SQ.out _)))
  go_wp2_with fail
  refine (fetch_refused x1 c0 d0 sb db eb cb pm blk s D N (W1.drewN nq) no true _ (T1.out.drewN nq) (D1.out.drewN nq) OK.out hcd h0 h1 hN HE.out).mono ?_
  rintro e w3 ⟨rfl, x3, f3, t3, d3⟩
  have F3 := Lib.hid f3
  have T3 := Lib.hid t3
  have D3 := Lib.hid d3
  clear f3 t3 d3
  go_wp2_with fail
  go_ret
  exact ⟨rfl, x3, (Fr.drewN HF.out nq).trans (F3.out.mono (PD_PC c0 d0)), ⟨cb, pm, blk, T3.out⟩, D3.out⟩

end Go.Proofs.YtbgbomlmgkgkoaaGreat.arcI
