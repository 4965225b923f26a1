/- pool: the contracts of down, ready, held, write. -/
import Derived.Test.YtbgbomlmgkgkoaaGreatPoA
import Derived.StillTailTactics
namespace Go.Proofs.YtbgbomlmgkgkoaaGreat.arcI
open Go.RowKit Go.Proofs.YtbgbomlmgkgkoaaGreat.own Go.Proofs.YtbgbomlmgkgkoaaGreat.dv Go.Proofs.YtbgbomlmgkgkoaaGreat.po

theorem down_ok (w : World) (sb : Nat) (hc : w.cell? ⟨sb, 11, none⟩ = some (.bool false)) (hf : w.frozen? ⟨sb, 11, none⟩ = false) :
    Calls Tryz.prog 44 #[.pointer (some ⟨sb, 0, none⟩), .int .i64 0] w fun e w' => e = .returned (.int .i64 0) ∧ w.setCell ⟨sb, 11, none⟩ (.bool false) = w' := by
  go_enter Tryz.func44, Tryz.ntmps44
  go_wp2_with fail
  go_ret
  exact ⟨rfl, rfl⟩
theorem down_down (w : World) (sb : Nat) (hc : w.cell? ⟨sb, 11, none⟩ = some (.bool false)) (hf : w.frozen? ⟨sb, 11, none⟩ = false) :
    Calls Tryz.prog 44 #[.pointer (some ⟨sb, 0, none⟩), .int .i64 8] w fun e w' => e = .returned (.int .i64 8) ∧ w.setCell ⟨sb, 11, none⟩ (.bool true) = w' := by
  go_enter Tryz.func44, Tryz.ntmps44
  go_wp2_with fail
  go_ret
  exact ⟨rfl, rfl⟩

theorem sready_ok (x : Nat → Nat) (c0 d0 sb db eb cb pm : Nat) (blk : Int → Nat) (s : Sp) (D : Dev) (N : Nat) (w : World) (h : TI x c0 w sb db eb cb pm blk s N) (hd : DIs x d0 w db D N) (h1 : s.dead = false) (h2 : D.down = false) :
    Calls Tryz.prog 40 #[.pointer (some ⟨sb, 0, none⟩)] w fun e w' => e = .returned (.int .i64 0) ∧ w = w' := by
  obtain ⟨c0', -, -, -, -, -, -, -, -, -, -, c11, -⟩ := h.cells
  rw [h1] at c11
  have HD := Lib.hid hd
  have H2 := Lib.hid h2
  clear h hd h1 h2
  go_enter Tryz.func40, Tryz.ntmps40
  go_wp2_with fail
  refine (Down_any x d0 db D N _ HD.out).mono ?_
  rintro e w1 ⟨rfl, rfl⟩
  rw [H2.out]
  go_wp2_with fail
  go_ret
  exact ⟨rfl, rfl⟩

theorem cell_frame {x x' : Nat → Nat} {C : Nat → Prop} {w w' : World} (h : Fr x x' C w w') {b : Nat} (hb : b < w.heap.size) (hC : ¬ C (x b)) (j : Nat) : w'.cell? ⟨b, j, none⟩ = w.cell? ⟨b, j, none⟩ := by
  simp [World.cell?, h.old b hb hC]
theorem frozen_frame {x x' : Nat → Nat} {C : Nat → Prop} {w w' : World} (h : Fr x x' C w w') {b : Nat} (hb : b < w.heap.size) (hC : ¬ C (x b)) (j : Nat) : w'.frozen? ⟨b, j, none⟩ = w.frozen? ⟨b, j, none⟩ := by
  simp [World.frozen?, h.old b hb hC]
/-- a page that is not dirty is not written -/
theorem write_clean (sb pb : Nat) (no : Int) (w : World) (hp : w.cell? ⟨pb, 1, none⟩ = some (.bool false)) :
    Calls Tryz.prog 43 #[.pointer (some ⟨sb, 0, none⟩), .int .i64 no, .pointer (some ⟨pb, 0, none⟩)] w fun e w' => e = .returned (.int .i64 0) ∧ w = w' := by
  go_enter Tryz.func43, Tryz.ntmps43
  go_wp2_with fail
  go_ret
  exact ⟨rfl, rfl⟩
set_option maxRecDepth 100000 in
theorem write_dirty (x : Nat → Nat) (d0 sb db pb : Nat) (D : Dev) (N n : Nat) (t : ByteArray) (no : Int) (w : World) (hd : DIs x d0 w db D N) (ok : D.Ok) (hu : D.down = false) (h0 : 0 ≤ no) (h1 : no < D.nb) (ht : t.size = D.size) (hN : N + 2 < 1099511627776)
    (s0 : w.cell? ⟨sb, 0, none⟩ = some (.pointer (some ⟨db, 0, none⟩))) (s7 : w.cell? ⟨sb, 7, none⟩ = some (.int .i64 n)) (sf : ∀ j, w.frozen? ⟨sb, j, none⟩ = false) (hn : n < 1099511627776)
    (p0 : w.cell? ⟨pb, 0, none⟩ = some (.string t)) (p1 : w.cell? ⟨pb, 1, none⟩ = some (.bool true)) (pf : ∀ j, w.frozen? ⟨pb, j, none⟩ = false) (hxs : ¬ DC d0 (x sb)) (hxp : ¬ DC d0 (x pb)) :
    Calls Tryz.prog 43 #[.pointer (some ⟨sb, 0, none⟩), .int .i64 no, .pointer (some ⟨pb, 0, none⟩)] w fun e w' => e = .returned (.int .i64 0) ∧
      ∃ x1 w1, Fr x x1 (DC d0) w w1 ∧ DIs x1 d0 w1 db (D.write no t) (N + 2) ∧ (w1.setCell ⟨sb, 7, none⟩ (.int .i64 ((n + 1 : Nat) : Int))).setCell ⟨pb, 1, none⟩ (.bool false) = w' := by
  have HD := Lib.hid hd
  have OK := Lib.hid ok
  have HU := Lib.hid hu
  have HT := Lib.hid ht
  have lsb := World.block_lt_of_cell? _ _ s0
  have lpb := World.block_lt_of_cell? _ _ p0
  have E : Hid (((n : Int) + 1) = ((n + 1 : Nat) : Int)) := Lib.hid (by omega)
  have XS := Lib.hid hxs
  have XP := Lib.hid hxp
  clear hd ok hu ht hxs hxp
  go_enter Tryz.func43, Tryz.ntmps43
  go_wp2_with fail
  refine wp_region_still_tail 10 (by kernel_rfl) (by kernel_rfl) ?_
  simp only [List.take_succ_cons, List.take_zero, List.drop_succ_cons, List.drop_zero]
  generalize hW2 : ({ w with drawn := w.drawn + 1 } : World) = W2
  have q0 : W2.cell? ⟨sb, 0, none⟩ = some (.pointer (some ⟨db, 0, none⟩)) := by rw [← hW2]; exact s0
  have q1 : W2.cell? ⟨pb, 0, none⟩ = some (.string t) := by rw [← hW2]; exact p0
  have HD2 : Hid (DIs x d0 W2 db D N) := Lib.hid (by rw [← hW2]; exact HD.out.drewN 1)
  have s72 : W2.cell? ⟨sb, 7, none⟩ = some (.int .i64 n) := by rw [← hW2]; exact s7
  have sf2 : ∀ j, W2.frozen? ⟨sb, j, none⟩ = false := by rw [← hW2]; exact sf
  have p12 : W2.cell? ⟨pb, 1, none⟩ = some (.bool true) := by rw [← hW2]; exact p1
  have pf2 : ∀ j, W2.frozen? ⟨pb, j, none⟩ = false := by rw [← hW2]; exact pf
  have F2 : Hid (Fr x x (DC d0) w W2) := Lib.hid (by rw [← hW2]; exact Fr.drewN (Fr.refl _ _ _) 1)
  have lsb2 : sb < W2.heap.size := by rw [← hW2]; exact lsb
  have lpb2 : pb < W2.heap.size := by rw [← hW2]; exact lpb
  clear hW2 s0 s7 sf p0 p1 pf HD
  repeat still_step
  refine wpStill_nil ?_
  go_wp2_with fail
  refine (Write_any x d0 db D N _ no t HD2.out OK.out HU.out h0 h1 HT.out hN).mono ?_
  rintro e w3 ⟨rfl, x3, f3, h3⟩
  have r0 : w3.cell? ⟨sb, 7, none⟩ = some (.int .i64 n) := (cell_frame f3 lsb2 XS.out _).trans s72
  have r1 : w3.cell? ⟨pb, 1, none⟩ = some (.bool true) := (cell_frame f3 lpb2 XP.out _).trans p12
  have r2 : ∀ j, w3.frozen? ⟨sb, j, none⟩ = false := fun j => (frozen_frame f3 lsb2 XS.out _).trans (sf2 j)
  have r3 : ∀ j, w3.frozen? ⟨pb, j, none⟩ = false := fun j => (frozen_frame f3 lpb2 XP.out _).trans (pf2 j)
  have F3 := Lib.hid f3
  have H3 := Lib.hid h3
  clear f3 h3 s72 sf2 p12 pf2 q0 q1
  go_wp2_with fail
  go_ret
  exact ⟨rfl, x3, w3, F2.out.trans F3.out, H3.out, by rw [← E.out]⟩

end Go.Proofs.YtbgbomlmgkgkoaaGreat.arcI
