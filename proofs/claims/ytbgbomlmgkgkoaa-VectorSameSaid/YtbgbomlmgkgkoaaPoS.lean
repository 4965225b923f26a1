/- pool: a space whose device is down: ready, Read. -/
import Derived.Test.YtbgbomlmgkgkoaaPoD
import Derived.Test.YtbgbomlmgkgkoaaDvG
namespace Go.Proofs.Ytbgbomlmgkgkoaa.arcI
open Go.RowKit Go.Proofs.Ytbgbomlmgkgkoaa.own Go.Proofs.Ytbgbomlmgkgkoaa.dv Go.Proofs.Ytbgbomlmgkgkoaa.po

theorem down_any8 (w : World) (sb : Nat) (b : Bool) (hc : w.cell? ⟨sb, 11, none⟩ = some (.bool b)) (hf : w.frozen? ⟨sb, 11, none⟩ = false) :
    Calls Try.prog 58 #[.pointer (some ⟨sb, 0, none⟩), .int .i64 8] w fun e w' => e = .returned (.int .i64 8) ∧ w.setCell ⟨sb, 11, none⟩ (.bool true) = w' := by
  cases b with
  | false => exact down_down w sb hc hf
  | true =>
    go_enter Try.func58, Try.ntmps58
    go_wp2_with fail
    go_ret
    exact ⟨rfl, rfl⟩

/-- a space is dead, or its device is down: it answers so, and is dead then -/
theorem sready_down (x : Nat → Nat) (c0 d0 sb db eb cb pm : Nat) (blk : Int → Nat) (s : Sp) (D : Dev) (N : Nat) (w : World) (h : TI x c0 w sb db eb cb pm blk s N) (hd : DIs x d0 w db D N) (h1 : s.dead = true ∨ D.down = true) :
    Calls Try.prog 47 #[.pointer (some ⟨sb, 0, none⟩)] w fun e w' => e = .returned (.int .i64 8) ∧ w.setCell ⟨sb, 11, none⟩ (.bool true) = w' := by
  obtain ⟨c0', -, -, -, -, -, -, -, -, -, -, c11, cf⟩ := h.cells
  have f11 := cf 11
  have HD := Lib.hid hd
  clear h hd cf
  cases hb : s.dead with
  | true =>
    rw [hb] at c11
    have C := Lib.hid c11
    have F := Lib.hid f11
    clear h1 hb
    go_enter Try.func47, Try.ntmps47
    go_wp2_with fail
    refine (down_any8 w sb true C.out F.out).mono ?_
    rintro e w1 ⟨rfl, rfl⟩
    go_wp2_with fail
    go_ret
    exact ⟨rfl, rfl⟩
  | false =>
    have h2 : D.down = true := h1.resolve_left (by rw [hb]; decide)
    have H2 := Lib.hid h2
    rw [hb] at c11
    have C := Lib.hid c11
    have F := Lib.hid f11
    clear h1 h2 hb
    go_enter Try.func47, Try.ntmps47
    go_wp2_with fail
    refine (Down_any x d0 db D N _ HD.out).mono ?_
    rintro e w1 ⟨rfl, rfl⟩
    rw [H2.out]
    go_wp2_with fail
    refine (down_any8 w sb false C.out F.out).mono ?_
    rintro e w1 ⟨rfl, rfl⟩
    go_wp2_with fail
    go_ret
    exact ⟨rfl, rfl⟩

set_option maxRecDepth 100000 in
theorem SRead_down (x : Nat → Nat) (c0 d0 sb db eb : Nat) (s : Sp) (D : Dev) (N : Nat) (w : World) (no : Int) (h : SIs x c0 d0 w sb db eb s D N) (hcd : c0 + 9 < d0 ∨ d0 + 2 < c0) (h1 : s.dead = true ∨ D.down = true) :
    Calls Try.prog 11 #[.pointer (some ⟨sb, 0, none⟩), .int .i64 no] w fun e w' => e = .returned (.tuple #[.string ⟨#[]⟩, .int .i64 8]) ∧ STurned x c0 d0 w w' sb db eb { s with dead := true } D N := by
  obtain ⟨⟨cb, pm, blk, t⟩, d⟩ := h
  have hb1 : Below w.heap.size w (w.alloc (.cells #[.string ⟨#[]⟩] 9)) := (Below.refl _ w).alloc (Nat.le_refl _) _
  have t1 := t.below hb1 (x' := paint x w.heap.size (c0 + 6)) (fun b hb => paint_old hb)
  have d1 := d.below hb1 (x' := paint x w.heap.size (c0 + 6)) (fun b hb => paint_old hb)
  have xb : paint x w.heap.size (c0 + 6) w.heap.size = c0 + 6 := paint_new (Nat.le_refl _)
  have hbx := World.alloc_heap_new w (.cells #[.string ⟨#[]⟩] 9)
  have hF : Fr x (paint x w.heap.size (c0 + 6)) (PC c0 d0) w (w.alloc (.cells #[.string ⟨#[]⟩] 9)) := Fr.of_below hb1 PC6
  have T1 := Lib.hid t1
  have D1 := Lib.hid d1
  have XB := Lib.hid xb
  have HBX := Lib.hid hbx
  have HF := Lib.hid hF
  clear t d hb1 t1 d1 xb hbx hF
  go_enter Try.func11, Try.ntmps11
  go_wp2_with fail
  generalize (World.alloc w _) = W1 at T1 D1 HBX HF ⊢
  generalize paint x w.heap.size (c0 + 6) = x1 at T1 D1 XB HF
  refine (sready_down x1 c0 d0 sb db eb cb pm blk s D N W1 T1.out D1.out h1).mono ?_
  rintro e w2 ⟨rfl, hw2⟩
  have C := T1.out.setAt 11 (.bool true) { s with dead := true } N (Nat.le_refl _) (by unfold spCells; rfl) rfl rfl rfl T1.out.b1 T1.out.b2 T1.out.b3 T1.out.b4 T1.out.b5
  have D2 := D1.out.frame C.1 (fun e he hc => by have a := hc.1.1; have b := hc.1.2; have a2 := he.1; have b2 := he.2; omega)
  have sne : w.heap.size ≠ sb := fun e => by have a := T1.out.xs; rw [← e, XB.out] at a; omega
  have hbx2 : (W1.setCell ⟨sb, 11, none⟩ (.bool true)).heap[w.heap.size]? = some (.cells #[.string ⟨#[]⟩] 9 (0, 0)) := (Below.heap_setCell _ _ _ _ sne).trans HBX.out
  rw [hw2] at C D2 hbx2
  clear hw2
  have k0 : w2.cell? ⟨w.heap.size, 0, none⟩ = some (.string ⟨#[]⟩) := by rw [cell_of_row w2 _ _ _ _ _ hbx2]; rfl
  have kf : w2.frozen? ⟨w.heap.size, 0, none⟩ = false := frozen_of_row w2 _ _ _ _ hbx2
  have CC := Lib.hid C
  have DD := Lib.hid D2
  clear C D2 hbx2 sne
  go_wp2_with fail
  have f4 : Fr x1 x1 (fun e => e = c0 + 6) w2 (w2.setCell ⟨w.heap.size, 0, none⟩ (.string ⟨#[]⟩)) := Fr.same rfl rfl rfl (by simp) (fun b _ hC => Below.heap_setCell w2 _ _ _ (by rintro rfl; exact hC XB.out))
  have k1 : (w2.setCell ⟨w.heap.size, 0, none⟩ (.string ⟨#[]⟩)).cell? ⟨w.heap.size, 0, none⟩ = some (.string ⟨#[]⟩) := World.cell?_setCell_same' _ _ _ (by rw [k0]; rfl)
  refine bodyPost_ret (v := .tuple #[.string ⟨#[]⟩, .int .i64 8]) (by simp [results, Try.f11, go_sem, k1]) rfl ?_
  exact ⟨rfl, x1, (HF.out.trans (CC.out.1.mono (fun e he => .inl he.1))).trans (f4.mono (fun e he => by rw [he]; exact PC6)), ⟨⟨cb, pm, blk, CC.out.2.frame f4 (fun e he hc => he.2 hc)⟩, DD.out.frame f4 (fun e he => not6 hcd e (.inr he))⟩⟩

end Go.Proofs.Ytbgbomlmgkgkoaa.arcI
