/- Contract of the program's Next: the next edge, the bad line, or the end. -/
import Derived.Test.YthaicpbdlhkkkaaEdgProgB
namespace Go.Proofs.Ythaicpbdlhkkkaa.edg
open Go.RowKit

def nextP (n : Int) : List B → Nat → Nat × (Nat × Nat) × List B × Nat
  | [], k => (6, (0, 0), [], k)
  | l :: r, k => if silent l then nextP n r (k + 1) else
      match edgeOf n l with
      | none => (15, (0, 0), r, k + 1)
      | some e => (0, e, r, k + 1)

def NextPost (n : Int) (rb : Nat) (p : Nat × (Nat × Nat) × List B × Nat) (line : Nat) (w : World) (e : Ending) (w' : World) : Prop :=
  e = .returned (.tuple #[.agg #[.int .u32 p.2.1.1, .int .u32 p.2.1.2], .int .i64 p.1]) ∧ RdIs w' rb n p.2.2.1 p.2.2.2 (if p.1 = 6 then line else p.2.2.2) (decide (p.1 = 15)) ∧ w.grownBy w' (some rb)

def restLen (w : World) (rb : Nat) : Nat := match w.cell? ⟨rb, 1, none⟩ with
  | some (.string s) => s.size
  | _ => 0

theorem rd_facts {w : World} {rb : Nat} {n : Int} {rest : ByteArray} {k line : Nat} {bad : Bool} (h : w.heap[rb]? = some (.cells (rdCells n rest k line bad) 81 (0, 0))) :
    w.cell? ⟨rb, 0, none⟩ = some (.int .i64 n) ∧ w.cell? ⟨rb, 1, none⟩ = some (.string rest) ∧ w.cell? ⟨rb, 2, none⟩ = some (.int .i64 k) ∧ w.cell? ⟨rb, 3, none⟩ = some (.int .i64 line) ∧ w.cell? ⟨rb, 4, none⟩ = some (.bool bad) ∧ ∀ j, w.frozen? ⟨rb, j, none⟩ = false := by
  refine ⟨?_, ?_, ?_, ?_, ?_, fun j => frozen_of_row w rb j _ _ h⟩
  all_goals rw [cell_of_row w rb _ _ _ _ h]; rfl
theorem rd_rest {w : World} {rb : Nat} {n : Int} {rest b : ByteArray} {k line : Nat} {bad : Bool} (h : w.heap[rb]? = some (.cells (rdCells n rest k line bad) 81 (0, 0))) : (w.setCell ⟨rb, 1, none⟩ (.string b)).heap[rb]? = some (.cells (rdCells n b k line bad) 81 (0, 0)) := by
  rw [heap_setCell_same w rb 1 _ _ _ h]; rfl
theorem rd_at {w : World} {rb : Nat} {n : Int} {rest : ByteArray} {k k' line : Nat} {bad : Bool} (h : w.heap[rb]? = some (.cells (rdCells n rest k line bad) 81 (0, 0))) : (w.setCell ⟨rb, 2, none⟩ (.int .i64 (k' : Nat))).heap[rb]? = some (.cells (rdCells n rest k' line bad) 81 (0, 0)) := by
  rw [heap_setCell_same w rb 2 _ _ _ h]; rfl
theorem rd_line {w : World} {rb : Nat} {n : Int} {rest : ByteArray} {k line line' : Nat} {bad : Bool} (h : w.heap[rb]? = some (.cells (rdCells n rest k line bad) 81 (0, 0))) : (w.setCell ⟨rb, 3, none⟩ (.int .i64 (line' : Nat))).heap[rb]? = some (.cells (rdCells n rest k line' bad) 81 (0, 0)) := by
  rw [heap_setCell_same w rb 3 _ _ _ h]; rfl
theorem rd_bad {w : World} {rb : Nat} {n : Int} {rest : ByteArray} {k line : Nat} {bad bad' : Bool} (h : w.heap[rb]? = some (.cells (rdCells n rest k line bad) 81 (0, 0))) : (w.setCell ⟨rb, 4, none⟩ (.bool bad')).heap[rb]? = some (.cells (rdCells n rest k line bad') 81 (0, 0)) := by
  rw [heap_setCell_same w rb 4 _ _ _ h]; rfl
theorem rd_alloc {w : World} {rb : Nat} {o ob : Obj} (h : w.heap[rb]? = some ob) : (w.alloc o).heap[rb]? = some ob := (Below.heap_alloc w o rb (lt_of_block h)).trans h
theorem rd_other {w : World} {rb : Nat} {a : Addr} {v : Value} {ob : Obj} (h : w.heap[rb]? = some ob) (hne : rb ≠ a.block) : (w.setCell a v).heap[rb]? = some ob := (Below.heap_setCell w a v rb hne).trans h

/-! the frame: only the reader's block has turned, and what is new -/
theorem only_refl (w : World) (row : Option Nat) : w.grownBy w row := ⟨rfl, rfl, rfl, Nat.le_refl _, fun _ _ _ => rfl⟩
theorem only_drewN {a w : World} {row : Option Nat} (h : a.grownBy w row) (n : Nat) : a.grownBy (w.drewN n) row := ⟨h.os, h.tape, h.output, h.size, h.block⟩
theorem only_alloc {a w : World} {row : Option Nat} (h : a.grownBy w row) (o : Obj) : a.grownBy (w.alloc o) row :=
  ⟨h.os, h.tape, h.output, Nat.le_trans h.size (by simp), fun i hi hne => (Below.heap_alloc w o i (Nat.lt_of_lt_of_le hi h.size)).trans (h.block i hi hne)⟩
theorem only_setCell {a w : World} {g : Nat} (h : a.grownBy w (some g)) {p : Addr} (hp : p.block = g ∨ a.heap.size ≤ p.block) (u : Value) : a.grownBy (w.setCell p u) (some g) :=
  ⟨h.os, h.tape, h.output, by simpa [World.setCell] using h.size, fun i hi hne => (Below.heap_setCell w p u i (by
    rintro rfl
    rcases hp with hp | hp
    · exact hne (by rw [hp])
    · omega)).trans (h.block i hi hne)⟩
theorem only_below {a w w1 : World} {row : Option Nat} (h : a.grownBy w row) (hb : Below w.heap.size w w1) : a.grownBy w1 row :=
  ⟨hb.os.trans h.os, hb.tape.trans h.tape, hb.output.trans h.output, Nat.le_trans h.size hb.size, fun i hi hn => (hb.block i (Nat.lt_of_lt_of_le hi h.size)).trans (h.block i hi hn)⟩
theorem only_trans {a b c : World} {row : Option Nat} (h : a.grownBy b row) (k : b.grownBy c row) : a.grownBy c row :=
  ⟨k.os.trans h.os, k.tape.trans h.tape, k.output.trans h.output, Nat.le_trans h.size k.size, fun i hi hn => (k.block i (Nat.lt_of_lt_of_le hi h.size) hn).trans (h.block i hi hn)⟩

theorem next_nil (w : World) :
    Calls Try.prog 17 #[.pointer none] w fun e w' => e = .returned (.tuple #[.agg #[.int .u32 0, .int .u32 0], .int .i64 2]) ∧ Below w.heap.size w w' := by
  go_enter Try.func17, Try.ntmps17
  go_wp2_with fail
  exact bodyPost_ret (v := .tuple #[.agg #[.int .u32 0, .int .u32 0], .int .i64 2]) (by simp [results, Try.results17, go_sem]) rfl ⟨rfl, (by repeat (first | exact Below.refl _ _ | refine below_drewN ?_ _ | refine Below.setCell ?_ (by simp; try omega) _ | refine Below.alloc ?_ (by simp; try omega) _))⟩

theorem next_bad (n : Int) (rb : Nat) (ls : List B) (k line : Nat) (w : World) (h : RdIs w rb n ls k line true) :
    Calls Try.prog 17 #[.pointer (some ⟨rb, 0, none⟩)] w fun e w' => e = .returned (.tuple #[.agg #[.int .u32 0, .int .u32 0], .int .i64 15]) ∧ RdIs w' rb n ls k line true ∧ Below w.heap.size w w' := by
  obtain ⟨rest, hle, hls, hb⟩ := h
  have hrl := lt_of_block hb
  obtain ⟨c0, c1, c2, c3, c4, _⟩ := rd_facts hb
  have HB := Lib.hid hb
  have HL := Lib.hid hls
  clear hb hls
  go_enter Try.func17, Try.ntmps17
  go_wp2_with fail
  exact bodyPost_ret (v := .tuple #[.agg #[.int .u32 0, .int .u32 0], .int .i64 15]) (by simp [results, Try.results17, go_sem]) rfl ⟨rfl, ⟨rest, hle, HL.out, rd_alloc HB.out⟩, (by repeat (first | exact Below.refl _ _ | refine below_drewN ?_ _ | refine Below.setCell ?_ (by simp; try omega) _ | refine Below.alloc ?_ (by simp; try omega) _))⟩

set_option maxHeartbeats 3200000 in
theorem next_any (n : Int) (rb : Nat) (ls0 : List B) (k0 line : Nat) (w : World) (h : RdIs w rb n ls0 k0 line false) :
    Calls Try.prog 17 #[.pointer (some ⟨rb, 0, none⟩)] w (NextPost n rb (nextP n ls0 k0) line w) := by
  have hrl : rb < w.heap.size := by obtain ⟨_, _, _, hb⟩ := h; exact lt_of_block hb
  have H0 := Lib.hid h
  have c4' : w.cell? ⟨rb, 4, none⟩ = some (.bool false) := by obtain ⟨_, _, _, hb⟩ := h; exact (rd_facts hb).2.2.2.2.1
  clear h
  go_enter Try.func17, Try.ntmps17
  go_wp2_with fail
  go_loopw [] (fun wr => ∃ (ls : List B) (k : Nat), RdIs wr rb n ls k line false ∧ nextP n ls k = nextP n ls0 k0 ∧ w.grownBy wr (some rb) ∧ wr.heap[w.heap.size]? = some (.cells #[.int .u32 0, .int .u32 0] 37 (0, 0))) (fun wr => restLen wr rb)
  case atStart => exact ⟨ls0, k0, (by obtain ⟨rest, a, b, c⟩ := H0.out; exact ⟨rest, a, b, rd_alloc c⟩), rfl, only_alloc (only_refl w _) _, heap_alloc_new _ _⟩
  case round =>
    obtain ⟨ls, k, ⟨rest, hle, hls, hblk⟩, hnx, hgr, hres⟩ := hrel
    have HN := Lib.hid hnx
    have HL := Lib.hid hls
    have hsz := hgr.size
    have hrl' := lt_of_block hblk
    have hwl := lt_of_block hres
    obtain ⟨c0, c1, c2, c3, c4, c5⟩ := rd_facts hblk
    have r0 : wr.cell? ⟨w.heap.size, 0, none⟩ = some (.int .u32 0) := by rw [cell_of_row wr _ 0 _ _ _ hres]; rfl
    have r1 : wr.cell? ⟨w.heap.size, 1, none⟩ = some (.int .u32 0) := by rw [cell_of_row wr _ 1 _ _ _ hres]; rfl
    have r2 : ∀ j, wr.frozen? ⟨w.heap.size, j, none⟩ = false := fun j => frozen_of_row wr _ j _ _ hres
    have HB := Lib.hid hblk
    have HR := Lib.hid hres
    have HG := Lib.hid hgr
    have hm : Hid (restLen wr rb = rest.size) := Lib.hid (by unfold restLen; rw [c1])
    clear hnx hls hblk hres hgr
    rcases Nat.eq_zero_or_pos rest.size with hz | hz
    · have e1 : rest.toList = [] := by rw [ByteArray.toList_eq, list_nil rest hz]
      have e2 : rest.toList.isEmpty = true := by rw [e1]; rfl
      have R : Hid (nextP n ls0 k0 = (6, (0, 0), [], k)) := Lib.hid (by rw [← HN.out, ← HL.out, list_nil rest hz]; rfl)
      have R2 : Hid (lines rest.data.toList = []) := Lib.hid (by rw [list_nil rest hz]; rfl)
      go_wp2_with fail
      exact bodyPost_ret (v := .tuple #[.agg #[.int .u32 0, .int .u32 0], .int .i64 6]) (by simp [results, Try.results17, go_sem, r0, r1]) rfl (by
        rw [R.out]
        exact ⟨rfl, ⟨rest, hle, R2.out, rd_other (rd_other HB.out (show rb ≠ w.heap.size by omega)) (show rb ≠ w.heap.size by omega)⟩, only_setCell (only_setCell HG.out (.inr (Nat.le_refl _)) _) (.inr (Nat.le_refl _)) _⟩)
    · have hne : rest.data.toList ≠ [] := by intro h; have h2 := congrArg List.length h; rw [size_len] at h2; have h3 : rest.size = 0 := h2; omega
      have hcl := cutAt_len 10 _ hne
      rw [size_len] at hcl
      have HLC := Lib.hid (lines_cut _ hne)
      have e2 : rest.toList.isEmpty = false := by
        have := list_at rest 0 hz
        simp only [List.drop_zero] at this
        rw [ByteArray.toList_eq, this]; rfl
      clear hne
      go_wp2_with fail
      refine (cut_one 10 rest _ (by simp only [maxLen]; omega)).mono ?_
      rintro e w' ⟨a, b, rfl, ha, hb, m, rfl⟩
      rw [← ha, ← hb, size_len, size_len] at hcl
      have HA := Lib.hid ha
      have HBb := Lib.hid hb
      have HLS : Hid (ls = a.data.toList :: lines b.data.toList) := Lib.hid (by rw [← HL.out, HLC.out, ← ha, ← hb])
      clear ha hb
      have hkb : k + 1 + b.size ≤ 16777216 := by omega
      have hk63 : (k : Int) + 1 ≤ 9223372036854775807 := by omega
      rcases hsi : silent a.data.toList with _ | _
      · have hpos : 0 < a.size := by
          rcases Nat.eq_zero_or_pos a.size with h | h
          · rw [list_nil a h] at hsi; cases hsi
          · exact h
        have h35 : ¬ a[0].toNat = 35 := by
          intro h35
          have hc' : a[0] = 35 := by apply UInt8.toNat_inj.1; simpa using h35
          have hl := list_at a 0 hpos
          simp only [List.drop_zero] at hl
          rw [hl, hc'] at hsi
          simp [silent] at hsi
        have e3 : a.toList.isEmpty = false := by
          have hl := list_at a 0 hpos
          simp only [List.drop_zero] at hl
          rw [ByteArray.toList_eq, hl]; rfl
        have e4 : (((a[0].toNat : Nat) : Int) == 35) = false := beqF (by omega)
        have HSI := Lib.hid hsi
        clear hsi h35
        go_wp2_with fail
        have hblk3 : (((((wr.drewN m).setCell ⟨rb, 1, none⟩ (.string b)).setCell ⟨rb, 2, none⟩ (.int .i64 (k + 1 : Nat))).setCell ⟨rb, 3, none⟩ (.int .i64 (k + 1 : Nat)))).heap[rb]? = some (.cells (rdCells n b (k + 1) (k + 1) false) 81 (0, 0)) :=
          rd_line (rd_at (rd_rest (show (wr.drewN m).heap[rb]? = _ from HB.out)))
        have hres3 : (((((wr.drewN m).setCell ⟨rb, 1, none⟩ (.string b)).setCell ⟨rb, 2, none⟩ (.int .i64 (k + 1 : Nat))).setCell ⟨rb, 3, none⟩ (.int .i64 (k + 1 : Nat)))).heap[w.heap.size]? = some (.cells #[.int .u32 0, .int .u32 0] 37 (0, 0)) :=
          rd_other (rd_other (rd_other HR.out (show w.heap.size ≠ rb by omega)) (show w.heap.size ≠ rb by omega)) (show w.heap.size ≠ rb by omega)
        have hgr3 : w.grownBy (((((wr.drewN m).setCell ⟨rb, 1, none⟩ (.string b)).setCell ⟨rb, 2, none⟩ (.int .i64 (k + 1 : Nat))).setCell ⟨rb, 3, none⟩ (.int .i64 (k + 1 : Nat)))) (some rb) :=
          only_setCell (only_setCell (only_setCell (only_drewN HG.out m) (.inl rfl) _) (.inl rfl) _) (.inl rfl) _
        simp only [Int.natCast_add, Int.natCast_one] at hblk3 hres3 hgr3
        generalize World.setCell (World.setCell (World.setCell (wr.drewN m) _ _) _ _) _ _ = W3 at hblk3 hres3 hgr3 ⊢
        clear c0 c1 c2 c3 c4 c5 r0 r1 r2 hm HB HR HG hwl hsz
        refine (edge_any n rb a (by omega) W3 (rd_facts hblk3).1).mono ?_
        rintro e w4 ⟨x, y, rfl, hxy, hb4⟩
        have HXY := Lib.hid hxy
        have hblk4 := (hb4.block _ (lt_of_block hblk3)).trans hblk3
        have hres4 := (hb4.block _ (lt_of_block hres3)).trans hres3
        have HG4 := Lib.hid (only_below hgr3 hb4)
        obtain ⟨c0, c1, c2, c3, c4, c5⟩ := rd_facts hblk4
        have r0 : w4.cell? ⟨w.heap.size, 0, none⟩ = some (.int .u32 0) := by rw [cell_of_row w4 _ 0 _ _ _ hres4]; rfl
        have r1 : w4.cell? ⟨w.heap.size, 1, none⟩ = some (.int .u32 0) := by rw [cell_of_row w4 _ 1 _ _ _ hres4]; rfl
        have r2 : ∀ j, w4.frozen? ⟨w.heap.size, j, none⟩ = false := fun j => frozen_of_row w4 _ j _ _ hres4
        have hwl := lt_of_block hres4
        have hrl4 := lt_of_block hblk4
        have HB4 := Lib.hid hblk4
        clear hxy hblk3 hres3 hgr3 hb4 hblk4 hres4
        rcases hed : edgeOf n a.data.toList with _ | ⟨px, py⟩
        · have R : Hid (nextP n ls0 k0 = (15, (0, 0), lines b.data.toList, k + 1)) := Lib.hid (by rw [← HN.out, HLS.out]; simp only [nextP, HSI.out, hed]; rfl)
          clear hed
          go_wp2_with fail
          refine bodyPost_ret (v := .tuple #[.agg #[.int .u32 0, .int .u32 0], .int .i64 15]) (by simp [results, Try.results17, go_sem, hwl, r0, r1]) rfl ?_
          rw [R.out]
          refine ⟨rfl, ⟨b, hkb, rfl, ?_⟩, ?_⟩
          · repeat (first | exact rd_bad HB4.out | exact HB4.out | refine rd_alloc ?_ | refine rd_other ?_ (show rb ≠ w.heap.size by omega))
          · repeat (first | exact HG4.out | refine only_alloc ?_ _ | refine only_setCell ?_ (.inl rfl) _ | refine only_setCell ?_ (.inr (Nat.le_refl _)) _)
        · have R : Hid (nextP n ls0 k0 = (0, (px, py), lines b.data.toList, k + 1)) := Lib.hid (by rw [← HN.out, HLS.out]; simp only [nextP, HSI.out, hed]; rfl)
          have hpp := HXY.out _ hed
          injection hpp with hp1 hp2
          subst hp1
          subst hp2
          clear hed
          go_wp2_with fail
          refine bodyPost_ret (v := .tuple #[.agg #[.int .u32 px, .int .u32 py], .int .i64 0]) (by simp [results, Try.results17, go_sem, hwl, r0, r1]) rfl ?_
          rw [R.out]
          refine ⟨rfl, ⟨b, hkb, rfl, ?_⟩, ?_⟩
          · repeat (first | exact rd_bad HB4.out | exact HB4.out | refine rd_alloc ?_ | refine rd_other ?_ (show rb ≠ w.heap.size by omega))
          · repeat (first | exact HG4.out | refine only_alloc ?_ _ | refine only_setCell ?_ (.inl rfl) _ | refine only_setCell ?_ (.inr (Nat.le_refl _)) _)
      · have HN2 : Hid (nextP n (lines b.data.toList) (k + 1) = nextP n ls0 k0) := Lib.hid (by rw [← HN.out, HLS.out]; simp only [nextP, hsi, if_true])
        have hrd : ∀ W : World, W.heap[rb]? = some (.cells (rdCells n rest k line false) 81 (0, 0)) → RdIs ((W.setCell ⟨rb, 1, none⟩ (.string b)).setCell ⟨rb, 2, none⟩ (.int .i64 (k + 1 : Nat))) rb n (lines b.data.toList) (k + 1) line false :=
          fun W hW => ⟨b, hkb, rfl, rd_at (rd_rest hW)⟩
        have HRD := Lib.hid (hrd (wr.drewN m) HB.out)
        clear hrd
        have hml : Hid (restLen (((wr.drewN m).setCell ⟨rb, 1, none⟩ (.string b)).setCell ⟨rb, 2, none⟩ (.int .i64 (k + 1 : Nat))) rb = b.size) := Lib.hid (by
          obtain ⟨b', h1, h2, h3⟩ := HRD.out
          have := rd_at (k' := k + 1) (rd_rest (b := b) (show (wr.drewN m).heap[rb]? = _ from HB.out))
          unfold restLen
          rw [(rd_facts this).2.1])
        have hsil : a.size = 0 ∨ ∃ h : 0 < a.size, a[0].toNat = 35 := by
          rcases Nat.eq_zero_or_pos a.size with h | h
          · exact .inl h
          · right
            refine ⟨h, ?_⟩
            have hl := list_at a 0 h
            simp only [List.drop_zero] at hl
            rw [hl] at hsi
            simp [silent] at hsi
            rw [hsi]; rfl
        clear hsi
        rcases hsil with h | ⟨h, h35⟩
        · have e3 : a.toList.isEmpty = true := by rw [ByteArray.toList_eq, list_nil a h]; rfl
          have e4 : a.toList = [] := by rw [ByteArray.toList_eq, list_nil a h]
          go_wp2_with fail
          go_roundw
          case rel => exact ⟨lines b.data.toList, k + 1, HRD.out, HN2.out, only_setCell (only_setCell (only_drewN HG.out m) (.inl rfl) _) (.inl rfl) _, rd_other (rd_other HR.out (show w.heap.size ≠ rb by omega)) (show w.heap.size ≠ rb by omega)⟩
          case measure =>
            rw [hm.out]
            exact Nat.lt_of_le_of_lt (Nat.le_of_eq hml.out) (by omega)
        · have e3 : a.toList.isEmpty = false := by
            have hl := list_at a 0 h
            simp only [List.drop_zero] at hl
            rw [ByteArray.toList_eq, hl]; rfl
          have e4 : (((a[0].toNat : Nat) : Int) == 35) = true := beqT (by omega)
          clear h35
          go_wp2_with fail
          go_roundw
          case rel => exact ⟨lines b.data.toList, k + 1, HRD.out, HN2.out, only_setCell (only_setCell (only_drewN HG.out m) (.inl rfl) _) (.inl rfl) _, rd_other (rd_other HR.out (show w.heap.size ≠ rb by omega)) (show w.heap.size ≠ rb by omega)⟩
          case measure =>
            rw [hm.out]
            exact Nat.lt_of_le_of_lt (Nat.le_of_eq hml.out) (by omega)

end Go.Proofs.Ythaicpbdlhkkkaa.edg
