/- Statement ArcPlays: the document's cache: Touch: what stands on the way through. -/
import Derived.BigQuiet
import Derived.BigRegion
import Derived.Deep.CutRange
import Derived.Test.YthcdfdkhmlkneaaArcF6
namespace Go.Proofs.Ythcdfdkhmlkneaa.arcI
open Go.RowKit Go.Proofs.Ythcdfdkhmlkneaa.own

theorem pick_free {s : St} (oft : Bool) (h : (freeK s.pins s.once).isSome = true ∨ (freeK s.pins s.often).isSome = true) :
    (pickOnce s oft = true ∧ ∃ k, freeK s.pins s.once = some k) ∨ (pickOnce s oft = false ∧ ∃ k, freeK s.pins s.often = some k) := by
  unfold pickOnce
  rcases h1 : freeK s.pins s.once with _ | a <;> rcases h2 : freeK s.pins s.often with _ | b <;> cases firstOf s oft <;> simp_all

theorem MIs.col {x : Nat → Nat} {d0 : Nat} {w : World} {mb : Nat} {s : St} {N : Nat} (h : MIs x d0 w mb s N) : x mb = d0 := by
  obtain ⟨_, _, _, _, _, _, hx, _⟩ := h
  exact hx
theorem MIs.lt {x : Nat → Nat} {d0 : Nat} {w : World} {mb : Nat} {s : St} {N : Nat} (h : MIs x d0 w mb s N) : mb < w.heap.size := by
  obtain ⟨_, _, _, _, _, h0, _⟩ := h
  exact lt_of_block h0

/-- the target is set anew -/
theorem MIs.aim {x : Nat → Nat} {d0 : Nat} {w : World} {mb : Nat} {s : St} {N : Nat} (h : MIs x d0 w mb s N) (t : Nat) : MIs x d0 (w.setCell ⟨mb, 5, none⟩ (.int .i64 t)) mb { s with target := t } N := by
  obtain ⟨v1, v2, v3, v4, pm, h0, hx, r1, r2, r3, r4, hp, hm⟩ := h
  refine ⟨v1, v2, v3, v4, pm, ?_, hx, r1.setCell (by rw [hx]; omega) _, r2.setCell (by rw [hx]; omega) _, r3.setCell (by rw [hx]; omega) _, r4.setCell (by rw [hx]; omega) _, hp, hm.frame (Below.heap_setCell _ _ _ _ (show pm ≠ mb from fun hh => by rw [hh, hx] at hp; omega))⟩
  rw [heap_setCell_same w mb 5 _ _ _ h0]
  rfl
/-- a list loses its last -/
theorem ROc.tail {x : Nat → Nat} {c : Nat} {w : World} {a : Option Addr} {n cc : Nat} {l : List K} (h : ROc x c w (.slice a n cc) l.reverse) : ROc x c w (.slice a (n - 1) cc) l.tail.reverse := by
  obtain ⟨aT, c', hv, hle, hcc, hc⟩ := h
  injection hv with h1 h2 h3
  subst h1 h2 h3
  rw [List.length_reverse] at hle hcc
  refine ⟨a, cc, by simp, by simp; omega, by simp; omega, fun k hk => ?_⟩
  have hk' : k < l.length - 1 := by simpa using hk
  obtain ⟨g, e, hg, hx, hcell⟩ := hc k (by rw [List.length_reverse]; omega)
  refine ⟨g, e, hg, hx, ?_⟩
  rw [hcell]
  congr 2
  rw [List.getElem_reverse, List.getElem_reverse, List.getElem_tail]
  congr 1
  rw [List.length_tail]
  omega
theorem MIs.tail3 {x : Nat → Nat} {d0 : Nat} {w : World} {mb : Nat} {s : St} {N : Nat} (h : MIs x d0 w mb s N) {a : Option Addr} {n c : Nat} (hc : w.cell? ⟨mb, 3, none⟩ = some (.slice a n c)) : MIs x d0 (w.setCell ⟨mb, 3, none⟩ (.slice a (n - 1) c)) mb { s with wonce := s.wonce.tail } N := by
  obtain ⟨v1, v2, v3, v4, pm, h0, hx, r1, r2, r3, r4, hp, hm⟩ := h
  rw [cell_of_row w mb _ _ _ _ h0] at hc
  have hc' : v3 = .slice a n c := by injection hc
  subst hc'
  refine ⟨v1, v2, .slice a (n - 1) c, v4, pm, ?_, hx, r1.setCell (by rw [hx]; omega) _, r2.setCell (by rw [hx]; omega) _, r3.tail.setCell (by rw [hx]; omega) _, r4.setCell (by rw [hx]; omega) _, hp, hm.frame (Below.heap_setCell _ _ _ _ (show pm ≠ mb from fun hh => by rw [hh, hx] at hp; omega))⟩
  rw [heap_setCell_same w mb 3 _ _ _ h0]
  rfl
theorem MIs.tail4 {x : Nat → Nat} {d0 : Nat} {w : World} {mb : Nat} {s : St} {N : Nat} (h : MIs x d0 w mb s N) {a : Option Addr} {n c : Nat} (hc : w.cell? ⟨mb, 4, none⟩ = some (.slice a n c)) : MIs x d0 (w.setCell ⟨mb, 4, none⟩ (.slice a (n - 1) c)) mb { s with woften := s.woften.tail } N := by
  obtain ⟨v1, v2, v3, v4, pm, h0, hx, r1, r2, r3, r4, hp, hm⟩ := h
  rw [cell_of_row w mb _ _ _ _ h0] at hc
  have hc' : v4 = .slice a n c := by injection hc
  subst hc'
  refine ⟨v1, v2, v3, .slice a (n - 1) c, pm, ?_, hx, r1.setCell (by rw [hx]; omega) _, r2.setCell (by rw [hx]; omega) _, r3.setCell (by rw [hx]; omega) _, r4.tail.setCell (by rw [hx]; omega) _, hp, hm.frame (Below.heap_setCell _ _ _ _ (show pm ≠ mb from fun hh => by rw [hh, hx] at hp; omega))⟩
  rw [heap_setCell_same w mb 4 _ _ _ h0]
  rfl

/-- the colours of a touch: the cache's own and those of its temporaries -/
def DE (d0 : Nat) : Nat → Prop := fun e => d0 ≤ e ∧ e ≤ d0 + 3
theorem DD_sub (d0 : Nat) : ∀ e, DD d0 e → DE d0 e := fun e he => ⟨he.1, by have := he.2; omega⟩

/-- on the way through a touch: the cache is t, the place of what it did stands so -/
structure RS (x : Nat → Nat) (d0 : Nat) (w : World) (mb N ob : Nat) (gn : Option K) (t : St) (x' : Nat → Nat) (w' : World) : Prop where
  fr : Fr x x' (DE d0) w w'
  mi : MIs x' d0 w' mb t N
  out : w'.heap[ob]? = some (.cells #[.bool false, .bool gn.isSome, goneV gn] 100 (0, 0))
  col : x' ob = d0 + 3

section
variable {x x' : Nat → Nat} {d0 : Nat} {w w' : World} {mb N ob : Nat} {gn : Option K} {t : St}
theorem RS.start (h : MIs x d0 w mb t N) : RS x d0 w mb N w.heap.size none t (paint x w.heap.size (d0 + 3)) (w.alloc (.cells #[.bool false, .bool false, .int .i64 0] 100)) := by
  have hb : Below w.heap.size w (w.alloc (.cells #[.bool false, .bool false, .int .i64 0] 100)) := (Below.refl _ _).alloc (Nat.le_refl _) _
  exact ⟨Fr.of_below hb ⟨by omega, Nat.le_refl _⟩, h.below hb, heap_alloc_new w _, paint_new (Nat.le_refl _)⟩
theorem RS.drewN (h : RS x d0 w mb N ob gn t x' w') (m : Nat) : RS x d0 w mb N ob gn t x' (w'.drewN m) :=
  ⟨⟨h.fr.os, h.fr.tape, h.fr.output, h.fr.size, h.fr.col, h.fr.new, h.fr.old⟩, h.mi, h.out, h.col⟩
/-- a call that makes memory and turns none -/
theorem RS.below (h : RS x d0 w mb N ob gn t x' w') {w'' : World} (hb : Below w'.heap.size w' w'') : RS x d0 w mb N ob gn t (paint x' w'.heap.size (d0 + 3)) w'' :=
  ⟨h.fr.trans (Fr.of_below hb ⟨by omega, Nat.le_refl _⟩), h.mi.below hb, (hb.block _ (lt_of_block h.out)).trans h.out, by rw [paint_old (lt_of_block h.out)]; exact h.col⟩
/-- a call that turns the cache, or a list that is laid anew -/
theorem RS.turn (h : RS x d0 w mb N ob gn t x' w') {w'' : World} {t2 : St} (hm : MTurned x' d0 w' w'' mb t2 N) : ∃ x2, RS x d0 w mb N ob gn t2 x2 w'' := by
  obtain ⟨x2, f2, m2⟩ := hm
  exact ⟨x2, h.fr.trans (f2.mono (DD_sub d0)), m2, (f2.old ob (lt_of_block h.out) (by rw [h.col]; exact fun hh => by have := hh.2; omega)).trans h.out, by rw [f2.col _ (lt_of_block h.out)]; exact h.col⟩
/-- a store into the cache's own block -/
theorem RS.own (h : RS x d0 w mb N ob gn t x' w') {j : Nat} {v : Value} {t2 : St} (hm : MIs x' d0 (w'.setCell ⟨mb, j, none⟩ v) mb t2 N) : RS x d0 w mb N ob gn t2 x' (w'.setCell ⟨mb, j, none⟩ v) := by
  have hc := h.mi.col
  refine ⟨h.fr.trans (Fr.same rfl rfl rfl (by simp) (fun b _ hC => Below.heap_setCell _ _ _ _ (by rintro rfl; exact hC (by rw [hc]; exact ⟨Nat.le_refl _, by omega⟩)))), hm, ?_, h.col⟩
  rw [Below.heap_setCell _ _ _ _ (show ob ≠ mb from fun e => by have := h.col; rw [e, hc] at this; omega)]
  exact h.out
/-- what it did is written down -/
theorem RS.told (h : RS x d0 w mb N ob gn t x' w') (g2 : Option K) : RS x d0 w mb N ob g2 t x' (((w'.setCell ⟨ob, 0, none⟩ (.bool false)).setCell ⟨ob, 1, none⟩ (.bool g2.isSome)).setCell ⟨ob, 2, none⟩ (goneV g2)) := by
  have hf : Fr x' x' (fun e => e = d0 + 3) w' (((w'.setCell ⟨ob, 0, none⟩ (.bool false)).setCell ⟨ob, 1, none⟩ (.bool g2.isSome)).setCell ⟨ob, 2, none⟩ (goneV g2)) :=
    Fr.same rfl rfl rfl (by simp) (fun c _ hC => set3_other w' (by rintro rfl; exact hC h.col) _ _ _)
  exact ⟨h.fr.trans (hf.mono (fun e he => by subst he; exact ⟨by omega, Nat.le_refl _⟩)), h.mi.frame hf (fun e he h2 => by have := he.2; omega), set3 h.out _ _ _, h.col⟩
/-- the place's cells -/
theorem RS.cells (h : RS x d0 w mb N ob gn t x' w') : w'.cell? ⟨ob, 0, none⟩ = some (.bool false) ∧ w'.cell? ⟨ob, 1, none⟩ = some (.bool gn.isSome) ∧ w'.cell? ⟨ob, 2, none⟩ = some (goneV gn) ∧ ∀ j, w'.frozen? ⟨ob, j, none⟩ = false :=
  ⟨by rw [cell_of_row w' _ _ _ _ _ h.out]; rfl, by rw [cell_of_row w' _ _ _ _ _ h.out]; rfl, by rw [cell_of_row w' _ _ _ _ _ h.out]; rfl, fun j => frozen_of_row w' _ j _ _ h.out⟩
/-- the result is written, and the call is over -/
theorem RS.done (h : RS x d0 w mb N ob gn t x' w') (u0 u1 u2 : Value) : ∃ x2, Fr x x2 (DE d0) w (((w'.setCell ⟨ob, 0, none⟩ u0).setCell ⟨ob, 1, none⟩ u1).setCell ⟨ob, 2, none⟩ u2) ∧ MIs x2 d0 (((w'.setCell ⟨ob, 0, none⟩ u0).setCell ⟨ob, 1, none⟩ u1).setCell ⟨ob, 2, none⟩ u2) mb t N := by
  have hf : Fr x' x' (fun e => e = d0 + 3) w' (((w'.setCell ⟨ob, 0, none⟩ u0).setCell ⟨ob, 1, none⟩ u1).setCell ⟨ob, 2, none⟩ u2) :=
    Fr.same rfl rfl rfl (by simp) (fun c _ hC => set3_other w' (by rintro rfl; exact hC h.col) _ _ _)
  exact ⟨x', h.fr.trans (hf.mono (fun e he => by subst he; exact ⟨by omega, Nat.le_refl _⟩)), h.mi.frame hf (fun e he h2 => by have := he.2; omega)⟩

/-- the same with the variable 'out' beside the result's place -/
structure RS2 (x : Nat → Nat) (d0 : Nat) (w : World) (mb N rb ob : Nat) (gn : Option K) (t : St) (x' : Nat → Nat) (w' : World) : Prop where
  rs : RS x d0 w mb N rb none t x' w'
  out : w'.heap[ob]? = some (.cells #[.bool false, .bool gn.isSome, goneV gn] 100 (0, 0))
  col : x' ob = d0 + 3
  ne : rb ≠ ob
variable {rb : Nat}
theorem RS.more (h : RS x d0 w mb N rb none t x' w') : RS2 x d0 w mb N rb w'.heap.size none t (paint x' w'.heap.size (d0 + 3)) (w'.alloc (.cells #[.bool false, .bool false, .int .i64 0] 100)) :=
  ⟨h.below ((Below.refl _ _).alloc (Nat.le_refl _) _), heap_alloc_new w' _, paint_new (Nat.le_refl _), by have := lt_of_block h.out; omega⟩
theorem RS2.drewN (h : RS2 x d0 w mb N rb ob gn t x' w') (m : Nat) : RS2 x d0 w mb N rb ob gn t x' (w'.drewN m) := ⟨h.rs.drewN m, h.out, h.col, h.ne⟩
theorem RS2.below (h : RS2 x d0 w mb N rb ob gn t x' w') {w'' : World} (hb : Below w'.heap.size w' w'') : RS2 x d0 w mb N rb ob gn t (paint x' w'.heap.size (d0 + 3)) w'' :=
  ⟨h.rs.below hb, (hb.block _ (lt_of_block h.out)).trans h.out, by rw [paint_old (lt_of_block h.out)]; exact h.col, h.ne⟩
theorem RS2.turn (h : RS2 x d0 w mb N rb ob gn t x' w') {w'' : World} {t2 : St} (hm : MTurned x' d0 w' w'' mb t2 N) : ∃ x2, RS2 x d0 w mb N rb ob gn t2 x2 w'' := by
  obtain ⟨x2, f2, m2⟩ := hm
  refine ⟨x2, ⟨h.rs.fr.trans (f2.mono (DD_sub d0)), m2, (f2.old rb (lt_of_block h.rs.out) (by rw [h.rs.col]; exact fun hh => by have := hh.2; omega)).trans h.rs.out, by rw [f2.col _ (lt_of_block h.rs.out)]; exact h.rs.col⟩, (f2.old ob (lt_of_block h.out) (by rw [h.col]; exact fun hh => by have := hh.2; omega)).trans h.out, by rw [f2.col _ (lt_of_block h.out)]; exact h.col, h.ne⟩
theorem RS2.own (h : RS2 x d0 w mb N rb ob gn t x' w') {j : Nat} {v : Value} {t2 : St} (hm : MIs x' d0 (w'.setCell ⟨mb, j, none⟩ v) mb t2 N) : RS2 x d0 w mb N rb ob gn t2 x' (w'.setCell ⟨mb, j, none⟩ v) := by
  have hc := h.rs.mi.col
  refine ⟨h.rs.own hm, ?_, h.col, h.ne⟩
  rw [Below.heap_setCell _ _ _ _ (show ob ≠ mb from fun e => by have := h.col; rw [e, hc] at this; omega)]
  exact h.out
theorem RS2.told (h : RS2 x d0 w mb N rb ob gn t x' w') (g2 : Option K) : RS2 x d0 w mb N rb ob g2 t x' (((w'.setCell ⟨ob, 0, none⟩ (.bool false)).setCell ⟨ob, 1, none⟩ (.bool g2.isSome)).setCell ⟨ob, 2, none⟩ (goneV g2)) := by
  have hf : Fr x' x' (fun e => e = d0 + 3) w' (((w'.setCell ⟨ob, 0, none⟩ (.bool false)).setCell ⟨ob, 1, none⟩ (.bool g2.isSome)).setCell ⟨ob, 2, none⟩ (goneV g2)) :=
    Fr.same rfl rfl rfl (by simp) (fun c _ hC => set3_other w' (by rintro rfl; exact hC h.col) _ _ _)
  exact ⟨⟨h.rs.fr.trans (hf.mono (fun e he => by subst he; exact ⟨by omega, Nat.le_refl _⟩)), h.rs.mi.frame hf (fun e he h2 => by have := he.2; omega), (set3_other w' h.ne _ _ _).trans h.rs.out, h.rs.col⟩, set3 h.out _ _ _, h.col, h.ne⟩
theorem RS2.cells (h : RS2 x d0 w mb N rb ob gn t x' w') : w'.cell? ⟨ob, 0, none⟩ = some (.bool false) ∧ w'.cell? ⟨ob, 1, none⟩ = some (.bool gn.isSome) ∧ w'.cell? ⟨ob, 2, none⟩ = some (goneV gn) ∧ ∀ j, w'.frozen? ⟨ob, j, none⟩ = false :=
  ⟨by rw [cell_of_row w' _ _ _ _ _ h.out]; rfl, by rw [cell_of_row w' _ _ _ _ _ h.out]; rfl, by rw [cell_of_row w' _ _ _ _ _ h.out]; rfl, fun j => frozen_of_row w' _ j _ _ h.out⟩
end

def RTouchPost (x : Nat → Nat) (d0 mb : Nat) (s : St) (N : Nat) (k : K) (w : World) (e : Ending) (w' : World) : Prop :=
  e = .returned (.tuple #[touchedV (touchS s k).2.1 (touchS s k).2.2.1, .int .i64 (touchS s k).2.2.2]) ∧ ∃ x', Fr x x' (DE d0) w w' ∧ MIs x' d0 w' mb (touchS s k).1 N

end Go.Proofs.Ythcdfdkhmlkneaa.arcI
