/- Statement ArcPlays: the document's cache: a list is laid anew; Drop. -/
import Derived.BigQuiet
import Derived.BigRegion
import Derived.Deep.CutRange
import Derived.Test.YthcdfdkhmlkneaaArcF3
namespace Go.Proofs.Ythcdfdkhmlkneaa.arcI
open Go.RowKit Go.Proofs.Ythcdfdkhmlkneaa.own

theorem ROc.below {x : Nat → Nat} {c c' : Nat} {w w' : World} {v : Value} {keys : List K} (h : ROc x c w v keys) (hb : Below w.heap.size w w') : ROc (paint x w.heap.size c') c w' v keys := by
  obtain ⟨aT, cc, hv, hle, hcc, hc⟩ := h
  refine ⟨aT, cc, hv, hle, hcc, fun k hk => ?_⟩
  obtain ⟨g, a, b, e, d⟩ := hc k hk
  exact ⟨g, a, Nat.lt_of_lt_of_le b hb.size, by rw [paint_old b]; exact e, by rw [World.cell?_of_block (w := w) (hb.block g b)]; exact d⟩
theorem ROc.setCell {x : Nat → Nat} {c : Nat} {w : World} {v : Value} {keys : List K} (h : ROc x c w v keys) {p : Addr} (hp : x p.block ≠ c) (u : Value) : ROc x c (w.setCell p u) v keys := by
  obtain ⟨aT, cc, hv, hle, hcc, hc⟩ := h
  refine ⟨aT, cc, hv, hle, hcc, fun k hk => ?_⟩
  obtain ⟨g, a, b, e, d⟩ := hc k hk
  exact ⟨g, a, by simpa using b, e, by rw [World.cell?_of_block (w := w) (Below.heap_setCell _ _ _ _ (show g ≠ p.block from fun hh => hp (by rw [← hh]; exact e)))]; exact d⟩
theorem MTurned.trans {x x' : Nat → Nat} {d0 : Nat} {w w' w'' : World} {mb : Nat} {s : St} {N : Nat} (hf : Fr x x' (DD d0) w w') (h : MTurned x' d0 w' w'' mb s N) : MTurned x d0 w w'' mb s N := by
  obtain ⟨x2, f2, h2⟩ := h
  exact ⟨x2, hf.trans f2, h2⟩
theorem MIs.thaw {x : Nat → Nat} {d0 : Nat} {w : World} {mb : Nat} {s : St} {N : Nat} (h : MIs x d0 w mb s N) {w' : World} (hb : Below w.heap.size w w') : (∀ j, w'.frozen? ⟨mb, j, none⟩ = false) ∧ (∀ j, w'.cell? ⟨mb, j, none⟩ = w.cell? ⟨mb, j, none⟩) := by
  obtain ⟨v1, v2, v3, v4, pm, h0, _⟩ := h
  have e := hb.block mb (lt_of_block h0)
  exact ⟨fun j => frozen_of_row w' _ j _ _ (e.trans h0), fun j => World.cell?_of_block (w := w) (w' := w') (a := ⟨mb, j, none⟩) e⟩
theorem MIs.put1 {x : Nat → Nat} {d0 : Nat} {w w' : World} {mb : Nat} {s : St} {N : Nat} (h : MIs x d0 w mb s N) (hb : Below w.heap.size w w') (keys : List K) (v : Value) (hv : w'.ownsRow w.heap.size 3 1 v keys.reverse.length (kvs keys.reverse)) (hle : keys.reverse.length ≤ 1048576) :
    MTurned x d0 w (w'.setCell ⟨mb, 1, none⟩ v) mb { s with once := keys } N := by
  obtain ⟨v1, v2, v3, v4, pm, h0, hx, r1, r2, r3, r4, hp, hm⟩ := h
  have hlt := lt_of_block h0
  have hxm : paint x w.heap.size (d0 + 2) mb = d0 := by rw [paint_old hlt]; exact hx
  have h0' : w'.heap[mb]? = _ := (hb.block mb hlt).trans h0
  have kb : Keeps w w' (fun b => b = mb) := ⟨hb.os, hb.tape, hb.output, hb.size, fun b hl _ => hb.block b hl⟩
  have kp : Keeps w (w'.setCell ⟨mb, 1, none⟩ v) (fun b => b = mb) := kb.setCell (.inl rfl) v
  refine ⟨paint x w.heap.size (d0 + 2), kp.fr (c := d0 + 2) ⟨by omega, Nat.le_refl _⟩ (fun b _ e => by rw [e, hx]; exact ⟨Nat.le_refl _, by omega⟩), v, v2, v3, v4, pm, ?_, hxm, (ROc.of_own hv hle (fun g hg hl => paint_new hg)).setCell (by rw [hxm]; omega) _, (r2.below hb).setCell (by rw [hxm]; omega) _, (r3.below hb).setCell (by rw [hxm]; omega) _, (r4.below hb).setCell (by rw [hxm]; omega) _, by rw [paint_old hm.lt]; exact hp, ?_⟩
  · rw [heap_setCell_same w' mb 1 _ _ _ h0']
    rfl
  · refine (hm.frame (hb.block pm hm.lt)).frame (Below.heap_setCell _ _ _ _ (show pm ≠ mb from fun hh => ?_))
    rw [hh, hx] at hp
    omega
theorem MIs.put2 {x : Nat → Nat} {d0 : Nat} {w w' : World} {mb : Nat} {s : St} {N : Nat} (h : MIs x d0 w mb s N) (hb : Below w.heap.size w w') (keys : List K) (v : Value) (hv : w'.ownsRow w.heap.size 3 1 v keys.reverse.length (kvs keys.reverse)) (hle : keys.reverse.length ≤ 1048576) :
    MTurned x d0 w (w'.setCell ⟨mb, 2, none⟩ v) mb { s with often := keys } N := by
  obtain ⟨v1, v2, v3, v4, pm, h0, hx, r1, r2, r3, r4, hp, hm⟩ := h
  have hlt := lt_of_block h0
  have hxm : paint x w.heap.size (d0 + 2) mb = d0 := by rw [paint_old hlt]; exact hx
  have h0' : w'.heap[mb]? = _ := (hb.block mb hlt).trans h0
  have kb : Keeps w w' (fun b => b = mb) := ⟨hb.os, hb.tape, hb.output, hb.size, fun b hl _ => hb.block b hl⟩
  have kp : Keeps w (w'.setCell ⟨mb, 2, none⟩ v) (fun b => b = mb) := kb.setCell (.inl rfl) v
  refine ⟨paint x w.heap.size (d0 + 2), kp.fr (c := d0 + 2) ⟨by omega, Nat.le_refl _⟩ (fun b _ e => by rw [e, hx]; exact ⟨Nat.le_refl _, by omega⟩), v1, v, v3, v4, pm, ?_, hxm, (r1.below hb).setCell (by rw [hxm]; omega) _, (ROc.of_own hv hle (fun g hg hl => paint_new hg)).setCell (by rw [hxm]; omega) _, (r3.below hb).setCell (by rw [hxm]; omega) _, (r4.below hb).setCell (by rw [hxm]; omega) _, by rw [paint_old hm.lt]; exact hp, ?_⟩
  · rw [heap_setCell_same w' mb 2 _ _ _ h0']
    rfl
  · refine (hm.frame (hb.block pm hm.lt)).frame (Below.heap_setCell _ _ _ _ (show pm ≠ mb from fun hh => ?_))
    rw [hh, hx] at hp
    omega
theorem MIs.put3 {x : Nat → Nat} {d0 : Nat} {w w' : World} {mb : Nat} {s : St} {N : Nat} (h : MIs x d0 w mb s N) (hb : Below w.heap.size w w') (keys : List K) (v : Value) (hv : w'.ownsRow w.heap.size 3 1 v keys.reverse.length (kvs keys.reverse)) (hle : keys.reverse.length ≤ 1048576) :
    MTurned x d0 w (w'.setCell ⟨mb, 3, none⟩ v) mb { s with wonce := keys } N := by
  obtain ⟨v1, v2, v3, v4, pm, h0, hx, r1, r2, r3, r4, hp, hm⟩ := h
  have hlt := lt_of_block h0
  have hxm : paint x w.heap.size (d0 + 2) mb = d0 := by rw [paint_old hlt]; exact hx
  have h0' : w'.heap[mb]? = _ := (hb.block mb hlt).trans h0
  have kb : Keeps w w' (fun b => b = mb) := ⟨hb.os, hb.tape, hb.output, hb.size, fun b hl _ => hb.block b hl⟩
  have kp : Keeps w (w'.setCell ⟨mb, 3, none⟩ v) (fun b => b = mb) := kb.setCell (.inl rfl) v
  refine ⟨paint x w.heap.size (d0 + 2), kp.fr (c := d0 + 2) ⟨by omega, Nat.le_refl _⟩ (fun b _ e => by rw [e, hx]; exact ⟨Nat.le_refl _, by omega⟩), v1, v2, v, v4, pm, ?_, hxm, (r1.below hb).setCell (by rw [hxm]; omega) _, (r2.below hb).setCell (by rw [hxm]; omega) _, (ROc.of_own hv hle (fun g hg hl => paint_new hg)).setCell (by rw [hxm]; omega) _, (r4.below hb).setCell (by rw [hxm]; omega) _, by rw [paint_old hm.lt]; exact hp, ?_⟩
  · rw [heap_setCell_same w' mb 3 _ _ _ h0']
    rfl
  · refine (hm.frame (hb.block pm hm.lt)).frame (Below.heap_setCell _ _ _ _ (show pm ≠ mb from fun hh => ?_))
    rw [hh, hx] at hp
    omega
theorem MIs.put4 {x : Nat → Nat} {d0 : Nat} {w w' : World} {mb : Nat} {s : St} {N : Nat} (h : MIs x d0 w mb s N) (hb : Below w.heap.size w w') (keys : List K) (v : Value) (hv : w'.ownsRow w.heap.size 3 1 v keys.reverse.length (kvs keys.reverse)) (hle : keys.reverse.length ≤ 1048576) :
    MTurned x d0 w (w'.setCell ⟨mb, 4, none⟩ v) mb { s with woften := keys } N := by
  obtain ⟨v1, v2, v3, v4, pm, h0, hx, r1, r2, r3, r4, hp, hm⟩ := h
  have hlt := lt_of_block h0
  have hxm : paint x w.heap.size (d0 + 2) mb = d0 := by rw [paint_old hlt]; exact hx
  have h0' : w'.heap[mb]? = _ := (hb.block mb hlt).trans h0
  have kb : Keeps w w' (fun b => b = mb) := ⟨hb.os, hb.tape, hb.output, hb.size, fun b hl _ => hb.block b hl⟩
  have kp : Keeps w (w'.setCell ⟨mb, 4, none⟩ v) (fun b => b = mb) := kb.setCell (.inl rfl) v
  refine ⟨paint x w.heap.size (d0 + 2), kp.fr (c := d0 + 2) ⟨by omega, Nat.le_refl _⟩ (fun b _ e => by rw [e, hx]; exact ⟨Nat.le_refl _, by omega⟩), v1, v2, v3, v, pm, ?_, hxm, (r1.below hb).setCell (by rw [hxm]; omega) _, (r2.below hb).setCell (by rw [hxm]; omega) _, (r3.below hb).setCell (by rw [hxm]; omega) _, (ROc.of_own hv hle (fun g hg hl => paint_new hg)).setCell (by rw [hxm]; omega) _, by rw [paint_old hm.lt]; exact hp, ?_⟩
  · rw [heap_setCell_same w' mb 4 _ _ _ h0']
    rfl
  · refine (hm.frame (hb.block pm hm.lt)).frame (Below.heap_setCell _ _ _ _ (show pm ≠ mb from fun hh => ?_))
    rw [hh, hx] at hp
    omega

theorem ok_nodup {s : St} (ok : Ok s) : s.once.Nodup ∧ s.often.Nodup ∧ s.wonce.Nodup ∧ s.woften.Nodup := by
  refine ⟨?_, ?_, ?_, ?_⟩ <;>
  · rw [List.nodup_iff_count]
    intro a
    have := ok.one a
    omega
theorem cut_rev {l : List K} (h : l.Nodup) (x : K) : cut1 l.reverse x = (l.erase x).reverse := by
  unfold cut1
  rw [List.filter_reverse, h.erase_eq_filter]
theorem idx_lss (keys : List K) (k : K) (b : Bool) (h : decide (k ∈ keys) = b) : decide (idx keys.reverse k < (0 : Int)) = !b := by
  subst h
  unfold idx
  by_cases hk : k ∈ keys <;> simp [hk]

/-- a list of the cache, without a key, as the call leaves it -/
theorem without_rev (w : World) (v : Value) (l : List K) (x : K) (hn : l.Nodup) (hl : l.length ≤ 1048576) (h : RO w v l.reverse) :
    Calls Try.prog 73 #[v, .int .i64 x] w fun e w' => ∃ a n c, e = .returned (.slice a n c) ∧ w'.ownsRow w.heap.size 3 1 (.slice a n c) (l.erase x).reverse.length (kvs (l.erase x).reverse) ∧ (l.erase x).reverse.length ≤ 1048576 ∧ Below w.heap.size w w' := by
  refine (without_any w v l.reverse x h).mono ?_
  rintro e w' ⟨v', rfl, ho, hb⟩
  rw [cut_rev hn] at ho
  obtain ⟨a, c, rfl⟩ := own_shape ho
  exact ⟨a, _, c, rfl, ho, by rw [List.length_reverse]; have := len_erase_le x l; omega, hb⟩

end Go.Proofs.Ythcdfdkhmlkneaa.arcI
