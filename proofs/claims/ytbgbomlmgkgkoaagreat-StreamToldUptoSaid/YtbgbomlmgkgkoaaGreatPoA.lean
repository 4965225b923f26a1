/- pool: a space in memory, and what stays of it while its parts turn. -/
import Derived.Test.YtbgbomlmgkgkoaaGreatPoP
import Derived.Test.YtbgbomlmgkgkoaaGreatArcUI
import Derived.Test.YtbgbomlmgkgkoaaGreatDvC
namespace Go.Proofs.YtbgbomlmgkgkoaaGreat.arcI
open Go.RowKit Go.Proofs.YtbgbomlmgkgkoaaGreat.own Go.Proofs.YtbgbomlmgkgkoaaGreat.dv Go.Proofs.YtbgbomlmgkgkoaaGreat.po

def spCells (s : Sp) (db eb cb pm : Nat) : Array Value :=
  #[.pointer (some ⟨db, 0, none⟩), .pointer (some ⟨eb, 0, none⟩), .pointer (some ⟨cb, 0, none⟩), .map (some pm), .int .i64 s.arc.size, .int .i64 s.hits, .int .i64 s.misses, .int .i64 s.written, .int .i64 0, .int .i64 s.pinned, .int .i64 s.most, .bool s.dead]
def pgCells (p : Pg) : Array Value := #[.string p.text, .bool p.dirty, .int .i64 p.pins]
def pgF (pg : Int → Option Pg) (blk : Int → Nat) : Int → Option Value := fun k => (pg k).map fun _ => .pointer (some ⟨blk k, 0, none⟩)

structure TI (x : Nat → Nat) (c0 : Nat) (w : World) (sb db eb cb pm : Nat) (blk : Int → Nat) (s : Sp) (N : Nat) : Prop where
  h0 : w.heap[sb]? = some (.cells (spCells s db eb cb pm) 116 (0, 0))
  xs : x sb = c0 + 7
  ci : CIs x c0 w cb s.arc N
  xp : x pm = c0 + 8
  vm : VM w pm N (pgF s.pg blk) s.cnt
  pgs : ∀ k p, KOK k → s.pg k = some p → w.heap[blk k]? = some (.cells (pgCells p) 143 (0, 0)) ∧ x (blk k) = c0 + 9
  inj : ∀ k k', KOK k → KOK k' → (s.pg k).isSome = true → (s.pg k').isSome = true → blk k = blk k' → k = k'
  b1 : s.hits ≤ N
  b2 : s.misses ≤ N
  b3 : s.written ≤ N
  b4 : s.pinned ≤ N
  b5 : s.most ≤ N
  b6 : ∀ k p, KOK k → s.pg k = some p → p.pins ≤ N

/-- a space's own colours, but for what its calls make besides (c0 + 6) -/
def TC (c0 : Nat) : Nat → Prop := fun e => (c0 ≤ e ∧ e ≤ c0 + 9) ∧ e ≠ c0 + 6
/-- and its device's -/
def PD (c0 d0 : Nat) : Nat → Prop := fun e => TC c0 e ∨ DC d0 e
def PC (c0 d0 : Nat) : Nat → Prop := fun e => (c0 ≤ e ∧ e ≤ c0 + 9) ∨ DC d0 e
theorem TC_PD (c0 d0 : Nat) : ∀ e, TC c0 e → PD c0 d0 e := fun _ h => .inl h
theorem DC_PD (c0 d0 : Nat) : ∀ e, DC d0 e → PD c0 d0 e := fun _ h => .inr h
theorem PD_PC (c0 d0 : Nat) : ∀ e, PD c0 d0 e → PC c0 d0 e := fun _ h => h.imp (fun h => h.1) id
theorem CD_TC (c0 : Nat) : ∀ e, CD c0 e → TC c0 e := fun e h => by have h1 := h.1; have h2 := h.2; exact ⟨⟨h1, by omega⟩, by omega⟩
theorem CD_PD (c0 d0 : Nat) : ∀ e, CD c0 e → PD c0 d0 e := fun e h => .inl (CD_TC c0 e h)

theorem TI.frame {x x' : Nat → Nat} {C : Nat → Prop} {c0 : Nat} {w w' : World} {sb db eb cb pm : Nat} {blk : Int → Nat} {s : Sp} {N : Nat} (h : TI x c0 w sb db eb cb pm blk s N) (hf : Fr x x' C w w') (hC : ∀ e, TC c0 e → ¬ C e) : TI x' c0 w' sb db eb cb pm blk s N := by
  have hs := lt_of_block h.h0
  refine ⟨?_, by rw [hf.col sb hs]; exact h.xs, h.ci.frame hf (fun e he => hC e (CD_TC c0 e he)), by rw [hf.col pm h.vm.lt]; exact h.xp, h.vm.frame (hf.old pm h.vm.lt (by rw [h.xp]; exact hC _ ⟨⟨by omega, by omega⟩, by omega⟩)), fun k p hk hp => ?_, h.inj, h.b1, h.b2, h.b3, h.b4, h.b5, h.b6⟩
  · rw [hf.old sb hs (by rw [h.xs]; exact hC _ ⟨⟨by omega, by omega⟩, by omega⟩)]; exact h.h0
  · obtain ⟨a, b⟩ := h.pgs k p hk hp
    have hl := lt_of_block a
    exact ⟨by rw [hf.old _ hl (by rw [b]; exact hC _ ⟨⟨by omega, by omega⟩, by omega⟩)]; exact a, by rw [hf.col _ hl]; exact b⟩
theorem TI.mono {x : Nat → Nat} {c0 : Nat} {w : World} {sb db eb cb pm : Nat} {blk : Int → Nat} {s : Sp} {N N' : Nat} (h : TI x c0 w sb db eb cb pm blk s N) (hN : N ≤ N') : TI x c0 w sb db eb cb pm blk s N' :=
  ⟨h.h0, h.xs, h.ci.mono hN, h.xp, h.vm.mono hN, h.pgs, h.inj, Nat.le_trans h.b1 hN, Nat.le_trans h.b2 hN, Nat.le_trans h.b3 hN, Nat.le_trans h.b4 hN, Nat.le_trans h.b5 hN, fun k p a b => Nat.le_trans (h.b6 k p a b) hN⟩
theorem TI.drewN {x : Nat → Nat} {c0 : Nat} {w : World} {sb db eb cb pm : Nat} {blk : Int → Nat} {s : Sp} {N : Nat} (h : TI x c0 w sb db eb cb pm blk s N) (n : Nat) : TI x c0 (w.drewN n) sb db eb cb pm blk s N :=
  ⟨h.h0, h.xs, h.ci.drewN n, h.xp, h.vm, h.pgs, h.inj, h.b1, h.b2, h.b3, h.b4, h.b5, h.b6⟩

/-- the cells of a space -/
theorem TI.cells {x : Nat → Nat} {c0 : Nat} {w : World} {sb db eb cb pm : Nat} {blk : Int → Nat} {s : Sp} {N : Nat} (h : TI x c0 w sb db eb cb pm blk s N) :
    w.cell? ⟨sb, 0, none⟩ = some (.pointer (some ⟨db, 0, none⟩)) ∧ w.cell? ⟨sb, 1, none⟩ = some (.pointer (some ⟨eb, 0, none⟩)) ∧ w.cell? ⟨sb, 2, none⟩ = some (.pointer (some ⟨cb, 0, none⟩)) ∧ w.cell? ⟨sb, 3, none⟩ = some (.map (some pm)) ∧
    w.cell? ⟨sb, 4, none⟩ = some (.int .i64 s.arc.size) ∧ w.cell? ⟨sb, 5, none⟩ = some (.int .i64 s.hits) ∧ w.cell? ⟨sb, 6, none⟩ = some (.int .i64 s.misses) ∧ w.cell? ⟨sb, 7, none⟩ = some (.int .i64 s.written) ∧ w.cell? ⟨sb, 8, none⟩ = some (.int .i64 0) ∧
    w.cell? ⟨sb, 9, none⟩ = some (.int .i64 s.pinned) ∧ w.cell? ⟨sb, 10, none⟩ = some (.int .i64 s.most) ∧ w.cell? ⟨sb, 11, none⟩ = some (.bool s.dead) ∧ (∀ j, w.frozen? ⟨sb, j, none⟩ = false) := by
  have h0 := h.h0
  refine ⟨?_, ?_, ?_, ?_, ?_, ?_, ?_, ?_, ?_, ?_, ?_, ?_, fun j => frozen_of_row w _ j _ _ h0⟩
  all_goals (rw [cell_of_row w sb _ _ _ _ h0]; rfl)
theorem TI.page {x : Nat → Nat} {c0 : Nat} {w : World} {sb db eb cb pm : Nat} {blk : Int → Nat} {s : Sp} {N : Nat} (h : TI x c0 w sb db eb cb pm blk s N) {k : Int} {p : Pg} (hk : KOK k) (hp : s.pg k = some p) :
    w.cell? ⟨blk k, 0, none⟩ = some (.string p.text) ∧ w.cell? ⟨blk k, 1, none⟩ = some (.bool p.dirty) ∧ w.cell? ⟨blk k, 2, none⟩ = some (.int .i64 p.pins) ∧ (∀ j, w.frozen? ⟨blk k, j, none⟩ = false) := by
  have h0 := (h.pgs k p hk hp).1
  refine ⟨?_, ?_, ?_, fun j => frozen_of_row w _ j _ _ h0⟩
  all_goals (rw [cell_of_row w _ _ _ _ _ h0]; rfl)

/-- a plain field of a space is set -/
theorem TI.setAt {x : Nat → Nat} {c0 : Nat} {w : World} {sb db eb cb pm : Nat} {blk : Int → Nat} {s : Sp} {N : Nat} (h : TI x c0 w sb db eb cb pm blk s N) (o : Nat) (u : Value) (s' : Sp) (N' : Nat) (hN : N ≤ N')
    (e : (spCells s db eb cb pm).setIfInBounds o u = spCells s' db eb cb pm) (e1 : s'.arc = s.arc) (e2 : s'.pg = s.pg) (e3 : s'.cnt = s.cnt) (b1 : s'.hits ≤ N') (b2 : s'.misses ≤ N') (b3 : s'.written ≤ N') (b4 : s'.pinned ≤ N') (b5 : s'.most ≤ N') :
    Fr x x (TC c0) w (w.setCell ⟨sb, o, none⟩ u) ∧ TI x c0 (w.setCell ⟨sb, o, none⟩ u) sb db eb cb pm blk s' N' := by
  have hs := lt_of_block h.h0
  have old : ∀ b, b ≠ sb → (w.setCell ⟨sb, o, none⟩ u).heap[b]? = w.heap[b]? := fun b hb => Below.heap_setCell w _ _ _ hb
  have hf7 : Fr x x (fun e => e = c0 + 7) w (w.setCell ⟨sb, o, none⟩ u) := Fr.same rfl rfl rfl (by simp) (fun b _ hC => old b (by rintro rfl; exact hC h.xs))
  have hm := h.mono hN
  refine ⟨hf7.mono (fun e he => ⟨⟨by omega, by omega⟩, by omega⟩), ?_, h.xs, by rw [e1]; exact hm.ci.frame hf7 (fun e he hc => by have := he.2; omega), h.xp, ?_, fun k p hk hp => ?_, by rw [e2]; exact h.inj, b1, b2, b3, b4, b5, by rw [e2]; exact hm.b6⟩
  · rw [heap_setCell_same w sb o _ _ _ h.h0, e]
  · rw [e2, e3]
    exact hm.vm.frame (old pm (by rintro rfl; have a := h.xs; rw [h.xp] at a; omega))
  · rw [e2] at hp
    obtain ⟨a, b⟩ := h.pgs k p hk hp
    exact ⟨by rw [old _ (by intro e; rw [e, h.xs] at b; omega)]; exact a, b⟩

/-- the cache turned -/
theorem TI.arc {x x' : Nat → Nat} {c0 : Nat} {w w' : World} {sb db eb cb pm : Nat} {blk : Int → Nat} {s : Sp} {N : Nat} (h : TI x c0 w sb db eb cb pm blk s N) (hf : Fr x x' (CD c0) w w') {a : St} {N' : Nat} (hc : CIs x' c0 w' cb a N') (hN : N ≤ N') (hz : a.size = s.arc.size) :
    TI x' c0 w' sb db eb cb pm blk { s with arc := a } N' := by
  have hs := lt_of_block h.h0
  have hm := h.mono hN
  refine ⟨?_, by rw [hf.col sb hs]; exact h.xs, hc, by rw [hf.col pm h.vm.lt]; exact h.xp, hm.vm.frame (hf.old pm h.vm.lt (by rw [h.xp]; intro hc; have := hc.2; omega)), fun k p hk hp => ?_, h.inj, hm.b1, hm.b2, hm.b3, hm.b4, hm.b5, hm.b6⟩
  · rw [hf.old sb hs (by rw [h.xs]; intro hc; have := hc.2; omega), h.h0]
    show _ = some (Obj.cells (spCells { s with arc := a } db eb cb pm) _ _)
    unfold spCells
    rw [hz]
  · obtain ⟨a, b⟩ := h.pgs k p hk hp
    have hl := lt_of_block a
    exact ⟨by rw [hf.old _ hl (by rw [b]; intro hc; have := hc.2; omega)]; exact a, by rw [hf.col _ hl]; exact b⟩

/-- a page's cells turned -/
theorem TI.setPage {x : Nat → Nat} {c0 : Nat} {w w' : World} {sb db eb cb pm : Nat} {blk : Int → Nat} {s : Sp} {N : Nat} (h : TI x c0 w sb db eb cb pm blk s N) {k : Int} (hk : KOK k) (hp : (s.pg k).isSome = true) (p' : Pg)
    (hg : w.grownBy w' (some (blk k))) (hz : w'.heap.size = w.heap.size) (h9 : w'.heap[blk k]? = some (.cells (pgCells p') 143 (0, 0))) {N' : Nat} (hN : N ≤ N') (hb : p'.pins ≤ N') :
    Fr x x (TC c0) w w' ∧ TI x c0 w' sb db eb cb pm blk (setPg s k p') N' := by
  obtain ⟨p, hp1⟩ := Option.isSome_iff_exists.1 hp
  obtain ⟨a1, a2⟩ := h.pgs k p hk hp1
  have hf9 : Fr x x (fun e => e = c0 + 9) w w' := Fr.same hg.os hg.tape hg.output hz (fun b hb hC => hg.block b hb (fun e => hC (by rw [Option.some.inj e]; exact a2)))
  have hs := lt_of_block h.h0
  have hm := h.mono hN
  refine ⟨hf9.mono (fun e he => ⟨⟨by omega, by omega⟩, by omega⟩), ?_, h.xs, hm.ci.frame hf9 (fun e he hc => by have := he.2; omega), h.xp, ?_, fun j q hj hq => ?_, fun j j' hj hj' q q' e => ?_, hm.b1, hm.b2, hm.b3, hm.b4, hm.b5, fun j q hj hq => ?_⟩
  · rw [hf9.old sb hs (by rw [h.xs]; omega)]; exact h.h0
  · have e : pgF (setPg s k p').pg blk = pgF s.pg blk := by
      funext j
      unfold pgF setPg
      by_cases hjk : j = k
      · subst hjk
        show (updP s.pg j (some p') j).map _ = _
        rw [updP_same, hp1]; rfl
      · show (updP s.pg k (some p') j).map _ = _
        rw [updP_other _ _ hjk]
    rw [e]
    exact hm.vm.frame (hf9.old pm h.vm.lt (by rw [h.xp]; omega))
  · have hq : updP s.pg k (some p') j = some q := hq
    by_cases hjk : j = k
    · subst hjk
      rw [updP_same] at hq
      rw [← Option.some.inj hq]
      exact ⟨h9, a2⟩
    · rw [updP_other _ _ hjk] at hq
      obtain ⟨c1, c2⟩ := h.pgs j q hj hq
      refine ⟨?_, c2⟩
      rw [hg.block _ (lt_of_block c1) (fun e => hjk (h.inj j k hj hk (by rw [hq]; rfl) hp (Option.some.inj e)))]
      exact c1
  · have some_ : ∀ i, ((setPg s k p').pg i).isSome = true → (s.pg i).isSome = true := fun i hi => by
      have hi : (updP s.pg k (some p') i).isSome = true := hi
      by_cases hik : i = k
      · rw [hik]; exact hp
      · rw [updP_other _ _ hik] at hi; exact hi
    exact h.inj j j' hj hj' (some_ j q) (some_ j' q') e
  · have hq : updP s.pg k (some p') j = some q := hq
    by_cases hjk : j = k
    · subst hjk
      rw [updP_same] at hq
      rw [← Option.some.inj hq]; exact hb
    · rw [updP_other _ _ hjk] at hq
      exact hm.b6 j q hj hq

/-- a page is struck from the map of pages -/
theorem TI.del {x : Nat → Nat} {c0 : Nat} {w : World} {sb db eb cb pm : Nat} {blk : Int → Nat} {s : Sp} {N : Nat} (h : TI x c0 w sb db eb cb pm blk s N) {k : Int} (hk : KOK k) {t e : TypeId} (ht : Tryz.prog.underlying t = some (.map 3 e)) (ty : TypeId) :
    ∃ w', (Builtin.delete_ #[t, 3] ty #[.map (some pm), .int .i64 k]).run Tryz.prog w = .ok (.tuple #[]) w' ∧ Fr x x (TC c0) w w' ∧ w'.heap.size = w.heap.size ∧ (∀ b, b < w.heap.size → b ≠ pm → w'.heap[b]? = w.heap[b]?) ∧
      TI x c0 w' sb db eb cb pm blk { s with pg := updP s.pg k none, cnt := if (s.pg k).isSome then s.cnt - 1 else s.cnt } N := by
  obtain ⟨w', hr, hv, ht'⟩ := h.vm.drop hk ht ty
  have hs := lt_of_block h.h0
  have hf8 : Fr x x (fun e => e = c0 + 8) w w' := Fr.same ht'.grown.os ht'.grown.tape ht'.grown.output (mapTurned_size ht') (fun b hb hC => ht'.grown.block b hb (fun e => hC (by rw [Option.some.inj e]; exact h.xp)))
  refine ⟨w', hr, hf8.mono (fun e he => ⟨⟨by omega, by omega⟩, by omega⟩), mapTurned_size ht', fun b hb hne => ht'.grown.block b hb (fun e => hne (Option.some.inj e)), ?_, h.xs, h.ci.frame hf8 (fun e he hc => by have := he.2; omega), h.xp, ?_, fun j q hj hq => ?_, fun j j' hj hj' q q' e => ?_, h.b1, h.b2, h.b3, h.b4, h.b5, fun j q hj hq => ?_⟩
  · rw [hf8.old sb hs (by rw [h.xs]; omega)]; exact h.h0
  · have e1 : pgF (updP s.pg k none) blk = updO (pgF s.pg blk) k none := by
      funext j
      unfold pgF
      by_cases hjk : j = k
      · subst hjk; rw [updP_same, updO_same]; rfl
      · rw [updP_other _ _ hjk, updO_other _ _ hjk]
    have e2 : (pgF s.pg blk k).isSome = (s.pg k).isSome := by unfold pgF; rw [Option.isSome_map]
    show VM w' pm N (pgF (updP s.pg k none) blk) _
    rw [e1]
    rw [e2] at hv
    exact hv
  · have hq : updP s.pg k none j = some q := hq
    have hjk : j ≠ k := by rintro rfl; rw [updP_same] at hq; cases hq
    rw [updP_other _ _ hjk] at hq
    obtain ⟨c1, c2⟩ := h.pgs j q hj hq
    exact ⟨by rw [hf8.old _ (lt_of_block c1) (by rw [c2]; omega)]; exact c1, c2⟩
  · have some_ : ∀ i, (updP s.pg k none i).isSome = true → (s.pg i).isSome = true := fun i hi => by
      by_cases hik : i = k
      · subst hik; rw [updP_same] at hi; cases hi
      · rw [updP_other _ _ hik] at hi; exact hi
    exact h.inj j j' hj hj' (some_ j q) (some_ j' q') e
  · have hq : updP s.pg k none j = some q := hq
    have hjk : j ≠ k := by rintro rfl; rw [updP_same] at hq; cases hq
    rw [updP_other _ _ hjk] at hq
    exact h.b6 j q hj hq

/-- a new page is laid into the map of pages -/
theorem TI.add {x : Nat → Nat} {c0 : Nat} {w : World} {sb db eb cb pm : Nat} {blk : Int → Nat} {s : Sp} {N : Nat} (h : TI x c0 w sb db eb cb pm blk s N) {k : Int} (hk : KOK k) {t e : TypeId} (ht : Tryz.prog.underlying t = some (.map 3 e)) {b : Nat} {p : Pg}
    (hb : w.heap[b]? = some (.cells (pgCells p) 143 (0, 0))) (xb : x b = c0 + 9) (hn : s.pg k = none) (hnew : ∀ j q, KOK j → s.pg j = some q → blk j ≠ b) (hN : N + 1 < maxLen) (hpn : p.pins ≤ N) :
    ∃ w', (Instr.mapUpdate t (.map (some pm)) (.int .i64 k) (.pointer (some ⟨b, 0, none⟩))).run Tryz.prog w = .ok () w' ∧ Fr x x (TC c0) w w' ∧ w'.heap.size = w.heap.size ∧ (∀ b, b < w.heap.size → b ≠ pm → w'.heap[b]? = w.heap[b]?) ∧
      TI x c0 w' sb db eb cb pm (fun j => if j = k then b else blk j) { s with pg := updP s.pg k (some p), cnt := s.cnt + 1 } (N + 1) := by
  obtain ⟨w', hr, hv, ht'⟩ := h.vm.store hk ht (.pointer (some ⟨b, 0, none⟩)) (by omega)
  have hs := lt_of_block h.h0
  have hf8 : Fr x x (fun e => e = c0 + 8) w w' := Fr.same ht'.grown.os ht'.grown.tape ht'.grown.output (mapTurned_size ht') (fun b hb hC => ht'.grown.block b hb (fun e => hC (by rw [Option.some.inj e]; exact h.xp)))
  have hm := h.mono (Nat.le_succ N)
  refine ⟨w', hr, hf8.mono (fun e he => ⟨⟨by omega, by omega⟩, by omega⟩), mapTurned_size ht', fun b hb hne => ht'.grown.block b hb (fun e => hne (Option.some.inj e)), ?_, h.xs, hm.ci.frame hf8 (fun e he hc => by have := he.2; omega), h.xp, ?_, fun j q hj hq => ?_, fun j j' hj hj' q q' e => ?_, hm.b1, hm.b2, hm.b3, hm.b4, hm.b5, fun j q hj hq => ?_⟩
  · rw [hf8.old sb hs (by rw [h.xs]; omega)]; exact h.h0
  · have e1 : pgF (updP s.pg k (some p)) (fun j => if j = k then b else blk j) = updO (pgF s.pg blk) k (some (.pointer (some ⟨b, 0, none⟩))) := by
      funext j
      unfold pgF
      by_cases hjk : j = k
      · subst hjk; rw [updP_same, updO_same]; simp
      · rw [updP_other _ _ hjk, updO_other _ _ hjk]; simp [hjk]
    have e2 : (pgF s.pg blk k).isSome = false := by unfold pgF; rw [hn]; rfl
    show VM w' pm (N + 1) (pgF (updP s.pg k (some p)) _) (s.cnt + 1)
    rw [e1]
    rw [e2] at hv
    exact hv
  · have hq : updP s.pg k (some p) j = some q := hq
    show w'.heap[if j = k then b else blk j]? = _ ∧ x (if j = k then b else blk j) = _
    by_cases hjk : j = k
    · subst hjk
      rw [updP_same] at hq
      rw [if_pos rfl, ← Option.some.inj hq]
      exact ⟨by rw [hf8.old _ (lt_of_block hb) (by rw [xb]; omega)]; exact hb, xb⟩
    · rw [updP_other _ _ hjk] at hq
      rw [if_neg hjk]
      obtain ⟨c1, c2⟩ := h.pgs j q hj hq
      exact ⟨by rw [hf8.old _ (lt_of_block c1) (by rw [c2]; omega)]; exact c1, c2⟩
  · have e : (if j = k then b else blk j) = (if j' = k then b else blk j') := e
    by_cases hjk : j = k
    · by_cases hjk' : j' = k
      · rw [hjk, hjk']
      · exfalso
        have q' : (updP s.pg k (some p) j').isSome = true := q'
        rw [updP_other _ _ hjk'] at q'
        obtain ⟨u, hu⟩ := Option.isSome_iff_exists.1 q'
        rw [if_pos hjk, if_neg hjk'] at e
        exact hnew j' u hj' hu e.symm
    · have q : (updP s.pg k (some p) j).isSome = true := q
      rw [updP_other _ _ hjk] at q
      by_cases hjk' : j' = k
      · exfalso
        obtain ⟨u, hu⟩ := Option.isSome_iff_exists.1 q
        rw [if_neg hjk, if_pos hjk'] at e
        exact hnew j u hj hu e
      · have q' : (updP s.pg k (some p) j').isSome = true := q'
        rw [updP_other _ _ hjk'] at q'
        rw [if_neg hjk, if_neg hjk'] at e
        exact h.inj j j' hj hj' q q' e
  · have hq : updP s.pg k (some p) j = some q := hq
    by_cases hjk : j = k
    · subst hjk
      rw [updP_same] at hq
      rw [← Option.some.inj hq]; omega
    · rw [updP_other _ _ hjk] at hq
      exact hm.b6 j q hj hq

/-- other colours for blocks that are none of the space's -/
theorem TI.recolor {x x' : Nat → Nat} {c0 : Nat} {w : World} {sb db eb cb pm : Nat} {blk : Int → Nat} {s : Sp} {N : Nat} (h : TI x c0 w sb db eb cb pm blk s N) (hx : ∀ b, b < w.heap.size → TC c0 (x b) → x' b = x b) : TI x' c0 w sb db eb cb pm blk s N := by
  refine ⟨h.h0, ?_, h.ci.recolor (fun b hb hc => hx b hb (CD_TC c0 _ hc)), ?_, h.vm, fun k p hk hp => ?_, h.inj, h.b1, h.b2, h.b3, h.b4, h.b5, h.b6⟩
  · rw [hx sb (lt_of_block h.h0) (by rw [h.xs]; exact ⟨⟨by omega, by omega⟩, by omega⟩)]; exact h.xs
  · rw [hx pm h.vm.lt (by rw [h.xp]; exact ⟨⟨by omega, by omega⟩, by omega⟩)]; exact h.xp
  · obtain ⟨a, b⟩ := h.pgs k p hk hp
    exact ⟨a, by rw [hx _ (lt_of_block a) (by rw [b]; exact ⟨⟨by omega, by omega⟩, by omega⟩)]; exact b⟩
theorem TI.below {x x' : Nat → Nat} {c0 : Nat} {w w' : World} {sb db eb cb pm : Nat} {blk : Int → Nat} {s : Sp} {N : Nat} (h : TI x c0 w sb db eb cb pm blk s N) (hb : Below w.heap.size w w') (hx : ∀ b, b < w.heap.size → x' b = x b) : TI x' c0 w' sb db eb cb pm blk s N := by
  have hf : Fr x (paint x w.heap.size (c0 + 6)) (fun e => e = c0 + 6) w w' := Fr.of_below hb rfl
  have h1 := h.frame hf (fun e he hc => he.2 hc)
  refine h1.recolor (fun b _ hc => ?_)
  rcases Nat.lt_or_ge b w.heap.size with hl | hl
  · rw [paint_old hl, hx b hl]
  · rw [paint_new hl] at hc
    exact absurd rfl hc.2
/-- a block that is no page turned -/
theorem TI.other {x : Nat → Nat} {c0 : Nat} {w w' : World} {sb db eb cb pm : Nat} {blk : Int → Nat} {s : Sp} {N : Nat} (h : TI x c0 w sb db eb cb pm blk s N) {b : Nat} (hg : w.grownBy w' (some b)) (hz : w'.heap.size = w.heap.size) (xb : x b = c0 + 9) (hn : ∀ j q, KOK j → s.pg j = some q → blk j ≠ b) :
    Fr x x (TC c0) w w' ∧ TI x c0 w' sb db eb cb pm blk s N := by
  have hf9 : Fr x x (fun e => e = c0 + 9) w w' := Fr.same hg.os hg.tape hg.output hz (fun a ha hC => hg.block a ha (fun e => hC (by rw [Option.some.inj e]; exact xb)))
  have hs := lt_of_block h.h0
  refine ⟨hf9.mono (fun e he => ⟨⟨by omega, by omega⟩, by omega⟩), ?_, h.xs, h.ci.frame hf9 (fun e he hc => by have := he.2; omega), h.xp, h.vm.frame (hf9.old pm h.vm.lt (by rw [h.xp]; omega)), fun k p hk hp => ?_, h.inj, h.b1, h.b2, h.b3, h.b4, h.b5, h.b6⟩
  · rw [hf9.old sb hs (by rw [h.xs]; omega)]; exact h.h0
  · obtain ⟨c1, c2⟩ := h.pgs k p hk hp
    exact ⟨by rw [hg.block _ (lt_of_block c1) (fun e => hn k p hk hp (Option.some.inj e))]; exact c1, c2⟩
/-- a new block is laid, coloured as a page -/
theorem TI.alloc9 {x : Nat → Nat} {c0 d0 : Nat} {w : World} {sb db eb cb pm : Nat} {blk : Int → Nat} {s : Sp} {N : Nat} (h : TI x c0 w sb db eb cb pm blk s N) (o : Obj) :
    Fr x (paint x w.heap.size (c0 + 9)) (PD c0 d0) w (w.alloc o) ∧ TI (paint x w.heap.size (c0 + 9)) c0 (w.alloc o) sb db eb cb pm blk s N := by
  have hb : Below w.heap.size w (w.alloc o) := (Below.refl _ w).alloc (Nat.le_refl _) o
  exact ⟨Fr.of_below hb (.inl ⟨⟨by omega, by omega⟩, by omega⟩), h.below hb (fun b hb => paint_old hb)⟩

end Go.Proofs.YtbgbomlmgkgkoaaGreat.arcI
