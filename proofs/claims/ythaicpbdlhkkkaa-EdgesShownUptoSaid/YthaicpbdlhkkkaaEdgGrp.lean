/- edges: Group: rows of numbers, each in memory of its own. -/
import Derived.BigQuiet
import Derived.BigRegion
import Derived.Deep.CutRange
import Derived.Deep.AppendLies
import Derived.Deep.RegionHeld3
import Derived.Laws.IdiomStrings
import Derived.IntWalk
import Derived.Test.YthaicpbdlhkkkaaSoRow
import Derived.Test.YthaicpbdlhkkkaaOwn
import Derived.Test.YthaicpbdlhkkkaaEdgLaw1
namespace Go.Proofs.Ythaicpbdlhkkkaa.edg
open Go.RowKit Go.Proofs.Ythaicpbdlhkkkaa.own Go.Proofs.Ythaicpbdlhkkkaa.so

/-! ### a family of rows -/
def upd {α : Type} (g : Nat → α) (f : Nat) (x : α) : Nat → α := fun i => if i = f then x else g i
theorem upd_same {α : Type} (g : Nat → α) (f : Nat) (x : α) : upd g f x f = x := if_pos rfl
theorem upd_other {α : Type} (g : Nat → α) (f : Nat) (x : α) {i : Nat} (h : i ≠ f) : upd g f x i = g i := if_neg h
def rowC (n : Nat) (vs : Nat → Value) : Array Value := ((List.range n).map vs).toArray
theorem rowC_at (n : Nat) (vs : Nat → Value) (i : Nat) (h : i < n) : (rowC n vs)[i]? = some (vs i) := by
  unfold rowC
  simp [h]
theorem rowC_set (n : Nat) (vs : Nat → Value) (f : Nat) (x : Value) : (rowC n vs).setIfInBounds f x = rowC n (upd vs f x) := by
  apply Array.ext_getElem?
  intro i
  by_cases hi : i < n
  · by_cases h : i = f
    · subst h
      rw [Array.getElem?_setIfInBounds_self_of_lt (by simp [rowC, hi]), rowC_at n _ i hi, upd_same]
    · rw [Array.getElem?_setIfInBounds_ne (fun e => h e.symm), rowC_at n _ i hi, rowC_at n _ i hi, upd_other _ _ _ h]
  · rw [Array.getElem?_eq_none (by simp [rowC]; omega), Array.getElem?_eq_none (by simp [rowC]; omega)]

/-- each row owns its list, and no two share memory -/
def GV (base gb n : Nat) (L : Nat → List Int) (vs : Nat → Value) (W : World) : Prop :=
  (∀ i, i < n → W.ownsRow base 35 1 (vs i) (L i).length ((L i).map U) ∧ (vs i).ownBlock ≠ some gb) ∧ ∀ i j, i < n → j < n → i ≠ j → ∀ b, (vs i).ownBlock = some b → (vs j).ownBlock ≠ some b
theorem GV.turn {base gb n f k : Nat} {L : Nat → List Int} {vs : Nat → Value} {W W2 : World} {v' : Value} {xs' : List Int} (h : GV base gb n L vs W) (hf : f < n) (ho : W2.ownsRow base 35 1 v' xs'.length (xs'.map U)) (hg : W.grownBy W2 (vs f).ownBlock)
    (hat : v'.ownBlock = (vs f).ownBlock ∨ (v'.ownBlock = some k ∧ W.heap.size ≤ k)) (hgb : gb < W.heap.size) : GV base gb n (upd L f xs') (upd vs f v') W2 := by
  obtain ⟨h1, h2⟩ := h
  refine ⟨fun i hi => ?_, fun i j hi hj hij b hb => ?_⟩
  · by_cases e : i = f
    · subst e
      rw [upd_same, upd_same]
      refine ⟨ho, ?_⟩
      rcases hat with e | ⟨e, hk⟩
      · rw [e]; exact (h1 i hi).2
      · rw [e]; intro e2; injection e2 with e2; omega
    · rw [upd_other _ _ _ e, upd_other _ _ _ e]
      refine ⟨(h1 i hi).1.kept hg ?_, (h1 i hi).2⟩
      rcases hvi : (vs i).ownBlock with _ | b
      · exact .inl rfl
      · exact .inr (fun e2 => h2 i f hi hf e b hvi e2.symm)
  · have lt : ∀ q, q < n → ∀ c, (vs q).ownBlock = some c → c < W.heap.size := fun q hq c hc => ((h1 q hq).1.lt c hc).2
    by_cases ei : i = f
    · subst ei
      rw [upd_same] at hb
      rw [upd_other _ _ _ (Ne.symm hij)]
      rcases hat with e | ⟨e, hk⟩
      · rw [e] at hb; exact h2 i j hi hj hij b hb
      · rw [e] at hb
        injection hb with hb
        subst hb
        intro e2
        have := lt j hj _ e2
        omega
    · rw [upd_other _ _ _ ei] at hb
      by_cases ej : j = f
      · subst ej
        rw [upd_same]
        rcases hat with e | ⟨e, hk⟩
        · rw [e]; exact h2 i j hi hj hij b hb
        · rw [e]
          intro e2
          injection e2 with e2
          have := lt i hi b hb
          omega
      · rw [upd_other _ _ _ ej]; exact h2 i j hi hj hij b hb
theorem GV.next {base gb n : Nat} {L : Nat → List Int} {vs : Nat → Value} {W W2 : World} (h : GV base gb n L vs W) (k : Below W.heap.size W W2) : GV base gb n L vs W2 :=
  ⟨fun i hi => ⟨own_below (h.1 i hi).1 k, (h.1 i hi).2⟩, h.2⟩
theorem GV.set {base gb n : Nat} {L : Nat → List Int} {vs : Nat → Value} {W : World} (h : GV base gb n L vs W) (j : Nat) (x : Value) : GV base gb n L vs (W.setCell ⟨gb, j, none⟩ x) := by
  refine ⟨fun i hi => ⟨(h.1 i hi).1.kept (row := some gb) ⟨rfl, rfl, rfl, by simp, fun b hb hne => Below.heap_setCell W ⟨gb, j, none⟩ x b (fun e => hne (by rw [e]))⟩ (.inr (h.1 i hi).2), (h.1 i hi).2⟩, h.2⟩

/-- a graph that is being made -/
def GR (w0 : World) (base gb n : Nat) (L : Nat → List Int) (W : World) : Prop :=
  Below base w0 W ∧ base ≤ gb ∧ ∃ vs, W.heap[gb]? = some (.cells (rowC n vs) 47 (0, 0)) ∧ GV base gb n L vs W
theorem GR.next {w0 W W2 : World} {base gb n : Nat} {L : Nat → List Int} (h : GR w0 base gb n L W) (hb : base ≤ W.heap.size) (k : Below W.heap.size W W2) : GR w0 base gb n L W2 := by
  obtain ⟨h1, h2, vs, h3, h4⟩ := h
  exact ⟨h1.trans (k.mono hb), h2, vs, (k.block _ (lt_of_block h3)).trans h3, h4.next k⟩
/-- a row is written anew -/
theorem GR.put {w0 W W2 : World} {base gb n f k : Nat} {L : Nat → List Int} {vs : Nat → Value} {v' : Value} {xs' : List Int} (h1 : Below base w0 W) (h2 : base ≤ gb) (h3 : W.heap[gb]? = some (.cells (rowC n vs) 47 (0, 0))) (h4 : GV base gb n L vs W) (hf : f < n) (hbase : base ≤ W.heap.size)
    (ho : W2.ownsRow base 35 1 v' xs'.length (xs'.map U)) (hg : W.grownBy W2 (vs f).ownBlock) (hat : v'.ownBlock = (vs f).ownBlock ∨ (v'.ownBlock = some k ∧ W.heap.size ≤ k)) :
    GR w0 base gb n (upd L f xs') (W2.setCell ⟨gb, f, none⟩ v') := by
  have hgb := lt_of_block h3
  refine ⟨(h1.grown hg hbase (fun b hb => ((h4.1 f hf).1.lt b hb).1)).setCell h2 _, h2, upd vs f v', ?_, (h4.turn hf ho hg hat hgb).set f v'⟩
  have e : W2.heap[gb]? = some (.cells (rowC n vs) 47 (0, 0)) := (hg.block gb hgb (fun e => (h4.1 f hf).2 e.symm)).trans h3
  rw [heap_setCell_same W2 gb f _ _ _ e, rowC_set]
/-- a row is turned where it lies -/
theorem GR.stay {w0 W W2 : World} {base gb n f : Nat} {L : Nat → List Int} {vs : Nat → Value} {xs' : List Int} (h1 : Below base w0 W) (h3 : W.heap[gb]? = some (.cells (rowC n vs) 47 (0, 0))) (h4 : GV base gb n L vs W) (hf : f < n) (hbase : base ≤ W.heap.size)
    (ho : W2.ownsRow base 35 1 (vs f) xs'.length (xs'.map U)) (hg : W.grownBy W2 (vs f).ownBlock) :
    Below base w0 W2 ∧ W2.heap[gb]? = some (.cells (rowC n vs) 47 (0, 0)) ∧ GV base gb n (upd L f xs') vs W2 := by
  have hgb := lt_of_block h3
  have h5 := h4.turn (k := W.heap.size) hf ho hg (.inl rfl) hgb
  have e : upd vs f (vs f) = vs := by
    funext i
    unfold upd
    split
    · rename_i h; rw [h]
    · rfl
  rw [e] at h5
  exact ⟨h1.grown hg hbase (fun b hb => ((h4.1 f hf).1.lt b hb).1), (hg.block gb hgb (fun e => (h4.1 f hf).2 e.symm)).trans h3, h5⟩

/-! ### the plain law -/
/-- what is put at v, in order -/
def grp (l : List (Nat × Nat)) (v : Nat) : List Int := (l.filter (fun t => t.1 == v)).map (fun t => (t.2 : Int))
theorem grp_take (l : List (Nat × Nat)) (k : Nat) (h : k < l.length) : grp (l.take (k + 1)) = upd (grp (l.take k)) l[k].1 (grp (l.take k) l[k].1 ++ [(l[k].2 : Int)]) := by
  funext v
  unfold grp
  rw [List.take_succ_eq_append_getElem h, List.filter_append, List.map_append]
  by_cases e : v = l[k].1
  · subst e
    rw [upd_same]
    simp
  · rw [upd_other _ _ _ e]
    have : (l[k].1 == v) = false := beq_eq_false_iff_ne.2 (fun x => e x.symm)
    simp [this]
/-- edges in memory, whoever owns them -/
def EdgIs (w : World) (aT : Option Addr) (l : List (Nat × Nat)) : Prop :=
  ∀ k (_ : k < l.length), ∃ g o, aT = some ⟨g, o, none⟩ ∧ g < w.heap.size ∧ w.cell? ⟨g, o + k * 2, none⟩ = some (.int .u32 l[k].1) ∧ w.cell? ⟨g, o + k * 2 + 1, none⟩ = some (.int .u32 l[k].2) ∧ l[k].1 < 4294967296 ∧ l[k].2 < 4294967296
/-- a row in the end -/
def fin (xs : List Int) : List Int := cpt (srt xs)
theorem grp_length (l : List (Nat × Nat)) (v : Nat) : (grp l v).length ≤ l.length := by
  unfold grp
  rw [List.length_map]
  exact List.length_filter_le _ _

theorem Try.infoU32 : (Try.prog.info? 35).map (fun i => (i.zero, i.size, i.bytes)) = some (some (.int .u32 0), 1, 4) := by kernel_rfl
theorem Try.infoRow : (Try.prog.info? 47).map (fun i => (i.zero, i.size, i.bytes)) = some (some (.slice none 0 0), 1, 24) := by kernel_rfl
end Go.Proofs.Ythaicpbdlhkkkaa.edg
