/- blockdev: the sectors of a text; a row of bytes that is laid over sector by sector. -/
import Derived.Test.YtbgbomlmgkgkoaaGreatDvC
import Derived.Laws.IdiomCopy
import Derived.Deep.Upon
namespace Go.Proofs.YtbgbomlmgkgkoaaGreat.dv
open Go.RowKit Go.Proofs.YtbgbomlmgkgkoaaGreat.own Go.Proofs.YtbgbomlmgkgkoaaGreat.po

/-- a sector of a text -/
def sect (t : ByteArray) (k : Nat) : ByteArray := t.extract (512 * k) (512 * k + 512)
def sectL (l : List UInt8) (k : Nat) : List UInt8 := (l.drop (512 * k)).take 512
theorem sect_data (t : ByteArray) (k : Nat) : (sect t k).data.toList = sectL t.data.toList k := by
  unfold sect sectL
  rw [ByteArray.data_extract, Array.toList_extract]
  show (t.data.toList.drop (512 * k)).take (512 * k + 512 - 512 * k) = _
  rw [Nat.add_sub_cancel_left]
theorem text_ext {a b : ByteArray} (h : a.data.toList = b.data.toList) : a = b := ByteArray.ext (Array.toList_inj.1 h)
theorem sect_of {a b : ByteArray} {k : Nat} (h : sectL a.data.toList k = sectL b.data.toList k) : sect a k = sect b k := text_ext (by rw [sect_data, sect_data, h])
theorem sectL_get (l : List UInt8) (k i : Nat) : (sectL l k)[i]? = if i < 512 then l[512 * k + i]? else none := by
  unfold sectL
  rw [List.getElem?_take, List.getElem?_drop]
/-- b with t's sector s -/
def layL (b t : List UInt8) (s : Nat) : List UInt8 := b.take (512 * s) ++ (sectL t s ++ b.drop (512 * s + 512))
theorem sectL_len {t : List UInt8} {s : Nat} (h : 512 * s + 512 ≤ t.length) : (sectL t s).length = 512 := by
  unfold sectL; rw [List.length_take, List.length_drop]; omega
theorem layL_len {b t : List UInt8} {s : Nat} (hb : 512 * s + 512 ≤ b.length) (ht : 512 * s + 512 ≤ t.length) : (layL b t s).length = b.length := by
  unfold layL
  rw [List.length_append, List.length_append, sectL_len ht, List.length_take, List.length_drop]; omega
set_option maxRecDepth 100000 in
theorem layL_get {b t : List UInt8} {s : Nat} (hb : 512 * s + 512 ≤ b.length) (ht : 512 * s + 512 ≤ t.length) (j : Nat) : (layL b t s)[j]? = if 512 * s ≤ j ∧ j < 512 * s + 512 then t[j]? else b[j]? := by
  have hl : (b.take (512 * s)).length = 512 * s := by rw [List.length_take]; omega
  have h2 := sectL_len ht
  unfold layL
  by_cases h : j < 512 * s
  · rw [List.getElem?_append_left (by omega), List.getElem?_take, if_pos h, if_neg (by omega)]
  · rw [List.getElem?_append_right (by omega), hl]
    by_cases h3 : j < 512 * s + 512
    · rw [List.getElem?_append_left (by omega), sectL_get, if_pos (by omega), if_pos (by omega)]
      congr 1; omega
    · rw [List.getElem?_append_right (by omega), h2, List.getElem?_drop, if_neg (by omega)]
      congr 1; omega
theorem sectL_lay {b t : List UInt8} {s k : Nat} (hb : 512 * s + 512 ≤ b.length) (ht : 512 * s + 512 ≤ t.length) : sectL (layL b t s) k = if k = s then sectL t s else sectL b k := by
  apply List.ext_getElem?
  intro i
  rw [sectL_get, layL_get hb ht]
  by_cases hk : k = s
  · subst hk
    rw [if_pos rfl, sectL_get]
    by_cases hi : i < 512
    · rw [if_pos hi, if_pos hi, if_pos (by omega)]
    · rw [if_neg hi, if_neg hi]
  · rw [if_neg hk, sectL_get]
    by_cases hi : i < 512
    · rw [if_pos hi, if_pos hi, if_neg (by omega)]
    · rw [if_neg hi, if_neg hi]

/-- a row of bytes in memory -/
def BR (W : World) (g : Nat) (l : List UInt8) : Prop := ∀ j (hj : j < l.length), W.cell? ⟨g, j, none⟩ = some (.int .u8 (l[j].toNat : Int)) ∧ W.frozen? ⟨g, j, none⟩ = false
theorem BR.drew {W : World} {g : Nat} {l : List UInt8} (h : BR W g l) : BR W.drew g l := h
theorem BR.same {W W' : World} {g : Nat} {l : List UInt8} (h : BR W g l) (e : W'.heap[g]? = W.heap[g]?) : BR W' g l := fun j hj => by
  refine ⟨(World.cell?_of_block (w := W) (w' := W') e).trans (h j hj).1, ?_⟩
  have : W'.frozen? ⟨g, j, none⟩ = W.frozen? ⟨g, j, none⟩ := by unfold World.frozen?; rw [e]
  rw [this]; exact (h j hj).2
theorem BR.made (w : World) (t : ByteArray) (cap : Nat) (e : TypeId) : BR (w.drew.alloc (.cells (bytesRow t cap) e ((bytesRow t cap).size, (bytesRow t cap).size + 1))) w.heap.size t.data.toList := fun j hj => by
  have hj' : j < t.data.size := by simpa using hj
  have a := World.cell?_alloc_mark w.drew (bytesRow t cap) e ((bytesRow t cap).size, (bytesRow t cap).size + 1) j
  have b := World.frozen?_alloc_mark w.drew (bytesRow t cap) e (bytesRow t cap).size ((bytesRow t cap).size + 1) j
  have hs : j < (bytesRow t cap).size := by rw [bytesRow, Array.size_append, Array.size_map]; omega
  refine ⟨a.trans ?_, b.trans ?_⟩
  · rw [bytesRow_at t cap j hj']; simp
  · rw [decide_eq_false (by omega)]; rfl
theorem BR.back {P : Program} {W : World} {g : Nat} {l : List UInt8} (h : BR W g l) (src dst e : TypeId) (cap n : Nat) (hn : n = l.length) (hs : P.underlying src = some (.slice e)) (he : P.underlying e = some (.int .u8)) (hd : P.underlying dst = some .string) :
    (convert src dst (.slice (some ⟨g, 0, none⟩) n cap)).run P W = .ok (.string ⟨l.toArray⟩) W := by
  subst hn
  exact run_convert_bytes_back W src dst e ⟨g, 0, none⟩ cap l hs he hd (fun j hj => by rw [Addr.add_lit, Nat.zero_add]; exact (h j hj).1)

theorem grown_setCells (g : Nat) : ∀ (vs : List Value) (o : Nat) (w : World), w.grownBy (w.setCells g o vs) (some g) ∧ (w.setCells g o vs).heap.size = w.heap.size
  | [], _, w => ⟨⟨rfl, rfl, rfl, Nat.le_refl _, fun _ _ _ => rfl⟩, rfl⟩
  | v :: r, o, w => by
    obtain ⟨h1, h2⟩ := grown_setCells g r (o + 1) (w.setCell ⟨g, o, none⟩ v)
    have h3 := grownBy_setCell_at w g o v
    have h4 : (w.setCell ⟨g, o, none⟩ v).heap.size = w.heap.size := by simp
    exact ⟨⟨h1.os.trans h3.os, h1.tape.trans h3.tape, h1.output.trans h3.output, Nat.le_trans h3.size h1.size, fun b hb hne => (h1.block b (by omega) hne).trans (h3.block b hb hne)⟩, h2.trans h4⟩
/-- a sector is copied over a row of bytes -/
theorem run_copy_sector {P : Program} (W : World) (g s dCap : Nat) (l : List UInt8) (t : ByteArray) (dT sT ty elem : TypeId) (hu : P.underlying dT = some (.slice elem)) (hz : ∀ w, (Go.sizeOf elem).run P w = .ok 1 w)
    (hb : BR W g l) (h1 : 512 * s + 512 ≤ l.length) (h2 : 512 * s + 512 ≤ t.size) :
    ∃ W', (Builtin.copy_ #[dT, sT] ty #[.slice (some ⟨g, 512 * s, none⟩) 512 dCap, .string (t.extract (512 * s) t.size)]).run P W = .ok (goInt 512) W' ∧ BR W' g (layL l t.data.toList s) ∧ W.grownBy W' (some g) ∧ W'.heap.size = W.heap.size := by
  have ht : 512 * s + 512 ≤ t.data.toList.length := by rw [Array.length_toList]; exact h2
  have hx : (t.extract (512 * s) t.size).data.toList = t.data.toList.drop (512 * s) := by
    rw [ByteArray.data_extract, Array.toList_extract]
    show (t.data.toList.drop (512 * s)).take (t.size - 512 * s) = _
    rw [List.take_of_length_le (by rw [List.length_drop, Array.length_toList]; exact Nat.le_refl _)]
  have hsz : (t.extract (512 * s) t.size).size = t.size - 512 * s := by
    show (t.extract (512 * s) t.size).data.size = _
    rw [← Array.length_toList, hx, List.length_drop, Array.length_toList]; rfl
  have hmin : Nat.min (t.extract (512 * s) t.size).size 512 = 512 := by rw [hsz]; exact Nat.min_eq_right (by omega)
  obtain ⟨vs, hvs⟩ : ∃ vs, vs = (sectL t.data.toList s).map fun x => Value.int .u8 (x.toNat : Int) := ⟨_, rfl⟩
  have hl : vs.length = 512 := by rw [hvs, List.length_map, sectL_len ht]
  have htk : List.take 512 ((t.extract (512 * s) t.size).data.toList.map fun x => Value.int .u8 (x.toNat : Int)) = vs := by
    rw [hx, hvs, ← List.map_take]; rfl
  have hst := run_storeCells_cells (P := P) g (512 * s) vs 0 W (fun j hj => by rw [Nat.add_zero, (hb _ (by omega)).1]; rfl) (fun j hj => by rw [Nat.add_zero]; exact (hb _ (by omega)).2) (by
    intro v hv
    rw [hvs] at hv
    obtain ⟨x, _, rfl⟩ := List.mem_map.1 hv
    rfl)
  obtain ⟨u, hux⟩ : ∃ u, t.extract (512 * s) t.size = u := ⟨_, rfl⟩
  rw [hux] at hmin htk ⊢
  refine ⟨W.setCells g (512 * s) vs, ?_, fun j hj => ?_, (grown_setCells g vs _ W).1, (grown_setCells g vs _ W).2⟩
  · simp [Builtin.copy_, run_underlying hu, Builtin.lenOf, Builtin.firstCells, hz, hmin]
    rw [htk, hst]
    rfl
  · rw [layL_len h1 ht] at hj
    refine ⟨?_, by rw [World.frozen?_setCells]; exact (hb j hj).2⟩
    have hg := layL_get (b := l) (t := t.data.toList) (s := s) h1 ht j
    rw [List.getElem?_eq_getElem (by rw [layL_len h1 ht]; exact hj)] at hg
    by_cases hin : 512 * s ≤ j ∧ j < 512 * s + 512
    · rw [if_pos hin, List.getElem?_eq_getElem (by omega)] at hg
      have hq := World.cell?_setCells_in g vs (512 * s) W (fun i hi => by rw [(hb _ (by omega)).1]; rfl) (j - 512 * s) (by omega)
      rw [show 512 * s + (j - 512 * s) = j by omega] at hq
      rw [hq, Option.some.inj hg]
      have : vs[j - 512 * s]? = some (.int .u8 ((t.data.toList[j]'(by omega)).toNat : Int)) := by
        rw [hvs, List.getElem?_map, sectL_get, if_pos (by omega), show 512 * s + (j - 512 * s) = j by omega, List.getElem?_eq_getElem (by omega)]; rfl
      rw [List.getElem?_eq_getElem (by omega)] at this
      rw [Option.some.inj this]
    · rw [if_neg hin, List.getElem?_eq_getElem hj] at hg
      rw [World.cell?_setCells_out g vs (512 * s) W ⟨g, j, none⟩ (fun _ _ => by show j < 512 * s ∨ 512 * s + vs.length ≤ j; omega), (hb j hj).1, Option.some.inj hg]

end Go.Proofs.YtbgbomlmgkgkoaaGreat.dv
