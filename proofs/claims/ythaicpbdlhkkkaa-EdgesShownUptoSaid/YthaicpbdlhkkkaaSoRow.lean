/- A row of uint32 that the call owns: sorted, and cut to its different members, by the library. -/
import Derived.Test.YthaicpbdlhkkkaaSo14
import Derived.Shelf.SlicesE.Compact
import Derived.Laws.OwnMore
import Derived.Lib.Hide
namespace Go.Proofs.Ythaicpbdlhkkkaa.so
open Go.RowKit Go.Sort Go.Lib

abbrev U : Int → Value := Value.int .u32
theorem holds_row {w : World} {g : Nat} {cur : Array Value} {e : TypeId} {ss : List Int} (hb : w.heap[g]? = some (.cells cur e (0, 0))) (ht : cur.toList.take ss.length = ss.map U) : Holds U w g 0 ss.toArray := by
  intro j hj
  have hj' : j < ss.length := by simpa using hj
  refine ⟨?_, by simp [World.frozen?, hb]⟩
  have h1 : (cur.toList.take ss.length)[j]? = (ss.map U)[j]? := by rw [ht]
  rw [List.getElem?_take_of_lt hj'] at h1
  simp only [World.cell?, hb, Nat.zero_add]
  simp only [Option.isSome_none, Bool.false_eq_true, if_false]
  rw [← Array.getElem?_toList, h1]
  simp [hj']
theorem heap_put {w : World} {g n : Nat} {os : Array Obj} {cur : Array Value} {e : TypeId} {fr : Nat × Nat} (d : Array Int) (hb : w.heap[g]? = some (.cells cur e fr)) :
    (grow (putRow U (Sort.ahead w n) g 0 d) os).heap[g]? = some (.cells (putCells U 0 d cur) e fr) := by
  have hg : g < w.heap.size := (Array.getElem?_eq_some_iff.1 hb).1
  rw [heap_grow_old _ _ (by simpa using hg)]
  simp [putRow, mapBlock, Sort.ahead, Array.getElem?_modify, hb, onCells]
theorem grown_put {w : World} {g n : Nat} {os : Array Obj} (d : Array Int) : w.grownBy (grow (putRow U (Sort.ahead w n) g 0 d) os) (some g) := by
  refine ⟨rfl, rfl, rfl, by simp, fun k hk hne => ?_⟩
  rw [heap_grow_old _ _ (by simpa using hk)]
  have : g ≠ k := fun e => hne (by rw [e])
  simp [putRow, mapBlock, Sort.ahead, Array.getElem?_modify, this]
theorem take_put (cur : Array Value) (ts : List Int) (k : Nat) (hk : k ≤ ts.length) (h : ts.length ≤ cur.size) : (putCells U 0 ts.toArray cur).toList.take k = (ts.take k).map U := by
  apply List.ext_getElem?
  intro j
  by_cases hj : j < k
  · rw [List.getElem?_take_of_lt hj, Array.getElem?_toList, List.getElem?_map, List.getElem?_take_of_lt hj]
    simp [putCells, show j < ts.length by omega, show j < cur.size by omega]
  · rw [List.getElem?_take_eq_none (by omega), List.getElem?_eq_none (by simp; omega)]
/-- what a row holds behind a write over it -/
theorem own_put {w : World} {base g cap n k : Nat} {e : TypeId} {os : Array Obj} {cur : Array Value} {ts : List Int} (hbase : base ≤ g) (hb : w.heap[g]? = some (.cells cur e (0, 0))) (hk : k ≤ ts.length) (h1 : ts.length ≤ cap) (h2 : cap ≤ maxLen) (h3 : cur.size = cap * 1) :
    (grow (putRow U (Sort.ahead w n) g 0 ts.toArray) os).ownsRow base e 1 (.slice (some ⟨g, 0, none⟩) k cap) k ((ts.take k).map U) :=
  ⟨by simp; omega, .inr ⟨g, cap, _, rfl, hbase, heap_put _ hb, by omega, h2, by simp [putCells, h3], by rw [Nat.mul_one]; exact take_put cur ts k hk (by omega)⟩⟩

/-- the sorted list -/
def srt (xs : List Int) : List Int := xs.mergeSort fun x y => decide (x ≤ y)
theorem srt_length (xs : List Int) : (srt xs).length = xs.length := by simp [srt]

theorem sort_row (w : World) (base : Nat) (v : Value) (xs : List Int) (h : w.ownsRow base 35 1 v xs.length (xs.map U)) (hz : xs.length < 4611686018427387904) :
    Calls Try.prog 43 #[v] w fun e w' => e = .returned (.tuple #[]) ∧ w'.ownsRow base 35 1 v xs.length ((srt xs).map U) ∧ w.grownBy w' v.ownBlock := by
  rcases h.2 with ⟨rfl, h0⟩ | ⟨g, cap, cur, rfl, hbase, hb, h1, h2, h3, h4⟩
  · have hx : xs = [] := List.length_eq_zero_iff.1 h0
    subst hx
    refine (Sort_nil_u32 none 0 w).mono ?_
    rintro e w' ⟨rfl, n, rfl⟩
    exact ⟨rfl, ⟨by simp [srt], .inl ⟨rfl, rfl⟩⟩, rfl, rfl, rfl, Nat.le_refl _, fun k hk _ => rfl⟩
  · rw [Nat.mul_one] at h4
    refine (slices_Sort_u32 g 0 cap xs w (holds_row hb h4) (Array.getElem?_eq_some_iff.1 hb).1 hz).mono ?_
    rintro e w' ⟨rfl, n, os, rfl⟩
    refine ⟨rfl, ?_, grown_put _⟩
    have := own_put (w := w) (base := base) (g := g) (cap := cap) (n := n) (k := xs.length) (e := 35) (os := os) (cur := cur) (ts := srt xs) hbase hb (by rw [srt_length]; exact Nat.le_refl _) (by rw [srt_length]; exact h1) h2 h3
    rwa [List.take_of_length_le (by rw [srt_length]; exact Nat.le_refl _)] at this

/-! ### slices.Compact -/
def lc_ren : Go.Shelf.Ren := ⟨fun | 43 => 44 | n => n, fun | 0 => 0 | 3 => 3 | 4 => 4 | 22 => 47 | 23 => 35 | n => n, fun | n => n⟩
theorem lc : SlLaysE.n43 Try.prog lc_ren := {
  mixed := by kernel_rfl
  f43 := ⟨Try.f44.name, by decide, Try.func44.trans (congrArg some (by kernel_rfl))⟩
  t0 := Try.underlying0
  a0 := Try.isAgg0
  z0 := Try.sizeOf0
  v0 := Try.zeroValue0
  t3 := Try.underlying3
  a3 := Try.isAgg3
  z3 := Try.sizeOf3
  v3 := Try.zeroValue3
  t4 := Try.underlying4
  a4 := Try.isAgg4
  z4 := Try.sizeOf4
  v4 := Try.zeroValue4
  t22 := Try.underlying47
  a22 := Try.isAgg47
  z22 := Try.sizeOf47
  v22 := Try.zeroValue47
  a23 := Try.isAgg35
  z23 := Try.sizeOf35 }

theorem compact_len (d : Array Int) (m : Nat) : (compactUpTo d m).length ≤ m := by
  unfold compactUpTo
  rw [List.length_map]
  exact Nat.le_trans (List.length_filter_le _ _) (by simp)
/-- the different members of a row -/
def cpt (xs : List Int) : List Int := compactUpTo xs.toArray xs.length
theorem compact_row (w : World) (base : Nat) (v : Value) (xs : List Int) (h : w.ownsRow base 35 1 v xs.length (xs.map U)) (hz : xs.length < 4611686018427387904) :
    Calls Try.prog 44 #[v] w fun e w' => ∃ v', e = .returned v' ∧ w'.ownsRow base 35 1 v' (cpt xs).length ((cpt xs).map U) ∧ w.grownBy w' v.ownBlock ∧ v'.ownBlock = v.ownBlock := by
  rcases h.2 with ⟨rfl, h0⟩ | ⟨g, cap, cur, rfl, hbase, hb, h1, h2, h3, h4⟩
  · have hx : xs = [] := List.length_eq_zero_iff.1 h0
    subst hx
    have HH := Lib.hid h
    go_enter Try.func44, Try.ntmps44
    go_wp2_with fail
    go_ret
    exact ⟨_, rfl, HH.out, ⟨rfl, rfl, rfl, Nat.le_refl _, fun k hk _ => rfl⟩, rfl⟩
  · rw [Nat.mul_one] at h4
    have con := AnyE.slices_Compact lc U (fun _ => rfl) (EqlAt.intD _ _ _) (NeqAt.intD _ _ _) 0 Try.zeroValue35 g 0 cap xs.toArray w (holds_row hb h4) (by simp; omega) (by simpa using h1)
    change Calls Try.prog 44 _ _ _ at con
    simp only [List.size_toArray] at con
    refine con.mono ?_
    rintro e w' ⟨rfl, n, rfl⟩
    have hl := compact_len xs.toArray xs.length
    have := own_put (w := w) (base := base) (g := g) (cap := cap) (n := n) (k := (cpt xs).length) (e := 35) (os := #[]) (cur := cur) (ts := cpt xs ++ List.replicate (xs.length - (cpt xs).length) 0) hbase hb (by simp) (by simp [cpt]; omega) h2 h3
    rw [List.take_left, grow_empty] at this
    have g2 := grown_put (w := w) (g := g) (n := n) (os := #[]) ((cpt xs ++ List.replicate (xs.length - (cpt xs).length) 0).toArray)
    rw [grow_empty] at g2
    exact ⟨_, rfl, this, g2, rfl⟩
end Go.Proofs.Ythaicpbdlhkkkaa.so
