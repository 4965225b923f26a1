/- Own lemmas, laid together. -/
import Derived.Test.YtflnpcgnenhogaaGreatDoorBd15
import Derived.Laws.OwnMore
import Derived.Lib.Hide
namespace Go.Proofs.YtflnpcgnenhogaaGreatDoor.so
open Go.RowKit Go.Sort Go.Lib

abbrev U : Int → Value := Value.int .u32
theorem holds_row {w : World} {g : Nat} {cur : Array Value} {e : TypeId} {ss : List Int} (hb : w.heap[g]? = some (.cells cur e (0, 0))) (ht : cur.toList.take ss.length = ss.map U) : Holds U w g 0 ss.toArray := by
 intro j hj
 have hj' : j < ss.length := by simpa using hj
 refine ⟨?_,by simp [World.frozen?,hb]⟩
 have h1 : (cur.toList.take ss.length)[j]? = (ss.map U)[j]? := by rw [ht]
 rw [List.getElem?_take_of_lt hj'] at h1
 simp only [World.cell?,hb,Nat.zero_add]
 simp only [Option.isSome_none,Bool.false_eq_true,if_false]
 rw [<- Array.getElem?_toList,h1]
 simp [hj']
theorem heap_put {w : World} {g n : Nat} {os : Array Obj} {cur : Array Value} {e : TypeId} {fr : Nat × Nat} (d : Array Int) (hb : w.heap[g]? = some (.cells cur e fr)) :
  (grow (putRow U (Sort.ahead w n) g 0 d) os).heap[g]? = some (.cells (putCells U 0 d cur) e fr) := by
 have hg : g < w.heap.size := (Array.getElem?_eq_some_iff.1 hb).1
 rw [heap_grow_old _ _ (by simpa using hg)]
 simp [putRow,mapBlock,Sort.ahead,Array.getElem?_modify,hb,onCells]
theorem grown_put {w : World} {g n : Nat} {os : Array Obj} (d : Array Int) : w.grownBy (grow (putRow U (Sort.ahead w n) g 0 d) os) (some g) := by
 refine ⟨rfl,rfl,rfl,by simp,fun k hk hne => ?_⟩
 rw [heap_grow_old _ _ (by simpa using hk)]
 have : g ≠ k := fun e => hne (by rw [e])
 simp [putRow,mapBlock,Sort.ahead,Array.getElem?_modify,this]
theorem take_put (cur : Array Value) (ts : List Int) (k : Nat) (hk : k ≤ ts.length) (h : ts.length ≤ cur.size) : (putCells U 0 ts.toArray cur).toList.take k = (ts.take k).map U := by
 apply List.ext_getElem?
 intro j
 by_cases hj : j < k
 ·rw [List.getElem?_take_of_lt hj,Array.getElem?_toList,List.getElem?_map,List.getElem?_take_of_lt hj]
  simp [putCells,show j < ts.length by omega,show j < cur.size by omega]
 ·rw [List.getElem?_take_eq_none (by omega),List.getElem?_eq_none (by simp; omega)]
theorem own_put {w : World} {base g cap n k : Nat} {e : TypeId} {os : Array Obj} {cur : Array Value} {ts : List Int} (hbase : base ≤ g) (hb : w.heap[g]? = some (.cells cur e (0, 0))) (hk : k ≤ ts.length) (h1 : ts.length ≤ cap) (h2 : cap ≤ maxLen) (h3 : cur.size = cap * 1) :
  (grow (putRow U (Sort.ahead w n) g 0 ts.toArray) os).ownsRow base e 1 (.slice (some ⟨g,0,none⟩) k cap) k ((ts.take k).map U) :=
 ⟨by simp; omega,.inr ⟨g,cap,_,rfl,hbase,heap_put _ hb,by omega,h2,by simp [putCells,h3],by rw [Nat.mul_one]; exact take_put cur ts k hk (by omega)⟩⟩

def srt (xs : List Int) : List Int := xs.mergeSort fun x y => decide (x ≤ y)
theorem srt_length (xs : List Int) : (srt xs).length = xs.length := by simp [srt]

theorem sort_row (w : World) (base : Nat) (v : Value) (xs : List Int) (h : w.ownsRow base 77 1 v xs.length (xs.map U)) (hz : xs.length < 4611686018427387904) :
  Calls Tryz.prog 82 #[v] w fun e w' => e = .returned (.tuple #[]) /\ w'.ownsRow base 77 1 v xs.length ((srt xs).map U) /\ w.grownBy w' v.ownBlock := by
 rcases h.2 with ⟨rfl,h0⟩ | ⟨g,cap,cur,rfl,hbase,hb,h1,h2,h3,h4⟩
 ·have hx : xs = [] := List.length_eq_zero_iff.1 h0
  subst hx
  refine (Sort_nil_u32 none 0 w).mono ?_
  rintro e w' ⟨rfl,n,rfl⟩
  exact ⟨rfl,⟨by simp [srt],.inl ⟨rfl,rfl⟩⟩,rfl,rfl,rfl,Nat.le_refl _,fun k hk _ => rfl⟩
 ·rw [Nat.mul_one] at h4
  refine (slices_Sort_u32 g 0 cap xs w (holds_row hb h4) (Array.getElem?_eq_some_iff.1 hb).1 hz).mono ?_
  rintro e w' ⟨rfl,n,os,rfl⟩
  refine ⟨rfl,?_,grown_put _⟩
  have := own_put (w := w) (base := base) (g := g) (cap := cap) (n := n) (k := xs.length) (e := 77) (os := os) (cur := cur) (ts := srt xs) hbase hb (by rw [srt_length]; exact Nat.le_refl _) (by rw [srt_length]; exact h1) h2 h3
  rwa [List.take_of_length_le (by rw [srt_length]; exact Nat.le_refl _)] at this

end Go.Proofs.YtflnpcgnenhogaaGreatDoor.so
