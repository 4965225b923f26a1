/- The library's Index, Delete, Clone and Reverse at slices of ints that a queue owns. -/
import Derived.Test.YtbgbomlmgkgkoaaGreatArcQ2I
namespace Go.Proofs.YtbgbomlmgkgkoaaGreat.arcI
open Go.RowKit Go.Proofs.YtbgbomlmgkgkoaaGreat.own

def kvs (keys : List K) : List Value := keys.map fun k => Value.int .i64 k
def idx (keys : List K) (k : K) : Int := if k ∈ keys then ((keys.idxOf k : Nat) : Int) else -1

theorem idxFrom_eq (x : Int) : ∀ (zs : List Int) (i : Nat), Lib.idxFrom zs x i = if x ∈ zs then ((i + zs.idxOf x : Nat) : Int) else -1
  | [], i => by simp [Lib.idxFrom]
  | z :: zs, i => by
    unfold Lib.idxFrom
    by_cases h : z = x
    · subst h; simp
    · rw [if_neg h, idxFrom_eq x zs (i + 1)]
      have h' : x ≠ z := fun e => h e.symm
      by_cases hm : x ∈ zs
      · simp only [List.mem_cons, hm, or_true, if_true]
        have hzx : (z == x) = false := by simpa using h
        rw [List.idxOf_cons, hzx]
        simp only [cond_false]
        congr 1
        omega
      · simp [hm, h']
theorem idxOf_eq (zs : List Int) (x : Int) : Lib.idxOf zs x = idx zs x := by
  unfold Lib.idxOf idx
  rw [idxFrom_eq]
  simp

theorem row_cells {w : World} {n g cap : Nat} {keys : List K} (h : w.ownsRow 0 3 1 (.slice (some ⟨g, 0, none⟩) n cap) n (kvs keys)) (hn : n = keys.length) : ∀ j, j < keys.length → w.cell? ⟨g, 0 + j, none⟩ = some (.int .i64 (keys.getD j 0)) := by
  intro j hj
  rw [Nat.zero_add, h.cellAt j (by omega)]
  simp [kvs, hj]

theorem index_q (w : World) (vk : Value) (keys : List K) (k : K) (h : w.ownsRow 0 3 1 vk keys.length (kvs keys)) :
    Calls Tryz.prog 124 #[vk, .int .i64 k] w fun e w' => e = .returned (.int .i64 (idx keys k)) ∧ w = w' := by
  rcases h.2 with ⟨rfl, h0⟩ | ⟨g, cap, cur, rfl, hb, hg, hn, hm, _⟩
  · have hk : keys = [] := List.eq_nil_of_length_eq_zero h0
    subst hk
    exact (Tryz.slices_Index_int_empty none 0 k w).mono fun e w' hh => ⟨by rw [hh.1, idxOf_eq], hh.2.symm⟩
  · unfold maxLen at hm
    refine (Tryz.slices_Index_int g 0 keys.length cap keys k w (Nat.le_refl _) (by omega) (row_cells h rfl)).mono fun e w' hh => ⟨?_, hh.2.symm⟩
    rw [hh.1, List.take_length, idxOf_eq]

/-- what Delete leaves -/
def DelPost (w : World) (vk : Value) (keys : List K) (i : Nat) (e : Ending) (w' : World) : Prop :=
  ∃ v', e = .returned v' ∧ w'.ownsRow 0 3 1 v' (keys.eraseIdx i).length (kvs (keys.eraseIdx i)) ∧ v'.ownBlock = vk.ownBlock ∧ w.grownBy w' vk.ownBlock

theorem delete_q (w : World) (vk : Value) (keys : List K) (i : Nat) (hi : i < keys.length) (j : Int) (hj : j = i + 1) (h : w.ownsRow 0 3 1 vk keys.length (kvs keys)) :
    Calls Tryz.prog 125 #[vk, .int .i64 i, .int .i64 j] w (DelPost w vk keys i) := by
  rcases h.2 with ⟨rfl, h0⟩ | ⟨g, cap, cur, rfl, hb, hg, hn, hm, hcs, _⟩
  · omega
  · have hm' : cap ≤ 9223372036854775807 := by simpa [maxLen] using hm
    subst hj
    refine (Tryz.slices_Delete_int_cells g 0 keys.length cap i (i + 1) keys w (Nat.le_refl _) hn hm' (by omega) (by omega) (row_cells h rfl) (fun j _ => h.frozenAt _)).mono fun e w' hh => ?_
    obtain ⟨he, q, hw⟩ := hh
    have hl : keys.eraseIdx i = keys.take i ++ keys.drop (i + 1) := List.eraseIdx_eq_take_drop_succ keys i
    have hlen : (keys.eraseIdx i).length = keys.length - 1 := by rw [List.length_eraseIdx_of_lt hi]
    refine ⟨.slice (some ⟨g, 0, none⟩) (keys.length - 1) cap, by rw [he, show keys.length - (i + 1 - i) = keys.length - 1 by omega], ?_, rfl, ?_⟩
    · rw [hw, hlen]
      have hw' := own_written h (l := ((keys.take keys.length).take i ++ (keys.take keys.length).drop (i + 1) ++ List.replicate (i + 1 - i) 0).map (Value.int .i64)) (by simp; omega) q (keys.length - 1) (by omega)
      have e1 : (((keys.take keys.length).take i ++ (keys.take keys.length).drop (i + 1) ++ List.replicate (i + 1 - i) 0).map (Value.int .i64)).take (keys.length - 1) = kvs (keys.eraseIdx i) := by
        rw [List.take_length, List.map_append, ← hl, List.take_left' (by rw [List.length_map, hlen])]
        rfl
      rw [e1] at hw'
      exact hw'
    · rw [hw]
      have := setCells_grown g (((keys.take keys.length).take i ++ (keys.take keys.length).drop (i + 1) ++ List.replicate (i + 1 - i) 0).map (Value.int .i64)) 0 (w.drewN q)
      exact ⟨this.os, this.tape, this.output, this.size, this.block⟩

end Go.Proofs.YtbgbomlmgkgkoaaGreat.arcI
