/- The library's Index, Delete, Clone and Reverse at slices of strings that a queue owns. -/
import Derived.Test.YthcdfdkhmlkneaaDoorArcQ2S
namespace Go.Proofs.YthcdfdkhmlkneaaDoor.arcS
open Go.RowKit Go.Proofs.YthcdfdkhmlkneaaDoor.own

def kvs (keys : List K) : List Value := keys.map fun k => Value.string ⟨List.toArray k⟩
def idx (keys : List K) (k : K) : Int := if k ∈ keys then ((keys.idxOf k : Nat) : Int) else -1
def bs (k : K) : ByteArray := ⟨List.toArray k⟩
theorem bs_inj {a b : K} (h : bs a = bs b) : a = b := by
  have h1 : List.toArray a = List.toArray b := congrArg ByteArray.data h
  simpa using congrArg Array.toList h1

theorem idxFrom_eq (x : K) : ∀ (zs : List K) (i : Nat), Lib.idxFromS (zs.map bs) (bs x) i = if x ∈ zs then ((i + zs.idxOf x : Nat) : Int) else -1
  | [], i => by simp [Lib.idxFromS]
  | z :: zs, i => by
    rw [List.map_cons]
    unfold Lib.idxFromS
    by_cases h : z = x
    · subst h; simp
    · rw [if_neg (fun e => h (bs_inj e)), idxFrom_eq x zs (i + 1)]
      have h' : x ≠ z := fun e => h e.symm
      by_cases hm : x ∈ zs
      · simp only [List.mem_cons, hm, or_true, if_true]
        have hzx : (z == x) = false := by simpa using h
        rw [List.idxOf_cons, hzx]
        simp only [cond_false]
        congr 1
        omega
      · simp [hm, h']
theorem idxOf_eq (zs : List K) (x : K) : Lib.idxOfS (zs.map bs) (bs x) = idx zs x := by
  unfold Lib.idxOfS idx
  rw [idxFrom_eq]
  simp

theorem row_cells {w : World} {n g cap : Nat} {keys : List K} (h : w.ownsRow 0 9 1 (.slice (some ⟨g, 0, none⟩) n cap) n (kvs keys)) (hn : n = keys.length) : ∀ j, j < (keys.map bs).length → w.cell? ⟨g, 0 + j, none⟩ = some (.string ((keys.map bs).getD j ByteArray.empty)) := by
  intro j hj
  have hj' : j < keys.length := by simpa using hj
  rw [Nat.zero_add, h.cellAt j (by omega)]
  simp [kvs, hj', bs]
theorem row_cellsX {w : World} {n g cap : Nat} {keys : List K} (h : w.ownsRow 0 9 1 (.slice (some ⟨g, 0, none⟩) n cap) n (kvs keys)) (hn : n = keys.length) : ∀ j, j < keys.length → w.cell? ⟨g, 0 + j, none⟩ = some (.string ((fun i => bs (keys.getD i [])) j)) := by
  intro j hj
  rw [Nat.zero_add, h.cellAt j (by omega)]
  simp [kvs, hj, bs]
theorem strs_is (keys : List K) : Lib.strsOf (fun i => bs (keys.getD i [])) keys.length = keys := by
  apply List.ext_getElem?
  intro i
  simp [Lib.strsOf, bs]
  by_cases h : i < keys.length <;> simp [h]
theorem map_enc (l : List K) : l.map encStr = kvs l := rfl

theorem index_q (w : World) (vk : Value) (keys : List K) (k : K) (h : w.ownsRow 0 9 1 vk keys.length (kvs keys)) :
    Calls Tryd.prog 43 #[vk, .string ⟨List.toArray k⟩] w fun e w' => e = .returned (.int .i64 (idx keys k)) ∧ w = w' := by
  rcases h.2 with ⟨rfl, h0⟩ | ⟨g, cap, cur, rfl, hb, hg, hn, hm, _⟩
  · have hk : keys = [] := List.eq_nil_of_length_eq_zero h0
    subst hk
    exact (Tryd.slices_Index_string_empty none 0 (bs k) w).mono fun e w' hh => ⟨by rw [hh.1]; exact congrArg (fun i => Ending.returned (.int .i64 i)) (idxOf_eq [] k), hh.2.symm⟩
  · unfold maxLen at hm
    refine (Tryd.slices_Index_string g 0 keys.length cap (keys.map bs) (bs k) w (by simp) (by omega) (row_cells h rfl)).mono fun e w' hh => ⟨?_, hh.2.symm⟩
    rw [hh.1, List.take_of_length_le (by simp), idxOf_eq]

/-- what Delete leaves -/
def DelPost (w : World) (vk : Value) (keys : List K) (i : Nat) (e : Ending) (w' : World) : Prop :=
  ∃ v', e = .returned v' ∧ w'.ownsRow 0 9 1 v' (keys.eraseIdx i).length (kvs (keys.eraseIdx i)) ∧ v'.ownBlock = vk.ownBlock ∧ w.grownBy w' vk.ownBlock

theorem delete_q (w : World) (vk : Value) (keys : List K) (i : Nat) (hi : i < keys.length) (j : Int) (hj : j = i + 1) (h : w.ownsRow 0 9 1 vk keys.length (kvs keys)) :
    Calls Tryd.prog 44 #[vk, .int .i64 i, .int .i64 j] w (DelPost w vk keys i) := by
  rcases h.2 with ⟨rfl, h0⟩ | ⟨g, cap, cur, rfl, hb, hg, hn, hm, hcs, _⟩
  · omega
  · have hm' : cap ≤ 9223372036854775807 := by simpa [maxLen] using hm
    subst hj
    refine (Tryd.slices_Delete_string_cells g 0 keys.length cap i (i + 1) (fun i => bs (keys.getD i [])) w hn hm' (by omega) (by omega) (row_cellsX h rfl) (fun j _ => h.frozenAt _)).mono fun e w' hh => ?_
    obtain ⟨he, q, hw⟩ := hh
    rw [strs_is] at hw
    have hl : keys.eraseIdx i = keys.take i ++ keys.drop (i + 1) := List.eraseIdx_eq_take_drop_succ keys i
    have hlen : (keys.eraseIdx i).length = keys.length - 1 := by rw [List.length_eraseIdx_of_lt hi]
    refine ⟨.slice (some ⟨g, 0, none⟩) (keys.length - 1) cap, by rw [he, show keys.length - (i + 1 - i) = keys.length - 1 by omega], ?_, rfl, ?_⟩
    · rw [hw, hlen]
      have hw' := own_written h (l := (keys.take i ++ keys.drop (i + 1) ++ List.replicate (i + 1 - i) []).map encStr) (by simp; omega) q (keys.length - 1) (by omega)
      have e1 : ((keys.take i ++ keys.drop (i + 1) ++ List.replicate (i + 1 - i) []).map encStr).take (keys.length - 1) = kvs (keys.eraseIdx i) := by
        rw [List.map_append, ← hl, List.take_left' (by rw [List.length_map, hlen])]
        rfl
      rw [e1] at hw'
      exact hw'
    · rw [hw]
      have := setCells_grown g ((keys.take i ++ keys.drop (i + 1) ++ List.replicate (i + 1 - i) []).map encStr) 0 (w.drewN q)
      exact ⟨this.os, this.tape, this.output, this.size, this.block⟩

/-- a clone -/
theorem clone_q (w : World) (vk : Value) (keys : List K) (hbig : keys.length * 16 ≤ 140737488355328) (h : w.ownsRow 0 9 1 vk keys.length (kvs keys)) :
    Calls Tryd.prog 47 #[vk] w fun e w' => ∃ v', e = .returned v' ∧ w'.ownsRow w.heap.size 9 1 v' keys.length (kvs keys) ∧ Below w.heap.size w w' := by
  rcases h.2 with ⟨rfl, h0⟩ | ⟨g, cap, cur, rfl, hb, hg, hn, hm, _⟩
  · have hk : keys = [] := List.eq_nil_of_length_eq_zero h0
    subst hk
    exact (Tryd.slices_Clone_string_nil 0 0 w).mono fun e w' hh => ⟨_, hh.1, by rw [hh.2]; exact World.ownsRow_nil _ _ _ _, by rw [hh.2]; exact Below.refl _ _⟩
  · refine (Tryd.slices_Clone_string g 0 keys.length cap (keys.map bs) w (by simp) hbig (row_cells h rfl)).mono fun e w' hh => ?_
    obtain ⟨v', he, ho, _, hb⟩ := hh
    rw [List.take_of_length_le (by simp), List.map_map] at ho
    exact ⟨v', he, ho, hb⟩

/-- in reverse, in place -/
theorem reverse_q (w : World) (base : Nat) (vk : Value) (keys : List K) (h : w.ownsRow base 9 1 vk keys.length (kvs keys)) :
    Calls Tryd.prog 48 #[vk] w fun e w' => e = .returned (.tuple #[]) ∧ w'.ownsRow base 9 1 vk keys.length (kvs keys.reverse) ∧ w.grownBy w' vk.ownBlock := by
  rcases h.2 with ⟨rfl, h0⟩ | ⟨g, cap, cur, rfl, hb, hg, hn, hm, hcs, _⟩
  · have hk : keys = [] := List.eq_nil_of_length_eq_zero h0
    subst hk
    exact (Tryd.slices_Reverse_string_empty none 0 w).mono fun e w' hh => ⟨hh.1, by rw [hh.2]; exact World.ownsRow_nil _ _ _ _, by rw [hh.2]; exact ⟨rfl, rfl, rfl, Nat.le_refl _, fun _ _ _ => rfl⟩⟩
  · unfold maxLen at hm
    have h' : w.ownsRow 0 9 1 (.slice (some ⟨g, 0, none⟩) keys.length cap) keys.length (kvs keys) := own_base h (Nat.zero_le _)
    refine (Tryd.slices_Reverse_string_cells g 0 keys.length cap (fun i => bs (keys.getD i [])) w (by omega) (row_cellsX h' rfl) (fun j _ => h'.frozenAt _)).mono fun e w' hh => ?_
    obtain ⟨he, q, hw⟩ := hh
    rw [strs_is] at hw
    refine ⟨he, ?_, ?_⟩
    · rw [hw]
      have hw' := own_written h' (l := keys.reverse.map encStr) (by simp) q keys.length (Nat.le_refl _)
      have e1 : (keys.reverse.map encStr).take keys.length = kvs keys.reverse := by
        rw [List.take_of_length_le (by simp)]; rfl
      rw [e1] at hw'
      exact own_rebase hw' (fun g2 h2 => by simp [Value.ownBlock] at h2; omega)
    · rw [hw]
      have := setCells_grown g (keys.reverse.map encStr) 0 (w.drewN q)
      exact ⟨this.os, this.tape, this.output, this.size, this.block⟩

end Go.Proofs.YthcdfdkhmlkneaaDoor.arcS
