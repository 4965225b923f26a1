/- list: what ListFew rests on, plainly. -/
import Derived.Test.YtflnpcgnenhogaaDoorLsW
namespace Go.Proofs.YtflnpcgnenhogaaDoor.ls
open Go.RowKit Go.Proofs.YtflnpcgnenhogaaDoor.own Go.Proofs.YtflnpcgnenhogaaDoor.bit

theorem runs_in (l : List Nat) : ∀ (l' : List Nat) (n : Nat), (∀ v ∈ l', v ∈ l) → l'.foldl (fun q v => rst q (isIn l v)) ([], n) = ([], n + l'.length)
  | [], n, _ => rfl
  | v :: r, n, h => by
    have e : isIn l v = true := decide_eq_true (h v (List.mem_cons_self ..))
    have e2 : rst ([], n) (isIn l v) = ([], n + 1) := by rw [e]; rfl
    rw [List.foldl_cons, e2, runs_in l r (n + 1) (fun u hu => h u (List.mem_cons_of_mem _ hu)), List.length_cons]
    congr 1
    omega
theorem runs_same (l : List Nat) : runs l l = ([], l.length) := by
  have := runs_in l l 0 (fun _ h => h)
  rw [Nat.zero_add] at this
  exact this
theorem left_same (l : List Nat) : leftOf l l = [] := List.filter_eq_nil_iff.2 (fun v hv => by simp [isIn, hv])
theorem lay_same (x r : Nat) (l : List Nat) (p : Pr) (hs : l ≠ []) (hw : 0 < p.win) (hr : 0 < r) : lay x l l r p = cb .gam l.length ++ (cb .una r ++ cb .gam 0) := by
  unfold lay nums hdN tlN runN restN
  rw [if_neg hs, if_pos hw, if_neg hs, if_pos hr, left_same, if_pos rfl, runs_same]
  show bitsOf [(.gam, l.length), (.una, r), (.gam, 0)] = _
  rw [bitsOf_cons, bitsOf_cons, bitsOf_cons, bitsOf_nil, List.append_nil]
theorem lay_none (x r : Nat) (p : Pr) : lay x [] [] r p = cb .gam 0 := by
  unfold lay nums hdN tlN
  rw [if_pos rfl, if_pos rfl]
  show bitsOf [(.gam, 0)] = _
  rw [bitsOf_cons, bitsOf_nil, List.append_nil]
theorem few_head (x r : Nat) (l : List Nat) (hl : l.length ≤ 65536) (hr : 1 ≤ r ∧ r ≤ 16) (R : Bits) :
    ∃ r' a', hread 16 (lay x l l r ⟨16, 2, 3⟩ ++ R) 0 = some (l.length, r', a') ∧ (0 < l.length → (lay x l l r ⟨16, 2, 3⟩).length = a' + 1) := by
  by_cases hs : l = []
  · subst hs
    refine ⟨0, 0 + (cb .gam 0).length, ?_, fun h => by simp at h⟩
    rw [lay_none]
    unfold hread
    rw [List.drop_zero, rd_cb .gam trivial 0 (by decide), Option.bind_some, if_neg (by simp), if_pos (by simp)]
    rfl
  · have h0 : 0 < l.length := List.length_pos_iff.2 hs
    refine ⟨r, 0 + (cb .gam l.length).length + (cb .una r).length, ?_, fun _ => ?_⟩
    · rw [lay_same x r l _ hs (by decide) (by omega), List.append_assoc]
      unfold hread
      rw [List.drop_zero, rd_cb .gam trivial l.length (show l.length ≤ 281474976710654 by omega), Option.bind_some, if_pos ⟨h0, by decide⟩, Nat.zero_add, List.drop_left, List.append_assoc, rd_cb .una trivial r (show r ≤ 65535 by omega), Option.bind_some, if_pos ⟨hl, hr.2⟩]
    · rw [lay_same x r l _ hs (by decide) (by omega), List.length_append, List.length_append]
      have : (cb .gam 0).length = 1 := by rw [cb_gam]; rfl
      omega
theorem cons1_range : ∀ (m a : Nat), cons1 a (List.range' (a + 1) m) = m
  | 0, a => rfl
  | m + 1, a => by rw [List.range'_succ, cons1, if_pos rfl, cons1_range m (a + 1)]
theorem few_same (x x0 n : Nat) (hn : 2 ≤ n) : lay x (List.range' x0 n) [] 0 ⟨16, 2, 3⟩ = lay x (List.range' x0 n) [] 0 ⟨16, 2, 16⟩ := by
  obtain ⟨m, rfl⟩ : ∃ m, n = m + 1 := ⟨n - 1, by omega⟩
  have hl : leftOf (List.range' x0 (m + 1)) [] = List.range' x0 (m + 1) := List.filter_eq_self.2 (fun v _ => by simp [isIn])
  have hr : (rws 2 (List.range' x0 (m + 1))).2 = [] := by
    rw [List.range'_succ, rws_cons, cons1_range, if_pos ⟨by omega, by omega⟩]
    show (rws 2 ((List.range' (x0 + 1) m).drop m)).2 = []
    rw [List.drop_of_length_le (Nat.le_of_eq List.length_range'), rws_nil]
  unfold lay nums hdN tlN restN
  rw [hl]
  dsimp only
  rw [hr]
  rfl
theorem range_ris (x0 n : Nat) (h : x0 + n ≤ 65536) : Ris (List.range' x0 n) := by
  refine ⟨List.pairwise_lt_range' .., fun v hv => ?_⟩
  rw [List.mem_range'_1] at hv
  omega
end Go.Proofs.YtflnpcgnenhogaaDoor.ls
