/- list: two rising lists gone through at once, in plain Lean; Zig; a captured row; the closure that puts a number. -/
import Derived.Test.YtflnpcgnenhogaaDoorLsM
import Derived.Lib.Zigzag
namespace Go.Proofs.YtflnpcgnenhogaaDoor.ls
open Go.RowKit Go.Proofs.YtflnpcgnenhogaaDoor.own Go.Proofs.YtflnpcgnenhogaaDoor.bit

/-! ### two lists at once -/
def meetF (s : List Nat × (List Nat × Nat)) (v : Nat) (own other : Bool) : List Nat × (List Nat × Nat) := if other then (s.1, rst s.2 own) else (s.1 ++ [v], s.2)
def eachF : List Nat → List Nat → List Nat × (List Nat × Nat) → List Nat × (List Nat × Nat)
  | [], [], s => s
  | a :: r, [], s => eachF r [] (meetF s a true false)
  | [], b :: t, s => eachF [] t (meetF s b false true)
  | a :: r, b :: t, s => if a < b then eachF r (b :: t) (meetF s a true false) else if b < a then eachF (a :: r) t (meetF s b false true) else eachF r t (meetF s a true true)
termination_by a b => a.length + b.length
theorem isIn_no {l : List Nat} {v : Nat} (h : v ∉ l) : isIn l v = false := by unfold isIn; exact decide_eq_false h
theorem isIn_cons {a : Nat} {r : List Nat} {v : Nat} (h : v ≠ a) : isIn (a :: r) v = isIn r v := by unfold isIn; exact decide_eq_decide.2 ⟨fun h1 => by rcases List.mem_cons.1 h1 with h2 | h2; exact absurd h2 h; exact h2, fun h1 => List.mem_cons_of_mem _ h1⟩
theorem foldl_same {f g : Nat → Bool} : ∀ (l : List Nat) (q : List Nat × Nat), (∀ v ∈ l, f v = g v) → l.foldl (fun q v => rst q (f v)) q = l.foldl (fun q v => rst q (g v)) q
  | [], _, _ => rfl
  | v :: l, q, h => by
    simp only [List.foldl_cons]
    rw [h v (List.mem_cons_self ..), foldl_same l _ (fun u hu => h u (List.mem_cons_of_mem _ hu))]
theorem leftOf_nil (a : List Nat) : leftOf a [] = a := by
  unfold leftOf
  rw [List.filter_eq_self]
  intro v _
  simp [isIn]
theorem leftOf_cons (a : Nat) (r b : List Nat) : leftOf (a :: r) b = if isIn b a then leftOf r b else a :: leftOf r b := by
  unfold leftOf
  rw [List.filter_cons]
  cases isIn b a <;> rfl
theorem filter_same {f g : Nat → Bool} {l : List Nat} (h : ∀ v ∈ l, f v = g v) : l.filter f = l.filter g := List.filter_congr h
theorem eachF_eq (a b : List Nat) (s : List Nat × (List Nat × Nat)) (ha : a.Pairwise (· < ·)) (hb : b.Pairwise (· < ·)) : eachF a b s = (s.1 ++ leftOf a b, b.foldl (fun q v => rst q (isIn a v)) s.2) := by
  induction hn : a.length + b.length using Nat.strongRecOn generalizing a b s with
  | ind n ih =>
    match a, b, ha, hb, hn with
    | [], [], _, _, _ => rw [eachF]; simp [leftOf]
    | a :: r, [], ha, hb, hn =>
      obtain ⟨p1, p2⟩ := List.pairwise_cons.1 ha
      rw [eachF, ih (r.length + ([] : List Nat).length) (by simp at hn ⊢; omega) r [] _ p2 hb rfl, leftOf_nil, leftOf_nil]
      simp [meetF]
    | [], b :: t, ha, hb, hn =>
      obtain ⟨p1, p2⟩ := List.pairwise_cons.1 hb
      rw [eachF, ih (([] : List Nat).length + t.length) (by simp at hn ⊢; omega) [] t _ ha p2 rfl]
      simp only [meetF, if_true, List.foldl_cons]
      rw [isIn_no (by simp : b ∉ ([] : List Nat))]
      rfl
    | a :: r, b :: t, ha, hb, hn =>
      obtain ⟨p1, p2⟩ := List.pairwise_cons.1 ha
      obtain ⟨p3, p4⟩ := List.pairwise_cons.1 hb
      simp only [List.length_cons] at hn
      rw [eachF]
      by_cases h1 : a < b
      · rw [if_pos h1, ih (r.length + (b :: t).length) (by simp; omega) r (b :: t) _ p2 hb rfl]
        have e1 : isIn (b :: t) a = false := isIn_no (fun h => by
          rcases List.mem_cons.1 h with h | h
          · omega
          · have := p3 a h; omega)
        rw [leftOf_cons a r, e1]
        have e2 : (b :: t).foldl (fun q v => rst q (isIn r v)) s.2 = (b :: t).foldl (fun q v => rst q (isIn (a :: r) v)) s.2 := foldl_same _ _ (fun v hv => by
          refine (isIn_cons ?_).symm
          rcases List.mem_cons.1 hv with h | h
          · omega
          · have := p3 v h; omega)
        simp only [meetF, Bool.false_eq_true, if_false]
        rw [e2, List.append_assoc]
        rfl
      · rw [if_neg h1]
        by_cases h2 : b < a
        · rw [if_pos h2, ih ((a :: r).length + t.length) (by simp; omega) (a :: r) t _ ha p4 rfl]
          have e1 : isIn (a :: r) b = false := isIn_no (fun h => by
            rcases List.mem_cons.1 h with h | h
            · omega
            · have := p1 b h; omega)
          have e2 : leftOf (a :: r) (b :: t) = leftOf (a :: r) t := filter_same (fun v hv => by
            rw [isIn_cons]
            rcases List.mem_cons.1 hv with h | h
            · omega
            · have := p1 v h; omega)
          simp only [meetF, if_true, List.foldl_cons]
          rw [e1, e2]
        · obtain rfl : a = b := by omega
          rw [if_neg h2, ih (r.length + t.length) (by omega) r t _ p2 p4 rfl]
          have e1 : isIn (a :: r) a = true := isIn_mem.2 (List.mem_cons_self ..)
          have e2 : leftOf (a :: r) (a :: t) = leftOf r t := by
            rw [leftOf_cons, isIn_mem.2 (List.mem_cons_self ..), if_pos rfl]
            exact filter_same (fun v hv => by
              rw [isIn_cons]
              have := p1 v hv; omega)
          have e3 : t.foldl (fun q v => rst q (isIn r v)) (rst s.2 true) = t.foldl (fun q v => rst q (isIn (a :: r) v)) (rst s.2 true) := foldl_same _ _ (fun v hv => by
            refine (isIn_cons ?_).symm
            have := p3 v hv; omega)
          simp only [meetF, if_true, List.foldl_cons]
          rw [e1, e2, e3]
theorem eachF_runs {succ ref : List Nat} (h1 : Ris succ) (h2 : Ris ref) : eachF succ ref ([], ([], 0)) = (leftOf succ ref, runs succ ref) := by
  rw [eachF_eq _ _ _ h1.1 h2.1]
  rfl

/-! ### Zig -/
theorem zig_bits (z : Int) (h1 : -4611686018427387904 ≤ z) (h2 : z ≤ 4611686018427387903) : bits .xor .u64 (IntKind.u64.wrap (IntKind.u64.wrap z * 2)) (IntKind.u64.wrap (z / 9223372036854775808)) = ((zig z : Nat) : Int) := by
  unfold zig
  by_cases h0 : 0 ≤ z
  · rw [if_pos h0]
    have e1 : IntKind.u64.wrap (IntKind.u64.wrap z * 2) = (((2 * z).toNat : Nat) : Int) := by rw [IntKind.wrap_u64, IntKind.wrap_u64]; omega
    have e2 : IntKind.u64.wrap (z / 9223372036854775808) = ((0 : Nat) : Int) := by rw [IntKind.wrap_u64]; omega
    rw [e1, e2, bits_xor_u64_nat _ _ (by omega) (by decide), Nat.xor_zero]
  · rw [if_neg h0]
    obtain ⟨n, hn⟩ : ∃ n : Nat, z = -((n : Int) + 1) := ⟨(-(z + 1)).toNat, by omega⟩
    subst hn
    have e1 : IntKind.u64.wrap (IntKind.u64.wrap (-((n : Int) + 1)) * 2) = ((2 ^ 64 - 1 - (2 * n + 1) : Nat) : Int) := by rw [IntKind.wrap_u64, IntKind.wrap_u64, show (2 : Nat) ^ 64 = 18446744073709551616 from rfl]; omega
    have e2 : IntKind.u64.wrap (-((n : Int) + 1) / 9223372036854775808) = ((2 ^ 64 - 1 : Nat) : Int) := by rw [IntKind.wrap_u64, show (2 : Nat) ^ 64 = 18446744073709551616 from rfl]; omega
    have h64 : (2 : Nat) ^ 64 = 18446744073709551616 := rfl
    rw [e1, e2, bits_xor_u64_nat _ _ (by omega) (by omega), Nat.xor_comm, Lib.xor_ones64 _ (by omega)]
    omega
theorem Zig_any (z : Int) (h1 : -4611686018427387904 ≤ z) (h2 : z ≤ 4611686018427387903) (w : World) : Calls Tryd.prog 58 #[.int .i64 z] w fun e w' => e = .returned (.int .u64 ((zig z : Nat) : Int)) ∧ w = w' := by
  have ZB := Lib.hid (zig_bits z h1 h2)
  clear h1 h2
  have zb := ZB.out
  go_enter Tryd.func58, Tryd.ntmps58
  go_wp2_with fail
  go_ret
  exact ⟨rfl, rfl⟩
end Go.Proofs.YtflnpcgnenhogaaDoor.ls
