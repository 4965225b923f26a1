/- More plain law of bits: a bit set in packed bytes; the high bits laid by places; the samples. No program in sight. -/
import Derived.Test.YthaicpbdlhkkkaaGreatDoorEfS
namespace Go.Proofs.YthaicpbdlhkkkaaGreatDoor.bit

theorem ofN_snoc (a k v : Nat) : ofN (a + 1) (v / 2 ^ k) = ofN a (v / 2 ^ (k + 1)) ++ [v / 2 ^ k % 2 == 1] := by
  rw [ofN_split a 1 (v / 2 ^ k), Nat.div_div_eq_div_mul, ← Nat.pow_add]
  simp [ofN]
theorem ofN_mod (n v : Nat) : ofN n (v % 2 ^ n) = ofN n v := by
  have h := ofN_num (ofN n v)
  rwa [ofN_length, num_ofN] at h
theorem unpack_snoc (l : List Nat) (b : Nat) : unpack (l ++ [b]) = unpack l ++ ofN 8 b := by
  rw [unpack_append]
  simp [unpack]
theorem num_snoc (l : Bits) (b : Bool) : num (l ++ [b]) = 2 * num l + (if b then 1 else 0) := by
  rw [num_append]
  cases b <;> simp [num] <;> omega

theorem or_add (p a y : Nat) (hy : y < 2 ^ p) : (2 ^ (p + 1) * a + y) ||| 2 ^ p = 2 ^ (p + 1) * a + y + 2 ^ p := by
  have h1 : 2 ^ (p + 1) * a + y = 2 ^ p * (2 * a) + y := by rw [Nat.pow_succ]; simp [Nat.mul_assoc]
  have h2 : 2 ^ p * (2 * a) + y + 2 ^ p = 2 ^ p * (2 * a + 1) + y := by rw [Nat.mul_add]; omega
  rw [h1, h2]
  apply Nat.eq_of_testBit_eq
  intro i
  rw [Nat.testBit_or, Nat.testBit_two_pow_mul_add _ hy, Nat.testBit_two_pow_mul_add _ hy, Nat.testBit_two_pow]
  by_cases h : i < p
  · have : ¬ p = i := by omega
    simp [h, this]
  · rw [if_neg h, if_neg h]
    by_cases e : p = i
    · subst e
      simp
    · obtain ⟨m, hm⟩ : ∃ m, i - p = m + 1 := ⟨i - p - 1, by omega⟩
      have e1 : (2 * a + 1) / 2 = a := by omega
      have e2 : (2 * a) / 2 = a := by omega
      rw [hm, Nat.testBit_succ, Nat.testBit_succ, e1, e2]
      simp [e]

theorem byteOf_set (p : Bits) (h8 : p.length ≤ 8) (i : Nat) (hi : i < p.length) (h : p[i] = false) : byteOf (p.set i true) = byteOf p ||| 2 ^ (7 - i) := by
  have e0 : p = p.take i ++ false :: p.drop (i + 1) := by
    conv => lhs; rw [← List.take_append_drop i p]
    rw [List.drop_eq_getElem_cons hi, h]
  obtain ⟨A, hA⟩ : ∃ A, p.take i = A := ⟨_, rfl⟩
  obtain ⟨B, hB⟩ : ∃ B, p.drop (i + 1) = B := ⟨_, rfl⟩
  have hAl : A.length = i := by rw [← hA, List.length_take]; omega
  have hBl : B.length = p.length - (i + 1) := by rw [← hB, List.length_drop]
  have e1 : p.set i true = A ++ true :: B := by
    rw [List.set_eq_take_append_cons_drop, if_pos hi, hA, hB]
  rw [hA, hB] at e0
  have hlen : (p.set i true).length = p.length := List.length_set
  unfold byteOf
  rw [hlen, e1]
  conv => rhs; rw [e0]
  have hl2 : (A ++ false :: B).length = p.length := by rw [← e0]
  rw [hl2, num_append, num_append, num, num, List.length_cons, List.length_cons]
  have hlt := num_lt B
  obtain ⟨d, hd⟩ : ∃ d, 8 - p.length = d := ⟨_, rfl⟩
  obtain ⟨b, hb⟩ : ∃ b, B.length = b := ⟨_, rfl⟩
  rw [hb] at hlt hBl ⊢
  rw [hd, show 7 - i = b + d by omega]
  have hy : num B * 2 ^ d < 2 ^ (b + d) := by
    rw [Nat.pow_add]
    exact Nat.mul_lt_mul_of_pos_right hlt (Nat.pow_pos (by decide))
  have e3 : (num A * 2 ^ (b + 1) + ((if false = true then 2 ^ b else 0) + num B)) * 2 ^ d = 2 ^ (b + d + 1) * num A + num B * 2 ^ d := by
    rw [Nat.add_mul]
    simp only [Bool.false_eq_true, if_false, Nat.zero_add]
    rw [Nat.mul_assoc, ← Nat.pow_add, show b + 1 + d = b + d + 1 by omega, Nat.mul_comm]
  have e4 : (num A * 2 ^ (b + 1) + ((if true = true then 2 ^ b else 0) + num B)) * 2 ^ d = 2 ^ (b + d + 1) * num A + num B * 2 ^ d + 2 ^ (b + d) := by
    simp only [if_true]
    rw [Nat.add_mul, Nat.add_mul, Nat.mul_assoc, ← Nat.pow_add, show b + 1 + d = b + d + 1 by omega, Nat.mul_comm (num A), ← Nat.pow_add]
    omega
  rw [e3, e4, or_add _ _ _ hy]

theorem packN_set : ∀ (n : Nat) (l : Bits) (i : Nat), l.length ≤ n → (hi : i < l.length) → l[i] = false → packN (l.set i true) = (packN l).set (i / 8) ((packN l).getD (i / 8) 0 ||| 2 ^ (7 - i % 8))
  | 0, l, i, h0, hi, _ => by omega
  | n + 1, l, i, hn, hi, h => by
    have hne : l ≠ [] := by rintro rfl; simp at hi
    have hne2 : l.set i true ≠ [] := by intro e; have := congrArg List.length e; rw [List.length_set] at this; simp at this; exact hne this
    rw [packN_cons hne, packN_cons hne2]
    by_cases h8 : i < 8
    · rw [show i / 8 = 0 by omega, show i % 8 = i by omega, List.set_cons_zero, List.getD_cons_zero]
      have e1 : (l.set i true).take 8 = (l.take 8).set i true := by rw [List.take_set]
      have e2 : (l.set i true).drop 8 = l.drop 8 := by rw [List.drop_set, if_pos h8]
      have hl8 : i < (l.take 8).length := by rw [List.length_take]; omega
      rw [e1, e2, byteOf_set _ (by rw [List.length_take]; omega) i hl8 (by rw [List.getElem_take]; exact h)]
    · obtain ⟨j, rfl⟩ : ∃ j, i = j + 8 := ⟨i - 8, by omega⟩
      have e1 : (l.set (j + 8) true).take 8 = l.take 8 := by rw [List.take_set, List.set_eq_of_length_le (by rw [List.length_take]; omega)]
      have e2 : (l.set (j + 8) true).drop 8 = (l.drop 8).set j true := by rw [List.drop_set, if_neg h8]; congr 1
      have ih := packN_set n (l.drop 8) j (by rw [List.length_drop]; omega) (by rw [List.length_drop]; omega) (by rw [List.getElem_drop]; simp only [Nat.add_comm 8 j]; exact h)
      rw [e1, e2, ih, show (j + 8) / 8 = j / 8 + 1 by omega, show (j + 8) % 8 = j % 8 by omega, List.set_cons_succ, List.getD_cons_succ]

theorem packN_zeros : ∀ (n : Nat), packN (List.replicate n false) = List.replicate ((n + 7) / 8) 0 := by
  have num0 : ∀ m, num (List.replicate m false) = 0 := fun m => by
    have h := num_zeros m []
    rwa [List.append_nil] at h
  intro n
  induction n using Nat.strongRecOn with
  | _ n ih =>
    by_cases h : n = 0
    · subst h; simp [packN_nil]
    · have hne : List.replicate n false ≠ [] := by intro e; have := congrArg List.length e; simp at this; exact h this
      rw [packN_cons hne, List.drop_replicate, ih (n - 8) (by omega), List.take_replicate]
      unfold byteOf
      rw [num0, Nat.zero_mul]
      rw [show (n + 7) / 8 = (n - 8 + 7) / 8 + 1 by omega, List.replicate_succ]

/-- what stands in the bytes after so many bits: the others are 0 yet -/
def part (l : Bits) (k : Nat) : Bits := l.take k ++ List.replicate (l.length - k) false
theorem part_length (l : Bits) (k : Nat) (h : k ≤ l.length) : (part l k).length = l.length := by
  unfold part
  rw [List.length_append, List.length_take, List.length_replicate]
  omega
theorem part_step (l : Bits) (k : Nat) (h : k < l.length) : part l (k + 1) = if l[k] then (part l k).set k true else part l k := by
  have hr : List.replicate (l.length - k) false = false :: List.replicate (l.length - (k + 1)) false := by
    rw [← List.replicate_succ]; congr 1; omega
  have hk : (l.take k).length = k := by rw [List.length_take]; omega
  unfold part
  rw [hr, List.take_succ_eq_append_getElem h]
  cases hb : l[k]
  · simp
  · simp only [if_true]
    rw [List.set_append_right _ _ (by omega), hk, Nat.sub_self, List.set_cons_zero]
    simp
theorem part_get (l : Bits) (k : Nat) (h : k < l.length) (h' : k < (part l k).length) : (part l k)[k] = false := by
  have hk : (l.take k).length = k := by rw [List.length_take]; omega
  have e : ∀ (m : Bits) (hm : k < m.length), m = l.take k ++ List.replicate (l.length - k) false → m[k] = false := by
    intro m hm em
    subst em
    rw [List.getElem_append_right (by omega)]
    simp
  exact e _ h' rfl
theorem part_zero (l : Bits) : packN (part l 0) = List.replicate ((l.length + 7) / 8) 0 := by
  unfold part
  rw [List.take_zero, List.nil_append, Nat.sub_zero, packN_zeros]
theorem part_all (l : Bits) : part l l.length = l := by
  unfold part
  rw [List.take_length, Nat.sub_self]
  simp
end Go.Proofs.YthaicpbdlhkkkaaGreatDoor.bit

namespace Go.Proofs.YthaicpbdlhkkkaaGreatDoor.ef
open Go.Proofs.YthaicpbdlhkkkaaGreatDoor.bit
/-! ### the high bits, laid by places -/
theorem may_le {l : List Nat} (h : mayS l) : ∀ k j, j ≤ k → k < l.length → l.getD j 0 ≤ l.getD k 0 := by
  intro k
  induction k with
  | zero => intro j hj _; rw [show j = 0 by omega]; exact Nat.le_refl _
  | succ k ih =>
    intro j hj hk
    by_cases e : j = k + 1
    · subst e; exact Nat.le_refl _
    · exact Nat.le_trans (ih j (by omega) (by omega)) ((h.2 (k + 1) hk).2 (by omega))
theorem hi_length {l : List Nat} (h : mayS l) (wd : Nat) : ∀ k, k < l.length → (hi wd l (k + 1)).length = l.getD k 0 / 2 ^ wd + k + 1 := by
  intro k
  induction k with
  | zero =>
    intro _
    rw [hi, hi]
    simp
  | succ k ih =>
    intro hk
    rw [hi, List.length_append, List.length_append, List.length_replicate, ih (by omega), List.length_singleton]
    have := Nat.div_le_div_right (c := 2 ^ wd) (may_le h (k + 1) k (by omega) hk)
    omega
theorem hi_le {l : List Nat} (h : mayS l) (wd : Nat) (k : Nat) (hk : k < l.length) : (hi wd l k).length ≤ l.getD k 0 / 2 ^ wd + k := by
  cases k with
  | zero => rw [hi]; simp
  | succ k =>
    rw [hi_length h wd k (by omega)]
    have := Nat.div_le_div_right (c := 2 ^ wd) (may_le h (k + 1) k (by omega) hk)
    omega
theorem uL_get {l : List Nat} (h : 0 < l.length) : uL l = l.getD (l.length - 1) 0 + 1 := by
  unfold uL
  rw [if_neg (by omega)]
theorem hib_uL {l : List Nat} (h : 0 < l.length) : hib l.length (uL l) = l.getD (l.length - 1) 0 / 2 ^ wL l + l.length := by
  unfold hib
  rw [if_neg (by omega), uL_get h]
  show (l.getD (l.length - 1) 0 + 1 - 1) / 2 ^ wid l.length (l.getD (l.length - 1) 0 + 1) + l.length = _
  unfold wL
  rw [uL_get h]
  simp
theorem place_lt {l : List Nat} (h : mayS l) (k : Nat) (hk : k < l.length) : l.getD k 0 / 2 ^ wL l + k < hib l.length (uL l) := by
  rw [hib_uL (by omega)]
  have := Nat.div_le_div_right (c := 2 ^ wL l) (may_le h (l.length - 1) k (by omega) (by omega))
  omega
def hrow (l : List Nat) (k : Nat) : Bits := hi (wL l) l k ++ List.replicate (hib l.length (uL l) - (hi (wL l) l k).length) false
theorem hrow_length {l : List Nat} (h : mayS l) (k : Nat) (hk : k ≤ l.length) : (hrow l k).length = hib l.length (uL l) := by
  unfold hrow
  rw [List.length_append, List.length_replicate]
  cases k with
  | zero => rw [hi]; simp
  | succ k =>
    rw [hi_length h _ k (by omega)]
    have := place_lt h k (by omega)
    omega
theorem hrow_zero (l : List Nat) : hrow l 0 = List.replicate (hib l.length (uL l)) false := by
  unfold hrow
  rw [hi]
  simp
theorem hrow_step {l : List Nat} (h : mayS l) (k : Nat) (hk : k < l.length) : (hrow l k).set (l.getD k 0 / 2 ^ wL l + k) true = hrow l (k + 1) := by
  have h1 := hi_le h (wL l) k hk
  have h2 := place_lt h k hk
  have h3 := hi_length h (wL l) k hk
  obtain ⟨p, hp⟩ : ∃ p, l.getD k 0 / 2 ^ wL l + k = p := ⟨_, rfl⟩
  unfold hrow
  rw [h3]
  rw [hp] at h1 h2 ⊢
  rw [hi, hp]
  obtain ⟨d, hd⟩ : ∃ d, p - (hi (wL l) l k).length = d := ⟨_, rfl⟩
  obtain ⟨m, hm⟩ : ∃ m, hib l.length (uL l) - (p + 1) = m := ⟨_, rfl⟩
  have e : hib l.length (uL l) - (hi (wL l) l k).length = d + (m + 1) := by omega
  rw [e, hd, hm, List.set_append_right _ _ (by omega), hd, ← List.replicate_append_replicate, List.set_append_right _ _ (by simp), List.length_replicate, Nat.sub_self, List.replicate_succ, List.set_cons_zero]
  simp
theorem hrow_all {l : List Nat} (h : mayS l) : hrow l l.length = hi (wL l) l l.length := by
  unfold hrow
  cases hl : l.length with
  | zero => simp [hi, hib]
  | succ k =>
    have h1 := hi_length h (wL l) k (by omega)
    have h2 := hib_uL (l := l) (by omega)
    rw [hl] at h2
    rw [h1, h2, show l.getD (k + 1 - 1) 0 = l.getD k 0 from rfl]
    rw [show l.getD k 0 / 2 ^ wL l + (k + 1) - (l.getD k 0 / 2 ^ wL l + k + 1) = 0 by omega]
    simp
theorem sm_length (wd : Nat) (l : List Nat) (k : Nat) : (sm wd l k).length = 8 * (4 * ((k + 63) / 64)) := by
  induction k with
  | zero => rfl
  | succ k ih =>
    rw [sm]
    split
    · rw [List.length_append, ofN_length, ih]; omega
    · rw [ih]; omega
theorem sm_pack (wd : Nat) (l : List Nat) (k : Nat) (h : k % 64 = 0) : packN (sm wd l (k + 1)) = packN (sm wd l k) ++ packN (ofN 32 (l.getD k 0 / 2 ^ wd + k)) := by
  rw [sm, if_pos h]
  exact packN_append _ _ _ (sm_length wd l k)
theorem sm_stay (wd : Nat) (l : List Nat) (k : Nat) (h : ¬ k % 64 = 0) : sm wd l (k + 1) = sm wd l k := by rw [sm, if_neg h]
theorem lo_le (wd : Nat) (l : List Nat) (k : Nat) : (lo wd l k).length ≤ 134217728 := by
  induction k with
  | zero => rw [lo]; simp
  | succ k ih =>
    rw [lo]
    split
    · rw [List.length_append, ofN_length]; omega
    · exact ih
theorem lo_le2 (wd : Nat) (l : List Nat) (k : Nat) : (lo wd l k).length ≤ k * wd := by
  induction k with
  | zero => rw [lo]; simp
  | succ k ih =>
    rw [lo, Nat.add_mul, Nat.one_mul]
    split
    · rw [List.length_append, ofN_length]; omega
    · omega
/-- a number's low bits -/
theorem low_sub (v wd : Nat) : v - v / 2 ^ wd * 2 ^ wd = v % 2 ^ wd := by
  have := Nat.div_add_mod v (2 ^ wd)
  rw [Nat.mul_comm] at this
  omega
end Go.Proofs.YthaicpbdlhkkkaaGreatDoor.ef
