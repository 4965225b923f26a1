/- What a list's bytes say, in plain Lean: a number by its place, the bytes of a list. No program in sight. -/
import Derived.Test.YthaicpbdlhkkkaaGreatDoorEfP
import Derived.Test.YthaicpbdlhkkkaaGreatDoorOnes
namespace Go.Proofs.YthaicpbdlhkkkaaGreatDoor.ef
open Go.Proofs.YthaicpbdlhkkkaaGreatDoor.bit

/-- the number of bytes, the first one the highest -/
def val (l : List Nat) : Nat := l.foldl (fun a b => 256 * a + b) 0
theorem val_snoc (l : List Nat) (b : Nat) : val (l ++ [b]) = 256 * val l + b := by simp [val, List.foldl_append]
theorem val_num (l : List Nat) (hl : ∀ b ∈ l, b < 256) : val l = num (unpack l) := by
  induction h : l.length generalizing l with
  | zero => obtain rfl := List.eq_nil_of_length_eq_zero h; rfl
  | succ n ih =>
    have hne : l ≠ [] := by rintro rfl; simp at h
    obtain ⟨l', b, rfl⟩ : ∃ l' b, l = l' ++ [b] := ⟨l.dropLast, l.getLast hne, (List.dropLast_concat_getLast hne).symm⟩
    have hb := hl b (by simp)
    rw [val_snoc, ih l' (fun c hc => hl c (by simp [hc])) (by simpa using h), unpack_append, num_append]
    have e : unpack [b] = ofN 8 b := by simp [unpack]
    rw [e, ofN_length, num_ofN, Nat.mod_eq_of_lt (by simpa using hb)]
    omega

theorem num_take (l : Bits) (m : Nat) (h : m ≤ l.length) : num (l.take m) = num l / 2 ^ (l.length - m) := by
  conv => rhs; rw [← List.take_append_drop m l]
  have hlt := num_lt (l.drop m)
  rw [List.length_drop] at hlt
  rw [num_append, List.length_append, List.length_drop, List.length_take]
  rw [show min m l.length + (l.length - m) - m = l.length - m by omega]
  rw [Nat.mul_comm, Nat.mul_add_div (Nat.pow_pos (by decide)), Nat.div_eq_of_lt hlt, Nat.add_zero]
theorem num_drop (l : Bits) (m : Nat) (h : m ≤ l.length) : num (l.drop m) = num l % 2 ^ (l.length - m) := by
  conv => rhs; rw [← List.take_append_drop m l]
  have hlt := num_lt (l.drop m)
  rw [List.length_drop] at hlt
  rw [num_append, List.length_append, List.length_drop, List.length_take]
  rw [show min m l.length + (l.length - m) - m = l.length - m by omega]
  rw [Nat.mul_comm, Nat.mul_add_mod, Nat.mod_eq_of_lt hlt]
theorem num_pad (l : Bits) (n : Nat) : num (l ++ List.replicate n false) = num l * 2 ^ n := by
  have h0 : num (List.replicate n false) = 0 := by
    have := num_zeros n []
    rwa [List.append_nil] at this
  rw [num_append, List.length_replicate, h0, Nat.add_zero]
theorem unpack_drop (l : List Nat) (k : Nat) : unpack (l.drop k) = (unpack l).drop (8 * k) := by
  induction k generalizing l with
  | zero => rfl
  | succ k ih =>
    cases l with
    | nil => simp [unpack]
    | cons b r =>
      have h8 : (ofN 8 b).drop (8 * (k + 1)) = [] := List.drop_eq_nil_of_le (by rw [ofN_length]; omega)
      rw [List.drop_succ_cons, ih, unpack_cons, List.drop_append, ofN_length, h8, List.nil_append]
      congr 1
theorem unpack_take (l : List Nat) (k : Nat) : unpack (l.take k) = (unpack l).take (8 * k) := by
  induction k generalizing l with
  | zero => simp [unpack]
  | succ k ih =>
    cases l with
    | nil => simp [unpack]
    | cons b r =>
      have h8 : (ofN 8 b).take (8 * (k + 1)) = ofN 8 b := List.take_of_length_le (by rw [ofN_length]; omega)
      rw [List.take_succ_cons, unpack_cons, ih, unpack_cons, List.take_append, ofN_length, h8]
      congr 2

/-! ### 64 bits from the byte on in which a place lies, those ahead of the place and behind the end 0 -/
def wrd (H : Bits) (k : Nat) : Bits :=
  List.replicate (k % 8) false ++ (H.drop k).take (64 - k % 8) ++ List.replicate (64 - k % 8 - ((H.drop k).take (64 - k % 8)).length) false
theorem wrd_length (H : Bits) (k : Nat) : (wrd H k).length = 64 := by
  have h1 : ((H.drop k).take (64 - k % 8)).length ≤ 64 - k % 8 := by rw [List.length_take]; omega
  unfold wrd
  rw [List.length_append, List.length_append, List.length_replicate, List.length_replicate]
  omega
theorem wrd_cnt (H : Bits) (k : Nat) : cnt (wrd H k) = cnt ((H.drop k).take (64 - k % 8)) := by
  unfold wrd
  rw [cnt_append, cnt_append, cnt_zeros, cnt_zeros]
  omega
/-- the word, as it is made -/
theorem wrd_num (L : List Nat) (hb at_ : Nat) (hL : ∀ b ∈ L, b < 256) (hlt : at_ < hb) (hlen : L.length = (hb + 7) / 8) (nb : Nat) (hnb : nb = min 8 ((hb + 7) / 8 - at_ / 8)) :
    let w1 := val ((L.drop (at_ / 8)).take nb) * 2 ^ (64 - 8 * nb) % 2 ^ (64 - at_ % 8)
    (8 * (at_ / 8) + 64 ≤ hb → w1 = num (wrd ((unpack L).take hb) at_)) ∧
    (hb < 8 * (at_ / 8) + 64 → w1 / 2 ^ (8 * (at_ / 8) + 64 - hb) * 2 ^ (8 * (at_ / 8) + 64 - hb) = num (wrd ((unpack L).take hb) at_)) := by
  have hnb8 : nb ≤ 8 := by omega
  have hU : (unpack L).length = 8 * ((hb + 7) / 8) := by rw [unpack_length, hlen]
  obtain ⟨f, hf⟩ : ∃ f, at_ / 8 = f := ⟨_, rfl⟩
  obtain ⟨k, hk⟩ : ∃ k, at_ % 8 = k := ⟨_, rfl⟩
  have hk8 : k < 8 := by omega
  have hat : at_ = 8 * f + k := by omega
  have hT : val ((L.drop f).take nb) = num (((unpack L).drop (8 * f)).take (8 * nb)) := by
    rw [val_num _ (fun b hb => hL b (List.mem_of_mem_drop (List.mem_of_mem_take hb))), unpack_take, unpack_drop]
  obtain ⟨Y, hY⟩ : ∃ Y, ((unpack L).drop (8 * f)).take (8 * nb) ++ List.replicate (64 - 8 * nb) false = Y := ⟨_, rfl⟩
  have hTl : (((unpack L).drop (8 * f)).take (8 * nb)).length = 8 * nb := by rw [List.length_take, List.length_drop, hU]; omega
  have hYl : Y.length = 64 := by rw [← hY, List.length_append, hTl, List.length_replicate]; omega
  have e1 : val ((L.drop f).take nb) * 2 ^ (64 - 8 * nb) % 2 ^ (64 - k) = num (Y.drop k) := by
    rw [hT, ← num_pad, hY, num_drop _ _ (by omega), hYl]
  intro w1
  have hw1 : w1 = num (Y.drop k) := by
    show val ((L.drop (at_ / 8)).take nb) * 2 ^ (64 - 8 * nb) % 2 ^ (64 - at_ % 8) = _
    rw [hf, hk, e1]
  rw [hw1, hf]
  have hX : ∀ m, m ≤ hb - at_ → m ≤ 64 - k → (Y.drop k).take m = (((unpack L).take hb).drop at_).take m := by
    intro m h1 h2
    rw [← hY, List.drop_append_of_le_length (by omega), List.take_append_of_le_length (by rw [List.length_drop, hTl]; omega), List.drop_take, List.take_take, List.drop_drop, hat, List.drop_take, List.take_take]
    congr 1
    omega
  constructor
  · intro h
    unfold wrd
    rw [hk]
    have h1 := hX (64 - k) (by omega) (by omega)
    rw [List.take_of_length_le (by rw [List.length_drop, hYl]; omega)] at h1
    rw [← h1, List.length_drop, hYl, Nat.sub_self]
    simp only [List.replicate_zero, List.append_nil]
    rw [num_zeros]
  · intro h
    have h1 := hX (hb - at_) (by omega) (by omega)
    have e2 : (((unpack L).take hb).drop at_).length = hb - at_ := by rw [List.length_drop, List.length_take, hU]; omega
    rw [List.take_of_length_le (by omega : (((unpack L).take hb).drop at_).length ≤ hb - at_)] at h1
    unfold wrd
    rw [hk, List.take_of_length_le (by omega : (((unpack L).take hb).drop at_).length ≤ 64 - k), e2, List.append_assoc, num_zeros, num_pad, ← h1, num_take _ _ (by rw [List.length_drop, hYl]; omega), List.length_drop, hYl]
    have e3 : 64 - k - (hb - at_) = 8 * f + 64 - hb := by omega
    rw [e3]
/-- the word says where the bit is, if it lies within -/
theorem wrd_one (H : Bits) (k left : Nat) (h : left < cnt (wrd H k)) : ∃ r, one (wrd H k) 0 left = some r ∧ r < 64 ∧ one (H.drop k) k left = some (8 * (k / 8) + r) := by
  have hc := wrd_cnt H k
  obtain ⟨r, h1, _, h3⟩ := one_some (wrd H k) 0 left h
  rw [wrd_length] at h3
  refine ⟨r, h1, by omega, ?_⟩
  have e : one (wrd H k) 0 left = one ((H.drop k).take (64 - k % 8)) (k % 8) left := by
    unfold wrd
    rw [List.append_assoc, one_zeros, one_hit _ _ _ _ (by omega), Nat.zero_add]
  rw [h1] at e
  have e2 : one (H.drop k) k left = one ((H.drop k).take (64 - k % 8)) k left := by
    conv => lhs; rw [← List.take_append_drop (64 - k % 8) (H.drop k)]
    rw [one_hit _ _ _ _ (by omega)]
  have e3 := one_shift ((H.drop k).take (64 - k % 8)) (k % 8) (8 * (k / 8)) left
  rw [show k % 8 + 8 * (k / 8) = k by omega] at e3
  rw [e2, e3, ← e]
  simp
  omega
/-- else the search goes on behind it -/
theorem wrd_on (H : Bits) (k left : Nat) (h : cnt (wrd H k) ≤ left) : one (H.drop k) k left = one (H.drop (8 * (k / 8) + 64)) (8 * (k / 8) + 64) (left - cnt (wrd H k)) := by
  rw [wrd_cnt] at h ⊢
  conv => lhs; rw [← List.take_append_drop (64 - k % 8) (H.drop k)]
  rw [one_skip _ _ _ _ h, List.drop_drop]
  by_cases hl : 64 - k % 8 ≤ (H.drop k).length
  · rw [List.length_take, Nat.min_eq_left hl]
    congr 1
    · congr 1; omega
    · omega
  · rw [List.length_drop] at hl
    have d1 : H.drop (k + (64 - k % 8)) = [] := List.drop_eq_nil_of_le (by omega)
    have d2 : H.drop (8 * (k / 8) + 64) = [] := List.drop_eq_nil_of_le (by omega)
    rw [d1, d2, one, one]

/-! ### what bytes say -/
def nS (s : List Nat) : Nat := val (s.take 4)
def uS (s : List Nat) : Nat := val ((s.drop 4).take 8)
/-- bytes that may be opened -/
def opens (s : List Nat) : Prop := 12 ≤ s.length ∧ nS s ≤ 16777216 ∧ uS s ≤ 281474976710655 ∧ (nS s = 0 ↔ uS s = 0) ∧ sizeB (nS s) (uS s) = s.length
instance (s : List Nat) : Decidable (opens s) := by unfold opens; infer_instance
/-- the high bits, the low bits, a sample -/
def hiS (s : List Nat) : Bits := (unpack ((s.drop (12 + lowB (nS s) (uS s))).take (highB (nS s) (uS s)))).take (hib (nS s) (uS s))
def loS (s : List Nat) : Bits := unpack ((s.drop 12).take (lowB (nS s) (uS s)))
def saS (s : List Nat) (i : Nat) : Nat := val ((s.drop (12 + lowB (nS s) (uS s) + highB (nS s) (uS s) + 4 * (i / 64))).take 4)
/-- the number i, as the bytes tell it -/
def getS (s : List Nat) (i : Nat) : Option Nat :=
  match one ((hiS s).drop (saS s i)) (saS s i) (i % 64) with
  | none => none
  | some q => if q < i then none else
    if uS s ≤ (q - i) * 2 ^ wid (nS s) (uS s) + num (((loS s).drop (i * wid (nS s) (uS s))).take (wid (nS s) (uS s))) then none
    else some ((q - i) * 2 ^ wid (nS s) (uS s) + num (((loS s).drop (i * wid (nS s) (uS s))).take (wid (nS s) (uS s))))
theorem getS_lt {s : List Nat} {i v : Nat} (h : getS s i = some v) : v < uS s := by
  unfold getS at h
  split at h
  · cases h
  · split at h
    · cases h
    · split at h
      · cases h
      · injection h with h; omega

/-! ### the bytes of a list -/
def most : Nat := 281474976710654
def mayS (l : List Nat) : Prop := l.length ≤ 16777216 ∧ ∀ k, k < l.length → l.getD k 0 ≤ most ∧ (0 < k → l.getD (k - 1) 0 ≤ l.getD k 0)
def lo (wd : Nat) (l : List Nat) : Nat → Bits
  | 0 => []
  | k + 1 => if (lo wd l k).length + wd ≤ 134217728 then lo wd l k ++ ofN wd (l.getD k 0) else lo wd l k
def hi (wd : Nat) (l : List Nat) : Nat → Bits
  | 0 => []
  | k + 1 => hi wd l k ++ List.replicate (l.getD k 0 / 2 ^ wd + k - (hi wd l k).length) false ++ [true]
def sm (wd : Nat) (l : List Nat) : Nat → Bits
  | 0 => []
  | k + 1 => if k % 64 = 0 then sm wd l k ++ ofN 32 (l.getD k 0 / 2 ^ wd + k) else sm wd l k
def uL (l : List Nat) : Nat := if l.length = 0 then 0 else l.getD (l.length - 1) 0 + 1
def wL (l : List Nat) : Nat := wid l.length (uL l)
def build (l : List Nat) : List Nat := packN (ofN 32 l.length ++ ofN 64 (uL l)) ++ packN (lo (wL l) l l.length) ++ packN (hi (wL l) l l.length) ++ packN (sm (wL l) l l.length)
end Go.Proofs.YthaicpbdlhkkkaaGreatDoor.ef
