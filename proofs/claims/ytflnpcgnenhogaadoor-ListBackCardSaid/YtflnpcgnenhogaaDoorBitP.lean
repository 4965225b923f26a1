/- Bits and bytes, in plain Lean: the bits of a number, the number of bits, bits packed into bytes. No program in sight. -/
import Init
namespace Go.Proofs.YtflnpcgnenhogaaDoor.bit

abbrev Bits := List Bool

/-- the number that bits say, the first the greatest -/
def num : Bits → Nat
  | [] => 0
  | b :: r => (if b then 2 ^ r.length else 0) + num r
/-- so many bits of a number -/
def ofN : Nat → Nat → Bits
  | 0, _ => []
  | n + 1, v => (v / 2 ^ n % 2 == 1) :: ofN n v

theorem num_nil : num [] = 0 := rfl
theorem num_lt (l : Bits) : num l < 2 ^ l.length := by
  induction l with
  | nil => simp [num]
  | cons b r ih =>
    rw [num, List.length_cons, Nat.pow_succ]
    split <;> omega
theorem num_append (a b : Bits) : num (a ++ b) = num a * 2 ^ b.length + num b := by
  induction a with
  | nil => simp [num]
  | cons x r ih =>
    rw [List.cons_append, num, num, ih, List.length_append, Nat.pow_add, Nat.add_mul]
    split <;> simp [Nat.add_assoc]
theorem ofN_length (n v : Nat) : (ofN n v).length = n := by
  induction n with
  | zero => rfl
  | succ n ih => rw [ofN, List.length_cons, ih]
theorem num_ofN (n v : Nat) : num (ofN n v) = v % 2 ^ n := by
  induction n with
  | zero => simp [ofN, num, Nat.mod_one]
  | succ n ih =>
    rw [ofN, num, ih, ofN_length, Nat.pow_succ, Nat.mod_mul]
    rcases Nat.mod_two_eq_zero_or_one (v / 2 ^ n) with h | h <;> rw [h] <;> simp
    omega
theorem ofN_split (a b v : Nat) : ofN (a + b) v = ofN a (v / 2 ^ b) ++ ofN b v := by
  induction a with
  | zero => simp [ofN]
  | succ a ih =>
    rw [Nat.add_right_comm, ofN, ih, ofN, List.cons_append, Nat.div_div_eq_div_mul, ← Nat.pow_add, Nat.add_comm b a]
theorem ofN_num (l : Bits) : ofN l.length (num l) = l := by
  induction l with
  | nil => rfl
  | cons b r ih =>
    have hlt := num_lt r
    have hp : 0 < 2 ^ r.length := Nat.pow_pos (by decide)
    rw [List.length_cons, ofN]
    have e1 : num (b :: r) / 2 ^ r.length % 2 = if b then 1 else 0 := by
      rw [num]
      cases b
      · simp [Nat.div_eq_of_lt hlt]
      · simp only [if_true]
        rw [Nat.add_comm, Nat.add_div_right _ hp, Nat.div_eq_of_lt hlt]
    have e2 : ofN r.length (num (b :: r)) = r := by
      rw [← ih]
      have key : ∀ n u v, u % 2 ^ n = v % 2 ^ n → ofN n u = ofN n v := by
        intro n
        induction n with
        | zero => intros; rfl
        | succ n ih =>
          intro u v h
          rw [ofN, ofN]
          rw [Nat.pow_succ, Nat.mod_mul, Nat.mod_mul] at h
          have hu := Nat.mod_lt u (show 0 < 2 ^ n from Nat.pow_pos (by decide))
          have hv := Nat.mod_lt v (show 0 < 2 ^ n from Nat.pow_pos (by decide))
          have h1 : u % 2 ^ n = v % 2 ^ n := by
            have := congrArg (· % 2 ^ n) h
            simpa [Nat.add_mul_mod_self_left, Nat.mod_eq_of_lt hu, Nat.mod_eq_of_lt hv] using this
          have h2 : u / 2 ^ n % 2 = v / 2 ^ n % 2 := by
            rw [h1] at h
            exact Nat.eq_of_mul_eq_mul_left (show 0 < 2 ^ n from Nat.pow_pos (by decide)) (Nat.add_left_cancel h)
          rw [h2, ih u v h1]
      rw [ih]
      conv => rhs; rw [← ih]
      apply key
      rw [num]
      cases b
      · simp
      · simp
    rw [e1, e2]
    cases b <;> simp

/-- the byte of eight bits or fewer, the rest of it 0 -/
def byteOf (l : Bits) : Nat := num l * 2 ^ (8 - l.length)
/-- bits as bytes, the last filled with 0 -/
def packN (l : Bits) : List Nat := if _h : l = [] then [] else byteOf (l.take 8) :: packN (l.drop 8)
termination_by l.length
decreasing_by
  have : 0 < l.length := List.length_pos_iff.2 _h
  simp only [List.length_drop]
  omega

theorem packN_nil : packN [] = [] := by rw [packN]; simp
theorem packN_part {l : Bits} (h : 0 < l.length) (h8 : l.length ≤ 8) : packN l = [byteOf l] := by
  rw [packN, dif_neg (by rintro rfl; simp at h), List.take_of_length_le h8, List.drop_eq_nil_of_le h8, packN_nil]
theorem packN_cons {l : Bits} (h : l ≠ []) : packN l = byteOf (l.take 8) :: packN (l.drop 8) := by rw [packN, dif_neg h]
theorem packN_append (q : Nat) : ∀ (a b : Bits), a.length = 8 * q → packN (a ++ b) = packN a ++ packN b := by
  induction q with
  | zero => intro a b h; obtain rfl := List.eq_nil_of_length_eq_zero (by simpa using h : a.length = 0); rw [packN_nil]; rfl
  | succ q ih =>
    intro a b h
    have hne : a ≠ [] := by rintro rfl; simp at h
    rw [packN_cons (l := a ++ b) (by simp [hne]), packN_cons hne, List.take_append_of_le_length (by omega), List.drop_append_of_le_length (by omega), ih _ _ (by rw [List.length_drop]; omega)]
    rfl
theorem packN_length (l : Bits) : (packN l).length = (l.length + 7) / 8 := by
  induction h : l.length using Nat.strongRecOn generalizing l with
  | ind n ih =>
    rw [packN]
    split
    · rename_i h0; subst h0; simp at h; subst h; rfl
    · rename_i h0
      have : 0 < l.length := List.length_pos_iff.2 h0
      rw [List.length_cons, ih (l.drop 8).length (by rw [List.length_drop]; omega) _ rfl, List.length_drop]
      omega
theorem byteOf_lt {l : Bits} (h : l.length ≤ 8) : byteOf l < 256 := by
  have h1 := num_lt l
  unfold byteOf
  calc num l * 2 ^ (8 - l.length) < 2 ^ l.length * 2 ^ (8 - l.length) := Nat.mul_lt_mul_of_pos_right h1 (Nat.pow_pos (by decide))
    _ = 256 := by rw [← Nat.pow_add, Nat.add_sub_cancel' h]
theorem packN_lt (l : Bits) : ∀ x ∈ packN l, x < 256 := by
  induction h : l.length using Nat.strongRecOn generalizing l with
  | ind n ih =>
    intro x hx
    rw [packN] at hx
    split at hx
    · cases hx
    · rename_i h0
      have : 0 < l.length := List.length_pos_iff.2 h0
      rcases List.mem_cons.1 hx with rfl | hx
      · exact byteOf_lt (by rw [List.length_take]; omega)
      · exact ih (l.drop 8).length (by rw [List.length_drop]; omega) _ rfl x hx

/-- more bits within a byte: the new ones are laid into the room -/
theorem byteOf_more (p x : Bits) (h : p.length + x.length ≤ 8) : byteOf (p ++ x) = byteOf p ||| num x <<< (8 - p.length - x.length) := by
  have hx := num_lt x
  have e : byteOf (p ++ x) = byteOf p + num x * 2 ^ (8 - p.length - x.length) := by
    unfold byteOf
    rw [num_append, List.length_append, Nat.add_mul, Nat.mul_assoc, ← Nat.pow_add]
    congr 3 <;> omega
  rw [e, Nat.shiftLeft_eq]
  have hb : byteOf p = 2 ^ (8 - p.length) * num p := by unfold byteOf; rw [Nat.mul_comm]
  have hlt : num x * 2 ^ (8 - p.length - x.length) < 2 ^ (8 - p.length) := by
    calc num x * 2 ^ (8 - p.length - x.length) < 2 ^ x.length * 2 ^ (8 - p.length - x.length) := Nat.mul_lt_mul_of_pos_right hx (Nat.pow_pos (by decide))
      _ = 2 ^ (8 - p.length) := by rw [← Nat.pow_add]; congr 1; omega
  rw [hb]
  exact Nat.two_pow_add_eq_or_of_lt hlt _

/-- the bytes of bits, one more of 0 behind them if the last is whole -/
def padded (l : Bits) : List Nat := if l.length % 8 = 0 then packN l ++ [0] else packN l
theorem padded_step (l y : Bits) (hy : 0 < y.length) (h8 : y.length ≤ 8 - l.length % 8) :
    ∃ H b, padded l = H ++ [b] ∧ b < 256 ∧ packN (l ++ y) = H ++ [b ||| num y <<< (8 - l.length % 8 - y.length)] ∧ H.length = l.length / 8 := by
  have hsplit : l = l.take (8 * (l.length / 8)) ++ l.drop (8 * (l.length / 8)) := (List.take_append_drop _ _).symm
  have hF : (l.take (8 * (l.length / 8))).length = 8 * (l.length / 8) := by rw [List.length_take]; omega
  have hp : (l.drop (8 * (l.length / 8))).length = l.length % 8 := by rw [List.length_drop]; omega
  obtain ⟨F, hFe⟩ : ∃ F, l.take (8 * (l.length / 8)) = F := ⟨_, rfl⟩
  obtain ⟨p, hpe⟩ : ∃ p, l.drop (8 * (l.length / 8)) = p := ⟨_, rfl⟩
  rw [hFe, hpe] at hsplit
  rw [hFe] at hF
  rw [hpe] at hp
  obtain ⟨q, hq⟩ : ∃ q, l.length / 8 = q := ⟨_, rfl⟩
  rw [hq] at hF
  have hFl : (packN F).length = q := by rw [packN_length, hF]; omega
  by_cases h0 : l.length % 8 = 0
  · have hp0 : p = [] := List.eq_nil_of_length_eq_zero (by omega)
    subst hp0
    rw [List.append_nil] at hsplit
    subst hsplit
    refine ⟨packN l, 0, by unfold padded; rw [if_pos h0], by omega, ?_, by rw [hFl]; exact hq.symm⟩
    rw [packN_append q l y hF, packN_part hy (by omega), h0]
    have := byteOf_more [] y (by simpa using (by omega : y.length ≤ 8))
    rw [List.nil_append] at this
    rw [this]
    simp [byteOf, num]
  · refine ⟨packN F, byteOf p, ?_, byteOf_lt (by omega), ?_, by rw [hFl]; exact hq.symm⟩
    · unfold padded
      rw [if_neg h0]
      conv => lhs; rw [hsplit]
      rw [packN_append q F p hF, packN_part (l := p) (by omega) (by omega)]
    · conv => lhs; rw [hsplit]
      rw [List.append_assoc, packN_append q F (p ++ y) hF, packN_part (l := p ++ y) (by rw [List.length_append]; omega) (by rw [List.length_append]; omega), byteOf_more p y (by omega), hp]
/-- so many bits out of the midst of a number -/
theorem ofN_more (a t v m : Nat) (ht : t ≤ m) : ofN a (v / 2 ^ m) ++ ofN t (v / 2 ^ (m - t)) = ofN (a + t) (v / 2 ^ (m - t)) := by
  rw [ofN_split, Nat.div_div_eq_div_mul, ← Nat.pow_add, Nat.sub_add_cancel ht]

/-! ### the bits of bytes -/
def unpack (l : List Nat) : Bits := l.flatMap (ofN 8)
theorem unpack_cons (b : Nat) (r : List Nat) : unpack (b :: r) = ofN 8 b ++ unpack r := rfl
theorem unpack_append (a b : List Nat) : unpack (a ++ b) = unpack a ++ unpack b := List.flatMap_append ..
theorem unpack_length (l : List Nat) : (unpack l).length = 8 * l.length := by
  induction l with
  | nil => rfl
  | cons b r ih => rw [unpack_cons, List.length_append, ih, ofN_length, List.length_cons]; omega
/-- bits within one byte -/
theorem unpack_within (l : List Nat) (a t : Nat) (ha : a / 8 < l.length) (ht : t ≤ 8 - a % 8) :
    ((unpack l).drop a).take t = ofN t (l[a / 8] / 2 ^ (8 - a % 8 - t)) := by
  obtain ⟨q, hq⟩ : ∃ q, a / 8 = q := ⟨_, rfl⟩
  obtain ⟨r, hr⟩ : ∃ r, a % 8 = r := ⟨_, rfl⟩
  have hlt : q < l.length := by omega
  have hs : l = l.take q ++ l[q] :: l.drop (q + 1) := by rw [← List.drop_eq_getElem_cons hlt, List.take_append_drop]
  have hP : (unpack (l.take q)).length = 8 * q := by rw [unpack_length, List.length_take]; omega
  have e : (unpack l).drop a = (ofN 8 l[q] ++ unpack (l.drop (q + 1))).drop r := by
    conv => lhs; rw [hs]
    rw [unpack_append, unpack_cons, List.drop_append, hP, List.drop_eq_nil_of_le (by omega), List.nil_append]
    congr 1
    omega
  subst hq
  rw [hr] at ht ⊢
  rw [e]
  have h8 : ofN 8 l[a / 8] = ofN r (l[a / 8] / 2 ^ (8 - r)) ++ ofN (8 - r) l[a / 8] := by
    have := ofN_split r (8 - r) l[a / 8]
    rw [show r + (8 - r) = 8 by omega] at this
    exact this
  have hd : (ofN 8 l[a / 8] ++ unpack (l.drop (a / 8 + 1))).drop r = ofN (8 - r) l[a / 8] ++ unpack (l.drop (a / 8 + 1)) := by
    rw [h8, List.append_assoc, List.drop_append, ofN_length, List.drop_eq_nil_of_le (by rw [ofN_length]; omega), Nat.sub_self]
    rfl
  rw [hd, List.take_append_of_le_length (by rw [ofN_length]; omega)]
  have h9 := ofN_split t (8 - r - t) l[a / 8]
  rw [show t + (8 - r - t) = 8 - r by omega] at h9
  rw [h9, List.take_append_of_le_length (by rw [ofN_length]; omega), List.take_of_length_le (by rw [ofN_length]; omega)]
theorem num_within (b r t : Nat) (ht : t ≤ 8 - r) : num (ofN t (b / 2 ^ (8 - r - t))) = b % 2 ^ (8 - r) / 2 ^ (8 - r - t) := by
  rw [num_ofN]
  have e : 2 ^ (8 - r) = 2 ^ (8 - r - t) * 2 ^ t := by rw [← Nat.pow_add]; congr 1; omega
  rw [e, Nat.mod_mul_right_div_self]

end Go.Proofs.YtflnpcgnenhogaaDoor.bit
