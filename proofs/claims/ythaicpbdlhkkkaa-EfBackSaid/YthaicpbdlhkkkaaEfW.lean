/- ef: the plain law of there and back: what the bytes of a list say is the list; in few bits. -/
import Derived.Test.YthaicpbdlhkkkaaEfV
namespace Go.Proofs.Ythaicpbdlhkkkaa.ef
open Go.Proofs.Ythaicpbdlhkkkaa.bit

theorem unpack_pack : ∀ (n : Nat) (b : Bits), b.length ≤ n → ∃ z, unpack (packN b) = b ++ List.replicate z false
  | 0, b, h => by
    obtain rfl := List.eq_nil_of_length_eq_zero (Nat.le_zero.1 h)
    exact ⟨0, by rw [packN_nil]; rfl⟩
  | n + 1, b, h => by
    by_cases hb : b = []
    · subst hb
      exact ⟨0, by rw [packN_nil]; rfl⟩
    · rw [packN_cons hb, unpack_cons]
      obtain ⟨z, hz⟩ := unpack_pack n (b.drop 8) (by
        have : 0 < b.length := List.length_pos_iff.2 hb
        rw [List.length_drop]; omega)
      rw [hz]
      by_cases h8 : 8 ≤ b.length
      · refine ⟨z, ?_⟩
        have hl : (b.take 8).length = 8 := by rw [List.length_take]; omega
        have e : ofN 8 (bit.byteOf (b.take 8)) = b.take 8 := by
          unfold bit.byteOf
          rw [hl, Nat.sub_self, Nat.pow_zero, Nat.mul_one]
          have := ofN_num (b.take 8)
          rwa [hl] at this
        rw [e, ← List.append_assoc, List.take_append_drop]
      · have hd : b.drop 8 = [] := List.drop_eq_nil_of_le (by omega)
        have ht : b.take 8 = b := List.take_of_length_le (by omega)
        obtain ⟨m, hm⟩ : ∃ m, 8 - b.length = m := ⟨_, rfl⟩
        have e : ofN 8 (bit.byteOf b) = b ++ List.replicate m false := by
          unfold bit.byteOf
          rw [hm, show 8 = b.length + m by omega, ofN_split, Nat.mul_div_cancel _ (Nat.pow_pos (by decide)), ofN_num, ← ofN_mod m, Nat.mul_mod_left, ofN_zero]
        refine ⟨m + z, ?_⟩
        rw [hd, ht, e, List.nil_append, List.append_assoc, List.replicate_append_replicate]
theorem val_pack (b : Bits) (k : Nat) (h : b.length = 8 * k) : val (packN b) = num b := by
  rw [val_num _ (packN_lt b)]
  obtain ⟨z, hz⟩ := unpack_pack _ b (Nat.le_refl _)
  have hl := congrArg List.length hz
  rw [unpack_length, packN_length, List.length_append, List.length_replicate] at hl
  have : z = 0 := by omega
  subst this
  rw [hz]
  simp

theorem lo_full {wd : Nat} {l : List Nat} (h : l.length * wd ≤ 134217728) : ∀ k, k < l.length → (lo wd l k).length = k * wd ∧ lo wd l (k + 1) = lo wd l k ++ ofN wd (l.getD k 0) := by
  intro k
  induction k with
  | zero =>
    intro hk
    have h0 : 1 * wd ≤ l.length * wd := Nat.mul_le_mul_right _ hk
    refine ⟨by simp [lo], ?_⟩
    show (if (lo wd l 0).length + wd ≤ 134217728 then lo wd l 0 ++ ofN wd (l.getD 0 0) else lo wd l 0) = _
    rw [if_pos (by simp [lo]; omega)]
  | succ k ih =>
    intro hk
    obtain ⟨h1, h2⟩ := ih (by omega)
    have e : (k + 1) * wd = k * wd + wd := by rw [Nat.add_mul, Nat.one_mul]
    have h3 : (lo wd l (k + 1)).length = (k + 1) * wd := by rw [h2, List.length_append, ofN_length, h1, e]
    have h4 : (k + 1 + 1) * wd ≤ l.length * wd := Nat.mul_le_mul_right _ hk
    have e2 : (k + 1 + 1) * wd = (k + 1) * wd + wd := by rw [Nat.add_mul, Nat.one_mul]
    refine ⟨h3, ?_⟩
    rw [lo, if_pos (by rw [h3]; omega)]
theorem lo_len {wd : Nat} {l : List Nat} (h : l.length * wd ≤ 134217728) (k : Nat) (hk : k ≤ l.length) : (lo wd l k).length = k * wd := by
  cases k with
  | zero => simp [lo]
  | succ k =>
    obtain ⟨h1, h2⟩ := lo_full h k (by omega)
    rw [h2, List.length_append, ofN_length, h1, Nat.add_mul, Nat.one_mul]
theorem grow_pre (f : Nat → Bits) (n : Nat) (h : ∀ k, k < n → ∃ R, f (k + 1) = f k ++ R) (k : Nat) : ∀ m, k ≤ m → m ≤ n → ∃ R, f m = f k ++ R := by
  intro m
  induction m with
  | zero => intro h1 _; rw [show k = 0 by omega]; exact ⟨[], by simp⟩
  | succ m ih =>
    intro h1 h2
    by_cases e : k = m + 1
    · subst e; exact ⟨[], by simp⟩
    · obtain ⟨R, hR⟩ := ih (by omega) (by omega)
      obtain ⟨S, hS⟩ := h m (by omega)
      exact ⟨R ++ S, by rw [hS, hR, List.append_assoc]⟩
theorem lo_at {wd : Nat} {l : List Nat} (h : l.length * wd ≤ 134217728) (i : Nat) (hi : i < l.length) : ((lo wd l l.length).drop (i * wd)).take wd = ofN wd (l.getD i 0) := by
  obtain ⟨R, hR⟩ := grow_pre (lo wd l) l.length (fun k hk => ⟨_, (lo_full h k hk).2⟩) (i + 1) l.length hi (Nat.le_refl _)
  obtain ⟨h1, h2⟩ := lo_full h i hi
  rw [hR, h2, List.append_assoc, ← h1, List.drop_left, ]
  have e : (ofN wd (l.getD i 0)).length = wd := ofN_length _ _
  conv => lhs; rw [← e]
  rw [ofN_length]
  exact List.take_left' e
theorem sm_grow (wd : Nat) (l : List Nat) (k : Nat) : ∃ R, sm wd l (k + 1) = sm wd l k ++ R := by
  rw [sm]
  split
  · exact ⟨_, rfl⟩
  · exact ⟨[], by simp⟩
theorem sm_at (wd : Nat) (l : List Nat) (j : Nat) (hj : 64 * j < l.length) : ((packN (sm wd l l.length)).drop (4 * j)).take 4 = packN (ofN 32 (l.getD (64 * j) 0 / 2 ^ wd + 64 * j)) := by
  obtain ⟨R, hR⟩ := grow_pre (sm wd l) l.length (fun k _ => sm_grow wd l k) (64 * j + 1) l.length hj (Nat.le_refl _)
  have h1 : (packN (sm wd l (64 * j))).length = 4 * j := by rw [packN_length, sm_length]; omega
  have h2 : (packN (ofN 32 (l.getD (64 * j) 0 / 2 ^ wd + 64 * j))).length = 4 := by rw [packN_length, ofN_length]
  rw [hR, packN_append _ _ _ (sm_length wd l (64 * j + 1)), sm_pack wd l (64 * j) (by omega), List.append_assoc, List.drop_left' h1, List.take_left' h2]
theorem hi_grow (wd : Nat) (l : List Nat) (k : Nat) : ∃ R, hi wd l (k + 1) = hi wd l k ++ R := ⟨_, by rw [hi, List.append_assoc]⟩
theorem hi_cnt (wd : Nat) (l : List Nat) (k : Nat) : cnt (hi wd l k) = k := by
  induction k with
  | zero => rfl
  | succ k ih => rw [hi, cnt_append, cnt_append, cnt_zeros, ih]; simp [cnt]
theorem hi_split {l : List Nat} (h : mayS l) (wd : Nat) (i : Nat) (hi' : i < l.length) : ∃ A R, hi wd l l.length = A ++ true :: R ∧ A.length = l.getD i 0 / 2 ^ wd + i ∧ cnt A = i := by
  obtain ⟨R, hR⟩ := grow_pre (hi wd l) l.length (fun k _ => hi_grow wd l k) (i + 1) l.length hi' (Nat.le_refl _)
  have hle := hi_le h wd i hi'
  refine ⟨hi wd l i ++ List.replicate (l.getD i 0 / 2 ^ wd + i - (hi wd l i).length) false, R, ?_, ?_, ?_⟩
  · rw [hR, hi]; simp
  · rw [List.length_append, List.length_replicate]; omega
  · rw [cnt_append, cnt_zeros, hi_cnt]; rfl
theorem hi_one {l : List Nat} (h : mayS l) (wd : Nat) (j i : Nat) (hji : j ≤ i) (hi' : i < l.length) :
    one ((hi wd l l.length).drop (l.getD j 0 / 2 ^ wd + j)) (l.getD j 0 / 2 ^ wd + j) (i - j) = some (l.getD i 0 / 2 ^ wd + i) := by
  obtain ⟨A, R, e1, e2, e3⟩ := hi_split h wd i hi'
  obtain ⟨B, T, f1, f2, f3⟩ := hi_split h wd j (by omega)
  have g1 : one (hi wd l l.length) 0 i = some (l.getD i 0 / 2 ^ wd + i) := by
    rw [e1, one_skip _ _ _ _ (by omega), e3, Nat.sub_self, one, e2, Nat.zero_add]
  have g2 : one (hi wd l l.length) 0 i = one ((hi wd l l.length).drop (l.getD j 0 / 2 ^ wd + j)) (l.getD j 0 / 2 ^ wd + j) (i - j) := by
    conv => lhs; rw [f1, one_skip _ _ _ _ (by omega), f3, f2, Nat.zero_add]
    rw [f1, List.drop_left' f2]
  rw [← g2, g1]

/-- the parts of a list's bytes -/
theorem build_parts {l : List Nat} (h : mayS l) (hw : l.length * wL l ≤ 134217728) :
    (packN (ofN 32 l.length ++ ofN 64 (uL l))).length = 12 ∧ (packN (lo (wL l) l l.length)).length = lowB l.length (uL l) ∧ (packN (hi (wL l) l l.length)).length = highB l.length (uL l) ∧ (packN (sm (wL l) l l.length)).length = sampB l.length := by
  refine ⟨by rw [packN_length, List.length_append, ofN_length, ofN_length], ?_, ?_, ?_⟩
  · rw [packN_length, lo_len hw _ (Nat.le_refl _)]; rfl
  · rw [packN_length, ← hrow_all h, hrow_length h _ (Nat.le_refl _)]; rfl
  · rw [packN_length, sm_length]
    unfold sampB
    omega
theorem uL_le {l : List Nat} (h : mayS l) : uL l ≤ 281474976710655 := by
  unfold uL
  split
  · omega
  · have := (h.2 (l.length - 1) (by omega)).1
    unfold most at this
    omega
theorem build_nS {l : List Nat} (h : mayS l) : nS (build l) = l.length := by
  have h1 := h.1
  unfold nS build
  rw [packN_append 4 _ _ (by rw [ofN_length]), List.append_assoc, List.append_assoc, List.append_assoc, List.take_left' (by rw [packN_length, ofN_length]), val_pack _ 4 (by rw [ofN_length]), num_ofN, Nat.mod_eq_of_lt (by omega)]
theorem build_uS {l : List Nat} (h : mayS l) : uS (build l) = uL l := by
  have h1 := uL_le h
  unfold uS build
  rw [packN_append 4 _ _ (by rw [ofN_length]), List.append_assoc, List.append_assoc, List.append_assoc, List.drop_left' (by rw [packN_length, ofN_length]), List.take_left' (by rw [packN_length, ofN_length]), val_pack _ 8 (by rw [ofN_length]), num_ofN, Nat.mod_eq_of_lt (by omega)]
theorem build_opens {l : List Nat} (h : mayS l) (hw : l.length * wL l ≤ 134217728) : opens (build l) := by
  obtain ⟨z1, z2, z3, z4⟩ := build_parts h hw
  have hl : (build l).length = 12 + lowB l.length (uL l) + highB l.length (uL l) + sampB l.length := by
    unfold build
    rw [List.length_append, List.length_append, List.length_append, z1, z2, z3, z4]
  refine ⟨by rw [hl]; omega, by rw [build_nS h]; exact h.1, by rw [build_uS h]; exact uL_le h, ?_, by rw [build_nS h, build_uS h, hl]; rfl⟩
  rw [build_nS h, build_uS h]
  unfold uL
  constructor
  · intro e; rw [if_pos e]
  · intro e
    split at e
    · assumption
    · omega
theorem drop3 (A B C D : List Nat) (a b : Nat) (ha : A.length = a) (hb : B.length = b) : (A ++ B ++ C ++ D).drop (a + b) = C ++ D := by
  rw [List.append_assoc, List.append_assoc, ← List.append_assoc A B, List.drop_left' (by rw [List.length_append]; omega)]
theorem build_hiS {l : List Nat} (h : mayS l) (hw : l.length * wL l ≤ 134217728) : hiS (build l) = hi (wL l) l l.length := by
  obtain ⟨z1, z2, z3, z4⟩ := build_parts h hw
  unfold hiS
  rw [build_nS h, build_uS h]
  unfold build
  rw [drop3 _ _ _ _ _ _ z1 z2, List.take_left' z3]
  obtain ⟨z, hz⟩ := unpack_pack _ (hi (wL l) l l.length) (Nat.le_refl _)
  rw [hz]
  exact List.take_left' (by rw [← hrow_all h, hrow_length h _ (Nat.le_refl _)])
theorem build_low {l : List Nat} (h : mayS l) (hw : l.length * wL l ≤ 134217728) (i : Nat) (hi' : i < l.length) : lowS (build l) i = l.getD i 0 % 2 ^ wL l := by
  obtain ⟨z1, z2, z3, z4⟩ := build_parts h hw
  unfold lowS loS
  rw [build_nS h, build_uS h]
  show num (List.take (wL l) (List.drop (i * wL l) (unpack (List.take (lowB l.length (uL l)) (List.drop 12 (build l)))))) = _
  unfold build
  rw [List.append_assoc, List.append_assoc, List.drop_left' z1, List.take_left' z2]
  obtain ⟨z, hz⟩ := unpack_pack _ (lo (wL l) l l.length) (Nat.le_refl _)
  have hl := lo_len hw l.length (Nat.le_refl _)
  have hle : i * wL l + wL l ≤ l.length * wL l := by
    have : (i + 1) * wL l ≤ l.length * wL l := Nat.mul_le_mul_right _ hi'
    rwa [Nat.add_mul, Nat.one_mul] at this
  rw [hz, List.drop_append_of_le_length (by omega), List.take_append_of_le_length (by rw [List.length_drop]; omega), lo_at hw i hi', num_ofN]
theorem build_sa {l : List Nat} (h : mayS l) (hw : l.length * wL l ≤ 134217728) (i : Nat) (hi' : i < l.length) : saS (build l) i = l.getD (64 * (i / 64)) 0 / 2 ^ wL l + 64 * (i / 64) := by
  obtain ⟨z1, z2, z3, z4⟩ := build_parts h hw
  have hj : 64 * (i / 64) < l.length := by omega
  have hp := place_lt h (64 * (i / 64)) hj
  have hh := hib_lt l.length (uL l) h.1
  unfold saS
  rw [build_nS h, build_uS h]
  unfold build
  rw [← List.drop_drop, List.drop_left' (by rw [List.length_append, List.length_append, z1, z2, z3]), sm_at _ _ _ hj, val_pack _ 4 (by rw [ofN_length]), num_ofN, Nat.mod_eq_of_lt (by omega)]
theorem build_get {l : List Nat} (h : mayS l) (hw : l.length * wL l ≤ 134217728) (i : Nat) (hi' : i < l.length) : getS (build l) i = some (l.getD i 0) := by
  rw [getS_eq, build_hiS h hw, build_sa h hw i hi']
  have e : i % 64 = i - 64 * (i / 64) := by omega
  have hl := may_le h (l.length - 1) i (by omega) (by omega)
  rw [e, hi_one h (wL l) (64 * (i / 64)) i (by omega) hi']
  have hnum : numS (build l) i (l.getD i 0 / 2 ^ wL l + i) = l.getD i 0 := by
    unfold numS
    rw [build_low h hw i hi', build_nS h, build_uS h, Nat.add_sub_cancel]
    show l.getD i 0 / 2 ^ wL l * 2 ^ wL l + l.getD i 0 % 2 ^ wL l = l.getD i 0
    rw [Nat.mul_comm]
    exact Nat.div_add_mod _ _
  show (if l.getD i 0 / 2 ^ wL l + i < i then none else if uS (build l) ≤ numS (build l) i (l.getD i 0 / 2 ^ wL l + i) then none else some (numS (build l) i (l.getD i 0 / 2 ^ wL l + i))) = some (l.getD i 0)
  rw [if_neg (Nat.not_lt.2 (Nat.le_add_left _ _)), hnum, build_uS h, uL_get (by omega), if_neg (by omega)]
theorem build_all {l : List Nat} (h : mayS l) (hw : l.length * wL l ≤ 134217728) : allL (build l) = l := by
  apply List.ext_getElem
  · rw [allL_length, build_nS h]
  · intro i h1 h2
    have : gv (build l) i = l.getD i 0 := by unfold gv; rw [build_get h hw i h2]; rfl
    simp only [allL, List.getElem_map, List.getElem_range]
    rw [this, getD_at l i h2]
theorem build_ok {l : List Nat} (h : mayS l) (hw : l.length * wL l ≤ 134217728) : okS (build l) := by
  refine ⟨fun i hi' => ?_, by rw [build_all h hw]; exact h, by rw [build_all h hw]⟩
  rw [build_nS h] at hi'
  rw [build_get h hw i hi']
  simp
theorem build_size {l : List Nat} (h : mayS l) (hw : l.length * wL l ≤ 134217728) : (build l).length = 12 + lowB l.length (uL l) + highB l.length (uL l) + sampB l.length := by
  obtain ⟨z1, z2, z3, z4⟩ := build_parts h hw
  unfold build
  rw [List.length_append, List.length_append, List.length_append, z1, z2, z3, z4]

/-- in few bits -/
theorem few_bits (n last b : Nat) (hn : 0 < n) (h1 : last < n * 2 ^ b) (h2 : b = 0 ∨ n * 2 ^ (b - 1) ≤ last) : 8 * (lowB n (last + 1) + highB n (last + 1)) ≤ (b + 2) * n + 16 := by
  have hh : hib n (last + 1) = last / 2 ^ wid n (last + 1) + n := by unfold hib; rw [if_neg (by omega)]; simp
  have hl : 8 * lowB n (last + 1) ≤ n * wid n (last + 1) + 7 := by unfold lowB; omega
  have hu : 8 * highB n (last + 1) ≤ hib n (last + 1) + 7 := by unfold highB; omega
  have e1 : (b + 2) * n = n * b + 2 * n := by rw [Nat.add_mul, Nat.mul_comm b n]
  by_cases hx : last + 1 = n * 2 ^ b
  · have hw : wid n (last + 1) = b := by
      apply Nat.le_antisymm
      · apply wid_stop n _ b hn
        rw [Nat.pow_succ, ← Nat.mul_assoc]
        have : 0 < n * 2 ^ b := Nat.mul_pos hn (Nat.pow_pos (by decide))
        omega
      · cases b with
        | zero => omega
        | succ b => exact wid_go n _ b hn (by omega)
    have hd : last / 2 ^ b < n := by
      rw [Nat.div_lt_iff_lt_mul (Nat.pow_pos (by decide))]
      exact h1
    rw [hw] at hh hl
    omega
  · cases b with
    | zero =>
      have hw : wid n (last + 1) = 0 := wid_zero n _ (by simp at h1 hx; omega)
      rw [hw] at hh hl
      simp at hh h1 hl
      omega
    | succ b =>
      have h3 : n * 2 ^ b ≤ last := by simpa using h2
      have hw : wid n (last + 1) = b := by
        apply Nat.le_antisymm
        · apply wid_stop n _ b hn
          omega
        · cases b with
          | zero => omega
          | succ c => exact wid_go n _ c hn (by omega)
      have hd : last / 2 ^ b < 2 * n := by
        rw [Nat.div_lt_iff_lt_mul (Nat.pow_pos (by decide))]
        rw [Nat.pow_succ] at h1
        calc last < n * (2 ^ b * 2) := h1
          _ = 2 * n * 2 ^ b := by rw [← Nat.mul_assoc, Nat.mul_comm 2 n, Nat.mul_assoc n 2, Nat.mul_comm 2 (2 ^ b), Nat.mul_assoc]
      have e2 : n * (b + 1) = n * b + n := by rw [Nat.mul_add, Nat.mul_one]
      rw [hw] at hh hl
      omega
end Go.Proofs.Ythaicpbdlhkkkaa.ef
