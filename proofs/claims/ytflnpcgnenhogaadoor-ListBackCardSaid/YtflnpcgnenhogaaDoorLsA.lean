/- Codes, in plain Lean: a number's bits in Unary, Gamma and Zeta, and what bits say in them. No program in sight. -/
import Derived.Test.YtflnpcgnenhogaaDoorBitP
namespace Go.Proofs.YtflnpcgnenhogaaDoor.ls
open Go.Proofs.YtflnpcgnenhogaaDoor.bit

inductive Cd where
  | una
  | gam
  | zet (k : Nat)
def Cd.ok : Cd → Prop
  | .zet k => 1 ≤ k ∧ k ≤ 16
  | _ => True
def Cd.most : Cd → Nat
  | .una => 65535
  | _ => 281474976710654
def un (v : Nat) : Bits := List.replicate v false ++ [true]
/-- how many bits numbers below k have -/
def clog (k : Nat) : Nat := if k ≤ 1 then 0 else Nat.log2 (k - 1) + 1
def mini (v k : Nat) : Bits := if v < 2 ^ clog k - k then ofN (clog k - 1) v else ofN (clog k) (v + (2 ^ clog k - k))
/-- a number's bits in a code -/
def cb : Cd → Nat → Bits
  | .una, v => un v
  | .gam, v => un (Nat.log2 (v + 1)) ++ ofN (Nat.log2 (v + 1)) (v + 1 - 2 ^ Nat.log2 (v + 1))
  | .zet k, v => un (Nat.log2 (v + 1) / k) ++ mini (v + 1 - 2 ^ (Nat.log2 (v + 1) / k * k)) (2 ^ ((Nat.log2 (v + 1) / k + 1) * k) - 2 ^ (Nat.log2 (v + 1) / k * k))

theorem clog_le {k : Nat} : k ≤ 2 ^ clog k := by
  unfold clog
  split
  · simp; omega
  · have := @Nat.lt_log2_self (k - 1)
    omega
theorem clog_lt {k : Nat} (h : 2 ≤ k) : 0 < clog k ∧ 2 ^ (clog k - 1) < k := by
  unfold clog
  rw [if_neg (by omega)]
  have := Nat.log2_self_le (n := k - 1) (by omega)
  simp only [Nat.add_sub_cancel]
  omega
theorem clog_one {k : Nat} (h : k ≤ 1) : clog k = 0 := if_pos h
theorem clog_zero {k : Nat} (h : clog k = 0) : k ≤ 1 := by
  by_cases h2 : 2 ≤ k
  · have := clog_lt h2; omega
  · omega
theorem pow_clog {k : Nat} (h : 2 ≤ k) : 2 ^ clog k = 2 * 2 ^ (clog k - 1) := by
  have := clog_lt h
  obtain ⟨s, hs⟩ : ∃ s, clog k = s + 1 := ⟨clog k - 1, by omega⟩
  rw [hs, Nat.add_sub_cancel, Nat.pow_succ]
  omega
/-- bits numbers below 2^b have -/
theorem clog_pow {k b : Nat} (h : k ≤ 2 ^ b) : clog k ≤ b := by
  by_cases h2 : 2 ≤ k
  · have h3 := clog_lt h2
    rcases Nat.lt_or_ge b (clog k) with hlt | hge
    · have : 2 ^ b ≤ 2 ^ (clog k - 1) := Nat.pow_le_pow_right (by decide) (by omega)
      omega
    · exact hge
  · rw [clog_one (by omega)]; omega

/-- how many 0 stand ahead of a 1, of so many bits at most -/
def zer : Nat → Bits → Option Nat
  | 0, _ => none
  | _ + 1, [] => none
  | f + 1, b :: r => if b then some 0 else (zer f r).map (· + 1)
def mread (k : Nat) (B : Bits) : Option (Nat × Nat) :=
  if clog k = 0 then some (0, 0)
  else if B.length < clog k - 1 then none
  else if num (B.take (clog k - 1)) < 2 ^ clog k - k then some (num (B.take (clog k - 1)), clog k - 1)
  else if B.length < clog k then none
  else some (num (B.take (clog k)) - (2 ^ clog k - k), clog k)
/-- the number that bits say in a code, and how many of them -/
def rd : Cd → Bits → Option (Nat × Nat)
  | .una, B => (zer 65536 B).map fun n => (n, n + 1)
  | .gam, B => (zer 48 B).bind fun b => if (B.drop (b + 1)).length < b then none else some (num ((B.drop (b + 1)).take b) + 2 ^ b - 1, b + 1 + b)
  | .zet k, B => (zer (47 / k + 1) B).bind fun h => (mread (2 ^ ((h + 1) * k) - 2 ^ (h * k)) (B.drop (h + 1))).bind fun q =>
      if q.1 + 2 ^ (h * k) - 1 ≤ 281474976710654 then some (q.1 + 2 ^ (h * k) - 1, h + 1 + q.2) else none

/-- what a code's bits say, great or not -/
def rd0 : Cd → Bits → Option (Nat × Nat)
  | .una, B => (zer 65536 B).map fun n => (n, n + 1)
  | .gam, B => (zer 48 B).bind fun b => if (B.drop (b + 1)).length < b then none else some (num ((B.drop (b + 1)).take b) + 2 ^ b - 1, b + 1 + b)
  | .zet k, B => (zer (47 / k + 1) B).bind fun h => (mread (2 ^ ((h + 1) * k) - 2 ^ (h * k)) (B.drop (h + 1))).map fun q => (q.1 + 2 ^ (h * k) - 1, h + 1 + q.2)
theorem cb_una (v : Nat) : cb .una v = un v := rfl
theorem cb_gam (v : Nat) : cb .gam v = un (Nat.log2 (v + 1)) ++ ofN (Nat.log2 (v + 1)) (v + 1 - 2 ^ Nat.log2 (v + 1)) := rfl
theorem cb_zet (k v : Nat) : cb (.zet k) v = un (Nat.log2 (v + 1) / k) ++ mini (v + 1 - 2 ^ (Nat.log2 (v + 1) / k * k)) (2 ^ ((Nat.log2 (v + 1) / k + 1) * k) - 2 ^ (Nat.log2 (v + 1) / k * k)) := rfl
theorem rd_una (B : Bits) : rd .una B = (zer 65536 B).map fun n => (n, n + 1) := rfl
theorem rd_gam (B : Bits) : rd .gam B = (zer 48 B).bind fun b => if (B.drop (b + 1)).length < b then none else some (num ((B.drop (b + 1)).take b) + 2 ^ b - 1, b + 1 + b) := rfl
theorem rd_zet (k : Nat) (B : Bits) : rd (.zet k) B = (zer (47 / k + 1) B).bind fun h => (mread (2 ^ ((h + 1) * k) - 2 ^ (h * k)) (B.drop (h + 1))).bind fun q =>
      if q.1 + 2 ^ (h * k) - 1 ≤ 281474976710654 then some (q.1 + 2 ^ (h * k) - 1, h + 1 + q.2) else none := rfl
theorem un_length (v : Nat) : (un v).length = v + 1 := by simp [un]
theorem zer_un : ∀ (v f : Nat) (R : Bits), v < f → zer f (un v ++ R) = some v
  | 0, f + 1, R, _ => rfl
  | v + 1, f + 1, R, h => by
    have e : un (v + 1) ++ R = false :: (un v ++ R) := by simp [un, List.replicate_succ]
    rw [e, zer, if_neg (by simp), zer_un v f R (by omega)]
    rfl
theorem zer_bound : ∀ (f : Nat) (B : Bits) (n : Nat), zer f B = some n → n < f ∧ n + 1 ≤ B.length
  | 0, B, n, h => by simp [zer] at h
  | f + 1, [], n, h => by simp [zer] at h
  | f + 1, b :: r, n, h => by
    rw [zer] at h
    by_cases hb : b = true
    · rw [if_pos hb] at h
      have := Option.some.inj h
      subst this
      simp
    · rw [if_neg hb] at h
      cases hz : zer f r with
      | none => rw [hz] at h; cases h
      | some m =>
        rw [hz] at h
        have h1 := zer_bound f r m hz
        have h2 : m + 1 = n := Option.some.inj h
        simp only [List.length_cons]
        omega
theorem mini_length (v k : Nat) : (mini v k).length = if v < 2 ^ clog k - k then clog k - 1 else clog k := by
  unfold mini
  split <;> rw [ofN_length]
theorem mini_le (v k : Nat) : (mini v k).length ≤ clog k := by
  rw [mini_length]
  split <;> omega
theorem mread_mini (v k : Nat) (hv : v < k) (R : Bits) : mread k (mini v k ++ R) = some (v, (mini v k).length) := by
  by_cases h2 : 2 ≤ k
  · obtain ⟨c0, c1⟩ := clog_lt h2
    have c2 := pow_clog h2
    have c3 := @clog_le k
    unfold mread
    rw [if_neg (by omega)]
    by_cases hm : v < 2 ^ clog k - k
    · have e : mini v k = ofN (clog k - 1) v := by unfold mini; rw [if_pos hm]
      rw [e]
      have et : (ofN (clog k - 1) v ++ R).take (clog k - 1) = ofN (clog k - 1) v := by rw [List.take_append_of_le_length (by rw [ofN_length]; exact Nat.le_refl _), List.take_of_length_le (by rw [ofN_length]; exact Nat.le_refl _)]
      rw [if_neg (by rw [List.length_append, ofN_length]; omega), et, num_ofN, Nat.mod_eq_of_lt (by omega), if_pos hm, ofN_length]
    · have e : mini v k = ofN (clog k) (v + (2 ^ clog k - k)) := by unfold mini; rw [if_neg hm]
      obtain ⟨u, hu⟩ : ∃ u, v + (2 ^ clog k - k) = u := ⟨_, rfl⟩
      rw [e, hu]
      have hul : u < 2 ^ clog k := by omega
      have es : ofN (clog k) u = ofN (clog k - 1) (u / 2) ++ ofN 1 u := by
        have := ofN_split (clog k - 1) 1 u
        rw [show clog k - 1 + 1 = clog k by omega] at this
        simpa using this
      have et : (ofN (clog k) u ++ R).take (clog k - 1) = ofN (clog k - 1) (u / 2) := by
        rw [es, List.append_assoc, List.take_append_of_le_length (by rw [ofN_length]; exact Nat.le_refl _), List.take_of_length_le (by rw [ofN_length]; exact Nat.le_refl _)]
      have et2 : (ofN (clog k) u ++ R).take (clog k) = ofN (clog k) u := by rw [List.take_append_of_le_length (by rw [ofN_length]; exact Nat.le_refl _), List.take_of_length_le (by rw [ofN_length]; exact Nat.le_refl _)]
      rw [if_neg (by rw [List.length_append, ofN_length]; omega), et, num_ofN, Nat.mod_eq_of_lt (by omega), if_neg (by omega), if_neg (by rw [List.length_append, ofN_length]; omega), et2, num_ofN, Nat.mod_eq_of_lt hul, ofN_length]
      congr 2
      omega
  · obtain rfl : k = 1 := by omega
    obtain rfl : v = 0 := by omega
    rfl
theorem mread_bound {k : Nat} (hk : 0 < k) {B : Bits} {v n : Nat} (h : mread k B = some (v, n)) : v < k ∧ n ≤ B.length := by
  unfold mread at h
  have c3 := @clog_le k
  split at h
  · rename_i h0
    have := Option.some.inj h
    injection this with h1 h2
    omega
  · rename_i h0
    split at h
    · cases h
    · rename_i hl
      split at h
      · rename_i hm
        have := Option.some.inj h
        injection this with h1 h2
        have h3 : 2 ≤ k := by
          rcases Nat.lt_or_ge k 2 with a | a
          · exact absurd (clog_one (by omega)) h0
          · exact a
        have c1 := clog_lt h3
        have c2 := pow_clog h3
        omega
      · split at h
        · cases h
        · rename_i hl2
          have := Option.some.inj h
          injection this with h1 h2
          have hn := num_lt (B.take (clog k))
          rw [List.length_take, Nat.min_eq_left (by omega)] at hn
          omega
theorem pow48 {a : Nat} (h : a ≤ 48) : 2 ^ a ≤ 281474976710656 := by
  have : (2 : Nat) ^ a ≤ 2 ^ 48 := Nat.pow_le_pow_right (by decide) h
  exact this
theorem log_lt {v b : Nat} (h : v + 1 < 2 ^ b) : Nat.log2 (v + 1) < b := by
  have h1 := Nat.log2_self_le (n := v + 1) (by omega)
  rcases Nat.lt_or_ge (Nat.log2 (v + 1)) b with a | a
  · exact a
  · have : 2 ^ b ≤ 2 ^ Nat.log2 (v + 1) := Nat.pow_le_pow_right (by decide) a
    omega
theorem zet_parts (k v : Nat) (hk : 1 ≤ k) : v + 1 - 2 ^ (Nat.log2 (v + 1) / k * k) < 2 ^ ((Nat.log2 (v + 1) / k + 1) * k) - 2 ^ (Nat.log2 (v + 1) / k * k) ∧ 2 ^ (Nat.log2 (v + 1) / k * k) ≤ v + 1 := by
  obtain ⟨b, hb⟩ : ∃ b, Nat.log2 (v + 1) = b := ⟨_, rfl⟩
  rw [hb]
  have h1 := Nat.log2_self_le (n := v + 1) (by omega)
  have h2 := @Nat.lt_log2_self (v + 1)
  rw [hb] at h1 h2
  have h3 : b / k * k ≤ b := Nat.div_mul_le_self b k
  have h4 : b + 1 ≤ (b / k + 1) * k := by rw [Nat.add_mul, Nat.one_mul]; have := Nat.mod_lt b (show 0 < k by omega); have := Nat.div_add_mod b k; rw [Nat.mul_comm] at this; omega
  have h5 : 2 ^ (b / k * k) ≤ 2 ^ b := Nat.pow_le_pow_right (by decide) h3
  have h6 : 2 ^ (b + 1) ≤ 2 ^ ((b / k + 1) * k) := Nat.pow_le_pow_right (by decide) h4
  omega
/-- there and back -/
theorem rd_cb (c : Cd) (hc : c.ok) (v : Nat) (hv : v ≤ c.most) (R : Bits) : rd c (cb c v ++ R) = some (v, (cb c v).length) := by
  cases c with
  | una =>
    show (zer 65536 (un v ++ R)).map _ = _
    rw [zer_un v 65536 R (Nat.lt_succ_of_le hv), cb, un_length]
    rfl
  | gam =>
    have hv' : v ≤ 281474976710654 := hv
    rw [rd_gam, cb_gam]
    obtain ⟨b, hb⟩ : ∃ b, Nat.log2 (v + 1) = b := ⟨_, rfl⟩
    have h1 := Nat.log2_self_le (n := v + 1) (by omega)
    have h2 := @Nat.lt_log2_self (v + 1)
    have h3 : Nat.log2 (v + 1) < 48 := log_lt (by rw [show (2 : Nat) ^ 48 = 281474976710656 from rfl]; omega)
    rw [hb] at h1 h2 h3 ⊢
    rw [Nat.pow_succ] at h2
    rw [List.append_assoc, zer_un b 48 _ h3]
    have e : (un b ++ (ofN b (v + 1 - 2 ^ b) ++ R)).drop (b + 1) = ofN b (v + 1 - 2 ^ b) ++ R := by
      rw [List.drop_append, un_length, List.drop_eq_nil_of_le (by rw [un_length]; exact Nat.le_refl _)]
      simp
    show (if _ then _ else _) = _
    rw [e, if_neg (by rw [List.length_append, ofN_length]; omega), List.take_append_of_le_length (by rw [ofN_length]; exact Nat.le_refl _), List.take_of_length_le (by rw [ofN_length]; exact Nat.le_refl _), num_ofN, Nat.mod_eq_of_lt (by omega), List.length_append, un_length, ofN_length]
    congr 2
    omega
  | zet k =>
    have hv' : v ≤ 281474976710654 := hv
    obtain ⟨hk1, hk2⟩ : 1 ≤ k ∧ k ≤ 16 := hc
    obtain ⟨p1, p2⟩ := zet_parts k v hk1
    rw [rd_zet, cb_zet]
    have h3 : Nat.log2 (v + 1) < 48 := log_lt (by rw [show (2 : Nat) ^ 48 = 281474976710656 from rfl]; omega)
    obtain ⟨h, hh⟩ : ∃ h, Nat.log2 (v + 1) / k = h := ⟨_, rfl⟩
    have hle : h ≤ 47 / k := by rw [← hh]; exact Nat.div_le_div_right (by omega)
    rw [hh] at p1 p2 ⊢
    rw [List.append_assoc, zer_un h (47 / k + 1) _ (by omega)]
    have e : ∀ Y : Bits, (un h ++ Y).drop (h + 1) = Y := fun Y => by
      rw [List.drop_append, un_length, List.drop_eq_nil_of_le (by rw [un_length]; exact Nat.le_refl _)]
      simp
    show Option.bind (mread _ ((un h ++ _).drop (h + 1))) _ = _
    rw [e, mread_mini _ _ p1]
    show (if _ then _ else _) = _
    rw [if_pos (show v + 1 - 2 ^ (h * k) + 2 ^ (h * k) - 1 ≤ 281474976710654 by omega), List.length_append, un_length]
    congr 2
    show v + 1 - 2 ^ (h * k) + 2 ^ (h * k) - 1 = v
    omega
theorem rd_bound (c : Cd) (hc : c.ok) {B : Bits} {v n : Nat} (h : rd c B = some (v, n)) : v ≤ c.most ∧ n ≤ B.length := by
  cases c with
  | una =>
    rw [rd_una] at h
    cases hz : zer 65536 B with
    | none => rw [hz] at h; cases h
    | some m =>
      rw [hz] at h
      have h1 := zer_bound _ _ _ hz
      have h2 := Option.some.inj h
      injection h2 with h3 h4
      show v ≤ 65535 ∧ _
      omega
  | gam =>
    rw [rd_gam] at h
    cases hz : zer 48 B with
    | none => rw [hz] at h; cases h
    | some b =>
      rw [hz] at h
      have h1 := zer_bound _ _ _ hz
      simp only [Option.bind_some] at h
      split at h
      · cases h
      · rename_i hl
        rw [List.length_drop] at hl
        have h2 := Option.some.inj h
        injection h2 with h3 h4
        have h5 := num_lt ((B.drop (b + 1)).take b)
        have h6 : 2 ^ ((B.drop (b + 1)).take b).length ≤ 2 ^ b := Nat.pow_le_pow_right (by decide) (by rw [List.length_take]; omega)
        have h7 : 2 ^ (b + 1) ≤ 281474976710656 := pow48 (by omega)
        rw [Nat.pow_succ] at h7
        show v ≤ 281474976710654 ∧ _
        omega
  | zet k =>
    obtain ⟨hk1, hk2⟩ : 1 ≤ k ∧ k ≤ 16 := hc
    rw [rd_zet] at h
    cases hz : zer (47 / k + 1) B with
    | none => rw [hz] at h; cases h
    | some b =>
      rw [hz] at h
      have h1 := zer_bound _ _ _ hz
      simp only [Option.bind_some] at h
      cases hm : mread (2 ^ ((b + 1) * k) - 2 ^ (b * k)) (B.drop (b + 1)) with
      | none => rw [hm] at h; cases h
      | some q =>
        rw [hm] at h
        simp only [Option.bind_some] at h
        have hp : 2 ^ (b * k) < 2 ^ ((b + 1) * k) := Nat.pow_lt_pow_right (by decide) (by rw [Nat.add_mul]; omega)
        have h8 := mread_bound (v := q.1) (n := q.2) (by omega) hm
        rw [List.length_drop] at h8
        split at h
        · rename_i hle
          have h2 := Option.some.inj h
          injection h2 with h3 h4
          show v ≤ 281474976710654 ∧ _
          omega
        · cases h
theorem rd0_una (B : Bits) : rd0 .una B = (zer 65536 B).map fun n => (n, n + 1) := rfl
theorem rd0_gam (B : Bits) : rd0 .gam B = (zer 48 B).bind fun b => if (B.drop (b + 1)).length < b then none else some (num ((B.drop (b + 1)).take b) + 2 ^ b - 1, b + 1 + b) := rfl
theorem rd0_zet (k : Nat) (B : Bits) : rd0 (.zet k) B = (zer (47 / k + 1) B).bind fun h => (mread (2 ^ ((h + 1) * k) - 2 ^ (h * k)) (B.drop (h + 1))).map fun q => (q.1 + 2 ^ (h * k) - 1, h + 1 + q.2) := rfl
theorem rd_rd0 (c : Cd) (hc : c.ok) (B : Bits) : rd c B = (rd0 c B).bind fun q => if q.1 ≤ c.most then some q else none := by
  cases c with
  | una =>
    rw [rd0_una]
    cases hr : rd .una B with
    | none =>
      rw [rd_una] at hr
      rw [hr]; rfl
    | some q =>
      have h := rd_bound .una trivial (v := q.1) (n := q.2) hr
      rw [rd_una] at hr
      rw [hr, Option.bind_some, if_pos h.1]
  | gam =>
    rw [rd0_gam]
    cases hr : rd .gam B with
    | none =>
      rw [rd_gam] at hr
      rw [hr]; rfl
    | some q =>
      have h := rd_bound .gam trivial (v := q.1) (n := q.2) hr
      rw [rd_gam] at hr
      rw [hr, Option.bind_some, if_pos h.1]
  | zet k =>
    rw [rd0_zet, rd_zet]
    cases zer (47 / k + 1) B with
    | none => rfl
    | some h =>
      simp only [Option.bind_some]
      cases mread (2 ^ ((h + 1) * k) - 2 ^ (h * k)) (B.drop (h + 1)) with
      | none => rfl
      | some q => rfl
theorem cb_pos (c : Cd) (v : Nat) : 0 < (cb c v).length := by
  cases c with
  | una => rw [cb_una, un_length]; exact Nat.succ_pos _
  | gam => rw [cb_gam, List.length_append, un_length]; exact Nat.add_pos_left (Nat.succ_pos _) _
  | zet k => rw [cb_zet, List.length_append, un_length]; exact Nat.add_pos_left (Nat.succ_pos _) _
/-- how many bits numbers have that are not great -/
theorem cb_le (c : Cd) (hc : c.ok) (v : Nat) (hv : v < 262144) (hu : c = .una → v ≤ 16) : (cb c v).length ≤ 40 := by
  have hl : Nat.log2 (v + 1) < 19 := log_lt (by rw [show (2 : Nat) ^ 19 = 524288 from rfl]; omega)
  cases c with
  | una => have := hu rfl; rw [cb, un_length]; omega
  | gam => rw [cb, List.length_append, un_length, ofN_length]; omega
  | zet k =>
    obtain ⟨hk1, hk2⟩ : 1 ≤ k ∧ k ≤ 16 := hc
    rw [cb, List.length_append, un_length]
    obtain ⟨b, hb⟩ : ∃ b, Nat.log2 (v + 1) = b := ⟨_, rfl⟩
    rw [hb] at hl ⊢
    have h1 := mini_le (v + 1 - 2 ^ (b / k * k)) (2 ^ ((b / k + 1) * k) - 2 ^ (b / k * k))
    have h2 : clog (2 ^ ((b / k + 1) * k) - 2 ^ (b / k * k)) ≤ (b / k + 1) * k := clog_pow (Nat.sub_le _ _)
    have h3 : b / k + 1 + (b / k + 1) * k ≤ 40 := by
      have : k = 1 ∨ k = 2 ∨ k = 3 ∨ k = 4 ∨ k = 5 ∨ k = 6 ∨ k = 7 ∨ k = 8 ∨ k = 9 ∨ k = 10 ∨ k = 11 ∨ k = 12 ∨ k = 13 ∨ k = 14 ∨ k = 15 ∨ k = 16 := by omega
      rcases this with rfl | rfl | rfl | rfl | rfl | rfl | rfl | rfl | rfl | rfl | rfl | rfl | rfl | rfl | rfl | rfl <;> omega
    omega
end Go.Proofs.YtflnpcgnenhogaaDoor.ls
