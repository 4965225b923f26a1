/- Own lemmas, laid together. -/
import Init
namespace Go.Proofs.YtflnpcgnenhogaaGreatDoor.bit

abbrev Bits := List Bool

/-- the number that bits say, the first the greatest -/
def num : Bits → Nat
 | [] => 0
 | b :: r => (if b then 2 ^ r.length else 0) + num r
/-- so many bits of a number -/
def ofN : Nat → Nat → Bits
 | 0, _ => []
 | n + 1, v => (v / 2 ^ n % 2 == 1) :: ofN n v

theorem num_lt (l : Bits) : num l < 2 ^ l.length := by
 induction l with
 | nil => simp [num]
 | cons b r ih =>
  rw [num, List.length_cons, Nat.pow_succ]
  split <;> omega
theorem num_append (a b : Bits) : num (a ++ b) = num a * 2 ^ b.length + num b := by
 induction a with
 | nil => simp [num]
 | cons x r ih =>
  rw [List.cons_append, num, num, ih, List.length_append, Nat.pow_add, Nat.add_mul]
  split <;> simp [Nat.add_assoc]
theorem ofN_length (n v : Nat) : (ofN n v).length = n := by
 induction n with
 | zero => rfl
 | succ n ih => rw [ofN, List.length_cons, ih]
theorem num_ofN (n v : Nat) : num (ofN n v) = v % 2 ^ n := by
 induction n with
 | zero => simp [ofN, num, Nat.mod_one]
 | succ n ih =>
  rw [ofN, num, ih, ofN_length, Nat.pow_succ, Nat.mod_mul]
  rcases Nat.mod_two_eq_zero_or_one (v / 2 ^ n) with h | h <;> rw [h] <;> simp
  omega
theorem ofN_split (a b v : Nat) : ofN (a + b) v = ofN a (v / 2 ^ b) ++ ofN b v := by
 induction a with
 | zero => simp [ofN]
 | succ a ih =>
  rw [Nat.add_right_comm, ofN, ih, ofN, List.cons_append, Nat.div_div_eq_div_mul, ← Nat.pow_add, Nat.add_comm b a]
theorem ofN_num (l : Bits) : ofN l.length (num l) = l := by
 induction l with
 | nil => rfl
 | cons b r ih =>
  have hlt := num_lt r
  have hp : 0 < 2 ^ r.length := Nat.pow_pos (by decide)
  rw [List.length_cons, ofN]
  have e1 : num (b :: r) / 2 ^ r.length % 2 = if b then 1 else 0 := by
   rw [num]
   cases b
   ·simp [Nat.div_eq_of_lt hlt]
   ·simp only [if_true]
    rw [Nat.add_comm, Nat.add_div_right _ hp, Nat.div_eq_of_lt hlt]
  have e2 : ofN r.length (num (b :: r)) = r := by
   rw [← ih]
   have key : ∀ n u v, u % 2 ^ n = v % 2 ^ n → ofN n u = ofN n v := by
    intro n
    induction n with
    | zero => intros; rfl
    | succ n ih =>
     intro u v h
     rw [ofN, ofN]
     rw [Nat.pow_succ, Nat.mod_mul, Nat.mod_mul] at h
     have hu := Nat.mod_lt u (show 0 < 2 ^ n from Nat.pow_pos (by decide))
     have hv := Nat.mod_lt v (show 0 < 2 ^ n from Nat.pow_pos (by decide))
     have h1 : u % 2 ^ n = v % 2 ^ n := by
      have := congrArg (· % 2 ^ n) h
      simpa [Nat.add_mul_mod_self_left, Nat.mod_eq_of_lt hu, Nat.mod_eq_of_lt hv] using this
     have h2 : u / 2 ^ n % 2 = v / 2 ^ n % 2 := by
      rw [h1] at h
      exact Nat.eq_of_mul_eq_mul_left (show 0 < 2 ^ n from Nat.pow_pos (by decide)) (Nat.add_left_cancel h)
     rw [h2, ih u v h1]
   rw [ih]
   conv => rhs; rw [← ih]
   apply key
   rw [num]
   cases b
   ·simp
   ·simp
  rw [e1, e2]
  cases b <;> simp

/-- the byte of eight bits or fewer, the rest of it 0 -/
def byteOf (l : Bits) : Nat := num l * 2 ^ (8 - l.length)
/-- bits as bytes, the last filled with 0 -/
def packN (l : Bits) : List Nat := if _h : l = [] then [] else byteOf (l.take 8) :: packN (l.drop 8)
termination_by l.length
decreasing_by
 have : 0 < l.length := List.length_pos_iff.2 _h
 simp only [List.length_drop]
 omega

theorem packN_nil : packN [] = [] := by rw [packN]; simp
theorem packN_part {l : Bits} (h : 0 < l.length) (h8 : l.length ≤ 8) : packN l = [byteOf l] := by
 rw [packN, dif_neg (by rintro rfl; simp at h), List.take_of_length_le h8, List.drop_eq_nil_of_le h8, packN_nil]
theorem packN_cons {l : Bits} (h : l ≠ []) : packN l = byteOf (l.take 8) :: packN (l.drop 8) := by rw [packN, dif_neg h]
theorem packN_append (q : Nat) : ∀ (a b : Bits), a.length = 8 * q → packN (a ++ b) = packN a ++ packN b := by
 induction q with
 | zero => intro a b h; obtain rfl := List.eq_nil_of_length_eq_zero (by simpa using h : a.length = 0); rw [packN_nil]; rfl
 | succ q ih =>
  intro a b h
  have hne : a ≠ [] := by rintro rfl; simp at h
  rw [packN_cons (l := a ++ b) (by simp [hne]), packN_cons hne, List.take_append_of_le_length (by omega), List.drop_append_of_le_length (by omega), ih _ _ (by rw [List.length_drop]; omega)]
  rfl
theorem packN_length (l : Bits) : (packN l).length = (l.length + 7) / 8 := by
 induction h : l.length using Nat.strongRecOn generalizing l with
 | ind n ih =>
  rw [packN]
  split
  ·rename_i h0; subst h0; simp at h; subst h; rfl
  ·rename_i h0
   have : 0 < l.length := List.length_pos_iff.2 h0
   rw [List.length_cons, ih (l.drop 8).length (by rw [List.length_drop]; omega) _ rfl, List.length_drop]
   omega
theorem byteOf_lt {l : Bits} (h : l.length ≤ 8) : byteOf l < 256 := by
 have h1 := num_lt l
 unfold byteOf
 calc num l * 2 ^ (8 - l.length) < 2 ^ l.length * 2 ^ (8 - l.length) := Nat.mul_lt_mul_of_pos_right h1 (Nat.pow_pos (by decide))
  _ = 256 := by rw [← Nat.pow_add, Nat.add_sub_cancel' h]
theorem packN_lt (l : Bits) : ∀ x ∈ packN l, x < 256 := by
 induction h : l.length using Nat.strongRecOn generalizing l with
 | ind n ih =>
  intro x hx
  rw [packN] at hx
  split at hx
  ·cases hx
  ·rename_i h0
   have : 0 < l.length := List.length_pos_iff.2 h0
   rcases List.mem_cons.1 hx with rfl | hx
   ·exact byteOf_lt (by rw [List.length_take]; omega)
   ·exact ih (l.drop 8).length (by rw [List.length_drop]; omega) _ rfl x hx

/-- more bits within a byte: the new ones are laid into the room -/
theorem byteOf_more (p x : Bits) (h : p.length + x.length ≤ 8) : byteOf (p ++ x) = byteOf p ||| num x <<< (8 - p.length - x.length) := by
 have hx := num_lt x
 have e : byteOf (p ++ x) = byteOf p + num x * 2 ^ (8 - p.length - x.length) := by
  unfold byteOf
  rw [num_append, List.length_append, Nat.add_mul, Nat.mul_assoc, ← Nat.pow_add]
  congr 3 <;> omega
 rw [e, Nat.shiftLeft_eq]
 have hb : byteOf p = 2 ^ (8 - p.length) * num p := by unfold byteOf; rw [Nat.mul_comm]
 have hlt : num x * 2 ^ (8 - p.length - x.length) < 2 ^ (8 - p.length) := by
  calc num x * 2 ^ (8 - p.length - x.length) < 2 ^ x.length * 2 ^ (8 - p.length - x.length) := Nat.mul_lt_mul_of_pos_right hx (Nat.pow_pos (by decide))
   _ = 2 ^ (8 - p.length) := by rw [← Nat.pow_add]; congr 1; omega
 rw [hb]
 exact Nat.two_pow_add_eq_or_of_lt hlt _

/-- the bytes of bits, one more of 0 behind them if the last is whole -/
def padded (l : Bits) : List Nat := if l.length % 8 = 0 then packN l ++ [0] else packN l
theorem padded_step (l y : Bits) (hy : 0 < y.length) (h8 : y.length ≤ 8 - l.length % 8) :
  ∃ H b, padded l = H ++ [b] ∧ b < 256 ∧ packN (l ++ y) = H ++ [b ||| num y <<< (8 - l.length % 8 - y.length)] ∧ H.length = l.length / 8 := by
 have hsplit : l = l.take (8 * (l.length / 8)) ++ l.drop (8 * (l.length / 8)) := (List.take_append_drop _ _).symm
 have hF : (l.take (8 * (l.length / 8))).length = 8 * (l.length / 8) := by rw [List.length_take]; omega
 have hp : (l.drop (8 * (l.length / 8))).length = l.length % 8 := by rw [List.length_drop]; omega
 obtain ⟨F, hFe⟩ : ∃ F, l.take (8 * (l.length / 8)) = F := ⟨_, rfl⟩
 obtain ⟨p, hpe⟩ : ∃ p, l.drop (8 * (l.length / 8)) = p := ⟨_, rfl⟩
 rw [hFe, hpe] at hsplit
 rw [hFe] at hF
 rw [hpe] at hp
 obtain ⟨q, hq⟩ : ∃ q, l.length / 8 = q := ⟨_, rfl⟩
 rw [hq] at hF
 have hFl : (packN F).length = q := by rw [packN_length, hF]; omega
 by_cases h0 : l.length % 8 = 0
 ·have hp0 : p = [] := List.eq_nil_of_length_eq_zero (by omega)
  subst hp0
  rw [List.append_nil] at hsplit
  subst hsplit
  refine ⟨packN l, 0, by unfold padded; rw [if_pos h0], by omega, ?_, by rw [hFl]; exact hq.symm⟩
  rw [packN_append q l y hF, packN_part hy (by omega), h0]
  have := byteOf_more [] y (by simpa using (by omega : y.length ≤ 8))
  rw [List.nil_append] at this
  rw [this]
  simp [byteOf, num]
 ·refine ⟨packN F, byteOf p, ?_, byteOf_lt (by omega), ?_, by rw [hFl]; exact hq.symm⟩
  ·unfold padded
   rw [if_neg h0]
   conv => lhs; rw [hsplit]
   rw [packN_append q F p hF, packN_part (l := p) (by omega) (by omega)]
  ·conv => lhs; rw [hsplit]
   rw [List.append_assoc, packN_append q F (p ++ y) hF, packN_part (l := p ++ y) (by rw [List.length_append]; omega) (by rw [List.length_append]; omega), byteOf_more p y (by omega), hp]
/-- so many bits out of the midst of a number -/
theorem ofN_more (a t v m : Nat) (ht : t ≤ m) : ofN a (v / 2 ^ m) ++ ofN t (v / 2 ^ (m - t)) = ofN (a + t) (v / 2 ^ (m - t)) := by
 rw [ofN_split, Nat.div_div_eq_div_mul, ← Nat.pow_add, Nat.sub_add_cancel ht]

/-! ### the bits of bytes -/
end Go.Proofs.YtflnpcgnenhogaaGreatDoor.bit
namespace Go.Proofs.YtflnpcgnenhogaaGreatDoor.ls
open Go.Proofs.YtflnpcgnenhogaaGreatDoor.bit

inductive Cd where
 | una
 | gam
 | zet (k : Nat)
def Cd.ok : Cd → Prop
 | .zet k => 1 ≤ k ∧ k ≤ 16
 | _ => True
def Cd.most : Cd → Nat
 | .una => 65535
 | _ => 281474976710654
def un (v : Nat) : Bits := List.replicate v false ++ [true]
/-- how many bits numbers below k have -/
def clog (k : Nat) : Nat := if k ≤ 1 then 0 else Nat.log2 (k - 1) + 1
def mini (v k : Nat) : Bits := if v < 2 ^ clog k - k then ofN (clog k - 1) v else ofN (clog k) (v + (2 ^ clog k - k))
/-- a number's bits in a code -/
def cb : Cd → Nat → Bits
 | .una, v => un v
 | .gam, v => un (Nat.log2 (v + 1)) ++ ofN (Nat.log2 (v + 1)) (v + 1 - 2 ^ Nat.log2 (v + 1))
 | .zet k, v => un (Nat.log2 (v + 1) / k) ++ mini (v + 1 - 2 ^ (Nat.log2 (v + 1) / k * k)) (2 ^ ((Nat.log2 (v + 1) / k + 1) * k) - 2 ^ (Nat.log2 (v + 1) / k * k))

theorem clog_le {k : Nat} : k ≤ 2 ^ clog k := by
 unfold clog
 split
 ·simp; omega
 ·have := @Nat.lt_log2_self (k - 1)
  omega
theorem clog_lt {k : Nat} (h : 2 ≤ k) : 0 < clog k ∧ 2 ^ (clog k - 1) < k := by
 unfold clog
 rw [if_neg (by omega)]
 have := Nat.log2_self_le (n := k - 1) (by omega)
 simp only [Nat.add_sub_cancel]
 omega
theorem clog_one {k : Nat} (h : k ≤ 1) : clog k = 0 := if_pos h
theorem pow_clog {k : Nat} (h : 2 ≤ k) : 2 ^ clog k = 2 * 2 ^ (clog k - 1) := by
 have := clog_lt h
 obtain ⟨s, hs⟩ : ∃ s, clog k = s + 1 := ⟨clog k - 1, by omega⟩
 rw [hs, Nat.add_sub_cancel, Nat.pow_succ]
 omega
/-- bits numbers below 2^b have -/
theorem clog_pow {k b : Nat} (h : k ≤ 2 ^ b) : clog k ≤ b := by
 by_cases h2 : 2 ≤ k
 ·have h3 := clog_lt h2
  rcases Nat.lt_or_ge b (clog k) with hlt | hge
  ·have : 2 ^ b ≤ 2 ^ (clog k - 1) := Nat.pow_le_pow_right (by decide) (by omega)
   omega
  ·exact hge
 ·rw [clog_one (by omega)]; omega

/-- how many 0 stand ahead of a 1, of so many bits at most -/
def zer : Nat → Bits → Option Nat
 | 0, _ => none
 | _ + 1, [] => none
 | f + 1, b :: r => if b then some 0 else (zer f r).map (· + 1)
def mread (k : Nat) (B : Bits) : Option (Nat × Nat) :=
 if clog k = 0 then some (0, 0)
 else if B.length < clog k - 1 then none
 else if num (B.take (clog k - 1)) < 2 ^ clog k - k then some (num (B.take (clog k - 1)), clog k - 1)
 else if B.length < clog k then none
 else some (num (B.take (clog k)) - (2 ^ clog k - k), clog k)
/-- the number that bits say in a code, and how many of them -/
def rd : Cd → Bits → Option (Nat × Nat)
 | .una, B => (zer 65536 B).map fun n => (n, n + 1)
 | .gam, B => (zer 48 B).bind fun b => if (B.drop (b + 1)).length < b then none else some (num ((B.drop (b + 1)).take b) + 2 ^ b - 1, b + 1 + b)
 | .zet k, B => (zer (47 / k + 1) B).bind fun h => (mread (2 ^ ((h + 1) * k) - 2 ^ (h * k)) (B.drop (h + 1))).bind fun q =>
   if q.1 + 2 ^ (h * k) - 1 ≤ 281474976710654 then some (q.1 + 2 ^ (h * k) - 1, h + 1 + q.2) else none

theorem cb_una (v : Nat) : cb .una v = un v := rfl
theorem cb_gam (v : Nat) : cb .gam v = un (Nat.log2 (v + 1)) ++ ofN (Nat.log2 (v + 1)) (v + 1 - 2 ^ Nat.log2 (v + 1)) := rfl
theorem cb_zet (k v : Nat) : cb (.zet k) v = un (Nat.log2 (v + 1) / k) ++ mini (v + 1 - 2 ^ (Nat.log2 (v + 1) / k * k)) (2 ^ ((Nat.log2 (v + 1) / k + 1) * k) - 2 ^ (Nat.log2 (v + 1) / k * k)) := rfl
theorem un_length (v : Nat) : (un v).length = v + 1 := by simp [un]
theorem mini_length (v k : Nat) : (mini v k).length = if v < 2 ^ clog k - k then clog k - 1 else clog k := by
 unfold mini
 split <;> rw [ofN_length]
theorem mini_le (v k : Nat) : (mini v k).length ≤ clog k := by
 rw [mini_length]
 split <;> omega
theorem log_lt {v b : Nat} (h : v + 1 < 2 ^ b) : Nat.log2 (v + 1) < b := by
 have h1 := Nat.log2_self_le (n := v + 1) (by omega)
 rcases Nat.lt_or_ge (Nat.log2 (v + 1)) b with a | a
 ·exact a
 ·have : 2 ^ b ≤ 2 ^ Nat.log2 (v + 1) := Nat.pow_le_pow_right (by decide) a
  omega
theorem zet_parts (k v : Nat) (hk : 1 ≤ k) : v + 1 - 2 ^ (Nat.log2 (v + 1) / k * k) < 2 ^ ((Nat.log2 (v + 1) / k + 1) * k) - 2 ^ (Nat.log2 (v + 1) / k * k) ∧ 2 ^ (Nat.log2 (v + 1) / k * k) ≤ v + 1 := by
 obtain ⟨b, hb⟩ : ∃ b, Nat.log2 (v + 1) = b := ⟨_, rfl⟩
 rw [hb]
 have h1 := Nat.log2_self_le (n := v + 1) (by omega)
 have h2 := @Nat.lt_log2_self (v + 1)
 rw [hb] at h1 h2
 have h3 : b / k * k ≤ b := Nat.div_mul_le_self b k
 have h4 : b + 1 ≤ (b / k + 1) * k := by rw [Nat.add_mul, Nat.one_mul]; have := Nat.mod_lt b (show 0 < k by omega); have := Nat.div_add_mod b k; rw [Nat.mul_comm] at this; omega
 have h5 : 2 ^ (b / k * k) ≤ 2 ^ b := Nat.pow_le_pow_right (by decide) h3
 have h6 : 2 ^ (b + 1) ≤ 2 ^ ((b / k + 1) * k) := Nat.pow_le_pow_right (by decide) h4
 omega
/-- how many bits numbers have that are not great -/
theorem cb_le (c : Cd) (hc : c.ok) (v : Nat) (hv : v < 262144) (hu : c = .una → v ≤ 16) : (cb c v).length ≤ 40 := by
 have hl : Nat.log2 (v + 1) < 19 := log_lt (by rw [show (2 : Nat) ^ 19 = 524288 from rfl]; omega)
 cases c with
 | una => have := hu rfl; rw [cb, un_length]; omega
 | gam => rw [cb, List.length_append, un_length, ofN_length]; omega
 | zet k =>
  obtain ⟨hk1, hk2⟩ : 1 ≤ k ∧ k ≤ 16 := hc
  rw [cb, List.length_append, un_length]
  obtain ⟨b, hb⟩ : ∃ b, Nat.log2 (v + 1) = b := ⟨_, rfl⟩
  rw [hb] at hl ⊢
  have h1 := mini_le (v + 1 - 2 ^ (b / k * k)) (2 ^ ((b / k + 1) * k) - 2 ^ (b / k * k))
  have h2 : clog (2 ^ ((b / k + 1) * k) - 2 ^ (b / k * k)) ≤ (b / k + 1) * k := clog_pow (Nat.sub_le _ _)
  have h3 : b / k + 1 + (b / k + 1) * k ≤ 40 := by
   have : k = 1 ∨ k = 2 ∨ k = 3 ∨ k = 4 ∨ k = 5 ∨ k = 6 ∨ k = 7 ∨ k = 8 ∨ k = 9 ∨ k = 10 ∨ k = 11 ∨ k = 12 ∨ k = 13 ∨ k = 14 ∨ k = 15 ∨ k = 16 := by omega
   rcases this with rfl | rfl | rfl | rfl | rfl | rfl | rfl | rfl | rfl | rfl | rfl | rfl | rfl | rfl | rfl | rfl <;> omega
  omega
end Go.Proofs.YtflnpcgnenhogaaGreatDoor.ls
namespace Go.Proofs.YtflnpcgnenhogaaGreatDoor.ls
open Go.Proofs.YtflnpcgnenhogaaGreatDoor.bit

/-- numbers that rise, below 65536 -/
def Ris (l : List Nat) : Prop := l.Pairwise (· < ·) ∧ ∀ v ∈ l, v < 65536
structure Pr where
 win : Nat
 itv : Nat
 zet : Nat
def Pr.ok (p : Pr) : Prop := p.win ≤ 16 ∧ (p.itv = 0 ∨ 2 ≤ p.itv ∧ p.itv ≤ 64) ∧ 1 ≤ p.zet ∧ p.zet ≤ 16
def zig (z : Int) : Nat := if 0 ≤ z then (2 * z).toNat else (2 * (-(z + 1)) + 1).toNat
/-- runs so far (all but the last, the last): one number more, copied or not -/
def rst (q : List Nat × Nat) (own : Bool) : List Nat × Nat := if own != ((q.1.length + 1) % 2 == 1) then (q.1 ++ [q.2], 1) else (q.1, q.2 + 1)
def isIn (l : List Nat) (v : Nat) : Bool := decide (v ∈ l)
def runs (succ ref : List Nat) : List Nat × Nat := ref.foldl (fun q v => rst q (isIn succ v)) ([], 0)
def leftOf (succ ref : List Nat) : List Nat := succ.filter fun v => !(isIn ref v)
/-- how many of a list continue a -/
def cons1 : Nat → List Nat → Nat
 | _, [] => 0
 | a, b :: r => if b = a + 1 then cons1 b r + 1 else 0
theorem cons1_le : ∀ (a : Nat) (r : List Nat), cons1 a r ≤ r.length
 | _, [] => Nat.le_refl _
 | a, b :: r => by
  rw [cons1]
  split
  ·have := cons1_le b r; simp; omega
  ·simp
/-- the long rows among numbers, and what is left -/
def rws (least : Nat) : List Nat → List (Nat × Nat) × List Nat
 | [] => ([], [])
 | a :: r =>
  if 0 < least ∧ least ≤ cons1 a r + 1 then ((a, cons1 a r + 1) :: (rws least (r.drop (cons1 a r))).1, (rws least (r.drop (cons1 a r))).2)
  else ((rws least (r.drop (cons1 a r))).1, a :: r.take (cons1 a r) ++ (rws least (r.drop (cons1 a r))).2)
termination_by l => l.length
decreasing_by all_goals simp only [List.length_drop, List.length_cons]; omega
/-- the numbers of runs -/
def rnm : Nat → List Nat → List Nat
 | _, [] => []
 | i, n :: r => (n - min i 1) :: rnm (i + 1) r
/-- the numbers of rows, behind an end -/
def lnm (x itv : Nat) : Option Nat → List (Nat × Nat) → List Nat
 | _, [] => []
 | none, (f, n) :: r => zig ((f : Int) - x) :: (n - itv) :: lnm x itv (some (f + n - 1)) r
 | some e, (f, n) :: r => (f - e - 2) :: (n - itv) :: lnm x itv (some (f + n - 1)) r
/-- the numbers of what is left -/
def znm (x : Nat) : Option Nat → List Nat → List Nat
 | _, [] => []
 | none, v :: r => zig ((v : Int) - x) :: znm x (some v) r
 | some u, v :: r => (v - u - 1) :: znm x (some v) r
/-- all numbers of a list ahead, and behind its head -/
def hdN (succ : List Nat) (r : Nat) (p : Pr) : List (Cd × Nat) :=
 (.gam, succ.length) :: (if succ = [] then [] else if 0 < p.win then [(.una, r)] else [])
def runN (succ ref : List Nat) (r : Nat) : List (Cd × Nat) :=
 if 0 < r then (.gam, (runs succ ref).1.length) :: (rnm 0 (runs succ ref).1).map (fun v => (Cd.gam, v)) else []
def restN (x : Nat) (left : List Nat) (p : Pr) : List (Cd × Nat) :=
 if left = [] then [] else
  (if 0 < p.itv then [(Cd.gam, (rws p.itv left).1.length)] else []) ++ (lnm x p.itv none (rws p.itv left).1).map (fun v => (Cd.gam, v)) ++ (znm x none (rws p.itv left).2).map (fun v => (Cd.zet p.zet, v))
def tlN (x : Nat) (succ ref : List Nat) (r : Nat) (p : Pr) : List (Cd × Nat) :=
 if succ = [] then [] else runN succ ref r ++ restN x (leftOf succ ref) p
def nums (x : Nat) (succ ref : List Nat) (r : Nat) (p : Pr) : List (Cd × Nat) := hdN succ r p ++ tlN x succ ref r p
def bitsOf (l : List (Cd × Nat)) : Bits := l.flatMap fun q => cb q.1 q.2
theorem bitsOf_append (a b : List (Cd × Nat)) : bitsOf (a ++ b) = bitsOf a ++ bitsOf b := List.flatMap_append ..
theorem bitsOf_nil : bitsOf [] = [] := rfl
theorem bitsOf_cons (c : Cd) (v : Nat) (b : List (Cd × Nat)) : bitsOf ((c, v) :: b) = cb c v ++ bitsOf b := rfl
def lay (x : Nat) (succ ref : List Nat) (r : Nat) (p : Pr) : Bits := bitsOf (nums x succ ref r p)

/-! ### what runs are -/
def sum (l : List Nat) : Nat := l.foldr (· + ·) 0
theorem sum_append (a b : List Nat) : sum (a ++ b) = sum a + sum b := by
 induction a with
 | nil => simp [sum]
 | cons x a ih =>
  show x + sum (a ++ b) = x + sum a + sum b
  rw [ih]; omega
/-- what runs copy of a list -/
def exp : Nat → List Nat → List Nat → List Nat
 | _, [], _ => []
 | i, n :: R, ref => (if i % 2 = 0 then ref.take n else []) ++ exp (i + 1) R (ref.drop n)
theorem exp_snoc : ∀ (i : Nat) (I : List Nat) (n : Nat) (ref : List Nat), exp i (I ++ [n]) ref = exp i I ref ++ (if (i + I.length) % 2 = 0 then (ref.drop (sum I)).take n else [])
 | i, [], n, ref => by simp [exp, sum]
 | i, m :: I, n, ref => by
  show (if i % 2 = 0 then ref.take m else []) ++ exp (i + 1) (I ++ [n]) (ref.drop m) = _
  rw [exp_snoc (i + 1) I n (ref.drop m), List.drop_drop, ← List.append_assoc]
  have e : i + 1 + I.length = i + (m :: I).length := by simp; omega
  rw [e]
  rfl
theorem exp_more : ∀ (i : Nat) (I ref w : List Nat), sum I ≤ ref.length → exp i I (ref ++ w) = exp i I ref
 | _, [], _, _, _ => rfl
 | i, m :: I, ref, w, h => by
  have h' : m + sum I ≤ ref.length := h
  rw [exp, exp, List.take_append_of_le_length (by omega), List.drop_append_of_le_length (by omega), exp_more (i + 1) I (ref.drop m) w (by rw [List.length_drop]; omega)]
/-- runs of a list: what they come to, and what they copy -/
structure RunsOk (f : Nat → Bool) (ref : List Nat) (q : List Nat × Nat) : Prop where
 all : sum q.1 + q.2 = ref.length
 cop : exp 0 (q.1 ++ [q.2]) ref = ref.filter f
 pos : ∀ i (h : i < q.1.length), 0 < i → 0 < q.1[i]
 last : 0 < q.1.length → 0 < q.2
theorem RunsOk.step {f : Nat → Bool} {ref : List Nat} {q : List Nat × Nat} (h : RunsOk f ref q) (v : Nat) : RunsOk f (ref ++ [v]) (rst q (f v)) := by
 obtain ⟨I, n⟩ := q
 have hall : sum I + n = ref.length := h.all
 have hpos := h.pos
 have hlast : 0 < I.length → 0 < n := h.last
 have hcop := h.cop
 simp only at hcop hpos
 rw [exp_snoc, Nat.zero_add] at hcop
 have hd : (ref.drop (sum I)).length = n := by rw [List.length_drop]; omega
 rw [List.take_of_length_le (by omega)] at hcop
 by_cases hs : (f v != ((I.length + 1) % 2 == 1)) = true
 ·have e : rst (I, n) (f v) = (I ++ [n], 1) := by unfold rst; rw [if_pos hs]
  rw [e]
  refine ⟨?_, ?_, ?_, fun _ => Nat.one_pos⟩
  ·show sum (I ++ [n]) + 1 = _
   rw [sum_append, List.length_append, List.length_singleton]
   show sum I + (n + 0) + 1 = _
   omega
  ·show exp 0 (I ++ [n] ++ [1]) (ref ++ [v]) = _
   have s2 : sum (I ++ [n]) = ref.length := by rw [sum_append]; show sum I + (n + 0) = _; omega
   rw [exp_snoc, exp_more _ _ _ _ (by omega), exp_snoc, List.take_of_length_le (by omega), Nat.zero_add, Nat.zero_add, hcop, s2, List.filter_append, List.drop_left]
   congr 1
   rw [List.length_append, List.length_singleton]
   cases hf : f v
   ·rw [hf] at hs
    have : (I.length + 1) % 2 = 1 := by simpa using hs
    rw [if_neg (by omega)]
    simp [hf]
   ·rw [hf] at hs
    have : (I.length + 1) % 2 ≠ 1 := by simpa using hs
    rw [if_pos (by omega)]
    simp [hf]
  ·intro i hi h0
   show 0 < (I ++ [n])[i]
   rw [List.getElem_append]
   split
   ·exact hpos i (by assumption) h0
   ·rename_i hge
    simp only [List.length_append, List.length_singleton] at hi
    simp only [List.getElem_singleton]
    exact hlast (by omega)
 ·have e : rst (I, n) (f v) = (I, n + 1) := by unfold rst; rw [if_neg hs]
  rw [e]
  refine ⟨?_, ?_, hpos, fun _ => Nat.succ_pos _⟩
  ·show sum I + (n + 1) = _
   rw [List.length_append, List.length_singleton]
   omega
  ·show exp 0 (I ++ [n + 1]) (ref ++ [v]) = _
   rw [exp_snoc, exp_more _ _ _ _ (by omega), List.filter_append, ← hcop, Nat.zero_add, List.append_assoc]
   congr 1
   rw [List.drop_append_of_le_length (by omega), List.take_of_length_le (by rw [List.length_append, hd]; simp)]
   have hs' : (f v != ((I.length + 1) % 2 == 1)) = false := by simpa using hs
   cases hf : f v
   ·rw [hf] at hs'
    have : ¬ (I.length + 1) % 2 = 1 := by simpa using hs'
    rw [if_neg (by omega), if_neg (by omega)]
    simp [hf]
   ·rw [hf] at hs'
    have : (I.length + 1) % 2 = 1 := by simpa using hs'
    rw [if_pos (by omega), if_pos (by omega)]
    simp [hf]
theorem runs_fold (f : Nat → Bool) : ∀ (l ref : List Nat) (q : List Nat × Nat), RunsOk f ref q → RunsOk f (ref ++ l) (l.foldl (fun q v => rst q (f v)) q)
 | [], ref, q, h => by rw [List.append_nil]; exact h
 | v :: l, ref, q, h => by
  have := runs_fold f l (ref ++ [v]) _ (h.step v)
  rw [List.append_assoc] at this
  exact this
theorem runs_ok (succ ref : List Nat) : RunsOk (isIn succ) ref (runs succ ref) := by
 have := runs_fold (isIn succ) ref [] ([], 0) ⟨rfl, rfl, fun i h => by simp at h, fun h => by simp at h⟩
 exact this
theorem sum_len : ∀ (l : List Nat) (k : Nat), (∀ i (h : i < l.length), k ≤ i → 0 < l[i]) → l.length ≤ sum l + k
 | [], k, _ => by simp
 | n :: l, 0, h => by
  have h0 := h 0 (by simp) (Nat.le_refl _)
  have := sum_len l 0 (fun i hi _ => by have := h (i + 1) (by simpa using hi) (Nat.zero_le _); simpa using this)
  simp only [List.getElem_cons_zero] at h0
  show l.length + 1 ≤ n + sum l + 0
  omega
 | n :: l, k + 1, h => by
  have := sum_len l k (fun i hi hk => by have := h (i + 1) (by simpa using hi) (by omega); simpa using this)
  show l.length + 1 ≤ n + sum l + (k + 1)
  omega
theorem RunsOk.len {f : Nat → Bool} {ref : List Nat} {q : List Nat × Nat} (h : RunsOk f ref q) : q.1.length ≤ ref.length := by
 have h1 := sum_len q.1 1 (fun i hi h1 => h.pos i hi (by omega))
 have h2 := h.all
 rcases Nat.eq_zero_or_pos q.1.length with h3 | h3
 ·omega
 ·have := h.last h3; omega

/-! ### what rows are -/
def row (q : Nat × Nat) : List Nat := List.range' q.1 q.2
theorem cons1_spec : ∀ (a : Nat) (r : List Nat), r.take (cons1 a r) = List.range' (a + 1) (cons1 a r) ∧ ∀ (h : cons1 a r < r.length), r[cons1 a r] ≠ a + 1 + cons1 a r
 | a, [] => ⟨rfl, fun h => by simp [cons1] at h⟩
 | a, b :: r => by
  rw [cons1]
  by_cases hb : b = a + 1
  ·subst hb
   simp only [if_true]
   obtain ⟨h1, h2⟩ := cons1_spec (a + 1) r
   refine ⟨by rw [List.take_succ_cons, h1]; rfl, fun h => ?_⟩
   have := h2 (by simpa using h)
   rw [List.getElem_cons_succ]
   omega
  ·simp only [if_neg hb]
   refine ⟨rfl, fun _ => ?_⟩
   rw [List.getElem_cons_zero]
   omega
/-- rows that lie apart, behind an end, each so long at least -/
def Apart (least : Nat) : Option Nat → List (Nat × Nat) → Prop
 | _, [] => True
 | none, (f, n) :: r => least ≤ n ∧ 0 < n ∧ f + n ≤ 65536 ∧ Apart least (some (f + n - 1)) r
 | some e, (f, n) :: r => e + 2 ≤ f ∧ least ≤ n ∧ 0 < n ∧ f + n ≤ 65536 ∧ Apart least (some (f + n - 1)) r
theorem Apart.weak {least : Nat} {e : Option Nat} {l : List (Nat × Nat)} (h : Apart least e l) (e' : Nat) (he : ∀ e'', e = some e'' → e' ≤ e'') (hh : e = none → ∀ q ∈ l, e' + 2 ≤ q.1) : Apart least (some e') l := by
 cases l with
 | nil => exact trivial
 | cons q l =>
  obtain ⟨f, n⟩ := q
  cases e with
  | none =>
   obtain ⟨h1, h2, h3, h4⟩ := h
   exact ⟨hh rfl _ (List.mem_cons_self ..), h1, h2, h3, h4⟩
  | some e'' =>
   obtain ⟨h0, h1, h2, h3, h4⟩ := h
   have := he _ rfl
   exact ⟨by omega, h1, h2, h3, h4⟩
theorem rws_nil (least : Nat) : rws least [] = ([], []) := by rw [rws]
theorem rws_cons (least a : Nat) (r : List Nat) : rws least (a :: r) = if 0 < least ∧ least ≤ cons1 a r + 1 then ((a, cons1 a r + 1) :: (rws least (r.drop (cons1 a r))).1, (rws least (r.drop (cons1 a r))).2)
  else ((rws least (r.drop (cons1 a r))).1, a :: r.take (cons1 a r) ++ (rws least (r.drop (cons1 a r))).2) := by rw [rws]
theorem head_row (a : Nat) (r : List Nat) : a :: r.take (cons1 a r) = row (a, cons1 a r + 1) := by
 rw [(cons1_spec a r).1]
 rfl
structure RwsOk (least : Nat) (l : List Nat) (q : List (Nat × Nat) × List Nat) : Prop where
 perm : List.Perm (q.1.flatMap row ++ q.2) l
 sub : List.Sublist q.2 l
 apart : Apart least none q.1
 from_ : ∀ t ∈ q.1, t.1 ∈ l
theorem rws_ok (least : Nat) (l : List Nat) (hl : Ris l) : RwsOk least l (rws least l) := by
 induction hn : l.length using Nat.strongRecOn generalizing l with
 | ind m ih =>
  cases l with
  | nil => rw [rws_nil]; exact ⟨by simp, by simp, trivial, fun t ht => by cases ht⟩
  | cons a r =>
   rw [rws_cons]
   obtain ⟨k, hk⟩ : ∃ k, cons1 a r = k := ⟨_, rfl⟩
   have hr := head_row a r
   have hspec := (cons1_spec a r).2
   rw [hk] at hr hspec ⊢
   have hkl : k ≤ r.length := by rw [← hk]; exact cons1_le a r
   have hsub : List.Sublist (r.drop k) (a :: r) := (List.drop_sublist k r).trans (List.sublist_cons_self a r)
   have hl2 : Ris (r.drop k) := ⟨hl.1.sublist hsub, fun v hv => hl.2 v (hsub.subset hv)⟩
   have IH := ih (r.drop k).length (by rw [List.length_drop]; simp at hn; omega) (r.drop k) hl2 rfl
   obtain ⟨q, hq⟩ : ∃ q, rws least (r.drop k) = q := ⟨_, rfl⟩
   rw [hq] at IH ⊢
   have hsplit : a :: r = row (a, k + 1) ++ r.drop k := by rw [← hr, List.cons_append, List.take_append_drop]
   have hend : a + k < 65536 := by
    have h1 : a + k ∈ row (a, k + 1) := by show _ ∈ List.range' a (k + 1); rw [List.mem_range'_1]; omega
    exact hl.2 _ (by rw [hsplit]; exact List.mem_append_left _ h1)
   have hgap : ∀ v ∈ r.drop k, a + k + 2 ≤ v := by
    have hp := hl.1
    rw [hsplit] at hp
    have hlt := (List.pairwise_append.1 hp).2.2 (a + k) (by show _ ∈ List.range' a (k + 1); rw [List.mem_range'_1]; omega)
    have hp2 := (List.pairwise_append.1 hp).2.1
    intro v hv
    by_cases hkr : k < r.length
    ·have h2 := hspec hkr
     rw [List.drop_eq_getElem_cons hkr] at hv hlt hp2
     have h4 := hlt _ (List.mem_cons_self ..)
     rcases List.mem_cons.1 hv with rfl | hv
     ·omega
     ·have := (List.pairwise_cons.1 hp2).1 v hv
      omega
    ·rw [List.drop_eq_nil_of_le (by omega)] at hv
     cases hv
   by_cases hc : 0 < least ∧ least ≤ k + 1
   ·rw [if_pos hc]
    refine ⟨?_, IH.sub.trans hsub, ?_, fun t ht => ?_⟩
    ·rw [hsplit]
     show List.Perm (row (a, k + 1) ++ q.1.flatMap row ++ q.2) _
     rw [List.append_assoc]
     exact IH.perm.append_left _
    ·show least ≤ k + 1 ∧ 0 < k + 1 ∧ a + (k + 1) ≤ 65536 ∧ Apart least (some (a + (k + 1) - 1)) q.1
     refine ⟨hc.2, by omega, by omega, IH.apart.weak _ (fun _ h => by cases h) (fun _ t ht => ?_)⟩
     have := hgap _ (IH.from_ t ht)
     omega
    ·rcases List.mem_cons.1 ht with rfl | ht
     ·exact List.mem_cons_self ..
     ·exact hsub.subset (IH.from_ t ht)
   ·rw [if_neg hc]
    refine ⟨?_, ?_, IH.apart, fun t ht => hsub.subset (IH.from_ t ht)⟩
    ·rw [hsplit]
     show List.Perm (q.1.flatMap row ++ (a :: r.take k ++ q.2)) _
     rw [hr, ← List.append_assoc]
     refine (List.perm_append_comm.append_right _).trans ?_
     rw [List.append_assoc]
     exact IH.perm.append_left _
    ·show List.Sublist (a :: r.take k ++ q.2) (a :: r)
     rw [hsplit, hr]
     exact (List.Sublist.refl _).append IH.sub
theorem rws_zero (l : List Nat) : rws 0 l = ([], l) := by
 induction hn : l.length using Nat.strongRecOn generalizing l with
 | ind m ih =>
  cases l with
  | nil => exact rws_nil 0
  | cons a r =>
   rw [rws_cons, if_neg (by omega), ih (r.drop (cons1 a r)).length (by rw [List.length_drop]; simp at hn; omega) _ rfl]
   simp
end Go.Proofs.YtflnpcgnenhogaaGreatDoor.ls
namespace Go.Proofs.YtflnpcgnenhogaaGreatDoor.ls
open Go.Proofs.YtflnpcgnenhogaaGreatDoor.bit

/-- a number in a code, at most so great, from a place on -/
def tk (B : Bits) (c : Cd) (most a : Nat) : Option (Nat × Nat) := (rd c (B.drop a)).bind fun q => if q.1 ≤ most then some (q.1, a + q.2) else none
theorem isIn_mem {l : List Nat} {v : Nat} : isIn l v = true ↔ v ∈ l := by unfold isIn; simp

theorem sumLen (l : List (Nat × Nat)) : (l.flatMap row).length = sum (l.map (·.2)) := by
 induction l with
 | nil => rfl
 | cons q l ih =>
  rw [List.flatMap_cons, List.length_append, ih, row, List.length_range']
  rfl
theorem zig_lt {v x : Nat} (hv : v < 65536) (hx : x < 65536) : zig ((v : Int) - x) ≤ 262144 := by
 unfold zig
 split <;> omega
theorem Ris.len {l : List Nat} (h : Ris l) : l.length ≤ 65536 := by
 have key : ∀ (l : List Nat) (b : Nat), l.Pairwise (· < ·) → (∀ v ∈ l, b ≤ v ∧ v < 65536) → b ≤ 65536 → l.length + b ≤ 65536 := by
  intro l
  induction l with
  | nil => intro b _ _ h; simpa using h
  | cons a l ih =>
   intro b h1 h2 _
   obtain ⟨p1, p2⟩ := List.pairwise_cons.1 h1
   have ha := h2 a (List.mem_cons_self ..)
   have := ih (a + 1) p2 (fun v hv => ⟨p1 v hv, (h2 v (List.mem_cons_of_mem _ hv)).2⟩) (by omega)
   simp only [List.length_cons]
   omega
 have := key l 0 h.1 (fun v hv => ⟨Nat.zero_le _, h.2 v hv⟩) (by omega)
 omega
/-- what may be encoded -/
def MayN (x : Nat) (succ ref : List Nat) (r : Nat) (p : Pr) : Prop := p.ok ∧ x < 65536 ∧ Ris succ ∧ Ris ref ∧ r ≤ p.win ∧ (0 < r ∨ ref = [])
end Go.Proofs.YtflnpcgnenhogaaGreatDoor.ls
namespace Go.Proofs.YtflnpcgnenhogaaGreatDoor.ls
open Go.Proofs.YtflnpcgnenhogaaGreatDoor.bit

theorem pack_split (l : Bits) (q : Nat) (h : 8 * q ≤ l.length) : packN l = packN (l.take (8 * q)) ++ packN (l.drop (8 * q)) := by
 rw [← packN_append q _ _ (by rw [List.length_take]; omega), List.take_append_drop]
theorem pack_take (l : Bits) (q : Nat) (h : 8 * q ≤ l.length) : (packN l).take q = packN (l.take (8 * q)) := by
 have e : (packN (l.take (8 * q))).length = q := by rw [packN_length, List.length_take]; omega
 rw [pack_split l q h, List.take_append_of_le_length (by omega), List.take_of_length_le (by omega)]
theorem pack_drop (l : Bits) (q : Nat) (h : 8 * q ≤ l.length) : (packN l).drop q = packN (l.drop (8 * q)) := by
 have e : (packN (l.take (8 * q))).length = q := by rw [packN_length, List.length_take]; omega
 rw [pack_split l q h, List.drop_append_of_le_length (by omega), List.drop_eq_nil_of_le (by omega), List.nil_append]
end Go.Proofs.YtflnpcgnenhogaaGreatDoor.ls
namespace Go.Proofs.YtflnpcgnenhogaaGreatDoor.bit

theorem num_zeros (n : Nat) (r : Bits) : num (List.replicate n false ++ r) = num r := by
 induction n with
 | zero => rfl
 | succ n ih => rw [List.replicate_succ, List.cons_append, num, ih]; simp
theorem ofN_snoc (a k v : Nat) : ofN (a + 1) (v / 2 ^ k) = ofN a (v / 2 ^ (k + 1)) ++ [v / 2 ^ k % 2 == 1] := by
 rw [ofN_split a 1 (v / 2 ^ k), Nat.div_div_eq_div_mul, ← Nat.pow_add]
 simp [ofN]
theorem or_add (p a y : Nat) (hy : y < 2 ^ p) : (2 ^ (p + 1) * a + y) ||| 2 ^ p = 2 ^ (p + 1) * a + y + 2 ^ p := by
 have h1 : 2 ^ (p + 1) * a + y = 2 ^ p * (2 * a) + y := by rw [Nat.pow_succ]; simp [Nat.mul_assoc]
 have h2 : 2 ^ p * (2 * a) + y + 2 ^ p = 2 ^ p * (2 * a + 1) + y := by rw [Nat.mul_add]; omega
 rw [h1, h2]
 apply Nat.eq_of_testBit_eq
 intro i
 rw [Nat.testBit_or, Nat.testBit_two_pow_mul_add _ hy, Nat.testBit_two_pow_mul_add _ hy, Nat.testBit_two_pow]
 by_cases h : i < p
 ·have : ¬ p = i := by omega
  simp [h, this]
 ·rw [if_neg h, if_neg h]
  by_cases e : p = i
  ·subst e
   simp
  ·obtain ⟨m, hm⟩ : ∃ m, i - p = m + 1 := ⟨i - p - 1, by omega⟩
   have e1 : (2 * a + 1) / 2 = a := by omega
   have e2 : (2 * a) / 2 = a := by omega
   rw [hm, Nat.testBit_succ, Nat.testBit_succ, e1, e2]
   simp [e]

theorem byteOf_set (p : Bits) (h8 : p.length ≤ 8) (i : Nat) (hi : i < p.length) (h : p[i] = false) : byteOf (p.set i true) = byteOf p ||| 2 ^ (7 - i) := by
 have e0 : p = p.take i ++ false :: p.drop (i + 1) := by
  conv => lhs; rw [← List.take_append_drop i p]
  rw [List.drop_eq_getElem_cons hi, h]
 obtain ⟨A, hA⟩ : ∃ A, p.take i = A := ⟨_, rfl⟩
 obtain ⟨B, hB⟩ : ∃ B, p.drop (i + 1) = B := ⟨_, rfl⟩
 have hAl : A.length = i := by rw [← hA, List.length_take]; omega
 have hBl : B.length = p.length - (i + 1) := by rw [← hB, List.length_drop]
 have e1 : p.set i true = A ++ true :: B := by
  rw [List.set_eq_take_append_cons_drop, if_pos hi, hA, hB]
 rw [hA, hB] at e0
 have hlen : (p.set i true).length = p.length := List.length_set
 unfold byteOf
 rw [hlen, e1]
 conv => rhs; rw [e0]
 have hl2 : (A ++ false :: B).length = p.length := by rw [← e0]
 rw [hl2, num_append, num_append, num, num, List.length_cons, List.length_cons]
 have hlt := num_lt B
 obtain ⟨d, hd⟩ : ∃ d, 8 - p.length = d := ⟨_, rfl⟩
 obtain ⟨b, hb⟩ : ∃ b, B.length = b := ⟨_, rfl⟩
 rw [hb] at hlt hBl ⊢
 rw [hd, show 7 - i = b + d by omega]
 have hy : num B * 2 ^ d < 2 ^ (b + d) := by
  rw [Nat.pow_add]
  exact Nat.mul_lt_mul_of_pos_right hlt (Nat.pow_pos (by decide))
 have e3 : (num A * 2 ^ (b + 1) + ((if false = true then 2 ^ b else 0) + num B)) * 2 ^ d = 2 ^ (b + d + 1) * num A + num B * 2 ^ d := by
  rw [Nat.add_mul]
  simp only [Bool.false_eq_true, if_false, Nat.zero_add]
  rw [Nat.mul_assoc, ← Nat.pow_add, show b + 1 + d = b + d + 1 by omega, Nat.mul_comm]
 have e4 : (num A * 2 ^ (b + 1) + ((if true = true then 2 ^ b else 0) + num B)) * 2 ^ d = 2 ^ (b + d + 1) * num A + num B * 2 ^ d + 2 ^ (b + d) := by
  simp only [if_true]
  rw [Nat.add_mul, Nat.add_mul, Nat.mul_assoc, ← Nat.pow_add, show b + 1 + d = b + d + 1 by omega, Nat.mul_comm (num A), ← Nat.pow_add]
  omega
 rw [e3, e4, or_add _ _ _ hy]

theorem packN_set : ∀ (n : Nat) (l : Bits) (i : Nat), l.length ≤ n → (hi : i < l.length) → l[i] = false → packN (l.set i true) = (packN l).set (i / 8) ((packN l).getD (i / 8) 0 ||| 2 ^ (7 - i % 8))
 | 0, l, i, h0, hi, _ => by omega
 | n + 1, l, i, hn, hi, h => by
  have hne : l ≠ [] := by rintro rfl; simp at hi
  have hne2 : l.set i true ≠ [] := by intro e; have := congrArg List.length e; rw [List.length_set] at this; simp at this; exact hne this
  rw [packN_cons hne, packN_cons hne2]
  by_cases h8 : i < 8
  ·rw [show i / 8 = 0 by omega, show i % 8 = i by omega, List.set_cons_zero, List.getD_cons_zero]
   have e1 : (l.set i true).take 8 = (l.take 8).set i true := by rw [List.take_set]
   have e2 : (l.set i true).drop 8 = l.drop 8 := by rw [List.drop_set, if_pos h8]
   have hl8 : i < (l.take 8).length := by rw [List.length_take]; omega
   rw [e1, e2, byteOf_set _ (by rw [List.length_take]; omega) i hl8 (by rw [List.getElem_take]; exact h)]
  ·obtain ⟨j, rfl⟩ : ∃ j, i = j + 8 := ⟨i - 8, by omega⟩
   have e1 : (l.set (j + 8) true).take 8 = l.take 8 := by rw [List.take_set, List.set_eq_of_length_le (by rw [List.length_take]; omega)]
   have e2 : (l.set (j + 8) true).drop 8 = (l.drop 8).set j true := by rw [List.drop_set, if_neg h8]; congr 1
   have ih := packN_set n (l.drop 8) j (by rw [List.length_drop]; omega) (by rw [List.length_drop]; omega) (by rw [List.getElem_drop]; simp only [Nat.add_comm 8 j]; exact h)
   rw [e1, e2, ih, show (j + 8) / 8 = j / 8 + 1 by omega, show (j + 8) % 8 = j % 8 by omega, List.set_cons_succ, List.getD_cons_succ]

theorem packN_zeros : ∀ (n : Nat), packN (List.replicate n false) = List.replicate ((n + 7) / 8) 0 := by
 have num0 : ∀ m, num (List.replicate m false) = 0 := fun m => by
  have h := num_zeros m []
  rwa [List.append_nil] at h
 intro n
 induction n using Nat.strongRecOn with
 | _ n ih =>
  by_cases h : n = 0
  ·subst h; simp [packN_nil]
  ·have hne : List.replicate n false ≠ [] := by intro e; have := congrArg List.length e; simp at this; exact h this
   rw [packN_cons hne, List.drop_replicate, ih (n - 8) (by omega), List.take_replicate]
   unfold byteOf
   rw [num0, Nat.zero_mul]
   rw [show (n + 7) / 8 = (n - 8 + 7) / 8 + 1 by omega, List.replicate_succ]

/-- what stands in the bytes after so many bits: the others are 0 yet -/
def part (l : Bits) (k : Nat) : Bits := l.take k ++ List.replicate (l.length - k) false
theorem part_length (l : Bits) (k : Nat) (h : k ≤ l.length) : (part l k).length = l.length := by
 unfold part
 rw [List.length_append, List.length_take, List.length_replicate]
 omega
theorem part_step (l : Bits) (k : Nat) (h : k < l.length) : part l (k + 1) = if l[k] then (part l k).set k true else part l k := by
 have hr : List.replicate (l.length - k) false = false :: List.replicate (l.length - (k + 1)) false := by
  rw [← List.replicate_succ]; congr 1; omega
 have hk : (l.take k).length = k := by rw [List.length_take]; omega
 unfold part
 rw [hr, List.take_succ_eq_append_getElem h]
 cases hb : l[k]
 ·simp
 ·simp only [if_true]
  rw [List.set_append_right _ _ (by omega), hk, Nat.sub_self, List.set_cons_zero]
  simp
theorem part_get (l : Bits) (k : Nat) (h : k < l.length) (h' : k < (part l k).length) : (part l k)[k] = false := by
 have hk : (l.take k).length = k := by rw [List.length_take]; omega
 have e : ∀ (m : Bits) (hm : k < m.length), m = l.take k ++ List.replicate (l.length - k) false → m[k] = false := by
  intro m hm em
  subst em
  rw [List.getElem_append_right (by omega)]
  simp
 exact e _ h' rfl
theorem part_zero (l : Bits) : packN (part l 0) = List.replicate ((l.length + 7) / 8) 0 := by
 unfold part
 rw [List.take_zero, List.nil_append, Nat.sub_zero, packN_zeros]
theorem part_all (l : Bits) : part l l.length = l := by
 unfold part
 rw [List.take_length, Nat.sub_self]
 simp
end Go.Proofs.YtflnpcgnenhogaaGreatDoor.bit
