/- Own lemmas, laid together. -/
import Init
namespace Go.Proofs.YtflnpcgnenhogaaGreatDoor.bit

abbrev Bits := List Bool

def num : Bits → Nat
 | [] => 0
 | b :: r => (if b then 2 ^ r.length else 0) + num r
def ofN : Nat → Nat → Bits
 | 0,_ => []
 | n + 1,v => (v / 2 ^ n % 2 == 1) :: ofN n v

theorem num_lt (l : Bits) : num l < 2 ^ l.length := by
 induction l with
 | nil => simp [num]
 | cons b r ih =>
  rw [num,List.length_cons,Nat.pow_succ]
  split <;> omega
theorem num_append (a b : Bits) : num (a ++ b) = num a * 2 ^ b.length + num b := by
 induction a with
 | nil => simp [num]
 | cons x r ih =>
  rw [List.cons_append,num,num,ih,List.length_append,Nat.pow_add,Nat.add_mul]
  split <;> simp [Nat.add_assoc]
theorem ofN_length (n v : Nat) : (ofN n v).length = n := by
 induction n with
 | zero => rfl
 | succ n ih => rw [ofN,List.length_cons,ih]
theorem num_ofN (n v : Nat) : num (ofN n v) = v % 2 ^ n := by
 induction n with
 | zero => simp [ofN,num,Nat.mod_one]
 | succ n ih =>
  rw [ofN,num,ih,ofN_length,Nat.pow_succ,Nat.mod_mul]
  rcases Nat.mod_two_eq_zero_or_one (v / 2 ^ n) with h | h <;> rw [h] <;> simp
  omega
theorem ofN_split (a b v : Nat) : ofN (a + b) v = ofN a (v / 2 ^ b) ++ ofN b v := by
 induction a with
 | zero => simp [ofN]
 | succ a ih =>
  rw [Nat.add_right_comm,ofN,ih,ofN,List.cons_append,Nat.div_div_eq_div_mul,<- Nat.pow_add,Nat.add_comm b a]
theorem ofN_num (l : Bits) : ofN l.length (num l) = l := by
 induction l with
 | nil => rfl
 | cons b r ih =>
  have hlt := num_lt r
  have hp : 0 < 2 ^ r.length := Nat.pow_pos (by decide)
  rw [List.length_cons,ofN]
  have e1 : num (b :: r) / 2 ^ r.length % 2 = if b then 1 else 0 := by
   rw [num]
   cases b
   ·simp [Nat.div_eq_of_lt hlt]
   ·simp only [if_true]
    rw [Nat.add_comm,Nat.add_div_right _ hp,Nat.div_eq_of_lt hlt]
  have e2 : ofN r.length (num (b :: r)) = r := by
   rw [<- ih]
   have key : ∀ n u v,u % 2 ^ n = v % 2 ^ n -> ofN n u = ofN n v := by
    intro n
    induction n with
    | zero => intros; rfl
    | succ n ih =>
     intro u v h
     rw [ofN,ofN]
     rw [Nat.pow_succ,Nat.mod_mul,Nat.mod_mul] at h
     have hu := Nat.mod_lt u (show 0 < 2 ^ n from Nat.pow_pos (by decide))
     have hv := Nat.mod_lt v (show 0 < 2 ^ n from Nat.pow_pos (by decide))
     have h1 : u % 2 ^ n = v % 2 ^ n := by
      have := congrArg (· % 2 ^ n) h
      simpa [Nat.add_mul_mod_self_left,Nat.mod_eq_of_lt hu,Nat.mod_eq_of_lt hv] using this
     have h2 : u / 2 ^ n % 2 = v / 2 ^ n % 2 := by
      rw [h1] at h
      exact Nat.eq_of_mul_eq_mul_left (show 0 < 2 ^ n from Nat.pow_pos (by decide)) (Nat.add_left_cancel h)
     rw [h2,ih u v h1]
   rw [ih]
   conv => rhs; rw [<- ih]
   apply key
   rw [num]
   cases b
   ·simp
   ·simp
  rw [e1,e2]
  cases b <;> simp

def byteOf (l : Bits) : Nat := num l * 2 ^ (8 - l.length)
def packN (l : Bits) : List Nat := if _h : l = [] then [] else byteOf (l.take 8) :: packN (l.drop 8)
termination_by l.length
decreasing_by
 have : 0 < l.length := List.length_pos_iff.2 _h
 simp only [List.length_drop]
 omega

theorem packN_nil : packN [] = [] := by rw [packN]; simp
theorem packN_part {l : Bits} (h : 0 < l.length) (h8 : l.length ≤ 8) : packN l = [byteOf l] := by
 rw [packN,dif_neg (by rintro rfl; simp at h),List.take_of_length_le h8,List.drop_eq_nil_of_le h8,packN_nil]
theorem packN_cons {l : Bits} (h : l ≠ []) : packN l = byteOf (l.take 8) :: packN (l.drop 8) := by rw [packN, dif_neg h]
theorem packN_append (q : Nat) : ∀ (a b : Bits), a.length = 8 * q → packN (a ++ b) = packN a ++ packN b := by
 induction q with
 | zero => intro a b h; obtain rfl := List.eq_nil_of_length_eq_zero (by simpa using h : a.length = 0); rw [packN_nil]; rfl
 | succ q ih =>
  intro a b h
  have hne : a ≠ [] := by rintro rfl; simp at h
  rw [packN_cons (l := a ++ b) (by simp [hne]),packN_cons hne,List.take_append_of_le_length (by omega),List.drop_append_of_le_length (by omega),ih _ _ (by rw [List.length_drop]; omega)]
  rfl
theorem packN_length (l : Bits) : (packN l).length = (l.length + 7) / 8 := by
 induction h : l.length using Nat.strongRecOn generalizing l with
 | ind n ih =>
  rw [packN]
  split
  ·rename_i h0; subst h0; simp at h; subst h; rfl
  ·rename_i h0
   have : 0 < l.length := List.length_pos_iff.2 h0
   rw [List.length_cons,ih (l.drop 8).length (by rw [List.length_drop]; omega) _ rfl,List.length_drop]
   omega
theorem byteOf_lt {l : Bits} (h : l.length ≤ 8) : byteOf l < 256 := by
 have h1 := num_lt l
 unfold byteOf
 calc num l * 2 ^ (8 - l.length) < 2 ^ l.length * 2 ^ (8 - l.length) := Nat.mul_lt_mul_of_pos_right h1 (Nat.pow_pos (by decide))
  _ = 256 := by rw [<- Nat.pow_add,Nat.add_sub_cancel' h]
theorem packN_lt (l : Bits) : ∀ x ∈ packN l, x < 256 := by
 induction h : l.length using Nat.strongRecOn generalizing l with
 | ind n ih =>
  intro x hx
  rw [packN] at hx
  split at hx
  ·cases hx
  ·rename_i h0
   have : 0 < l.length := List.length_pos_iff.2 h0
   rcases List.mem_cons.1 hx with rfl | hx
   ·exact byteOf_lt (by rw [List.length_take]; omega)
   ·exact ih (l.drop 8).length (by rw [List.length_drop]; omega) _ rfl x hx

theorem byteOf_more (p x : Bits) (h : p.length + x.length ≤ 8) : byteOf (p ++ x) = byteOf p ||| num x <<< (8 - p.length - x.length) := by
 have hx := num_lt x
 have e : byteOf (p ++ x) = byteOf p + num x * 2 ^ (8 - p.length - x.length) := by
  unfold byteOf
  rw [num_append,List.length_append,Nat.add_mul,Nat.mul_assoc,<- Nat.pow_add]
  congr 3 <;> omega
 rw [e,Nat.shiftLeft_eq]
 have hb : byteOf p = 2 ^ (8 - p.length) * num p := by unfold byteOf; rw [Nat.mul_comm]
 have hlt : num x * 2 ^ (8 - p.length - x.length) < 2 ^ (8 - p.length) := by
  calc num x * 2 ^ (8 - p.length - x.length) < 2 ^ x.length * 2 ^ (8 - p.length - x.length) := Nat.mul_lt_mul_of_pos_right hx (Nat.pow_pos (by decide))
   _ = 2 ^ (8 - p.length) := by rw [<- Nat.pow_add]; congr 1; omega
 rw [hb]
 exact Nat.two_pow_add_eq_or_of_lt hlt _

def padded (l : Bits) : List Nat := if l.length % 8 = 0 then packN l ++ [0] else packN l
theorem padded_step (l y : Bits) (hy : 0 < y.length) (h8 : y.length ≤ 8 - l.length % 8) :
  ∃ H b,padded l = H ++ [b] /\ b < 256 /\ packN (l ++ y) = H ++ [b ||| num y <<< (8 - l.length % 8 - y.length)] /\ H.length = l.length / 8 := by
 have hsplit : l = l.take (8 * (l.length / 8)) ++ l.drop (8 * (l.length / 8)) := (List.take_append_drop _ _).symm
 have hF : (l.take (8 * (l.length / 8))).length = 8 * (l.length / 8) := by rw [List.length_take]; omega
 have hp : (l.drop (8 * (l.length / 8))).length = l.length % 8 := by rw [List.length_drop]; omega
 obtain ⟨F,hFe⟩ : ∃ F,l.take (8 * (l.length / 8)) = F := ⟨_,rfl⟩
 obtain ⟨p,hpe⟩ : ∃ p,l.drop (8 * (l.length / 8)) = p := ⟨_,rfl⟩
 rw [hFe,hpe] at hsplit
 rw [hFe] at hF
 rw [hpe] at hp
 obtain ⟨q,hq⟩ : ∃ q,l.length / 8 = q := ⟨_,rfl⟩
 rw [hq] at hF
 have hFl : (packN F).length = q := by rw [packN_length,hF]; omega
 by_cases h0 : l.length % 8 = 0
 ·have hp0 : p = [] := List.eq_nil_of_length_eq_zero (by omega)
  subst hp0
  rw [List.append_nil] at hsplit
  subst hsplit
  refine ⟨packN l,0,by unfold padded; rw [if_pos h0],by omega,?_,by rw [hFl]; exact hq.symm⟩
  rw [packN_append q l y hF,packN_part hy (by omega),h0]
  have := byteOf_more [] y (by simpa using (by omega : y.length <= 8))
  rw [List.nil_append] at this
  rw [this]
  simp [byteOf,num]
 ·refine ⟨packN F,byteOf p,?_,byteOf_lt (by omega),?_,by rw [hFl]; exact hq.symm⟩
  ·unfold padded
   rw [if_neg h0]
   conv => lhs; rw [hsplit]
   rw [packN_append q F p hF,packN_part (l := p) (by omega) (by omega)]
  ·conv => lhs; rw [hsplit]
   rw [List.append_assoc,packN_append q F (p ++ y) hF,packN_part (l := p ++ y) (by rw [List.length_append]; omega) (by rw [List.length_append]; omega),byteOf_more p y (by omega),hp]
theorem ofN_more (a t v m : Nat) (ht : t ≤ m) : ofN a (v / 2 ^ m) ++ ofN t (v / 2 ^ (m - t)) = ofN (a + t) (v / 2 ^ (m - t)) := by
 rw [ofN_split,Nat.div_div_eq_div_mul,<- Nat.pow_add,Nat.sub_add_cancel ht]

/-! ### the bits of bytes -/
def unpack (l : List Nat) : Bits := l.flatMap (ofN 8)
theorem unpack_cons (b : Nat) (r : List Nat) : unpack (b :: r) = ofN 8 b ++ unpack r := rfl
theorem unpack_append (a b : List Nat) : unpack (a ++ b) = unpack a ++ unpack b := List.flatMap_append ..
theorem unpack_length (l : List Nat) : (unpack l).length = 8 * l.length := by
 induction l with
 | nil => rfl
 | cons b r ih => rw [unpack_cons,List.length_append,ih,ofN_length,List.length_cons]; omega
theorem unpack_within (l : List Nat) (a t : Nat) (ha : a / 8 < l.length) (ht : t ≤ 8 - a % 8) :
  ((unpack l).drop a).take t = ofN t (l[a / 8] / 2 ^ (8 - a % 8 - t)) := by
 obtain ⟨q,hq⟩ : ∃ q,a / 8 = q := ⟨_,rfl⟩
 obtain ⟨r,hr⟩ : ∃ r,a % 8 = r := ⟨_,rfl⟩
 have hlt : q < l.length := by omega
 have hs : l = l.take q ++ l[q] :: l.drop (q + 1) := by rw [<- List.drop_eq_getElem_cons hlt,List.take_append_drop]
 have hP : (unpack (l.take q)).length = 8 * q := by rw [unpack_length,List.length_take]; omega
 have e : (unpack l).drop a = (ofN 8 l[q] ++ unpack (l.drop (q + 1))).drop r := by
  conv => lhs; rw [hs]
  rw [unpack_append,unpack_cons,List.drop_append,hP,List.drop_eq_nil_of_le (by omega),List.nil_append]
  congr 1
  omega
 subst hq
 rw [hr] at ht ⊢
 rw [e]
 have h8 : ofN 8 l[a / 8] = ofN r (l[a / 8] / 2 ^ (8 - r)) ++ ofN (8 - r) l[a / 8] := by
  have := ofN_split r (8 - r) l[a / 8]
  rw [show r + (8 - r) = 8 by omega] at this
  exact this
 have hd : (ofN 8 l[a / 8] ++ unpack (l.drop (a / 8 + 1))).drop r = ofN (8 - r) l[a / 8] ++ unpack (l.drop (a / 8 + 1)) := by
  rw [h8,List.append_assoc,List.drop_append,ofN_length,List.drop_eq_nil_of_le (by rw [ofN_length]; omega),Nat.sub_self]
  rfl
 rw [hd,List.take_append_of_le_length (by rw [ofN_length]; omega)]
 have h9 := ofN_split t (8 - r - t) l[a / 8]
 rw [show t + (8 - r - t) = 8 - r by omega] at h9
 rw [h9,List.take_append_of_le_length (by rw [ofN_length]; omega),List.take_of_length_le (by rw [ofN_length]; omega)]
theorem num_within (b r t : Nat) (ht : t ≤ 8 - r) : num (ofN t (b / 2 ^ (8 - r - t))) = b % 2 ^ (8 - r) / 2 ^ (8 - r - t) := by
 rw [num_ofN]
 have e : 2 ^ (8 - r) = 2 ^ (8 - r - t) * 2 ^ t := by rw [<- Nat.pow_add]; congr 1; omega
 rw [e,Nat.mod_mul_right_div_self]

end Go.Proofs.YtflnpcgnenhogaaGreatDoor.bit
namespace Go.Proofs.YtflnpcgnenhogaaGreatDoor.ls
open Go.Proofs.YtflnpcgnenhogaaGreatDoor.bit

inductive Cd where
 | una
 | gam
 | zet (k : Nat)
def Cd.ok : Cd → Prop
 | .zet k => 1 <= k /\ k <= 16
 | _ => True
def Cd.most : Cd → Nat
 | .una => 65535
 | _ => 281474976710654
def un (v : Nat) : Bits := List.replicate v false ++ [true]
def clog (k : Nat) : Nat := if k ≤ 1 then 0 else Nat.log2 (k - 1) + 1
def mini (v k : Nat) : Bits := if v < 2 ^ clog k - k then ofN (clog k - 1) v else ofN (clog k) (v + (2 ^ clog k - k))
def cb : Cd → Nat → Bits
 | .una,v => un v
 | .gam,v => un (Nat.log2 (v + 1)) ++ ofN (Nat.log2 (v + 1)) (v + 1 - 2 ^ Nat.log2 (v + 1))
 | .zet k,v => un (Nat.log2 (v + 1) / k) ++ mini (v + 1 - 2 ^ (Nat.log2 (v + 1) / k * k)) (2 ^ ((Nat.log2 (v + 1) / k + 1) * k) - 2 ^ (Nat.log2 (v + 1) / k * k))

theorem clog_le {k : Nat} : k ≤ 2 ^ clog k := by
 unfold clog
 split
 ·simp; omega
 ·have := @Nat.lt_log2_self (k - 1)
  omega
theorem clog_lt {k : Nat} (h : 2 ≤ k) : 0 < clog k ∧ 2 ^ (clog k - 1) < k := by
 unfold clog
 rw [if_neg (by omega)]
 have := Nat.log2_self_le (n := k - 1) (by omega)
 simp only [Nat.add_sub_cancel]
 omega
theorem clog_one {k : Nat} (h : k ≤ 1) : clog k = 0 := if_pos h
theorem pow_clog {k : Nat} (h : 2 ≤ k) : 2 ^ clog k = 2 * 2 ^ (clog k - 1) := by
 have := clog_lt h
 obtain ⟨s,hs⟩ : ∃ s,clog k = s + 1 := ⟨clog k - 1,by omega⟩
 rw [hs,Nat.add_sub_cancel,Nat.pow_succ]
 omega
theorem clog_pow {k b : Nat} (h : k ≤ 2 ^ b) : clog k ≤ b := by
 by_cases h2 : 2 <= k
 ·have h3 := clog_lt h2
  rcases Nat.lt_or_ge b (clog k) with hlt | hge
  ·have : 2 ^ b <= 2 ^ (clog k - 1) := Nat.pow_le_pow_right (by decide) (by omega)
   omega
  ·exact hge
 ·rw [clog_one (by omega)]; omega

def zer : Nat → Bits → Option Nat
 | 0,_ => none
 | _ + 1,[] => none
 | f + 1,b :: r => if b then some 0 else (zer f r).map (· + 1)
def mread (k : Nat) (B : Bits) : Option (Nat × Nat) :=
 if clog k = 0 then some (0,0)
 else if B.length < clog k - 1 then none
 else if num (B.take (clog k - 1)) < 2 ^ clog k - k then some (num (B.take (clog k - 1)),clog k - 1)
 else if B.length < clog k then none
 else some (num (B.take (clog k)) - (2 ^ clog k - k),clog k)
def rd : Cd → Bits → Option (Nat × Nat)
 | .una,B => (zer 65536 B).map fun n => (n,n + 1)
 | .gam,B => (zer 48 B).bind fun b => if (B.drop (b + 1)).length < b then none else some (num ((B.drop (b + 1)).take b) + 2 ^ b - 1,b + 1 + b)
 | .zet k,B => (zer (47 / k + 1) B).bind fun h => (mread (2 ^ ((h + 1) * k) - 2 ^ (h * k)) (B.drop (h + 1))).bind fun q =>
   if q.1 + 2 ^ (h * k) - 1 <= 281474976710654 then some (q.1 + 2 ^ (h * k) - 1,h + 1 + q.2) else none

def rd0 : Cd → Bits → Option (Nat × Nat)
 | .una,B => (zer 65536 B).map fun n => (n,n + 1)
 | .gam,B => (zer 48 B).bind fun b => if (B.drop (b + 1)).length < b then none else some (num ((B.drop (b + 1)).take b) + 2 ^ b - 1,b + 1 + b)
 | .zet k,B => (zer (47 / k + 1) B).bind fun h => (mread (2 ^ ((h + 1) * k) - 2 ^ (h * k)) (B.drop (h + 1))).map fun q => (q.1 + 2 ^ (h * k) - 1,h + 1 + q.2)
theorem cb_una (v : Nat) : cb .una v = un v := rfl
theorem cb_gam (v : Nat) : cb .gam v = un (Nat.log2 (v + 1)) ++ ofN (Nat.log2 (v + 1)) (v + 1 - 2 ^ Nat.log2 (v + 1)) := rfl
theorem cb_zet (k v : Nat) : cb (.zet k) v = un (Nat.log2 (v + 1) / k) ++ mini (v + 1 - 2 ^ (Nat.log2 (v + 1) / k * k)) (2 ^ ((Nat.log2 (v + 1) / k + 1) * k) - 2 ^ (Nat.log2 (v + 1) / k * k)) := rfl
theorem rd_una (B : Bits) : rd .una B = (zer 65536 B).map fun n => (n, n + 1) := rfl
theorem rd_gam (B : Bits) : rd .gam B = (zer 48 B).bind fun b => if (B.drop (b + 1)).length < b then none else some (num ((B.drop (b + 1)).take b) + 2 ^ b - 1, b + 1 + b) := rfl
theorem rd_zet (k : Nat) (B : Bits) : rd (.zet k) B = (zer (47 / k + 1) B).bind fun h => (mread (2 ^ ((h + 1) * k) - 2 ^ (h * k)) (B.drop (h + 1))).bind fun q =>
      if q.1 + 2 ^ (h * k) - 1 ≤ 281474976710654 then some (q.1 + 2 ^ (h * k) - 1, h + 1 + q.2) else none := rfl
theorem un_length (v : Nat) : (un v).length = v + 1 := by simp [un]
theorem zer_un : ∀ (v f : Nat) (R : Bits), v < f → zer f (un v ++ R) = some v
 | 0,f + 1,R,_ => rfl
 | v + 1,f + 1,R,h => by
  have e : un (v + 1) ++ R = false :: (un v ++ R) := by simp [un,List.replicate_succ]
  rw [e,zer,if_neg (by simp),zer_un v f R (by omega)]
  rfl
theorem zer_bound : ∀ (f : Nat) (B : Bits) (n : Nat), zer f B = some n → n < f ∧ n + 1 ≤ B.length
 | 0,B,n,h => by simp [zer] at h
 | f + 1,[],n,h => by simp [zer] at h
 | f + 1,b :: r,n,h => by
  rw [zer] at h
  by_cases hb : b = true
  ·rw [if_pos hb] at h
   have := Option.some.inj h
   subst this
   simp
  ·rw [if_neg hb] at h
   cases hz : zer f r with
   | none => rw [hz] at h; cases h
   | some m =>
    rw [hz] at h
    have h1 := zer_bound f r m hz
    have h2 : m + 1 = n := Option.some.inj h
    simp only [List.length_cons]
    omega
theorem mini_length (v k : Nat) : (mini v k).length = if v < 2 ^ clog k - k then clog k - 1 else clog k := by
 unfold mini
 split <;> rw [ofN_length]
theorem mini_le (v k : Nat) : (mini v k).length ≤ clog k := by
 rw [mini_length]
 split <;> omega
theorem mread_mini (v k : Nat) (hv : v < k) (R : Bits) : mread k (mini v k ++ R) = some (v, (mini v k).length) := by
 by_cases h2 : 2 <= k
 ·obtain ⟨c0,c1⟩ := clog_lt h2
  have c2 := pow_clog h2
  have c3 := @clog_le k
  unfold mread
  rw [if_neg (by omega)]
  by_cases hm : v < 2 ^ clog k - k
  ·have e : mini v k = ofN (clog k - 1) v := by unfold mini; rw [if_pos hm]
   rw [e]
   have et : (ofN (clog k - 1) v ++ R).take (clog k - 1) = ofN (clog k - 1) v := by rw [List.take_append_of_le_length (by rw [ofN_length]; exact Nat.le_refl _),List.take_of_length_le (by rw [ofN_length]; exact Nat.le_refl _)]
   rw [if_neg (by rw [List.length_append,ofN_length]; omega),et,num_ofN,Nat.mod_eq_of_lt (by omega),if_pos hm,ofN_length]
  ·have e : mini v k = ofN (clog k) (v + (2 ^ clog k - k)) := by unfold mini; rw [if_neg hm]
   obtain ⟨u,hu⟩ : ∃ u,v + (2 ^ clog k - k) = u := ⟨_,rfl⟩
   rw [e,hu]
   have hul : u < 2 ^ clog k := by omega
   have es : ofN (clog k) u = ofN (clog k - 1) (u / 2) ++ ofN 1 u := by
    have := ofN_split (clog k - 1) 1 u
    rw [show clog k - 1 + 1 = clog k by omega] at this
    simpa using this
   have et : (ofN (clog k) u ++ R).take (clog k - 1) = ofN (clog k - 1) (u / 2) := by
    rw [es,List.append_assoc,List.take_append_of_le_length (by rw [ofN_length]; exact Nat.le_refl _),List.take_of_length_le (by rw [ofN_length]; exact Nat.le_refl _)]
   have et2 : (ofN (clog k) u ++ R).take (clog k) = ofN (clog k) u := by rw [List.take_append_of_le_length (by rw [ofN_length]; exact Nat.le_refl _),List.take_of_length_le (by rw [ofN_length]; exact Nat.le_refl _)]
   rw [if_neg (by rw [List.length_append,ofN_length]; omega),et,num_ofN,Nat.mod_eq_of_lt (by omega),if_neg (by omega),if_neg (by rw [List.length_append,ofN_length]; omega),et2,num_ofN,Nat.mod_eq_of_lt hul,ofN_length]
   congr 2
   omega
 ·obtain rfl : k = 1 := by omega
  obtain rfl : v = 0 := by omega
  rfl
theorem mread_bound {k : Nat} (hk : 0 < k) {B : Bits} {v n : Nat} (h : mread k B = some (v, n)) : v < k ∧ n ≤ B.length := by
 unfold mread at h
 have c3 := @clog_le k
 split at h
 ·rename_i h0
  have := Option.some.inj h
  injection this with h1 h2
  omega
 ·rename_i h0
  split at h
  ·cases h
  ·rename_i hl
   split at h
   ·rename_i hm
    have := Option.some.inj h
    injection this with h1 h2
    have h3 : 2 <= k := by
     rcases Nat.lt_or_ge k 2 with a | a
     ·exact absurd (clog_one (by omega)) h0
     ·exact a
    have c1 := clog_lt h3
    have c2 := pow_clog h3
    omega
   ·split at h
    ·cases h
    ·rename_i hl2
     have := Option.some.inj h
     injection this with h1 h2
     have hn := num_lt (B.take (clog k))
     rw [List.length_take,Nat.min_eq_left (by omega)] at hn
     omega
theorem pow48 {a : Nat} (h : a ≤ 48) : 2 ^ a ≤ 281474976710656 := by
 have : (2 : Nat) ^ a <= 2 ^ 48 := Nat.pow_le_pow_right (by decide) h
 exact this
theorem log_lt {v b : Nat} (h : v + 1 < 2 ^ b) : Nat.log2 (v + 1) < b := by
 have h1 := Nat.log2_self_le (n := v + 1) (by omega)
 rcases Nat.lt_or_ge (Nat.log2 (v + 1)) b with a | a
 ·exact a
 ·have : 2 ^ b <= 2 ^ Nat.log2 (v + 1) := Nat.pow_le_pow_right (by decide) a
  omega
theorem zet_parts (k v : Nat) (hk : 1 ≤ k) : v + 1 - 2 ^ (Nat.log2 (v + 1) / k * k) < 2 ^ ((Nat.log2 (v + 1) / k + 1) * k) - 2 ^ (Nat.log2 (v + 1) / k * k) ∧ 2 ^ (Nat.log2 (v + 1) / k * k) ≤ v + 1 := by
 obtain ⟨b,hb⟩ : ∃ b,Nat.log2 (v + 1) = b := ⟨_,rfl⟩
 rw [hb]
 have h1 := Nat.log2_self_le (n := v + 1) (by omega)
 have h2 := @Nat.lt_log2_self (v + 1)
 rw [hb] at h1 h2
 have h3 : b / k * k <= b := Nat.div_mul_le_self b k
 have h4 : b + 1 <= (b / k + 1) * k := by rw [Nat.add_mul,Nat.one_mul]; have := Nat.mod_lt b (show 0 < k by omega); have := Nat.div_add_mod b k; rw [Nat.mul_comm] at this; omega
 have h5 : 2 ^ (b / k * k) <= 2 ^ b := Nat.pow_le_pow_right (by decide) h3
 have h6 : 2 ^ (b + 1) <= 2 ^ ((b / k + 1) * k) := Nat.pow_le_pow_right (by decide) h4
 omega
theorem rd_cb (c : Cd) (hc : c.ok) (v : Nat) (hv : v ≤ c.most) (R : Bits) : rd c (cb c v ++ R) = some (v, (cb c v).length) := by
 cases c with
 | una =>
  show (zer 65536 (un v ++ R)).map _ = _
  rw [zer_un v 65536 R (Nat.lt_succ_of_le hv),cb,un_length]
  rfl
 | gam =>
  have hv' : v <= 281474976710654 := hv
  rw [rd_gam,cb_gam]
  obtain ⟨b,hb⟩ : ∃ b,Nat.log2 (v + 1) = b := ⟨_,rfl⟩
  have h1 := Nat.log2_self_le (n := v + 1) (by omega)
  have h2 := @Nat.lt_log2_self (v + 1)
  have h3 : Nat.log2 (v + 1) < 48 := log_lt (by rw [show (2 : Nat) ^ 48 = 281474976710656 from rfl]; omega)
  rw [hb] at h1 h2 h3 ⊢
  rw [Nat.pow_succ] at h2
  rw [List.append_assoc,zer_un b 48 _ h3]
  have e : (un b ++ (ofN b (v + 1 - 2 ^ b) ++ R)).drop (b + 1) = ofN b (v + 1 - 2 ^ b) ++ R := by
   rw [List.drop_append,un_length,List.drop_eq_nil_of_le (by rw [un_length]; exact Nat.le_refl _)]
   simp
  show (if _ then _ else _) = _
  rw [e,if_neg (by rw [List.length_append,ofN_length]; omega),List.take_append_of_le_length (by rw [ofN_length]; exact Nat.le_refl _),List.take_of_length_le (by rw [ofN_length]; exact Nat.le_refl _),num_ofN,Nat.mod_eq_of_lt (by omega),List.length_append,un_length,ofN_length]
  congr 2
  omega
 | zet k =>
  have hv' : v <= 281474976710654 := hv
  obtain ⟨hk1,hk2⟩ : 1 <= k /\ k <= 16 := hc
  obtain ⟨p1,p2⟩ := zet_parts k v hk1
  rw [rd_zet,cb_zet]
  have h3 : Nat.log2 (v + 1) < 48 := log_lt (by rw [show (2 : Nat) ^ 48 = 281474976710656 from rfl]; omega)
  obtain ⟨h,hh⟩ : ∃ h,Nat.log2 (v + 1) / k = h := ⟨_,rfl⟩
  have hle : h <= 47 / k := by rw [<- hh]; exact Nat.div_le_div_right (by omega)
  rw [hh] at p1 p2 ⊢
  rw [List.append_assoc,zer_un h (47 / k + 1) _ (by omega)]
  have e : ∀ Y : Bits,(un h ++ Y).drop (h + 1) = Y := fun Y => by
   rw [List.drop_append,un_length,List.drop_eq_nil_of_le (by rw [un_length]; exact Nat.le_refl _)]
   simp
  show Option.bind (mread _ ((un h ++ _).drop (h + 1))) _ = _
  rw [e,mread_mini _ _ p1]
  show (if _ then _ else _) = _
  rw [if_pos (show v + 1 - 2 ^ (h * k) + 2 ^ (h * k) - 1 <= 281474976710654 by omega),List.length_append,un_length]
  congr 2
  show v + 1 - 2 ^ (h * k) + 2 ^ (h * k) - 1 = v
  omega
theorem rd_bound (c : Cd) (hc : c.ok) {B : Bits} {v n : Nat} (h : rd c B = some (v, n)) : v ≤ c.most ∧ n ≤ B.length := by
 cases c with
 | una =>
  rw [rd_una] at h
  cases hz : zer 65536 B with
  | none => rw [hz] at h; cases h
  | some m =>
   rw [hz] at h
   have h1 := zer_bound _ _ _ hz
   have h2 := Option.some.inj h
   injection h2 with h3 h4
   show v <= 65535 /\ _
   omega
 | gam =>
  rw [rd_gam] at h
  cases hz : zer 48 B with
  | none => rw [hz] at h; cases h
  | some b =>
   rw [hz] at h
   have h1 := zer_bound _ _ _ hz
   simp only [Option.bind_some] at h
   split at h
   ·cases h
   ·rename_i hl
    rw [List.length_drop] at hl
    have h2 := Option.some.inj h
    injection h2 with h3 h4
    have h5 := num_lt ((B.drop (b + 1)).take b)
    have h6 : 2 ^ ((B.drop (b + 1)).take b).length <= 2 ^ b := Nat.pow_le_pow_right (by decide) (by rw [List.length_take]; omega)
    have h7 : 2 ^ (b + 1) <= 281474976710656 := pow48 (by omega)
    rw [Nat.pow_succ] at h7
    show v <= 281474976710654 /\ _
    omega
 | zet k =>
  obtain ⟨hk1,hk2⟩ : 1 <= k /\ k <= 16 := hc
  rw [rd_zet] at h
  cases hz : zer (47 / k + 1) B with
  | none => rw [hz] at h; cases h
  | some b =>
   rw [hz] at h
   have h1 := zer_bound _ _ _ hz
   simp only [Option.bind_some] at h
   cases hm : mread (2 ^ ((b + 1) * k) - 2 ^ (b * k)) (B.drop (b + 1)) with
   | none => rw [hm] at h; cases h
   | some q =>
    rw [hm] at h
    simp only [Option.bind_some] at h
    have hp : 2 ^ (b * k) < 2 ^ ((b + 1) * k) := Nat.pow_lt_pow_right (by decide) (by rw [Nat.add_mul]; omega)
    have h8 := mread_bound (v := q.1) (n := q.2) (by omega) hm
    rw [List.length_drop] at h8
    split at h
    ·rename_i hle
     have h2 := Option.some.inj h
     injection h2 with h3 h4
     show v <= 281474976710654 /\ _
     omega
    ·cases h
theorem rd0_una (B : Bits) : rd0 .una B = (zer 65536 B).map fun n => (n, n + 1) := rfl
theorem rd0_gam (B : Bits) : rd0 .gam B = (zer 48 B).bind fun b => if (B.drop (b + 1)).length < b then none else some (num ((B.drop (b + 1)).take b) + 2 ^ b - 1, b + 1 + b) := rfl
theorem rd0_zet (k : Nat) (B : Bits) : rd0 (.zet k) B = (zer (47 / k + 1) B).bind fun h => (mread (2 ^ ((h + 1) * k) - 2 ^ (h * k)) (B.drop (h + 1))).map fun q => (q.1 + 2 ^ (h * k) - 1, h + 1 + q.2) := rfl
theorem rd_rd0 (c : Cd) (hc : c.ok) (B : Bits) : rd c B = (rd0 c B).bind fun q => if q.1 ≤ c.most then some q else none := by
 cases c with
 | una =>
  rw [rd0_una]
  cases hr : rd .una B with
  | none =>
   rw [rd_una] at hr
   rw [hr]; rfl
  | some q =>
   have h := rd_bound .una trivial (v := q.1) (n := q.2) hr
   rw [rd_una] at hr
   rw [hr,Option.bind_some,if_pos h.1]
 | gam =>
  rw [rd0_gam]
  cases hr : rd .gam B with
  | none =>
   rw [rd_gam] at hr
   rw [hr]; rfl
  | some q =>
   have h := rd_bound .gam trivial (v := q.1) (n := q.2) hr
   rw [rd_gam] at hr
   rw [hr,Option.bind_some,if_pos h.1]
 | zet k =>
  rw [rd0_zet,rd_zet]
  cases zer (47 / k + 1) B with
  | none => rfl
  | some h =>
   simp only [Option.bind_some]
   cases mread (2 ^ ((h + 1) * k) - 2 ^ (h * k)) (B.drop (h + 1)) with
   | none => rfl
   | some q => rfl
theorem cb_pos (c : Cd) (v : Nat) : 0 < (cb c v).length := by
 cases c with
 | una => rw [cb_una,un_length]; exact Nat.succ_pos _
 | gam => rw [cb_gam,List.length_append,un_length]; exact Nat.add_pos_left (Nat.succ_pos _) _
 | zet k => rw [cb_zet,List.length_append,un_length]; exact Nat.add_pos_left (Nat.succ_pos _) _
theorem cb_le (c : Cd) (hc : c.ok) (v : Nat) (hv : v < 262144) (hu : c = .una → v ≤ 16) : (cb c v).length ≤ 40 := by
 have hl : Nat.log2 (v + 1) < 19 := log_lt (by rw [show (2 : Nat) ^ 19 = 524288 from rfl]; omega)
 cases c with
 | una => have := hu rfl; rw [cb,un_length]; omega
 | gam => rw [cb,List.length_append,un_length,ofN_length]; omega
 | zet k =>
  obtain ⟨hk1,hk2⟩ : 1 <= k /\ k <= 16 := hc
  rw [cb,List.length_append,un_length]
  obtain ⟨b,hb⟩ : ∃ b,Nat.log2 (v + 1) = b := ⟨_,rfl⟩
  rw [hb] at hl ⊢
  have h1 := mini_le (v + 1 - 2 ^ (b / k * k)) (2 ^ ((b / k + 1) * k) - 2 ^ (b / k * k))
  have h2 : clog (2 ^ ((b / k + 1) * k) - 2 ^ (b / k * k)) <= (b / k + 1) * k := clog_pow (Nat.sub_le _ _)
  have h3 : b / k + 1 + (b / k + 1) * k <= 40 := by
   have : k = 1 \/ k = 2 \/ k = 3 \/ k = 4 \/ k = 5 \/ k = 6 \/ k = 7 \/ k = 8 \/ k = 9 \/ k = 10 \/ k = 11 \/ k = 12 \/ k = 13 \/ k = 14 \/ k = 15 \/ k = 16 := by omega
   rcases this with rfl | rfl | rfl | rfl | rfl | rfl | rfl | rfl | rfl | rfl | rfl | rfl | rfl | rfl | rfl | rfl <;> omega
  omega
def Ris (l : List Nat) : Prop := l.Pairwise (· < ·) ∧ ∀ v ∈ l, v < 65536
structure Pr where
 win : Nat
 itv : Nat
 zet : Nat
def Pr.ok (p : Pr) : Prop := p.win ≤ 16 ∧ (p.itv = 0 ∨ 2 ≤ p.itv ∧ p.itv ≤ 64) ∧ 1 ≤ p.zet ∧ p.zet ≤ 16
def zig (z : Int) : Nat := if 0 ≤ z then (2 * z).toNat else (2 * (-(z + 1)) + 1).toNat
def zag (u : Nat) : Int := if u % 2 = 0 then ((u / 2 : Nat) : Int) else -((u / 2 : Nat) : Int) - 1
theorem zag_zig (z : Int) : zag (zig z) = z := by
 unfold zag zig
 split
 ·split <;> omega
 ·split <;> omega

def rst (q : List Nat × Nat) (own : Bool) : List Nat × Nat := if own != ((q.1.length + 1) % 2 == 1) then (q.1 ++ [q.2], 1) else (q.1, q.2 + 1)
def isIn (l : List Nat) (v : Nat) : Bool := decide (v ∈ l)
def runs (succ ref : List Nat) : List Nat × Nat := ref.foldl (fun q v => rst q (isIn succ v)) ([], 0)
def leftOf (succ ref : List Nat) : List Nat := succ.filter fun v => !(isIn ref v)
def cons1 : Nat → List Nat → Nat
 | _,[] => 0
 | a,b :: r => if b = a + 1 then cons1 b r + 1 else 0
theorem cons1_le : ∀ (a : Nat) (r : List Nat), cons1 a r ≤ r.length
 | _,[] => Nat.le_refl _
 | a,b :: r => by
  rw [cons1]
  split
  ·have := cons1_le b r; simp; omega
  ·simp
def rws (least : Nat) : List Nat → List (Nat × Nat) × List Nat
 | [] => ([],[])
 | a :: r =>
  if 0 < least /\ least <= cons1 a r + 1 then ((a,cons1 a r + 1) :: (rws least (r.drop (cons1 a r))).1,(rws least (r.drop (cons1 a r))).2)
  else ((rws least (r.drop (cons1 a r))).1,a :: r.take (cons1 a r) ++ (rws least (r.drop (cons1 a r))).2)
termination_by l => l.length
decreasing_by all_goals simp only [List.length_drop, List.length_cons]; omega
def rnm : Nat → List Nat → List Nat
 | _,[] => []
 | i,n :: r => (n - min i 1) :: rnm (i + 1) r
def lnm (x itv : Nat) : Option Nat → List (Nat × Nat) → List Nat
 | _,[] => []
 | none,(f,n) :: r => zig ((f : Int) - x) :: (n - itv) :: lnm x itv (some (f + n - 1)) r
 | some e,(f,n) :: r => (f - e - 2) :: (n - itv) :: lnm x itv (some (f + n - 1)) r
def znm (x : Nat) : Option Nat → List Nat → List Nat
 | _,[] => []
 | none,v :: r => zig ((v : Int) - x) :: znm x (some v) r
 | some u,v :: r => (v - u - 1) :: znm x (some v) r
def hdN (succ : List Nat) (r : Nat) (p : Pr) : List (Cd × Nat) :=
 (.gam,succ.length) :: (if succ = [] then [] else if 0 < p.win then [(.una,r)] else [])
def runN (succ ref : List Nat) (r : Nat) : List (Cd × Nat) :=
 if 0 < r then (.gam,(runs succ ref).1.length) :: (rnm 0 (runs succ ref).1).map (fun v => (Cd.gam,v)) else []
def restN (x : Nat) (left : List Nat) (p : Pr) : List (Cd × Nat) :=
 if left = [] then [] else
  (if 0 < p.itv then [(Cd.gam,(rws p.itv left).1.length)] else []) ++ (lnm x p.itv none (rws p.itv left).1).map (fun v => (Cd.gam,v)) ++ (znm x none (rws p.itv left).2).map (fun v => (Cd.zet p.zet,v))
def tlN (x : Nat) (succ ref : List Nat) (r : Nat) (p : Pr) : List (Cd × Nat) :=
 if succ = [] then [] else runN succ ref r ++ restN x (leftOf succ ref) p
def nums (x : Nat) (succ ref : List Nat) (r : Nat) (p : Pr) : List (Cd × Nat) := hdN succ r p ++ tlN x succ ref r p
def bitsOf (l : List (Cd × Nat)) : Bits := l.flatMap fun q => cb q.1 q.2
theorem bitsOf_append (a b : List (Cd × Nat)) : bitsOf (a ++ b) = bitsOf a ++ bitsOf b := List.flatMap_append ..
theorem bitsOf_nil : bitsOf [] = [] := rfl
theorem bitsOf_cons (c : Cd) (v : Nat) (b : List (Cd × Nat)) : bitsOf ((c, v) :: b) = cb c v ++ bitsOf b := rfl
def lay (x : Nat) (succ ref : List Nat) (r : Nat) (p : Pr) : Bits := bitsOf (nums x succ ref r p)

/-! ### what runs are -/
def sum (l : List Nat) : Nat := l.foldr (· + ·) 0
theorem sum_append (a b : List Nat) : sum (a ++ b) = sum a + sum b := by
 induction a with
 | nil => simp [sum]
 | cons x a ih =>
  show x + sum (a ++ b) = x + sum a + sum b
  rw [ih]; omega
def exp : Nat → List Nat → List Nat → List Nat
 | _,[],_ => []
 | i,n :: R,ref => (if i % 2 = 0 then ref.take n else []) ++ exp (i + 1) R (ref.drop n)
theorem exp_snoc : ∀ (i : Nat) (I : List Nat) (n : Nat) (ref : List Nat), exp i (I ++ [n]) ref = exp i I ref ++ (if (i + I.length) % 2 = 0 then (ref.drop (sum I)).take n else [])
 | i,[],n,ref => by simp [exp,sum]
 | i,m :: I,n,ref => by
  show (if i % 2 = 0 then ref.take m else []) ++ exp (i + 1) (I ++ [n]) (ref.drop m) = _
  rw [exp_snoc (i + 1) I n (ref.drop m),List.drop_drop,<- List.append_assoc]
  have e : i + 1 + I.length = i + (m :: I).length := by simp; omega
  rw [e]
  rfl
theorem exp_more : ∀ (i : Nat) (I ref w : List Nat), sum I ≤ ref.length → exp i I (ref ++ w) = exp i I ref
 | _,[],_,_,_ => rfl
 | i,m :: I,ref,w,h => by
  have h' : m + sum I <= ref.length := h
  rw [exp,exp,List.take_append_of_le_length (by omega),List.drop_append_of_le_length (by omega),exp_more (i + 1) I (ref.drop m) w (by rw [List.length_drop]; omega)]
structure RunsOk (f : Nat → Bool) (ref : List Nat) (q : List Nat × Nat) : Prop where
 all : sum q.1 + q.2 = ref.length
 cop : exp 0 (q.1 ++ [q.2]) ref = ref.filter f
 pos : ∀ i (h : i < q.1.length),0 < i -> 0 < q.1[i]
 last : 0 < q.1.length -> 0 < q.2
theorem RunsOk.step {f : Nat → Bool} {ref : List Nat} {q : List Nat × Nat} (h : RunsOk f ref q) (v : Nat) : RunsOk f (ref ++ [v]) (rst q (f v)) := by
 obtain ⟨I,n⟩ := q
 have hall : sum I + n = ref.length := h.all
 have hpos := h.pos
 have hlast : 0 < I.length -> 0 < n := h.last
 have hcop := h.cop
 simp only at hcop hpos
 rw [exp_snoc,Nat.zero_add] at hcop
 have hd : (ref.drop (sum I)).length = n := by rw [List.length_drop]; omega
 rw [List.take_of_length_le (by omega)] at hcop
 by_cases hs : (f v != ((I.length + 1) % 2 == 1)) = true
 ·have e : rst (I,n) (f v) = (I ++ [n],1) := by unfold rst; rw [if_pos hs]
  rw [e]
  refine ⟨?_,?_,?_,fun _ => Nat.one_pos⟩
  ·show sum (I ++ [n]) + 1 = _
   rw [sum_append,List.length_append,List.length_singleton]
   show sum I + (n + 0) + 1 = _
   omega
  ·show exp 0 (I ++ [n] ++ [1]) (ref ++ [v]) = _
   have s2 : sum (I ++ [n]) = ref.length := by rw [sum_append]; show sum I + (n + 0) = _; omega
   rw [exp_snoc,exp_more _ _ _ _ (by omega),exp_snoc,List.take_of_length_le (by omega),Nat.zero_add,Nat.zero_add,hcop,s2,List.filter_append,List.drop_left]
   congr 1
   rw [List.length_append,List.length_singleton]
   cases hf : f v
   ·rw [hf] at hs
    have : (I.length + 1) % 2 = 1 := by simpa using hs
    rw [if_neg (by omega)]
    simp [hf]
   ·rw [hf] at hs
    have : (I.length + 1) % 2 ≠ 1 := by simpa using hs
    rw [if_pos (by omega)]
    simp [hf]
  ·intro i hi h0
   show 0 < (I ++ [n])[i]
   rw [List.getElem_append]
   split
   ·exact hpos i (by assumption) h0
   ·rename_i hge
    simp only [List.length_append,List.length_singleton] at hi
    simp only [List.getElem_singleton]
    exact hlast (by omega)
 ·have e : rst (I,n) (f v) = (I,n + 1) := by unfold rst; rw [if_neg hs]
  rw [e]
  refine ⟨?_,?_,hpos,fun _ => Nat.succ_pos _⟩
  ·show sum I + (n + 1) = _
   rw [List.length_append,List.length_singleton]
   omega
  ·show exp 0 (I ++ [n + 1]) (ref ++ [v]) = _
   rw [exp_snoc,exp_more _ _ _ _ (by omega),List.filter_append,<- hcop,Nat.zero_add,List.append_assoc]
   congr 1
   rw [List.drop_append_of_le_length (by omega),List.take_of_length_le (by rw [List.length_append,hd]; simp)]
   have hs' : (f v != ((I.length + 1) % 2 == 1)) = false := by simpa using hs
   cases hf : f v
   ·rw [hf] at hs'
    have : ¬ (I.length + 1) % 2 = 1 := by simpa using hs'
    rw [if_neg (by omega),if_neg (by omega)]
    simp [hf]
   ·rw [hf] at hs'
    have : (I.length + 1) % 2 = 1 := by simpa using hs'
    rw [if_pos (by omega),if_pos (by omega)]
    simp [hf]
theorem runs_fold (f : Nat → Bool) : ∀ (l ref : List Nat) (q : List Nat × Nat), RunsOk f ref q → RunsOk f (ref ++ l) (l.foldl (fun q v => rst q (f v)) q)
 | [],ref,q,h => by rw [List.append_nil]; exact h
 | v :: l,ref,q,h => by
  have := runs_fold f l (ref ++ [v]) _ (h.step v)
  rw [List.append_assoc] at this
  exact this
theorem runs_ok (succ ref : List Nat) : RunsOk (isIn succ) ref (runs succ ref) := by
 have := runs_fold (isIn succ) ref [] ([],0) ⟨rfl,rfl,fun i h => by simp at h,fun h => by simp at h⟩
 exact this
theorem sum_len : ∀ (l : List Nat) (k : Nat), (∀ i (h : i < l.length), k ≤ i → 0 < l[i]) → l.length ≤ sum l + k
 | [],k,_ => by simp
 | n :: l,0,h => by
  have h0 := h 0 (by simp) (Nat.le_refl _)
  have := sum_len l 0 (fun i hi _ => by have := h (i + 1) (by simpa using hi) (Nat.zero_le _); simpa using this)
  simp only [List.getElem_cons_zero] at h0
  show l.length + 1 <= n + sum l + 0
  omega
 | n :: l,k + 1,h => by
  have := sum_len l k (fun i hi hk => by have := h (i + 1) (by simpa using hi) (by omega); simpa using this)
  show l.length + 1 <= n + sum l + (k + 1)
  omega
theorem RunsOk.len {f : Nat → Bool} {ref : List Nat} {q : List Nat × Nat} (h : RunsOk f ref q) : q.1.length ≤ ref.length := by
 have h1 := sum_len q.1 1 (fun i hi h1 => h.pos i hi (by omega))
 have h2 := h.all
 rcases Nat.eq_zero_or_pos q.1.length with h3 | h3
 ·omega
 ·have := h.last h3; omega

/-! ### what rows are -/
def row (q : Nat × Nat) : List Nat := List.range' q.1 q.2
theorem cons1_spec : ∀ (a : Nat) (r : List Nat), r.take (cons1 a r) = List.range' (a + 1) (cons1 a r) ∧ ∀ (h : cons1 a r < r.length), r[cons1 a r] ≠ a + 1 + cons1 a r
 | a,[] => ⟨rfl,fun h => by simp [cons1] at h⟩
 | a,b :: r => by
  rw [cons1]
  by_cases hb : b = a + 1
  ·subst hb
   simp only [if_true]
   obtain ⟨h1,h2⟩ := cons1_spec (a + 1) r
   refine ⟨by rw [List.take_succ_cons,h1]; rfl,fun h => ?_⟩
   have := h2 (by simpa using h)
   rw [List.getElem_cons_succ]
   omega
  ·simp only [if_neg hb]
   refine ⟨rfl,fun _ => ?_⟩
   rw [List.getElem_cons_zero]
   omega
def Apart (least : Nat) : Option Nat → List (Nat × Nat) → Prop
 | _,[] => True
 | none,(f,n) :: r => least <= n /\ 0 < n /\ f + n <= 65536 /\ Apart least (some (f + n - 1)) r
 | some e,(f,n) :: r => e + 2 <= f /\ least <= n /\ 0 < n /\ f + n <= 65536 /\ Apart least (some (f + n - 1)) r
theorem Apart.weak {least : Nat} {e : Option Nat} {l : List (Nat × Nat)} (h : Apart least e l) (e' : Nat) (he : ∀ e'', e = some e'' → e' ≤ e'') (hh : e = none → ∀ q ∈ l, e' + 2 ≤ q.1) : Apart least (some e') l := by
 cases l with
 | nil => exact trivial
 | cons q l =>
  obtain ⟨f,n⟩ := q
  cases e with
  | none =>
   obtain ⟨h1,h2,h3,h4⟩ := h
   exact ⟨hh rfl _ (List.mem_cons_self ..),h1,h2,h3,h4⟩
  | some e'' =>
   obtain ⟨h0,h1,h2,h3,h4⟩ := h
   have := he _ rfl
   exact ⟨by omega,h1,h2,h3,h4⟩
theorem rws_nil (least : Nat) : rws least [] = ([], []) := by rw [rws]
theorem rws_cons (least a : Nat) (r : List Nat) : rws least (a :: r) = if 0 < least ∧ least ≤ cons1 a r + 1 then ((a, cons1 a r + 1) :: (rws least (r.drop (cons1 a r))).1, (rws least (r.drop (cons1 a r))).2)
  else ((rws least (r.drop (cons1 a r))).1,a :: r.take (cons1 a r) ++ (rws least (r.drop (cons1 a r))).2) := by rw [rws]
theorem head_row (a : Nat) (r : List Nat) : a :: r.take (cons1 a r) = row (a, cons1 a r + 1) := by
 rw [(cons1_spec a r).1]
 rfl
structure RwsOk (least : Nat) (l : List Nat) (q : List (Nat × Nat) × List Nat) : Prop where
 perm : List.Perm (q.1.flatMap row ++ q.2) l
 sub : List.Sublist q.2 l
 apart : Apart least none q.1
 from_ : ∀ t ∈ q.1,t.1 ∈ l
theorem rws_ok (least : Nat) (l : List Nat) (hl : Ris l) : RwsOk least l (rws least l) := by
 induction hn : l.length using Nat.strongRecOn generalizing l with
 | ind m ih =>
  cases l with
  | nil => rw [rws_nil]; exact ⟨by simp,by simp,trivial,fun t ht => by cases ht⟩
  | cons a r =>
   rw [rws_cons]
   obtain ⟨k,hk⟩ : ∃ k,cons1 a r = k := ⟨_,rfl⟩
   have hr := head_row a r
   have hspec := (cons1_spec a r).2
   rw [hk] at hr hspec ⊢
   have hkl : k <= r.length := by rw [<- hk]; exact cons1_le a r
   have hsub : List.Sublist (r.drop k) (a :: r) := (List.drop_sublist k r).trans (List.sublist_cons_self a r)
   have hl2 : Ris (r.drop k) := ⟨hl.1.sublist hsub,fun v hv => hl.2 v (hsub.subset hv)⟩
   have IH := ih (r.drop k).length (by rw [List.length_drop]; simp at hn; omega) (r.drop k) hl2 rfl
   obtain ⟨q,hq⟩ : ∃ q,rws least (r.drop k) = q := ⟨_,rfl⟩
   rw [hq] at IH ⊢
   have hsplit : a :: r = row (a,k + 1) ++ r.drop k := by rw [<- hr,List.cons_append,List.take_append_drop]
   have hend : a + k < 65536 := by
    have h1 : a + k ∈ row (a,k + 1) := by show _ ∈ List.range' a (k + 1); rw [List.mem_range'_1]; omega
    exact hl.2 _ (by rw [hsplit]; exact List.mem_append_left _ h1)
   have hgap : ∀ v ∈ r.drop k,a + k + 2 <= v := by
    have hp := hl.1
    rw [hsplit] at hp
    have hlt := (List.pairwise_append.1 hp).2.2 (a + k) (by show _ ∈ List.range' a (k + 1); rw [List.mem_range'_1]; omega)
    have hp2 := (List.pairwise_append.1 hp).2.1
    intro v hv
    by_cases hkr : k < r.length
    ·have h2 := hspec hkr
     rw [List.drop_eq_getElem_cons hkr] at hv hlt hp2
     have h4 := hlt _ (List.mem_cons_self ..)
     rcases List.mem_cons.1 hv with rfl | hv
     ·omega
     ·have := (List.pairwise_cons.1 hp2).1 v hv
      omega
    ·rw [List.drop_eq_nil_of_le (by omega)] at hv
     cases hv
   by_cases hc : 0 < least /\ least <= k + 1
   ·rw [if_pos hc]
    refine ⟨?_,IH.sub.trans hsub,?_,fun t ht => ?_⟩
    ·rw [hsplit]
     show List.Perm (row (a,k + 1) ++ q.1.flatMap row ++ q.2) _
     rw [List.append_assoc]
     exact IH.perm.append_left _
    ·show least <= k + 1 /\ 0 < k + 1 /\ a + (k + 1) <= 65536 /\ Apart least (some (a + (k + 1) - 1)) q.1
     refine ⟨hc.2,by omega,by omega,IH.apart.weak _ (fun _ h => by cases h) (fun _ t ht => ?_)⟩
     have := hgap _ (IH.from_ t ht)
     omega
    ·rcases List.mem_cons.1 ht with rfl | ht
     ·exact List.mem_cons_self ..
     ·exact hsub.subset (IH.from_ t ht)
   ·rw [if_neg hc]
    refine ⟨?_,?_,IH.apart,fun t ht => hsub.subset (IH.from_ t ht)⟩
    ·rw [hsplit]
     show List.Perm (q.1.flatMap row ++ (a :: r.take k ++ q.2)) _
     rw [hr,<- List.append_assoc]
     refine (List.perm_append_comm.append_right _).trans ?_
     rw [List.append_assoc]
     exact IH.perm.append_left _
    ·show List.Sublist (a :: r.take k ++ q.2) (a :: r)
     rw [hsplit,hr]
     exact (List.Sublist.refl _).append IH.sub
theorem rws_zero (l : List Nat) : rws 0 l = ([], l) := by
 induction hn : l.length using Nat.strongRecOn generalizing l with
 | ind m ih =>
  cases l with
  | nil => exact rws_nil 0
  | cons a r =>
   rw [rws_cons,if_neg (by omega),ih (r.drop (cons1 a r)).length (by rw [List.length_drop]; simp at hn; omega) _ rfl]
   simp
def tk (B : Bits) (c : Cd) (most a : Nat) : Option (Nat × Nat) := (rd c (B.drop a)).bind fun q => if q.1 ≤ most then some (q.1, a + q.2) else none
def cpy (B : Bits) : Nat → Nat → List Nat → Nat → Option (List Nat × List Nat × Nat)
 | 0,_,ref,a => some ([],ref,a)
 | c + 1,i,ref,a => (tk B .gam ref.length a).bind fun q => if ref.length < q.1 + min i 1 then none else
   (cpy B c (i + 1) (ref.drop (q.1 + min i 1)) q.2).map fun t => ((if i % 2 = 0 then ref.take (q.1 + min i 1) else []) ++ t.1,t.2)
def copies (B : Bits) (ref : List Nat) (a : Nat) : Option (List Nat × Nat) :=
 (tk B .gam (ref.length + 1) a).bind fun q => (cpy B q.1 0 ref q.2).map fun t => (if q.1 % 2 = 0 then t.1 ++ t.2.1 else t.1,t.2.2)
def rowFrom (x : Nat) : Option Nat → Nat → Int
 | none,v => zag v + x
 | some e,v => (v : Int) + ((e : Int) + 2)
def lng (B : Bits) (x most itv : Nat) : Nat → Option Nat → Nat → Nat → Option (List Nat × Nat)
 | 0,_,_,a => some ([],a)
 | c + 1,e,used,a => (tk B .gam 262144 a).bind fun q => (tk B .gam most q.2).bind fun q2 =>
   if rowFrom x e q.1 < 0 \/ 65536 < rowFrom x e q.1 + ((q2.1 + itv : Nat) : Int) \/ most < used + (q2.1 + itv) then none else
   (lng B x most itv c (some ((rowFrom x e q.1).toNat + (q2.1 + itv) - 1)) (used + (q2.1 + itv)) q2.2).map fun t => (row ((rowFrom x e q.1).toNat,q2.1 + itv) ++ t.1,t.2)
def longs (B : Bits) (x most itv a : Nat) : Option (List Nat × Nat) := (tk B .gam most a).bind fun q => lng B x most itv q.1 none 0 q.2
def resAt (x : Nat) : Option Nat → Nat → Int
 | none,v => zag v + x
 | some u,v => (v : Int) + ((u : Int) + 1)
def rsd (B : Bits) (x zet : Nat) : Nat → Option Nat → Nat → Option (List Nat × Nat)
 | 0,_,a => some ([],a)
 | n + 1,e,a => (tk B (.zet zet) 262144 a).bind fun q => if resAt x e q.1 < 0 \/ 65536 <= resAt x e q.1 then none else
   (rsd B x zet n (some (resAt x e q.1).toNat) q.2).map fun t => ((resAt x e q.1).toNat :: t.1,t.2)
def pars (B : Bits) (x deg : Nat) (ref : List Nat) (r : Nat) (p : Pr) (a : Nat) : Option (List Nat × List Nat × List Nat × Nat) :=
 (if 0 < r then copies B ref a else some ([],a)).bind fun c =>
 if deg < c.1.length then none else
 (if c.1.length < deg /\ 0 < p.itv then longs B x (deg - c.1.length) p.itv c.2 else some ([],c.2)).bind fun l =>
 (rsd B x p.zet (deg - c.1.length - l.1.length) none l.2).map fun z => (c.1,l.1,z.1,z.2)
def srtN (l : List Nat) : List Nat := l.mergeSort fun a b => decide (a ≤ b)
def dec (B : Bits) (x n deg : Nat) (ref : List Nat) (r : Nat) (p : Pr) (a : Nat) : Option (List Nat × Nat) :=
 (pars B x deg ref r p a).bind fun t =>
  if (srtN (t.1 ++ t.2.1 ++ t.2.2.1)).Pairwise (· < ·) /\ (t.1 ++ t.2.1 ++ t.2.2.1).length = deg /\ (∀ v ∈ t.1 ++ t.2.1 ++ t.2.2.1,v < n) /\ 
   bitsOf (tlN x (srtN (t.1 ++ t.2.1 ++ t.2.2.1)) ref r p) = (B.drop a).take (t.2.2.2 - a) then some (srtN (t.1 ++ t.2.1 ++ t.2.2.1),t.2.2.2) else none

theorem srtN_perm (l : List Nat) : List.Perm (srtN l) l := List.mergeSort_perm _ _
theorem srtN_le (l : List Nat) : (srtN l).Pairwise (· ≤ ·) := by
 have := List.pairwise_mergeSort (le := fun a b : Nat => decide (a <= b)) (fun a b c h1 h2 => by simp at *; omega) (fun a b => by simp; omega) l
 exact this.imp (fun h => by simpa using h)
theorem srtN_eq {l s : List Nat} (h : List.Perm s l) (hs : s.Pairwise (· < ·)) : srtN l = s :=
 List.Perm.eq_of_pairwise (le := (· <= ·)) (fun _ _ _ _ h1 h2 => Nat.le_antisymm h1 h2) (srtN_le l) (hs.imp (fun h => Nat.le_of_lt h)) ((srtN_perm l).trans h.symm)

theorem tk_bound {B : Bits} {c : Cd} (hc : c.ok) {most a v e : Nat} (h : tk B c most a = some (v, e)) (ha : a ≤ B.length) : v ≤ most ∧ v ≤ c.most ∧ a ≤ e ∧ e ≤ B.length := by
 unfold tk at h
 cases hr : rd c (B.drop a) with
 | none => rw [hr] at h; cases h
 | some q =>
  rw [hr] at h
  simp only [Option.bind_some] at h
  split at h
  ·have h1 := Option.some.inj h
   injection h1 with h2 h3
   have h4 := rd_bound c hc (v := q.1) (n := q.2) hr
   rw [List.length_drop] at h4
   omega
  ·cases h
theorem tk_cb {B R : Bits} {c : Cd} (hc : c.ok) {most a v : Nat} (hv : v ≤ most) (hm : v ≤ c.most) (h : B.drop a = cb c v ++ R) : tk B c most a = some (v, a + (cb c v).length) ∧ B.drop (a + (cb c v).length) = R := by
 constructor
 ·unfold tk
  rw [h,rd_cb c hc v hm R,Option.bind_some,if_pos hv]
 ·rw [<- List.drop_drop,h,List.drop_left]
theorem isIn_mem {l : List Nat} {v : Nat} : isIn l v = true ↔ v ∈ l := by unfold isIn; simp

theorem cpy_back (B R : Bits) : ∀ (I : List Nat) (i : Nat) (ref : List Nat) (a : Nat), (∀ j (h : j < I.length), 0 < i + j → 0 < I[j]) → sum I ≤ ref.length → ref.length ≤ 65536 → B.drop a = bitsOf ((rnm i I).map fun v => (Cd.gam, v)) ++ R →
  cpy B I.length i ref a = some (exp i I ref,ref.drop (sum I),a + (bitsOf ((rnm i I).map fun v => (Cd.gam,v))).length) /\ B.drop (a + (bitsOf ((rnm i I).map fun v => (Cd.gam,v))).length) = R
 | [],i,ref,a,_,_,_,h => by
  have e : bitsOf ((rnm i []).map fun v => (Cd.gam,v)) = [] := rfl
  rw [e] at h ⊢
  exact ⟨by simp [cpy,exp,sum],by simpa using h⟩
 | n :: I,i,ref,a,hp,hs,hz,h => by
  have hs' : n + sum I <= ref.length := hs
  have e : bitsOf ((rnm i (n :: I)).map fun v => (Cd.gam,v)) = cb .gam (n - min i 1) ++ bitsOf ((rnm (i + 1) I).map fun v => (Cd.gam,v)) := rfl
  rw [e] at h ⊢
  rw [List.append_assoc] at h
  have hn : n - min i 1 + min i 1 = n := by
   rcases Nat.eq_zero_or_pos i with h0 | h0
   ·omega
   ·have := hp 0 (by simp) (by omega)
    simp only [List.getElem_cons_zero] at this
    omega
  obtain ⟨t1,t2⟩ := tk_cb (B := B) (c := .gam) (most := ref.length) (a := a) (v := n - min i 1) trivial (by omega) (by show _ <= 281474976710654; omega) h
  obtain ⟨c1,c2⟩ := cpy_back B R I (i + 1) (ref.drop n) _ (fun j hj h0 => by have := hp (j + 1) (by simpa using hj) (by omega); simpa using this) (by rw [List.length_drop]; omega) (by rw [List.length_drop]; omega) t2
  rw [List.length_append,<- Nat.add_assoc]
  refine ⟨?_,c2⟩
  show (tk B .gam ref.length a).bind _ = _
  rw [t1,Option.bind_some]
  show (if ref.length < n - min i 1 + min i 1 then none else (cpy B I.length (i + 1) (ref.drop (n - min i 1 + min i 1)) _).map _) = _
  rw [hn,if_neg (by omega),c1,Option.map_some]
  show some (_,List.drop (sum I) (List.drop n ref),_) = some (_,List.drop (n + sum I) ref,_)
  rw [List.drop_drop]
  rfl
theorem copies_back (B R : Bits) (succ ref : List Nat) (a : Nat) (hz : ref.length ≤ 65536) (h : B.drop a = bitsOf ((.gam, (runs succ ref).1.length) :: (rnm 0 (runs succ ref).1).map fun v => (Cd.gam, v)) ++ R) :
  copies B ref a = some (ref.filter (isIn succ),a + (bitsOf ((.gam,(runs succ ref).1.length) :: (rnm 0 (runs succ ref).1).map fun v => (Cd.gam,v))).length) /\ B.drop (a + (bitsOf ((.gam,(runs succ ref).1.length) :: (rnm 0 (runs succ ref).1).map fun v => (Cd.gam,v))).length) = R := by
 have hk := runs_ok succ ref
 obtain ⟨q,hq⟩ : ∃ q,runs succ ref = q := ⟨_,rfl⟩
 rw [hq] at h hk ⊢
 obtain ⟨I,n⟩ := q
 have hlen : I.length <= ref.length := hk.len
 have hall : sum I + n = ref.length := hk.all
 have hcop : exp 0 (I ++ [n]) ref = ref.filter (isIn succ) := hk.cop
 simp only [bitsOf_cons] at h ⊢
 rw [List.append_assoc] at h
 obtain ⟨t1,t2⟩ := tk_cb (B := B) (c := .gam) (most := ref.length + 1) (a := a) (v := I.length) trivial (by omega) (by show _ <= 281474976710654; omega) h
 obtain ⟨c1,c2⟩ := cpy_back B R I 0 ref _ (fun j hj h0 => hk.pos j hj (by omega)) (by omega) hz t2
 rw [List.length_append,<- Nat.add_assoc]
 refine ⟨?_,c2⟩
 unfold copies
 rw [t1,Option.bind_some]
 show (cpy B I.length 0 ref _).map _ = _
 rw [c1,Option.map_some]
 congr 2
 rw [<- hcop,exp_snoc,Nat.zero_add,List.take_of_length_le (by rw [List.length_drop]; omega)]
 split
 ·rfl
 ·rw [List.append_nil]
theorem sumLen (l : List (Nat × Nat)) : (l.flatMap row).length = sum (l.map (·.2)) := by
 induction l with
 | nil => rfl
 | cons q l ih =>
  rw [List.flatMap_cons,List.length_append,ih,row,List.length_range']
  rfl
theorem zig_lt {v x : Nat} (hv : v < 65536) (hx : x < 65536) : zig ((v : Int) - x) ≤ 262144 := by
 unfold zig
 split <;> omega
theorem lng_back (B R : Bits) (x most itv : Nat) (hx : x < 65536) (hi : 2 ≤ itv) (hm : most ≤ 65536) : ∀ (l : List (Nat × Nat)) (e : Option Nat) (used a : Nat), Apart itv e l → used + (l.flatMap row).length ≤ most →
  B.drop a = bitsOf ((lnm x itv e l).map fun v => (Cd.gam,v)) ++ R ->
  lng B x most itv l.length e used a = some (l.flatMap row,a + (bitsOf ((lnm x itv e l).map fun v => (Cd.gam,v))).length) /\ B.drop (a + (bitsOf ((lnm x itv e l).map fun v => (Cd.gam,v))).length) = R
 | [],e,used,a,_,_,h => by
  have e1 : bitsOf ((lnm x itv e []).map fun v => (Cd.gam,v)) = [] := by cases e <;> rfl
  rw [e1] at h ⊢
  exact ⟨by simp [lng],by simpa using h⟩
 | (f,n) :: l,e,used,a,hA,hu,h => by
  rw [List.flatMap_cons,List.length_append,row,List.length_range'] at hu
  have key : ∃ v,lnm x itv e ((f,n) :: l) = v :: (n - itv) :: lnm x itv (some (f + n - 1)) l /\ rowFrom x e v = (f : Int) /\ v <= 262144 /\ itv <= n /\ f + n <= 65536 /\ Apart itv (some (f + n - 1)) l := by
   cases e with
   | none =>
    obtain ⟨h1,h2,h3,h4⟩ := hA
    refine ⟨_,rfl,?_,zig_lt (by omega) hx,h1,h3,h4⟩
    show zag _ + _ = _
    rw [zag_zig]; omega
   | some e =>
    obtain ⟨h0,h1,h2,h3,h4⟩ := hA
    refine ⟨_,rfl,?_,by omega,h1,h3,h4⟩
    show ((f - e - 2 : Nat) : Int) + _ = _
    omega
  obtain ⟨v,hv,hf,hv2,hn,hfn,hA2⟩ := key
  rw [hv] at h ⊢
  have e1 : bitsOf ((v :: (n - itv) :: lnm x itv (some (f + n - 1)) l).map fun v => (Cd.gam,v)) = cb .gam v ++ (cb .gam (n - itv) ++ bitsOf ((lnm x itv (some (f + n - 1)) l).map fun v => (Cd.gam,v))) := rfl
  rw [e1] at h ⊢
  rw [List.append_assoc,List.append_assoc] at h
  obtain ⟨t1,t2⟩ := tk_cb (B := B) (c := .gam) (most := 262144) (a := a) trivial hv2 (by show _ <= 281474976710654; omega) h
  obtain ⟨s1,s2⟩ := tk_cb (B := B) (c := .gam) (most := most) (v := n - itv) trivial (by omega) (by show _ <= 281474976710654; omega) t2
  obtain ⟨c1,c2⟩ := lng_back B R x most itv hx hi hm l (some (f + n - 1)) (used + n) _ hA2 (by omega) s2
  rw [List.length_append,List.length_append,<- Nat.add_assoc,<- Nat.add_assoc]
  refine ⟨?_,c2⟩
  have hni : n - itv + itv = n := by omega
  show (tk B .gam 262144 a).bind _ = _
  rw [t1,Option.bind_some]
  show (tk B .gam most _).bind _ = _
  rw [s1,Option.bind_some]
  show (if _ then none else _) = _
  simp only [hf,hni]
  rw [if_neg (by omega)]
  show (lng B x most itv l.length (some ((f : Int).toNat + n - 1)) (used + n) _).map _ = _
  rw [Int.toNat_natCast,c1]
  rfl
theorem rsd_back (B R : Bits) (x zet : Nat) (hx : x < 65536) (hz : 1 ≤ zet ∧ zet ≤ 16) : ∀ (l : List Nat) (e : Option Nat) (a : Nat), l.Pairwise (· < ·) → (∀ v ∈ l, v < 65536) → (∀ u, e = some u → ∀ v ∈ l, u < v) →
  B.drop a = bitsOf ((znm x e l).map fun v => (Cd.zet zet,v)) ++ R ->
  rsd B x zet l.length e a = some (l,a + (bitsOf ((znm x e l).map fun v => (Cd.zet zet,v))).length) /\ B.drop (a + (bitsOf ((znm x e l).map fun v => (Cd.zet zet,v))).length) = R
 | [],e,a,_,_,_,h => by
  have e1 : bitsOf ((znm x e []).map fun v => (Cd.zet zet,v)) = [] := by cases e <;> rfl
  rw [e1] at h ⊢
  exact ⟨by simp [rsd],by simpa using h⟩
 | v :: l,e,a,hp,hb,he,h => by
  obtain ⟨p1,p2⟩ := List.pairwise_cons.1 hp
  have hv := hb v (List.mem_cons_self ..)
  have key : ∃ u,znm x e (v :: l) = u :: znm x (some v) l /\ resAt x e u = (v : Int) /\ u <= 262144 := by
   cases e with
   | none =>
    refine ⟨_,rfl,?_,zig_lt hv hx⟩
    show zag _ + _ = _
    rw [zag_zig]; omega
   | some e =>
    have := he e rfl v (List.mem_cons_self ..)
    refine ⟨_,rfl,?_,by omega⟩
    show ((v - e - 1 : Nat) : Int) + _ = _
    omega
  obtain ⟨u,hu,hf,hu2⟩ := key
  rw [hu] at h ⊢
  have e1 : bitsOf ((u :: znm x (some v) l).map fun v => (Cd.zet zet,v)) = cb (.zet zet) u ++ bitsOf ((znm x (some v) l).map fun v => (Cd.zet zet,v)) := rfl
  rw [e1] at h ⊢
  rw [List.append_assoc] at h
  obtain ⟨t1,t2⟩ := tk_cb (B := B) (c := .zet zet) (most := 262144) (a := a) hz hu2 (by show _ <= 281474976710654; omega) h
  obtain ⟨c1,c2⟩ := rsd_back B R x zet hx hz l (some v) _ p2 (fun w hw => hb w (List.mem_cons_of_mem _ hw)) (fun u hu w hw => by cases hu; exact p1 w hw) t2
  rw [List.length_append,<- Nat.add_assoc]
  refine ⟨?_,c2⟩
  show (tk B (.zet zet) 262144 a).bind _ = _
  rw [t1,Option.bind_some]
  simp only [hf]
  rw [if_neg (by omega),Int.toNat_natCast,c1]
  rfl
theorem Ris.len {l : List Nat} (h : Ris l) : l.length ≤ 65536 := by
 have key : ∀ (l : List Nat) (b : Nat),l.Pairwise (· < ·) -> (∀ v ∈ l,b <= v /\ v < 65536) -> b <= 65536 -> l.length + b <= 65536 := by
  intro l
  induction l with
  | nil => intro b _ _ h; simpa using h
  | cons a l ih =>
   intro b h1 h2 _
   obtain ⟨p1,p2⟩ := List.pairwise_cons.1 h1
   have ha := h2 a (List.mem_cons_self ..)
   have := ih (a + 1) p2 (fun v hv => ⟨p1 v hv,(h2 v (List.mem_cons_of_mem _ hv)).2⟩) (by omega)
   simp only [List.length_cons]
   omega
 have := key l 0 h.1 (fun v hv => ⟨Nat.zero_le _,h.2 v hv⟩) (by omega)
 omega
def MayN (x : Nat) (succ ref : List Nat) (r : Nat) (p : Pr) : Prop := p.ok ∧ x < 65536 ∧ Ris succ ∧ Ris ref ∧ r ≤ p.win ∧ (0 < r ∨ ref = [])
theorem nodup_of {l : List Nat} (h : l.Pairwise (· < ·)) : l.Nodup := h.imp (fun h => Nat.ne_of_lt h)
theorem both_perm {succ ref : List Nat} (h1 : Ris succ) (h2 : Ris ref) : List.Perm (ref.filter (isIn succ)) (succ.filter (isIn ref)) := by
 refine (List.perm_ext_iff_of_nodup ((nodup_of h2.1).filter _) ((nodup_of h1.1).filter _)).2 fun v => ?_
 rw [List.mem_filter,List.mem_filter,isIn_mem,isIn_mem]
 exact and_comm
theorem dec_back (B R : Bits) (x n : Nat) (succ ref : List Nat) (r : Nat) (p : Pr) (a : Nat) (h : MayN x succ ref r p) (hs : succ ≠ []) (hn : ∀ v ∈ succ, v < n) (hB : B.drop a = bitsOf (tlN x succ ref r p) ++ R) :
  dec B x n succ.length ref r p a = some (succ,a + (bitsOf (tlN x succ ref r p)).length) := by
 obtain ⟨⟨hp1,hp2,hp3⟩,hx,hsu,hre,hr1,hr2⟩ := h
 have htl : tlN x succ ref r p = runN succ ref r ++ restN x (leftOf succ ref) p := by unfold tlN; rw [if_neg hs]
 have hB0 := hB
 rw [htl,bitsOf_append,List.append_assoc] at hB
 have hleft : Ris (leftOf succ ref) := ⟨hsu.1.sublist List.filter_sublist,fun v hv => hsu.2 v (List.mem_filter.1 hv).1⟩
 have s1 : ∃ a1,(if 0 < r then copies B ref a else some ([],a)) = some (ref.filter (isIn succ),a1) /\ a1 = a + (bitsOf (runN succ ref r)).length /\ B.drop a1 = bitsOf (restN x (leftOf succ ref) p) ++ R := by
  unfold runN at hB ⊢
  by_cases h0 : 0 < r
  ·simp only [if_pos h0] at hB ⊢
   obtain ⟨c1,c2⟩ := copies_back B _ succ ref a hre.len hB
   exact ⟨_,c1,rfl,c2⟩
  ·simp only [if_neg h0] at hB ⊢
   have : ref = [] := hr2.resolve_left h0
   subst this
   exact ⟨a,rfl,rfl,by simpa [bitsOf] using hB⟩
 obtain ⟨a1,hc,ha1,hB1⟩ := s1
 have hcl : (ref.filter (isIn succ)).length + (leftOf succ ref).length = succ.length := by
  have h1 := (both_perm hsu hre).length_eq
  have h2 := (List.filter_append_perm (isIn ref) succ).length_eq
  rw [List.length_append] at h2
  unfold leftOf
  omega
 obtain ⟨c,hcc⟩ : ∃ c,ref.filter (isIn succ) = c := ⟨_,rfl⟩
 rw [hcc] at hc hcl
 obtain ⟨L,hL⟩ : ∃ L,leftOf succ ref = L := ⟨_,rfl⟩
 rw [hL] at hB1 hcl hleft htl
 have RW := rws_ok p.itv L hleft
 obtain ⟨q,hq⟩ : ∃ q,rws p.itv L = q := ⟨_,rfl⟩
 rw [hq] at RW
 have hlen2 : (q.1.flatMap row).length + q.2.length = L.length := by
  have := RW.perm.length_eq
  rwa [List.length_append] at this
 have hq2 : Ris q.2 := ⟨hleft.1.sublist RW.sub,fun v hv => hleft.2 v (RW.sub.subset hv)⟩
 have hrest : restN x L p = if L = [] then [] else (if 0 < p.itv then [(Cd.gam,q.1.length)] else []) ++ (lnm x p.itv none q.1).map (fun v => (Cd.gam,v)) ++ (znm x none q.2).map (fun v => (Cd.zet p.zet,v)) := by
  unfold restN
  rw [hq]
 have s2 : pars B x succ.length ref r p a = some (c,q.1.flatMap row,q.2,a + (bitsOf (tlN x succ ref r p)).length) := by
  rw [htl,bitsOf_append,List.length_append,<- Nat.add_assoc,<- ha1]
  unfold pars
  rw [hc,Option.bind_some]
  simp only
  rw [if_neg (by omega)]
  by_cases hL0 : L = []
  ·subst hL0
   have e0 : restN x [] p = [] := rfl
   have eq0 : q = ([],[]) := by rw [<- hq,rws_nil]
   subst eq0
   simp only [List.length_nil] at hcl
   rw [if_neg (by omega),e0]
   show Option.map _ (rsd B x p.zet (succ.length - c.length - 0) none a1) = _
   rw [show succ.length - c.length - 0 = 0 by omega]
   rfl
  ·have hLp : 0 < L.length := List.length_pos_iff.2 hL0
   have hLl := hleft.len
   rw [hrest,if_neg hL0] at hB1 ⊢
   by_cases hi : 0 < p.itv
   ·rw [if_pos hi] at hB1 ⊢
    simp only [bitsOf_append,bitsOf_cons,bitsOf_nil,List.nil_append,List.append_assoc] at hB1
    obtain ⟨t1,t2⟩ := tk_cb (B := B) (c := .gam) (most := succ.length - c.length) (a := a1) (v := q.1.length) trivial (by
     have : q.1.length <= (q.1.flatMap row).length := by
      rw [sumLen]
      have hap := RW.apart
      generalize none = e at hap
      clear hc ha1 hB1 hq RW hlen2 hrest
      generalize q.1 = l at hap ⊢
      induction l generalizing e with
      | nil => simp
      | cons t l ih =>
       obtain ⟨f,n⟩ := t
       have h1 : 0 < n /\ Apart p.itv (some (f + n - 1)) l := by
        cases e with
        | none => exact ⟨hap.2.1,hap.2.2.2⟩
        | some e => exact ⟨hap.2.2.1,hap.2.2.2.2⟩
       have h2 := ih _ h1.2
       show l.length + 1 <= n + sum (l.map (·.2))
       omega
     omega) (by
     show _ <= 281474976710654
     have : q.1.length <= (q.1.flatMap row).length := by
      rw [sumLen]
      have hap := RW.apart
      generalize none = e at hap
      clear hc ha1 hB1 hq RW hlen2 hrest
      generalize q.1 = l at hap ⊢
      induction l generalizing e with
      | nil => simp
      | cons t l ih =>
       obtain ⟨f,n⟩ := t
       have h1 : 0 < n /\ Apart p.itv (some (f + n - 1)) l := by
        cases e with
        | none => exact ⟨hap.2.1,hap.2.2.2⟩
        | some e => exact ⟨hap.2.2.1,hap.2.2.2.2⟩
       have h2 := ih _ h1.2
       show l.length + 1 <= n + sum (l.map (·.2))
       omega
     omega) hB1
    obtain ⟨l1,l2⟩ := lng_back B _ x (succ.length - c.length) p.itv hx (by omega) (by omega) q.1 none 0 _ RW.apart (by omega) t2
    obtain ⟨z1,z2⟩ := rsd_back B R x p.zet hx hp3 q.2 none _ hq2.1 hq2.2 (fun _ h => by cases h) l2
    rw [if_pos ⟨by omega,hi⟩]
    have el : longs B x (succ.length - c.length) p.itv a1 = some (q.1.flatMap row,a1 + (cb .gam q.1.length).length + (bitsOf ((lnm x p.itv none q.1).map fun v => (Cd.gam,v))).length) := by
     unfold longs
     rw [t1,Option.bind_some]
     exact l1
    rw [el,Option.bind_some]
    simp only
    rw [show succ.length - c.length - (q.1.flatMap row).length = q.2.length by omega,z1]
    simp only [bitsOf_append,bitsOf_cons,bitsOf_nil,List.append_nil,List.length_append,Nat.add_assoc,Option.map_some]
   ·rw [if_neg hi] at hB1 ⊢
    have h0 : p.itv = 0 := by omega
    have hq0 : q = ([],L) := by rw [<- hq,h0,rws_zero]
    subst hq0
    rw [if_neg (by omega)]
    have hB2 : B.drop a1 = bitsOf ((znm x none L).map fun v => (Cd.zet p.zet,v)) ++ R := hB1
    obtain ⟨z1,z2⟩ := rsd_back B R x p.zet hx hp3 L none _ hleft.1 hleft.2 (fun _ h => by cases h) hB2
    show Option.map _ (rsd B x p.zet (succ.length - c.length - 0) none a1) = _
    rw [show succ.length - c.length - 0 = L.length by omega,z1]
    rfl
 have hperm : List.Perm succ (c ++ q.1.flatMap row ++ q.2) := by
  have h1 : List.Perm (c ++ L) succ := by
   rw [<- hcc,<- hL]
   exact ((both_perm hsu hre).append_right _).trans (List.filter_append_perm (isIn ref) succ)
  rw [List.append_assoc]
  exact h1.symm.trans (RW.perm.symm.append_left c)
 have hsrt := srtN_eq hperm hsu.1
 unfold dec
 rw [s2,Option.bind_some]
 simp only [hsrt]
 rw [if_pos]
 refine ⟨hsu.1,hperm.length_eq.symm,fun v hv => hn v (hperm.symm.subset hv),?_⟩
 rw [hB0,Nat.add_sub_cancel_left,List.take_left]
end Go.Proofs.YtflnpcgnenhogaaGreatDoor.ls
namespace Go.Proofs.YtflnpcgnenhogaaGreatDoor.bit

theorem ofN_snoc (a k v : Nat) : ofN (a + 1) (v / 2 ^ k) = ofN a (v / 2 ^ (k + 1)) ++ [v / 2 ^ k % 2 == 1] := by
 rw [ofN_split a 1 (v / 2 ^ k),Nat.div_div_eq_div_mul,<- Nat.pow_add]
 simp [ofN]
theorem ofN_mod (n v : Nat) : ofN n (v % 2 ^ n) = ofN n v := by
 have h := ofN_num (ofN n v)
 rwa [ofN_length,num_ofN] at h
theorem unpack_snoc (l : List Nat) (b : Nat) : unpack (l ++ [b]) = unpack l ++ ofN 8 b := by
 rw [unpack_append]
 simp [unpack]
theorem num_snoc (l : Bits) (b : Bool) : num (l ++ [b]) = 2 * num l + (if b then 1 else 0) := by
 rw [num_append]
 cases b <;> simp [num] <;> omega

end Go.Proofs.YtflnpcgnenhogaaGreatDoor.bit
