/- How many bits of a number are 1, by adding in parallel; how many 0 lead. Plain Lean, no program in sight. -/
import Derived.Test.YthaicpbdlhkkkaaGreatDoorBitP
namespace Go.Proofs.YthaicpbdlhkkkaaGreatDoor.bit

/-- how many bits are 1 -/
def cnt : Bits → Nat
  | [] => 0
  | b :: r => (if b then 1 else 0) + cnt r
theorem cnt_append (a b : Bits) : cnt (a ++ b) = cnt a + cnt b := by
  induction a with
  | nil => simp [cnt]
  | cons x r ih => rw [List.cons_append, cnt, cnt, ih, Nat.add_assoc]
theorem cnt_le (a : Bits) : cnt a ≤ a.length := by
  induction a with
  | nil => simp [cnt]
  | cons x r ih => rw [cnt, List.length_cons]; split <;> omega
theorem cnt_zeros (n : Nat) : cnt (List.replicate n false) = 0 := by
  induction n with
  | zero => rfl
  | succ n ih => rw [List.replicate_succ, cnt, ih]; rfl

/-- the same byte so many times -/
def rep (m : Nat) : Nat → Nat
  | 0 => 0
  | n + 1 => 256 * rep m n + m
theorem and_byte (a b x y : Nat) (hx : x < 256) (hy : y < 256) : (256 * a + x) &&& (256 * b + y) = 256 * (a &&& b) + (x &&& y) := by
  have h1 : (x &&& y) < 2 ^ 8 := Nat.and_lt_two_pow _ (by omega)
  apply Nat.eq_of_testBit_eq
  intro j
  rw [Nat.testBit_and, show (256 : Nat) = 2 ^ 8 from rfl, Nat.testBit_two_pow_mul_add _ (by omega), Nat.testBit_two_pow_mul_add _ (by omega), Nat.testBit_two_pow_mul_add _ h1]
  split <;> simp [Nat.testBit_and]

/-- a step on each byte of so many -/
def pw (s : Nat → Nat) : Nat → Nat → Nat
  | 0, _ => 0
  | n + 1, x => 256 * pw s n (x / 256) + s (x % 256)
theorem pw_pw (s t : Nat → Nat) (ht : ∀ b, b < 256 → t b < 256) : ∀ n x, pw s n (pw t n x) = pw (fun b => s (t b)) n x
  | 0, _ => rfl
  | n + 1, x => by
    have h := ht (x % 256) (Nat.mod_lt _ (by decide))
    rw [pw, pw, pw, ← pw_pw s t ht n (x / 256)]
    rw [show (256 * pw t n (x / 256) + t (x % 256)) / 256 = pw t n (x / 256) by omega, show (256 * pw t n (x / 256) + t (x % 256)) % 256 = t (x % 256) by omega]

def s1 (c : Nat) : Nat := (c / 2 &&& 85) + (c &&& 85)
def s2 (c : Nat) : Nat := (c / 4 &&& 51) + (c &&& 51)
def s3 (c : Nat) : Nat := (c / 16 + c) % 16

set_option maxRecDepth 100000 in
theorem s1_all : ∀ b, b < 256 → s1 b < 256 ∧ (s1 b ≤ 255) ∧ (128 + b / 2) &&& 85 = b / 2 &&& 85 := by decide
set_option maxRecDepth 100000 in
theorem s2_all : ∀ b, b < 256 → s2 b < 512 ∧ (64 + b / 4) &&& 51 = b / 4 &&& 51 ∧ (128 + b / 4) &&& 51 = b / 4 &&& 51 ∧ (192 + b / 4) &&& 51 = b / 4 &&& 51 := by decide
set_option maxRecDepth 100000 in
theorem s123_all : ∀ b, b < 256 → s2 (s1 b) < 256 ∧ s2 (s1 b) % 16 ≤ 4 ∧ s2 (s1 b) / 16 ≤ 4 ∧ s3 (s2 (s1 b)) = cnt (ofN 8 b) := by decide

theorem step1 : ∀ n x, (x / 2 &&& rep 85 n) + (x &&& rep 85 n) = pw s1 n x
  | 0, x => by simp [rep, pw]
  | n + 1, x => by
    have hb := Nat.mod_lt x (show 0 < 256 by decide)
    have ih := step1 n (x / 256)
    have e : x = 256 * (x / 256) + x % 256 := (Nat.div_add_mod x 256).symm
    generalize x / 256 = v at *
    generalize x % 256 = b at *
    subst e
    have h3 := (s1_all b hb).2.2
    rw [rep, pw, show (256 * v + b) / 256 = v by omega, show (256 * v + b) % 256 = b by omega, ← ih]
    rw [show (256 * v + b) / 2 = 256 * (v / 2) + (128 * (v % 2) + b / 2) by omega, and_byte _ _ _ _ (by omega) (by decide), and_byte _ _ _ _ hb (by decide)]
    have h4 : (128 * (v % 2) + b / 2) &&& 85 = b / 2 &&& 85 := by
      rcases Nat.mod_two_eq_zero_or_one v with h | h <;> rw [h]
      · simp
      · exact h3
    rw [h4]
    unfold s1
    omega
theorem step2 : ∀ n x, (x / 4 &&& rep 51 n) + (x &&& rep 51 n) = pw s2 n x
  | 0, x => by simp [rep, pw]
  | n + 1, x => by
    have hb := Nat.mod_lt x (show 0 < 256 by decide)
    have ih := step2 n (x / 256)
    have e : x = 256 * (x / 256) + x % 256 := (Nat.div_add_mod x 256).symm
    generalize x / 256 = v at *
    generalize x % 256 = b at *
    subst e
    obtain ⟨_, h1, h2, h3⟩ := s2_all b hb
    rw [rep, pw, show (256 * v + b) / 256 = v by omega, show (256 * v + b) % 256 = b by omega, ← ih]
    rw [show (256 * v + b) / 4 = 256 * (v / 4) + (64 * (v % 4) + b / 4) by omega, and_byte _ _ _ _ (by omega) (by decide), and_byte _ _ _ _ hb (by decide)]
    have h4 : (64 * (v % 4) + b / 4) &&& 51 = b / 4 &&& 51 := by
      have : v % 4 = 0 ∨ v % 4 = 1 ∨ v % 4 = 2 ∨ v % 4 = 3 := by omega
      rcases this with h | h | h | h <;> rw [h]
      · simp
      · exact h1
      · exact h2
      · exact h3
    rw [h4]
    unfold s2
    omega
/-- the nibbles of all bytes are at most 4 -/
def nib : Nat → Nat → Prop
  | 0, x => x = 0
  | n + 1, x => x % 16 ≤ 4 ∧ x / 16 % 16 ≤ 4 ∧ nib n (x / 256)
theorem nib_low : ∀ n x, nib n x → x % 16 ≤ 4
  | 0, x, h => by rw [nib] at h; subst h; decide
  | _ + 1, _, h => h.1
theorem nib_pw (s : Nat → Nat) (hs : ∀ b, b < 256 → s b < 256 ∧ s b % 16 ≤ 4 ∧ s b / 16 ≤ 4) : ∀ n x, nib n (pw s n x)
  | 0, _ => rfl
  | n + 1, x => by
    obtain ⟨h1, h2, h3⟩ := hs (x % 256) (Nat.mod_lt _ (by decide))
    have ih := nib_pw s hs n (x / 256)
    rw [pw, nib]
    generalize pw s n (x / 256) = v at *
    generalize s (x % 256) = b at *
    refine ⟨by omega, by omega, ?_⟩
    rw [show (256 * v + b) / 256 = v by omega]
    exact ih
theorem step3 : ∀ n x, nib n x → (x / 16 + x) &&& rep 15 n = pw s3 n x
  | 0, x, _ => by simp [rep, pw]
  | n + 1, x, h => by
    obtain ⟨g1, g2, g3⟩ := h
    have hb := Nat.mod_lt x (show 0 < 256 by decide)
    have ih := step3 n (x / 256) g3
    have hv := nib_low n _ g3
    have e : x = 256 * (x / 256) + x % 256 := (Nat.div_add_mod x 256).symm
    generalize x / 256 = v at *
    generalize x % 256 = b at *
    subst e
    rw [rep, pw, show (256 * v + b) / 256 = v by omega, show (256 * v + b) % 256 = b by omega, ← ih]
    rw [show (256 * v + b) / 16 + (256 * v + b) = 256 * (v / 16 + v) + (16 * (v % 16) + b / 16 + b) by omega, and_byte _ _ _ _ (by omega) (by decide)]
    have h4 : (16 * (v % 16) + b / 16 + b) &&& 15 = s3 b := by
      rw [show (15 : Nat) = 2 ^ 4 - 1 from rfl, Nat.and_two_pow_sub_one_eq_mod]
      unfold s3
      omega
    rw [h4]
/-- the sum of the bytes -/
def sumB : Nat → Nat → Nat
  | 0, _ => 0
  | n + 1, x => sumB n (x / 256) + x % 256
theorem sumB_pw (s : Nat → Nat) (hs : ∀ b, b < 256 → s b = cnt (ofN 8 b)) : ∀ n x, sumB n (pw s n x) = cnt (ofN (8 * n) x)
  | 0, _ => rfl
  | n + 1, x => by
    have h := hs (x % 256) (Nat.mod_lt _ (by decide))
    have ih := sumB_pw s hs n (x / 256)
    have hc := cnt_le (ofN 8 (x % 256))
    rw [ofN_length] at hc
    have e8 : ofN 8 (x % 256) = ofN 8 x := by
      have h1 := ofN_num (ofN 8 x)
      rw [ofN_length, num_ofN] at h1
      exact h1
    rw [pw, sumB, show 8 * (n + 1) = 8 * n + 8 by omega, ofN_split, cnt_append, show (2 : Nat) ^ 8 = 256 from rfl, ← ih, ← e8, ← h]
    rw [show (256 * pw s n (x / 256) + s (x % 256)) / 256 = pw s n (x / 256) by omega, show (256 * pw s n (x / 256) + s (x % 256)) % 256 = s (x % 256) by omega]
/-- bytes as a number, the first the lowest -/
def vl : List Nat → Nat
  | [] => 0
  | c :: r => 256 * vl r + c
def addl : List Nat → List Nat → List Nat
  | a, [] => a
  | [], b => b
  | x :: a, y :: b => (x + y) :: addl a b
theorem addl_vl : ∀ a b, vl a + vl b = vl (addl a b)
  | a, [] => by cases a <;> rfl
  | [], y :: b => by rw [addl, vl, Nat.zero_add]; simp
  | x :: a, y :: b => by rw [addl, vl, vl, vl, ← addl_vl a b]; omega
theorem vl_div (c : Nat) (r : List Nat) (h : c < 256) : vl (c :: r) / 256 = vl r := by rw [vl]; omega
theorem vl_lt (l : List Nat) (h : ∀ c ∈ l, c < 256) : vl l < 256 ^ l.length := by
  induction l with
  | nil => simp [vl]
  | cons c r ih =>
    have h1 := ih (fun d hd => h d (by simp [hd]))
    have h2 := h c (by simp)
    rw [vl, List.length_cons, Nat.pow_succ]
    omega
theorem vl_le (m : Nat) (l : List Nat) (h : ∀ c ∈ l, c ≤ m) : vl l ≤ m * rep 1 l.length := by
  induction l with
  | nil => simp [vl]
  | cons c r ih =>
    have h1 := ih (fun d hd => h d (by simp [hd]))
    have h2 := h c (by simp)
    rw [vl, List.length_cons, rep, Nat.mul_add, Nat.mul_one, ← Nat.mul_assoc, Nat.mul_comm m 256, Nat.mul_assoc]
    omega
theorem fold8 (c0 c1 c2 c3 c4 c5 c6 c7 : Nat) (h0 : c0 ≤ 8) (h1 : c1 ≤ 8) (h2 : c2 ≤ 8) (h3 : c3 ≤ 8) (h4 : c4 ≤ 8) (h5 : c5 ≤ 8) (h6 : c6 ≤ 8) (h7 : c7 ≤ 8) (t t1 t2 t3 : Nat)
    (e : t = vl [c0, c1, c2, c3, c4, c5, c6, c7])
    (e1 : t1 = t + t / 256) (e2 : t2 = t1 + t1 / 65536) (e3 : t3 = t2 + t2 / 4294967296) : t < 256 ^ 8 ∧ t1 < 256 ^ 8 ∧ t2 < 256 ^ 8 ∧ t3 < 9223372036854775808 ∧ t3 % 128 = c0 + c1 + (c2 + c3) + (c4 + c5 + (c6 + c7)) := by
  rw [e, vl_div _ _ (by omega), addl_vl] at e1
  simp only [addl] at e1
  rw [show 65536 = 256 * 256 from rfl, ← Nat.div_div_eq_div_mul, e1, vl_div _ _ (by omega), vl_div _ _ (by omega), addl_vl] at e2
  simp only [addl] at e2
  rw [show 4294967296 = 256 * 256 * 256 * 256 from rfl, ← Nat.div_div_eq_div_mul, ← Nat.div_div_eq_div_mul, ← Nat.div_div_eq_div_mul, e2, vl_div _ _ (by omega), vl_div _ _ (by omega), vl_div _ _ (by omega), vl_div _ _ (by omega), addl_vl] at e3
  simp only [addl] at e3
  refine ⟨?_, ?_, ?_, ?_, ?_⟩
  · rw [e]; exact vl_lt _ (by simp only [List.mem_cons, List.not_mem_nil, or_false]; rintro c (rfl | rfl | rfl | rfl | rfl | rfl | rfl | rfl) <;> omega)
  · rw [e1]; exact vl_lt _ (by simp only [List.mem_cons, List.not_mem_nil, or_false]; rintro c (rfl | rfl | rfl | rfl | rfl | rfl | rfl | rfl) <;> omega)
  · rw [e2]; exact vl_lt _ (by simp only [List.mem_cons, List.not_mem_nil, or_false]; rintro c (rfl | rfl | rfl | rfl | rfl | rfl | rfl | rfl) <;> omega)
  · have h9 := vl_le 64 _ (show ∀ c ∈ _, c ≤ 64 from by simp only [List.mem_cons, List.not_mem_nil, or_false]; rintro c (rfl | rfl | rfl | rfl | rfl | rfl | rfl | rfl) <;> omega) |> (e3 ▸ ·)
    refine Nat.lt_of_le_of_lt h9 ?_
    simp only [List.length_cons, List.length_nil]
    decide
  · rw [e3, vl]
    generalize vl _ = X
    omega

/-- **the count of a number of 64 bits** -/
theorem ones64 (B : Bits) (hB : B.length = 64) (x1 x2 x3 x4 x5 x6 : Nat) (e1 : x1 = (num B / 2 &&& 6148914691236517205) + (num B &&& 6148914691236517205)) (e2 : x2 = (x1 / 4 &&& 3689348814741910323) + (x1 &&& 3689348814741910323))
    (e3 : x3 = (x2 / 16 + x2) &&& 1085102592571150095) (e4 : x4 = x3 + x3 / 256) (e5 : x5 = x4 + x4 / 65536) (e6 : x6 = x5 + x5 / 4294967296) :
    x1 < 18446744073709551616 ∧ x2 < 18446744073709551616 ∧ x2 / 16 + x2 < 18446744073709551616 ∧ x3 < 18446744073709551616 ∧ x4 < 18446744073709551616 ∧ x5 < 18446744073709551616 ∧ x6 < 9223372036854775808 ∧ x6 % 128 = cnt B := by
  have r1 : rep 85 8 = 6148914691236517205 := by decide
  have r2 : rep 51 8 = 3689348814741910323 := by decide
  have r3 : rep 15 8 = 1085102592571150095 := by decide
  rw [← r1, step1] at e1
  rw [← r2, step2, e1, pw_pw _ _ (fun b hb => (s1_all b hb).1)] at e2
  have hn : nib 8 x2 := by rw [e2]; exact nib_pw _ (fun b hb => ⟨(s123_all b hb).1, (s123_all b hb).2.1, (s123_all b hb).2.2.1⟩) 8 _
  rw [← r3, step3 8 x2 hn, e2, pw_pw _ _ (fun b hb => (s123_all b hb).1)] at e3
  have hs := sumB_pw (fun b => s3 (s2 (s1 b))) (fun b hb => (s123_all b hb).2.2.2) 8 (num B)
  rw [← e3, show 8 * 8 = B.length by rw [hB], ofN_num] at hs
  have lim : ∀ (s : Nat → Nat) (hs : ∀ b, b < 256 → s b < 256) n x, pw s n x < 256 ^ n := by
    intro s hs n
    induction n with
    | zero => intro x; simp [pw]
    | succ n ih =>
      intro x
      have h1 := ih (x / 256)
      have h2 := hs (x % 256) (Nat.mod_lt _ (by decide))
      rw [pw, Nat.pow_succ]
      omega
  have l1 : x1 < 18446744073709551616 := by rw [e1]; exact lim _ (fun b hb => (s1_all b hb).1) 8 _
  have l2 : ∀ n x, nib n x → x ≤ 68 * rep 1 n := by
    intro n
    induction n with
    | zero => intro x h; rw [nib] at h; subst h; exact Nat.zero_le _
    | succ n ih =>
      intro x h
      have := ih _ h.2.2
      have h1 := h.1
      have h2 := h.2.1
      rw [rep]
      omega
  have l3 := l2 8 x2 hn
  rw [show rep 1 8 = 72340172838076673 by decide] at l3
  have l4 : ∀ j x, s3 (s2 (s1 (x / j % 256))) ≤ 8 := by
    intro j x
    rw [(s123_all _ (Nat.mod_lt _ (by decide))).2.2.2]
    have := cnt_le (ofN 8 (x / j % 256))
    rwa [ofN_length] at this
  have hx : ∀ x, s3 (s2 (s1 (x % 256))) ≤ 8 := by
    intro x
    have := l4 1 x
    rwa [Nat.div_one] at this
  have sv : ∀ c r, c < 256 → ∀ n, sumB (n + 1) (vl (c :: r)) = sumB n (vl r) + c := fun c r h n => by
    rw [sumB, vl_div c r h]
    congr 1
    rw [vl]
    omega
  obtain ⟨c0, k0⟩ : ∃ c, s3 (s2 (s1 (num B % 256))) = c := ⟨_, rfl⟩
  obtain ⟨c1, k1⟩ : ∃ c, s3 (s2 (s1 (num B / 256 % 256))) = c := ⟨_, rfl⟩
  obtain ⟨c2, k2⟩ : ∃ c, s3 (s2 (s1 (num B / 256 / 256 % 256))) = c := ⟨_, rfl⟩
  obtain ⟨c3, k3⟩ : ∃ c, s3 (s2 (s1 (num B / 256 / 256 / 256 % 256))) = c := ⟨_, rfl⟩
  obtain ⟨c4, k4⟩ : ∃ c, s3 (s2 (s1 (num B / 256 / 256 / 256 / 256 % 256))) = c := ⟨_, rfl⟩
  obtain ⟨c5, k5⟩ : ∃ c, s3 (s2 (s1 (num B / 256 / 256 / 256 / 256 / 256 % 256))) = c := ⟨_, rfl⟩
  obtain ⟨c6, k6⟩ : ∃ c, s3 (s2 (s1 (num B / 256 / 256 / 256 / 256 / 256 / 256 % 256))) = c := ⟨_, rfl⟩
  obtain ⟨c7, k7⟩ : ∃ c, s3 (s2 (s1 (num B / 256 / 256 / 256 / 256 / 256 / 256 / 256 % 256))) = c := ⟨_, rfl⟩
  have b0 : c0 ≤ 8 := by rw [← k0]; exact hx _
  have b1 : c1 ≤ 8 := by rw [← k1]; exact hx _
  have b2 : c2 ≤ 8 := by rw [← k2]; exact hx _
  have b3 : c3 ≤ 8 := by rw [← k3]; exact hx _
  have b4 : c4 ≤ 8 := by rw [← k4]; exact hx _
  have b5 : c5 ≤ 8 := by rw [← k5]; exact hx _
  have b6 : c6 ≤ 8 := by rw [← k6]; exact hx _
  have b7 : c7 ≤ 8 := by rw [← k7]; exact hx _
  have e3' : x3 = vl [c0, c1, c2, c3, c4, c5, c6, c7] := by
    rw [e3, ← k0, ← k1, ← k2, ← k3, ← k4, ← k5, ← k6, ← k7]
    rfl
  obtain ⟨m0, m1, m2, m3, m4⟩ := fold8 _ _ _ _ _ _ _ _ b0 b1 b2 b3 b4 b5 b6 b7 x3 x4 x5 x6 e3' e4 e5 e6
  have m0' : x3 < 18446744073709551616 := m0
  have m1' : x4 < 18446744073709551616 := m1
  have m2' : x5 < 18446744073709551616 := m2
  have m3' : x6 < 9223372036854775808 := m3
  refine ⟨l1, by omega, by omega, m0', m1', m2', m3', ?_⟩
  rw [m4, ← hs, e3', sv _ _ (by omega), sv _ _ (by omega), sv _ _ (by omega), sv _ _ (by omega), sv _ _ (by omega), sv _ _ (by omega), sv _ _ (by omega), sv _ _ (by omega), sumB]
  clear m4 hs e3' e3 e4 e5 e6 m0 m1 m2 m3 m0' m1' m2' m3' k0 k1 k2 k3 k4 k5 k6 k7 hx l4 l3 l2 l1 lim hn
  omega

/-- how many 0 lead -/
def lead : Bits → Nat
  | [] => 0
  | b :: r => if b then 0 else lead r + 1
theorem lead_le (l : Bits) : lead l ≤ l.length := by
  induction l with
  | nil => exact Nat.le_refl _
  | cons b r ih => rw [lead, List.length_cons]; split <;> omega
/-- bits that are not all 0: the first 1 -/
theorem lead_split (l : Bits) (h : 0 < cnt l) : l = List.replicate (lead l) false ++ true :: l.drop (lead l + 1) ∧ lead l < l.length := by
  induction l with
  | nil => simp [cnt] at h
  | cons b r ih =>
    rw [lead]
    cases b
    · rw [cnt] at h
      obtain ⟨h1, h2⟩ := ih (by simpa using h)
      simp only [Bool.false_eq_true, if_false]
      refine ⟨?_, by rw [List.length_cons]; omega⟩
      rw [List.replicate_succ, List.cons_append, List.drop_succ_cons]
      exact congrArg (false :: ·) h1
    · simp
theorem num_zeros (n : Nat) (r : Bits) : num (List.replicate n false ++ r) = num r := by
  induction n with
  | zero => rfl
  | succ n ih => rw [List.replicate_succ, List.cons_append, num, ih]; simp
theorem num_first (n : Nat) (r : Bits) : num (List.replicate n false ++ true :: r) = 2 ^ r.length + num r := by
  rw [num_zeros, num]
  simp
theorem lead_log (l : Bits) (h : 0 < cnt l) : num l ≠ 0 ∧ Nat.log2 (num l) = l.length - 1 - lead l := by
  obtain ⟨h1, h2⟩ := lead_split l h
  obtain ⟨r, hr⟩ : ∃ r, l.drop (lead l + 1) = r := ⟨_, rfl⟩
  have hl : r.length = l.length - 1 - lead l := by rw [← hr, List.length_drop]; omega
  rw [hr] at h1
  have hn : num l = 2 ^ r.length + num r := by
    conv => lhs; rw [h1]
    exact num_first _ _
  have hlt := num_lt r
  have hp : 0 < 2 ^ r.length := Nat.pow_pos (by decide)
  have h0 : num l ≠ 0 := by omega
  refine ⟨h0, ?_⟩
  rw [← hl]
  have a1 : r.length ≤ Nat.log2 (num l) := (Nat.le_log2 h0).2 (by omega)
  have a2 : Nat.log2 (num l) < r.length + 1 := (Nat.log2_lt h0).2 (by rw [Nat.pow_succ]; omega)
  omega

/-- the place of the bit 1 that has so many others ahead of it -/
def one : Bits → Nat → Nat → Option Nat
  | [], _, _ => none
  | false :: r, q, k => one r (q + 1) k
  | true :: _, q, 0 => some q
  | true :: r, q, k + 1 => one r (q + 1) k
theorem one_zeros (n : Nat) (r : Bits) (q k : Nat) : one (List.replicate n false ++ r) q k = one r (q + n) k := by
  induction n generalizing q with
  | zero => rfl
  | succ n ih => rw [List.replicate_succ, List.cons_append, one, ih]; congr 1; omega
theorem one_all_zeros (n : Nat) (q k : Nat) : one (List.replicate n false) q k = none := by
  have := one_zeros n [] q k
  rw [List.append_nil] at this
  rw [this]
  rfl
theorem one_skip (a r : Bits) (q k : Nat) (h : cnt a ≤ k) : one (a ++ r) q k = one r (q + a.length) (k - cnt a) := by
  induction a generalizing q k with
  | nil => simp [cnt]
  | cons b l ih =>
    rw [cnt] at h ⊢
    rw [List.cons_append, List.length_cons]
    cases b
    · simp only [Bool.false_eq_true, if_false, Nat.zero_add] at h ⊢
      rw [one, ih _ _ h]
      congr 1
      omega
    · simp only [if_true] at h ⊢
      cases k with
      | zero => omega
      | succ k =>
        rw [one, ih _ _ (by omega)]
        congr 1 <;> omega
theorem one_hit (a r : Bits) (q k : Nat) (h : k < cnt a) : one (a ++ r) q k = one a q k := by
  induction a generalizing q k with
  | nil => simp [cnt] at h
  | cons b l ih =>
    rw [cnt] at h
    rw [List.cons_append]
    cases b
    · simp only [Bool.false_eq_true, if_false, Nat.zero_add] at h
      rw [one, one]
      exact ih _ _ h
    · simp only [if_true] at h
      cases k with
      | zero => rfl
      | succ k => rw [one, one]; exact ih _ _ (by omega)
theorem one_shift (a : Bits) (q d k : Nat) : one a (q + d) k = (one a q k).map (· + d) := by
  induction a generalizing q k with
  | nil => rfl
  | cons b l ih =>
    cases b
    · rw [one, one, ← ih]
      congr 1
      omega
    · cases k with
      | zero => rfl
      | succ k =>
        rw [one, one, ← ih]
        congr 1
        omega
theorem one_some (a : Bits) (q k : Nat) (h : k < cnt a) : ∃ r, one a q k = some r ∧ q ≤ r ∧ r < q + a.length := by
  induction a generalizing q k with
  | nil => simp [cnt] at h
  | cons b l ih =>
    rw [cnt] at h
    rw [List.length_cons]
    cases b
    · rw [one]
      simp only [Bool.false_eq_true, if_false, Nat.zero_add] at h
      obtain ⟨r, h1, h2, h3⟩ := ih (q + 1) k h
      exact ⟨r, h1, by omega, by omega⟩
    · simp only [if_true] at h
      cases k with
      | zero => exact ⟨q, rfl, Nat.le_refl _, by omega⟩
      | succ k =>
        rw [one]
        obtain ⟨r, h1, h2, h3⟩ := ih (q + 1) k (by omega)
        exact ⟨r, h1, by omega, by omega⟩
/-- the first 1 -/
theorem one_lead (l : Bits) (q : Nat) (h : 0 < cnt l) : one l q 0 = some (q + lead l) := by
  obtain ⟨h1, _⟩ := lead_split l h
  conv => lhs; rw [h1]
  rw [one_zeros, one]
/-- the first 1 struck -/
def strike (l : Bits) : Bits := List.replicate (lead l + 1) false ++ l.drop (lead l + 1)
theorem strike_one (l : Bits) (q k : Nat) (h : 0 < cnt l) : one l q (k + 1) = one (strike l) q k := by
  obtain ⟨h1, _⟩ := lead_split l h
  conv => lhs; rw [h1]
  unfold strike
  rw [one_zeros, one_zeros, one]
  rfl
theorem strike_length (l : Bits) (h : 0 < cnt l) : (strike l).length = l.length := by
  obtain ⟨_, h2⟩ := lead_split l h
  unfold strike
  rw [List.length_append, List.length_replicate, List.length_drop]
  omega
theorem strike_cnt (l : Bits) (h : 0 < cnt l) : cnt (strike l) = cnt l - 1 := by
  obtain ⟨h1, _⟩ := lead_split l h
  conv => rhs; rw [h1]
  unfold strike
  rw [cnt_append, cnt_append, cnt_zeros, cnt_zeros, cnt]
  simp only [if_true]
  omega
theorem strike_num (l : Bits) (h : 0 < cnt l) : num l = 2 ^ (l.length - 1 - lead l) + num (strike l) ∧ num (strike l) < 2 ^ (l.length - 1 - lead l) := by
  obtain ⟨h1, h2⟩ := lead_split l h
  have hl : (l.drop (lead l + 1)).length = l.length - 1 - lead l := by rw [List.length_drop]; omega
  have hlt := num_lt (l.drop (lead l + 1))
  rw [hl] at hlt
  unfold strike
  rw [num_zeros]
  refine ⟨?_, hlt⟩
  conv => lhs; rw [h1]
  rw [num_first, hl]
end Go.Proofs.YthaicpbdlhkkkaaGreatDoor.bit
