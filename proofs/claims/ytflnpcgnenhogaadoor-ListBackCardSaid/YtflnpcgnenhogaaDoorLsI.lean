/- codes: a reading: short, gamma, number. -/
import Derived.Test.YtflnpcgnenhogaaDoorLsH
import Derived.Deep.RegionHeld3
namespace Go.Proofs.YtflnpcgnenhogaaDoor.ls
open Go.RowKit Go.Proofs.YtflnpcgnenhogaaDoor.own Go.Proofs.YtflnpcgnenhogaaDoor.bit

/-- what reading leaves: what the bits say, or a mark -/
def ReadP (x : Nat → Nat) (d t : Nat) (w : World) (rb qb : Nat) (s : ByteArray) (a : Nat) (bad : Bool) (ks : List (Nat × Obj)) (o : Option (Nat × Nat)) (e : Ending) (w' : World) : Prop :=
  ∃ v a' : Nat, ∃ bad' : Bool, e = .returned (.int .u64 (v : Int)) ∧ v < 18446744073709551616 ∧ RQ x d t w rb qb s a' bad' ks w' ∧ (bad = true → bad' = true) ∧ (bad = false → match o with | some q => v = q.1 ∧ a' = a + q.2 ∧ bad' = false | none => bad' = true)
theorem tkP_ok {s : ByteArray} {a n : Nat} (h : a + n ≤ 8 * s.size) : tkP s a n = (num (((unpack (nats s)).drop a).take n), a + n) := if_pos h
theorem tkP_no {s : ByteArray} {a n : Nat} (h : ¬ a + n ≤ 8 * s.size) : tkP s a n = (0, a) := if_neg h
theorem take_succ_num (B : Bits) (n : Nat) (h : n < B.length) : num (B.take (n + 1)) = 2 * num (B.take n) + num ((B.drop n).take 1) := by
  rw [List.take_add, num_append, List.length_take, List.length_drop, Nat.min_eq_left (by omega), Nat.pow_one, Nat.mul_comm]
set_option maxRecDepth 100000 in
set_option maxHeartbeats 3200000 in
theorem qshort_any (x : Nat → Nat) (d t : Nat) (hdt : d ≠ t) (w : World) (rb qb : Nat) (s : ByteArray) (a k : Nat) (hk : 1 ≤ k) (hk2 : k ≤ 9223372036854775808) (bad : Bool) (ks : List (Nat × Obj)) (W : World) (h : RQ x d t w rb qb s a bad ks W) :
    Calls Tryd.prog 94 #[.pointer (some ⟨qb, 0, none⟩), .int .u64 (k : Int)] W (ReadP x d t w rb qb s a bad ks (mread k ((unpack (nats s)).drop a))) := by
  have LN := Lib.hid (fun W => Tryd.bits_Len64 ((k - 1 : Nat) : Int) W (by omega) (by omega))
  rw [Int.toNat_natCast, bitLen_clog k hk hk2] at LN
  have e1 : IntKind.u64.wrap ((k : Int) - 1) = ((k - 1 : Nat) : Int) := u64_sub k 1 hk hk2
  obtain ⟨o, ho⟩ : ∃ o, mread k ((unpack (nats s)).drop a) = o := ⟨_, rfl⟩
  have HO := Lib.hid ho
  rw [ho]
  unfold mread at HO
  rw [List.length_drop, bits_len] at HO
  have h1 := @clog_le k
  have h2 : clog k ≤ 63 := clog_pow (by rw [show (2 : Nat) ^ 63 = 9223372036854775808 from rfl]; exact hk2)
  have h3 : (2 : Nat) ^ clog k ≤ 9223372036854775808 := pow63 h2
  have hle := h.le
  obtain ⟨c, hc⟩ : ∃ c, clog k = c := ⟨_, rfl⟩
  rw [hc] at LN HO h1 h2 h3
  obtain ⟨pw, hpw⟩ : ∃ pw, 2 ^ c = pw := ⟨_, rfl⟩
  rw [hpw] at HO h1 h3
  have H := Lib.hid h
  clear hc ho h
  by_cases c0 : c = 0
  · subst c0
    have OO := HO.out
    rw [if_pos rfl] at OO
    clear h1 h2 h3 hpw HO hle
    go_enter Tryd.func94, Tryd.ntmps94
    go_wp2_with fail
    refine (LN.out _).mono ?_
    rintro e w1 ⟨rfl, rfl⟩
    go_wp2_with fail
    go_ret
    exact ⟨0, a, bad, rfl, by decide, H.out, fun h => h, fun h => by subst OO; exact ⟨rfl, rfl, h⟩⟩
  · have hm : 2 ^ c - k < 2 ^ c := by omega
    have cc : ((c : Int) == 0) = false := beq_eq_false_iff_ne.2 (by omega)
    have f1 : min c 64 = c := Nat.min_eq_left (by omega)
    have f2 := u64_pow c pw hpw h3
    have f3 := u64_sub pw k h1 h3
    have f4 : IntKind.i64.wrap ((c : Int) - 1) = ((c - 1 : Nat) : Int) := by rw [IntWalk.i64_in _ (by omega)]; omega
    have F := Lib.hid (And.intro f1 (And.intro f2 (And.intro f3 f4)))
    obtain ⟨m, hmm⟩ : ∃ m, pw - k = m := ⟨_, rfl⟩
    rw [hmm] at F HO
    have hcz : (0 : Int) ≤ (c : Int) := Int.natCast_nonneg c
    -- the first bits
    obtain ⟨v1, a1, b1, ht1, T1, hv1, hb1⟩ : ∃ v1 a1 b1, tkP s a (c - 1) = (v1, a1) ∧ Hid (Calls Tryd.prog 93 #[.pointer (some ⟨qb, 0, none⟩), .int .i64 ((c - 1 : Nat) : Int)] W fun e w' =>
      e = .returned (.int .u64 (v1 : Int)) ∧ RQ x d t w rb qb s a1 b1 ks w') ∧ v1 < 4611686018427387904 ∧ b1 = (bad || decide (8 * s.size < a + (c - 1))) := by
      refine ⟨(tkP s a (c - 1)).1, (tkP s a (c - 1)).2, _, rfl, Lib.hid (qtake_any x d t hdt w rb qb s a (c - 1) (by omega) bad ks W H.out), ?_, rfl⟩
      unfold tkP
      split
      · refine Nat.lt_of_lt_of_le (num_lt _) ?_
        calc 2 ^ (((unpack (nats s)).drop a).take (c - 1)).length ≤ 2 ^ 62 := Nat.pow_le_pow_right (by decide) (by rw [List.length_take]; omega)
          _ = 4611686018427387904 := rfl
      · exact (by decide : (0 : Nat) < 4611686018427387904)
    have HT1 := Lib.hid ht1
    have HB1 := Lib.hid hb1
    have HLE := Lib.hid hle
    have HC0 := Lib.hid c0
    have HMW : m ≤ 9223372036854775808 := by omega
    clear ht1 hb1 hle c0 hm f1 f2 f3 f4 hpw h1 h2 h3
    by_cases hlt : v1 < m
    · have hd : ¬ (m : Int) ≤ (v1 : Int) := by omega
      go_enter Tryd.func94, Tryd.ntmps94
      go_wp2_with fail
      refine (LN.out _).mono ?_
      rintro e w1 ⟨rfl, rfl⟩
      obtain ⟨f1, f2, f3, f4⟩ := F.out
      go_upto_region 5 with fail
      clear f1 f2 f3 
      go_wp2_with fail
      refine T1.out.mono ?_
      rintro e w2 ⟨rfl, h2⟩
      have H2 := Lib.hid h2
      clear h2
      go_wp2_with fail
      go_ret
      refine ⟨v1, a1, b1, rfl, by omega, H2.out, fun h => by rw [HB1.out, h]; rfl, fun h => ?_⟩
      have OO := HO.out
      have ht1 := HT1.out
      have hb1 := HB1.out
      have hle := HLE.out
      rw [if_neg HC0.out] at OO
      rw [h, Bool.false_or] at hb1
      by_cases hl : a + (c - 1) ≤ 8 * s.size
      · rw [tkP_ok hl] at ht1
        obtain ⟨e1, e2⟩ := Prod.mk.inj ht1
        rw [if_neg (by omega), e1, if_pos hlt] at OO
        subst OO
        exact ⟨rfl, e2.symm, by rw [hb1]; exact decide_eq_false (by omega)⟩
      · rw [if_pos (by omega)] at OO
        subst OO
        show b1 = true
        rw [hb1]; exact decide_eq_true (by omega)
    · have hd : (m : Int) ≤ (v1 : Int) := by omega
      have w1 : IntKind.u64.wrap ((v1 : Int) * 2 ^ 1) = ((2 * v1 : Nat) : Int) := by rw [IntKind.wrap_u64]; omega
      have w1' : IntKind.u64.wrap ((v1 : Int) * 2) = ((2 * v1 : Nat) : Int) := by rw [IntKind.wrap_u64]; omega
      have T2 := Lib.hid (fun W h => qtake_any x d t hdt w rb qb s a1 1 (by decide) b1 ks W h)
      obtain ⟨v2, a2, ht2⟩ : ∃ v2 a2, tkP s a1 1 = (v2, a2) := ⟨_, _, rfl⟩
      have hv2 : v2 ≤ 1 := by
        have e : v2 = (tkP s a1 1).1 := by rw [ht2]
        rw [e]
        unfold tkP
        split
        · have := num_lt (((unpack (nats s)).drop a1).take 1)
          have h2 : 2 ^ (((unpack (nats s)).drop a1).take 1).length ≤ 2 ^ 1 := Nat.pow_le_pow_right (by decide) (by rw [List.length_take]; omega)
          show num _ ≤ 1
          omega
        · exact Nat.zero_le _
      rw [ht2] at T2
      dsimp only at T2
      have w2 : IntKind.u64.wrap (((2 * v1 : Nat) : Int) + (v2 : Int)) = ((2 * v1 + v2 : Nat) : Int) := by rw [IntKind.wrap_u64]; omega
      have w3 : IntKind.u64.wrap (((2 * v1 + v2 : Nat) : Int) - (m : Int)) = ((2 * v1 + v2 - m : Nat) : Int) := by rw [IntKind.wrap_u64]; omega
      have HT2 := Lib.hid ht2
      clear ht2
      go_enter Tryd.func94, Tryd.ntmps94
      go_wp2_with fail
      refine (LN.out _).mono ?_
      rintro e w1 ⟨rfl, rfl⟩
      obtain ⟨f1, f2, f3, f4⟩ := F.out
      go_upto_region 5 with fail
      clear f1 f2 f3 
      go_wp2_with fail
      refine T1.out.mono ?_
      rintro e w5 ⟨rfl, h2⟩
      have H2 := Lib.hid h2
      clear h2
      go_wp2_with fail
      refine (T2.out _ H2.out).mono ?_
      rintro e w6 ⟨rfl, h3⟩
      have H3 := Lib.hid h3
      clear h3 H2
      go_wp2_with fail
      go_ret
      refine ⟨2 * v1 + v2 - m, a2, _, by simp; omega, by omega, H3.out, fun h => by rw [HB1.out, h]; rfl, fun h => ?_⟩
      have OO := HO.out
      have ht1 := HT1.out
      have hb1 := HB1.out
      have hle := HLE.out
      have ht2 := HT2.out
      have hc0 := HC0.out
      rw [if_neg hc0] at OO
      rw [h, Bool.false_or] at hb1
      by_cases hl : a + (c - 1) ≤ 8 * s.size
      · rw [tkP_ok hl] at ht1
        obtain ⟨e1, e2⟩ := Prod.mk.inj ht1
        rw [if_neg (by omega), e1, if_neg hlt] at OO
        rw [decide_eq_false (by omega)] at hb1
        rw [hb1, Bool.false_or]
        subst e2
        by_cases hl2 : a + c ≤ 8 * s.size
        · rw [tkP_ok (by omega)] at ht2
          obtain ⟨e3, e4⟩ := Prod.mk.inj ht2
          have TS := take_succ_num ((unpack (nats s)).drop a) (c - 1) (by rw [List.length_drop, bits_len]; omega)
          rw [show c - 1 + 1 = c by omega, e1, List.drop_drop, e3] at TS
          rw [if_neg (by omega), TS] at OO
          subst OO
          exact ⟨rfl, by show a2 = a + c; omega, decide_eq_false (by omega)⟩
        · rw [if_pos (by omega)] at OO
          subst OO
          exact decide_eq_true (by omega)
      · rw [if_pos (by omega)] at OO
        subst OO
        rw [hb1, decide_eq_true (by omega)]
        rfl

set_option maxRecDepth 100000 in
set_option maxHeartbeats 3200000 in
theorem qgamma_any (x : Nat → Nat) (d t : Nat) (hdt : d ≠ t) (w : World) (rb qb : Nat) (s : ByteArray) (a : Nat) (ks : List (Nat × Obj)) (W : World) (h : RQ x d t w rb qb s a false ks W) :
    Calls Tryd.prog 92 #[.pointer (some ⟨qb, 0, none⟩), .int .i64 47] W (ReadP x d t w rb qb s a false ks (rd0 .gam ((unpack (nats s)).drop a))) := by
  have ZE := Lib.hid (zeros_any x d t hdt w rb qb s a 47 (by decide) ks W h)
  rw [show ((47 : Nat) : Int) = 47 from rfl] at ZE
  have hle := h.le
  have HLE := Lib.hid hle
  clear h hle
  have ZB := Lib.hid (fun n => zer_bound 48 ((unpack (nats s)).drop a) n)
  obtain ⟨o, ho⟩ : ∃ o, zer 48 ((unpack (nats s)).drop a) = o := ⟨_, rfl⟩
  rw [show 47 + 1 = 48 from rfl, ho] at ZE
  have RG := Lib.hid (rd0_gam ((unpack (nats s)).drop a))
  rw [ho] at RG ZB
  clear ho
  go_enter Tryd.func92, Tryd.ntmps92
  go_wp2_with fail
  refine ZE.out.mono ?_
  rintro e w1 ⟨b, a1, bad, rfl, hz, h1⟩
  have HZ := Lib.hid hz
  have hb : b ≤ 47 := by
    unfold zerP at hz
    cases o with
    | none => omega
    | some n => have := ZB.out n rfl; omega
  have TK := Lib.hid (fun W h => qtake_any x d t hdt w rb qb s a1 b (by omega) bad ks W h)
  obtain ⟨pw, hpw⟩ : ∃ pw, 2 ^ b = pw := ⟨_, rfl⟩
  have hpw1 : pw ≤ 281474976710656 := hpw ▸ pow48 (by omega)
  have hpw0 : 1 ≤ pw := by rw [← hpw]; exact Nat.pow_pos (by decide)
  have f1 : min b 64 = b := Nat.min_eq_left (by omega)
  have f2 := u64_pow b pw hpw (by omega)
  obtain ⟨v1, a2, ht⟩ : ∃ v1 a2, tkP s a1 b = (v1, a2) := ⟨_, _, rfl⟩
  have hv1 : v1 < pw := by
    have e : v1 = (tkP s a1 b).1 := by rw [ht]
    rw [e, ← hpw]
    unfold tkP
    split
    · exact Nat.lt_of_lt_of_le (num_lt _) (Nat.pow_le_pow_right (by decide) (by rw [List.length_take]; omega))
    · exact Nat.pow_pos (by decide)
  rw [ht] at TK
  dsimp only at TK
  have HT := Lib.hid ht
  have HPW := Lib.hid hpw
  have H1 := Lib.hid h1
  have f3 : IntKind.u64.wrap ((v1 : Int) + (pw : Int)) = ((v1 + pw : Nat) : Int) := by clear f2; rw [IntKind.wrap_u64]; omega
  have f4 : IntKind.u64.wrap ((v1 : Int) + (pw : Int) - 1) = ((v1 + pw - 1 : Nat) : Int) := by clear f2; rw [IntKind.wrap_u64]; omega
  have hvb : v1 + pw - 1 < 18446744073709551616 := by clear f2 f3 f4; omega
  have hb0 : (0 : Int) ≤ (b : Int) := Int.natCast_nonneg b
  clear hz ht hpw h1 hpw1 hpw0 hv1 hb ZB ZE
  go_upto_region 2 with fail
  go_region_held3 (fun _ => True) (first | trivial)
    (first | (go_at_call 93; refine (TK.out _ (by first | exact H1.out | exact H1.out.next (Below.drew (Below.refl _ _)))).mono ?_; rintro e w2 ⟨rfl, h2⟩; have H2 := Lib.hid h2; clear h2))
  all_goals
    clear f1 f2 f3
    go_wp2_with fail
    go_ret
    refine ⟨v1 + pw - 1, a2, _, rfl, hvb, H2.out, (fun h => by cases h), fun _ => ?_⟩
    have hz := HZ.out
    have ht := HT.out
    have hle := HLE.out
    rw [RG.out]
    cases o with
    | none =>
      show (bad || _) = true
      rw [hz.2]; rfl
    | some n =>
      obtain ⟨rfl, rfl, rfl⟩ := hz
      have hle1 := H1.out.le
      rw [Option.bind_some, List.length_drop, List.length_drop, bits_len]
      by_cases hl : a + b + 1 + b ≤ 8 * s.size
      · rw [tkP_ok hl] at ht
        obtain ⟨e1, e2⟩ := Prod.mk.inj ht
        rw [if_neg (by omega), List.drop_drop, ← Nat.add_assoc, e1, HPW.out]
        exact ⟨rfl, by show a2 = a + (b + 1 + b); omega, by rw [decide_eq_false (by omega)]; rfl⟩
      · rw [if_pos (by omega), decide_eq_true (by omega)]
        rfl

theorem u64_step (v fr : Nat) (h : 1 ≤ fr ∧ fr ≤ 281474976710656) : ∃ u : Nat, IntKind.u64.wrap (IntKind.u64.wrap ((v : Int) + (fr : Int)) - 1) = (u : Int) ∧ u < 18446744073709551616 ∧ (v + fr < 18446744073709551616 → u = v + fr - 1) := by
  refine ⟨(IntKind.u64.wrap (IntKind.u64.wrap ((v : Int) + (fr : Int)) - 1)).toNat, ?_, ?_, ?_⟩ <;> simp only [IntKind.wrap_u64] <;> omega
set_option maxRecDepth 100000 in
set_option maxHeartbeats 3200000 in
theorem qnumber_any (x : Nat → Nat) (d t : Nat) (hdt : d ≠ t) (c : Cd) (hc : c.ok) (w : World) (rb qb : Nat) (s : ByteArray) (a : Nat) (ks : List (Nat × Obj)) (W : World) (h : RQ x d t w rb qb s a false ks W) :
    Calls Tryd.prog 71 #[.pointer (some ⟨qb, 0, none⟩), cdV c] W (ReadP x d t w rb qb s a false ks (rd0 c ((unpack (nats s)).drop a))) := by
  cases c with
  | una =>
    have H1 := Lib.hid (h.next ((Below.refl W.heap.size W).alloc (Nat.le_refl _) (.cells #[.int .u8 0, .int .u64 0] 85)))
    have ZE := Lib.hid (zeros_any x d t hdt w rb qb s a 65535 (by decide) ks _ H1.out)
    rw [rd0_una]
    have ZB := Lib.hid (fun n => zer_bound 65536 ((unpack (nats s)).drop a) n)
    obtain ⟨o, ho⟩ : ∃ o, zer 65536 ((unpack (nats s)).drop a) = o := ⟨_, rfl⟩
    rw [show ((65535 : Nat) : Int) = 65535 from rfl, show 65535 + 1 = 65536 from rfl, ho] at ZE
    rw [ho] at ZB ⊢
    clear ho h
    unfold cdV
    go_enter Tryd.func71, Tryd.ntmps71
    go_wp2_with fail
    refine ZE.out.mono ?_
    rintro e w1 ⟨v, a1, bad, rfl, hz, h1⟩
    have H2 := Lib.hid h1
    have hv : v ≤ 65535 := by
      unfold zerP at hz
      cases o with
      | none => omega
      | some n => have := ZB.out n rfl; omega
    have HZ := Lib.hid hz
    have w0 : IntKind.u64.wrap (v : Int) = (v : Int) := by rw [IntKind.wrap_u64]; omega
    clear hz h1 ZE
    go_wp2_with fail
    go_ret
    refine ⟨v, a1, bad, rfl, by omega, H2.out, (fun h => by cases h), fun _ => ?_⟩
    have hz := HZ.out
    cases o with
    | none => exact hz.2
    | some n => exact ⟨hz.1, by have := hz.2.1; show a1 = a + (n + 1); omega, hz.2.2⟩
  | gam =>
    have H1 := Lib.hid (h.next ((Below.refl W.heap.size W).alloc (Nat.le_refl _) (.cells #[.int .u8 1, .int .u64 0] 85)))
    have ZE := Lib.hid (qgamma_any x d t hdt w rb qb s a ks _ H1.out)
    obtain ⟨o, ho⟩ : ∃ o, rd0 .gam ((unpack (nats s)).drop a) = o := ⟨_, rfl⟩
    rw [ho] at ZE ⊢
    clear ho h
    unfold cdV
    go_enter Tryd.func71, Tryd.ntmps71
    go_wp2_with fail
    refine ZE.out.mono ?_
    rintro e w1 ⟨v, a1, bad, rfl, hz⟩
    have HZ := Lib.hid hz
    clear hz ZE
    go_wp2_with fail
    go_ret
    obtain ⟨z1, z2, z3, z4⟩ := HZ.out
    exact ⟨v, a1, bad, rfl, z1, z2, z3, fun _ => z4 trivial⟩
  | zet k =>
    obtain ⟨hk1, hk2⟩ : 1 ≤ k ∧ k ≤ 16 := hc
    have K0 := Lib.hid (h.keep #[.int .u8 3, .int .u64 (k : Int)] 85)
    have r0 := K0.out.row (List.mem_cons_self ..)
    have g0 : (W.alloc (.cells #[.int .u8 3, .int .u64 (k : Int)] 85)).cell? ⟨W.heap.size, 0, none⟩ = some (.int .u8 3) := by rw [cell_of_row _ _ _ _ _ _ r0]; rfl
    have g1 : (W.alloc (.cells #[.int .u8 3, .int .u64 (k : Int)] 85)).cell? ⟨W.heap.size, 1, none⟩ = some (.int .u64 (k : Int)) := by rw [cell_of_row _ _ _ _ _ _ r0]; rfl
    have ZE := Lib.hid (zeros_any x d t hdt w rb qb s a (47 / k) (Nat.le_trans (Nat.div_le_self _ _) (by decide)) _ _ K0.out)
    have RZ := Lib.hid (rd0_zet k ((unpack (nats s)).drop a))
    have ZB := Lib.hid (fun n => zer_bound (47 / k + 1) ((unpack (nats s)).drop a) n)
    obtain ⟨o, ho⟩ : ∃ o, zer (47 / k + 1) ((unpack (nats s)).drop a) = o := ⟨_, rfl⟩
    rw [ho] at ZE RZ ZB
    obtain ⟨mz, hmz⟩ : ∃ m, 47 / k = m := ⟨_, rfl⟩
    have hq := quo_nat 47 k mz hmz
    rw [show ((47 : Nat) : Int) = 47 from rfl] at hq
    have hmk : mz * k ≤ 47 := by rw [← hmz]; exact Nat.div_mul_le_self 47 k
    rw [hmz] at ZE ZB
    have f0 := w64_nat k (by omega)
    have f0' := i64_nat k (by omega)
    have hkne := int_nz k hk1
    have f0q := w64_nat mz (Nat.le_trans (hmz ▸ Nat.div_le_self 47 k) (by decide))
    have Q := Lib.hid (And.intro f0 (And.intro f0' (And.intro hq (And.intro hkne f0q))))
    obtain ⟨sz, hsz⟩ : ∃ z, W.heap.size = z := ⟨_, rfl⟩
    rw [hsz] at ZE g0 g1
    have HKK := Lib.hid hk2
    clear ho h f0 f0' f0q hq hkne hmz K0 r0
    unfold cdV
    go_enter Tryd.func71, Tryd.ntmps71
    go_upto_region 13 with fail
    obtain ⟨f0, f0', hq, hkne, f0q⟩ := Q.out
    go_wp2_with fail
    clear f0 f0' f0q hq hkne g0 g1
    with_reducible refine ZE.out.mono ?_
    rintro e w1 ⟨h, a1, bad, rfl, hz, h1⟩
    have hh : h ≤ mz := by
      unfold zerP at hz
      cases o with
      | none => omega
      | some n => have := ZB.out n rfl; omega
    have hhk : h * k ≤ 47 := Nat.le_trans (Nat.mul_le_mul_right k hh) hmk
    obtain ⟨m, hm⟩ : ∃ m, h * k = m := ⟨_, rfl⟩
    have hm1 : (h + 1) * k = m + k := by rw [Nat.add_mul, hm, Nat.one_mul]
    rw [hm] at hhk
    obtain ⟨fr, hfr⟩ : ∃ fr, 2 ^ m = fr := ⟨_, rfl⟩
    obtain ⟨tt, htt⟩ : ∃ tt, 2 ^ (m + k) = tt := ⟨_, rfl⟩
    have hfk : fr * 2 ^ k = tt := by rw [← hfr, ← htt, Nat.pow_add]
    have hmk : m + k ≤ 63 := Nat.add_le_add hhk hk2
    have htt2 : tt ≤ 9223372036854775808 := htt ▸ pow63 hmk
    have hfr0 : 1 ≤ fr := by rw [← hfr]; exact Nat.pow_pos (by decide)
    have hfr1 : 2 * fr ≤ tt := by
      rw [← hfk, Nat.mul_comm]
      refine Nat.mul_le_mul_left fr ?_
      calc 2 = 2 ^ 1 := rfl
        _ ≤ 2 ^ k := Nat.pow_le_pow_right (by decide) hk1
    have hfr2 : fr ≤ tt := Nat.le_trans (by rw [Nat.two_mul]; exact Nat.le_add_right _ _) hfr1
    have hfr3 : fr ≤ 281474976710656 := hfr ▸ pow48 (Nat.le_trans hhk (by decide))
    have SH := Lib.hid (fun W ks bad h => qshort_any x d t hdt w rb qb s a1 (tt - fr) (by clear hfk; omega) (Nat.le_trans (Nat.sub_le _ _) htt2) bad ks W h)
    have f3 := i64_mul h k m hm (Nat.le_trans hhk (by decide))
    have f4 : min m 64 = m := Nat.min_eq_left (Nat.le_trans hhk (by decide))
    have f5 := u64_pow m fr hfr (Nat.le_trans hfr2 htt2)
    have f7 : min k 64 = k := Nat.min_eq_left (Nat.le_trans hk2 (by decide))
    have f8 := u64_mul fr k tt hfk htt2
    have f9 := u64_sub tt fr hfr2 htt2
    have f11 : (0 : Int) ≤ (m : Int) := Int.natCast_nonneg m
    have f12 : (0 : Int) ≤ (k : Int) := Int.natCast_nonneg k
    have F := Lib.hid (And.intro f7 (And.intro f8 (And.intro f9 f12)))
    have HZ := Lib.hid hz
    have H1 := Lib.hid h1
    have HFR := Lib.hid hfr
    have HTT := Lib.hid htt
    have HM1 := Lib.hid hm1
    have HM := Lib.hid hm
    have B := Lib.hid (And.intro hfr0 (And.intro hfr1 (And.intro hfr3 htt2)))
    clear f7 f8 f9 f12 hfr0 hfr1 hfr2 hfr3 htt2 hmk hfk htt hfr hm1 hm hhk hz h1 hh ZE ZB
    go_upto_region 15 with fail
    clear f3 f4 f5 f11
    obtain ⟨f7, f8, f9, f12⟩ := F.out
    go_wp2_with fail
    with_reducible refine (SH.out _ _ _ H1.out).mono ?_
    rintro e w2 ⟨v, a2, bad2, rfl, hv, h2, hb2, hg⟩
    have H2 := Lib.hid (show RQ x d t w rb qb s a2 bad2 ks w2 from h2.less)
    have HG := Lib.hid (And.intro hb2 hg)
    clear f7 f8 f9 f12 h2 hb2 hg SH
    obtain ⟨u, hu, hul, hug⟩ := u64_step v fr (by have := B.out; omega)
    have HUG := Lib.hid hug
    clear hug
    go_wp2_with fail
    go_ret
    refine ⟨u, a2, bad2, rfl, hul, H2.out, (fun h => by cases h), fun _ => ?_⟩
    have hz := HZ.out
    obtain ⟨hb2, hg⟩ := HG.out
    obtain ⟨b0, b1, b2, b3⟩ := B.out
    rw [RZ.out]
    cases o with
    | none => exact hb2 hz.2
    | some n =>
      obtain ⟨rfl, rfl, rfl⟩ := hz
      have hg := hg rfl
      rw [Option.bind_some, List.drop_drop, ← Nat.add_assoc, HM1.out, HM.out, HTT.out, HFR.out]
      cases hmr : mread (tt - fr) ((unpack (nats s)).drop (a + h + 1)) with
      | none => rw [hmr] at hg; exact hg
      | some q =>
        rw [hmr] at hg
        obtain ⟨e1, e2, e3⟩ := hg
        have hml := (mread_bound (k := tt - fr) (by omega) (v := q.1) (n := q.2) hmr).1
        refine ⟨?_, ?_, e3⟩
        · show u = q.1 + fr - 1
          have := HUG.out (by omega)
          omega
        · show a2 = a + (h + 1 + q.2)
          omega
end Go.Proofs.YtflnpcgnenhogaaDoor.ls
