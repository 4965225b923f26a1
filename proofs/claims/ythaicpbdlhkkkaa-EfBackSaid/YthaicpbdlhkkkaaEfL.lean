/- ef: Get, Len. -/
import Derived.Test.YthaicpbdlhkkkaaEfK
namespace Go.Proofs.Ythaicpbdlhkkkaa.ef
open Go.RowKit Go.Proofs.Ythaicpbdlhkkkaa.own Go.Proofs.Ythaicpbdlhkkkaa.bit

theorem one_bound : ∀ (l : Bits) (q k r : Nat), one l q k = some r → q ≤ r ∧ r < q + l.length
  | [], q, k, r, h => by rw [one] at h; cases h
  | false :: t, q, k, r, h => by
    rw [one] at h
    have := one_bound t (q + 1) k r h
    rw [List.length_cons]; omega
  | true :: t, q, 0, r, h => by
    rw [one] at h
    injection h with h
    rw [List.length_cons]; omega
  | true :: t, q, k + 1, r, h => by
    rw [one] at h
    have := one_bound t (q + 1) k r h
    rw [List.length_cons]; omega

/-- the number i, its high bits at the place q -/
def numS (s : List Nat) (i q : Nat) : Nat := (q - i) * 2 ^ wid (nS s) (uS s) + lowS s i
theorem getS_eq (s : List Nat) (i : Nat) : getS s i = match one ((hiS s).drop (saS s i)) (saS s i) (i % 64) with
    | none => none
    | some q => if q < i then none else if uS s ≤ numS s i q then none else some (numS s i q) := rfl
/-- what Get answers -/
def getV (s : List Nat) (i : Int) : Value :=
  if 0 ≤ i ∧ i < (nS s : Int) then
    match getS s i.toNat with
    | some v => .tuple #[.int .u64 (v : Int), .int .i64 0]
    | none => .tuple #[.int .u64 0, .int .i64 4]
  else .tuple #[.int .u64 0, .int .i64 1]

theorem num_small (n u q i : Nat) (hn0 : 0 < n) (hn : n ≤ 16777216) (hu : u < 2 ^ 48) (hq : q < hib n u) : (q - i) * 2 ^ wid n u < 2 ^ 50 := by
  have hf := wid_fits n u (wid n u) hn0 (Nat.le_refl _)
  have hh : hib n u = (u - 1) / 2 ^ wid n u + n := by unfold hib; rw [if_neg (by omega)]
  have h1 : (q - i) * 2 ^ wid n u ≤ ((u - 1) / 2 ^ wid n u + n) * 2 ^ wid n u := Nat.mul_le_mul_right _ (by omega)
  rw [Nat.add_mul] at h1
  have h2 := Nat.div_mul_le_self (u - 1) (2 ^ wid n u)
  have h3 : n * 2 ^ wid n u < 2 ^ 49 := by
    rcases hf with h | h
    · omega
    · rw [h]; omega
  omega
theorem or_low (a b k : Nat) (ha : a * 2 ^ k < 2 ^ 50) (hb : b < 2 ^ k) (hk : k ≤ 47) : bits .or .u64 ((a * 2 ^ k : Nat) : Int) (b : Int) = ((a * 2 ^ k + b : Nat) : Int) := by
  have hp : 2 ^ k ≤ 2 ^ 47 := Nat.pow_le_pow_right (by decide) hk
  have h1 := (bits_nat .u64 64 (by decide) wraps_u64_64 (a * 2 ^ k) b (by omega) (by omega)).2
  have h2 : a * 2 ^ k ||| b = a * 2 ^ k + b := by
    rw [Nat.mul_comm a, ← Nat.two_pow_add_eq_or_of_lt hb]
  rw [h2] at h1
  exact h1

/-- an opened list stands in a world that came of this one -/
def LB (w : World) (xb : Nat) (s : ByteArray) (w' : World) : Prop := LsC w' xb s ∧ Below w.heap.size w w'
theorem LB.start {w : World} {xb : Nat} {s : ByteArray} (h : LsC w xb s) : LB w xb s w := ⟨h, Below.refl _ _⟩
theorem LB.next {w w' w2 : World} {xb : Nat} {s : ByteArray} (h : LB w xb s w') (k : Below w'.heap.size w' w2) : LB w xb s w2 := ⟨h.1.below k, below_next h.2 k⟩
theorem LB.drew {w w' : World} {xb : Nat} {s : ByteArray} (h : LB w xb s w') : LB w xb s w'.drew := h.next (Below.drew (Below.refl _ _))
theorem LB.drewN {w w' : World} {xb : Nat} {s : ByteArray} (h : LB w xb s w') (k : Nat) : LB w xb s (w'.drewN k) := h.next ⟨rfl, rfl, rfl, Nat.le_refl _, fun _ _ => rfl⟩
def LX (w : World) (xb n u wd hb : Nat) (s : ByteArray) (w' : World) : Prop :=
  w'.cell? ⟨xb, 0, none⟩ = some (.int .i64 (n : Int)) ∧ w'.cell? ⟨xb, 1, none⟩ = some (.int .u64 (u : Int)) ∧ w'.cell? ⟨xb, 2, none⟩ = some (.int .i64 (wd : Int)) ∧ w'.cell? ⟨xb, 3, none⟩ = some (.int .i64 (hb : Int)) ∧ w'.cell? ⟨xb, 4, none⟩ = some (.iface 55 (.string s)) ∧ LB w xb s w'
theorem LB.mk {w w' : World} {xb : Nat} {s : ByteArray} (h : LB w xb s w') : LX w xb (nS (nats s)) (uS (nats s)) (wid (nS (nats s)) (uS (nats s))) (hib (nS (nats s)) (uS (nats s))) s w' := by
  have g := h.1
  refine ⟨?_, ?_, ?_, ?_, ?_, h⟩
  all_goals
    rw [cell_of_row _ _ _ _ _ _ g]
    rfl

theorem LB.of {A B C D E : Prop} {w w' : World} {xb : Nat} {s : ByteArray} (h : A ∧ B ∧ C ∧ D ∧ E ∧ LB w xb s w') : LB w xb s w' := h.2.2.2.2.2

theorem len_of (s : ByteArray) (xb : Nat) (w : World) (h : LsC w xb s) :
    Calls Try.prog 29 #[.pointer (some ⟨xb, 0, none⟩)] w fun e w' => e = .returned (.int .i64 ((nS (nats s) : Nat) : Int)) ∧ Below w.heap.size w w' := by
  have hc : w.cell? ⟨xb, 0, none⟩ = some (.int .i64 ((nS (nats s) : Nat) : Int)) := by rw [cell_of_row _ _ _ _ _ _ h]; rfl
  clear h
  go_enter Try.func29, Try.ntmps29
  go_wp2_with fail
  go_ret
  exact ⟨rfl, Below.refl _ _⟩
theorem len_nil (w : World) :
    Calls Try.prog 29 #[.pointer none] w fun e w' => e = .returned (.int .i64 0) ∧ Below w.heap.size w w' := by
  go_enter Try.func29, Try.ntmps29
  go_wp2_with fail
  go_ret
  exact ⟨rfl, Below.refl _ _⟩

theorem get_out (s : ByteArray) (i : Int) (xb : Nat) (w : World) (h : LsC w xb s) (hi : ¬ (0 ≤ i ∧ i < (nS (nats s) : Int))) :
    Calls Try.prog 30 #[.pointer (some ⟨xb, 0, none⟩), .int .i64 i] w fun e w' => e = .returned (.tuple #[.int .u64 0, .int .i64 1]) ∧ Below w.heap.size w w' := by
  have hc : w.cell? ⟨xb, 0, none⟩ = some (.int .i64 ((nS (nats s) : Nat) : Int)) := by rw [cell_of_row _ _ _ _ _ _ h]; rfl
  generalize nS (nats s) = n at *
  clear h
  by_cases h0 : i < 0
  · go_enter Try.func30, Try.ntmps30
    go_wp2_with fail
    go_ret2
    exact ⟨rfl, Below.refl _ _⟩
  · have h1 : (n : Int) ≤ i := by omega
    clear hi
    go_enter Try.func30, Try.ntmps30
    go_wp2_with fail
    go_ret2
    exact ⟨rfl, Below.refl _ _⟩

set_option maxRecDepth 100000 in
set_option maxHeartbeats 3200000 in
theorem get_in (s : ByteArray) (hs : s.size ≤ maxLen) (ho : opens (nats s)) (i xb : Nat) (w : World) (hi : i < nS (nats s)) (h : LsC w xb s) :
    Calls Try.prog 30 #[.pointer (some ⟨xb, 0, none⟩), .int .i64 (i : Int)] w fun e w' => e = .returned (match getS (nats s) i with
      | some v => .tuple #[.int .u64 (v : Int), .int .i64 0]
      | none => .tuple #[.int .u64 0, .int .i64 4]) ∧ Below w.heap.size w w' := by
  have ho' := ho
  obtain ⟨ho1, ho2, ho3, ho4, ho5⟩ := ho'
  rw [nats_length] at ho1 ho5
  have hwl := wid_le (nS (nats s)) (uS (nats s)) (by omega)
  have hh := hib_lt (nS (nats s)) (uS (nats s)) ho2
  have hl := lowB_lt (nS (nats s)) (uS (nats s)) ho2 (by omega)
  have SA := Lib.hid (fun W => samples_any (nS (nats s)) (uS (nats s)) ho2 (by omega) W)
  obtain ⟨sa, hsa⟩ : ∃ k, 12 + lowB (nS (nats s)) (uS (nats s)) + highB (nS (nats s)) (uS (nats s)) = k := ⟨_, rfl⟩
  obtain ⟨d, hd⟩ : ∃ k, i / 64 = k := ⟨_, rfl⟩
  have hsz : sa + 4 * d + 4 ≤ s.size := by rw [← ho5, ← hsa, ← hd]; unfold sizeB sampB; omega
  have hsal : sa ≤ 105000000 := by rw [← hsa]; unfold highB; omega
  have HR := Lib.hid (fun W => efT.readAt_yes s (sa + 4 * d) 4 hs (by omega) W)
  obtain ⟨t, ht⟩ : ∃ t, s.extract (sa + 4 * d) (sa + 4 * d + 4) = t := ⟨_, rfl⟩
  rw [ht] at HR
  have htn : nats t = ((nats s).drop (sa + 4 * d)).take 4 := by rw [← ht, nats_extract]; congr 1; omega
  have htz : t.size ≤ 4 := by rw [← nats_length, htn, List.length_take]; omega
  have HN := Lib.hid (fun W => number_any t (by omega) W)
  have hval : val (nats t) = saS (nats s) i := by unfold saS; rw [htn, hsa, hd]
  rw [hval] at HN
  have hsl : saS (nats s) i < 4294967296 := by rw [← hval]; exact val4 _ (nats_lt t) (by rw [nats_length]; exact htz)
  have HO := Lib.hid (fun W hW => one_any s hs ho (saS (nats s) i) (i % 64) xb W hsl (by omega) hW)
  have HL := Lib.hid (fun W hW => low_any s hs ho i xb W hi hW)
  have GE := Lib.hid (getS_eq (nats s) i)
  have hlw := lowS_lt (nats s) i
  have HI := Lib.hid (hiS_length s ho)
  have HM := Lib.hid (fun q hq => num_small (nS (nats s)) (uS (nats s)) q i (by omega) ho2 (by omega) hq)
  have L0 := Lib.hid (LB.start h)
  have MK := Lib.hid (fun W (hW : LB w xb s W) => hW.mk)
  unfold OnePost at HO
  unfold numS at GE
  generalize lowS (nats s) i = lw at *
  generalize saS (nats s) i = sp at *
  generalize getS (nats s) i = G at *
  obtain ⟨r, hr⟩ : ∃ r, i % 64 = r := ⟨_, rfl⟩
  rw [hr] at HO GE
  unfold formV at SA
  rw [hsa] at SA
  generalize hib (nS (nats s)) (uS (nats s)) = hbb at *
  generalize wid (nS (nats s)) (uS (nats s)) = wd at *
  generalize nS (nats s) = n at *
  generalize uS (nats s) = u at *
  generalize hiS (nats s) = H at *
  have T1 : ((i : Int)).tdiv 64 = (d : Int) := by rw [Int.tdiv_eq_ediv_of_nonneg (by omega)]; omega
  have R1 : ((i : Int)).tmod 64 = (r : Int) := by rw [Int.tmod_eq_emod_of_nonneg (by omega)]; omega
  have F7 : Hid (IntKind.i64.wrap ((sa : Int) + IntKind.i64.wrap (4 * IntKind.i64.wrap (d : Int))) = ((sa + 4 * d : Nat) : Int)) := Lib.hid (by rw [IntWalk.i64_in (d : Int) (by omega), IntWalk.i64_in (4 * (d : Int)) (by omega), IntWalk.i64_in _ (by omega)]; omega)
  have F8 : Hid (IntKind.i64.wrap ((sa : Int) + IntKind.i64.wrap (4 * (d : Int))) = ((sa + 4 * d : Nat) : Int)) := Lib.hid (by rw [IntWalk.i64_in (4 * (d : Int)) (by omega), IntWalk.i64_in _ (by omega)]; omega)
  have hin : (i : Int) < (n : Int) := by omega
  have hdl : d ≤ 262144 := by omega
  clear ho ho1 ho3 ho4 ho5 hl hsa hd hsz htn htz hval h ht hr
  go_enter Try.func30, Try.ntmps30
  obtain ⟨c0, c1, c2, c3, c4, -⟩ := MK.out _ L0.out
  go_upto_region 5 with fail
  have LL := L0.out
  clear c0 c1 c2 c3 c4
  go_region_held3 (fun w' => w'.cell? ⟨xb, 0, none⟩ = some (.int .i64 (n : Int)) ∧ w'.cell? ⟨xb, 1, none⟩ = some (.int .u64 (u : Int)) ∧ w'.cell? ⟨xb, 2, none⟩ = some (.int .i64 (wd : Int)) ∧ w'.cell? ⟨xb, 3, none⟩ = some (.int .i64 (hbb : Int)) ∧ w'.cell? ⟨xb, 4, none⟩ = some (.iface 55 (.string s)) ∧ LB w xb s w')
    (first
      | exact MK.out _ (by assumption)
      | exact MK.out _ (LB.drew (by assumption))
      | exact MK.out _ (LB.drewN (by assumption) _)
      | exact MK.out _ (LB.of (by assumption))
      | exact MK.out _ (LB.drew (LB.of (by assumption)))
      | exact MK.out _ (LB.drewN (LB.of (by assumption)) _))
    (first
      | (go_at_call 53; refine (SA.out _).mono ?_; rintro e w2 ⟨rfl, k1⟩; first | have LL2 := LB.next (by assumption) k1 | have LL2 := LB.next (LB.of (by assumption)) k1 | have LL2 := LB.next (LB.drewN (by assumption) _) k1 | have LL2 := LB.next (LB.drewN (LB.of (by assumption)) _) k1)
      | (go_at_call 24; (first | rw [F7.out] | rw [F8.out]); refine (HR.out _).mono ?_; rintro e w2 ⟨rfl, rfl⟩))
  clear LL k1
  go_wp2_with fail
  refine (HN.out _).mono ?_
  rintro e w3 ⟨rfl, k3⟩
  have LL3 := LB.next LL2 k3
  go_wp2_with fail
  refine (HO.out _ LL3.1).mono ?_
  rintro e w4 ⟨k4, hcase⟩
  have LL4 := LB.next LL3 k4
  clear k4 k3 LL3 LL2
  rcases hcase with ⟨q, hq1, rfl⟩ | ⟨hq1, rfl⟩
  · have hqb : q < hbb := by
      have h1 := one_bound _ _ _ _ hq1
      rw [List.length_drop, HI.out] at h1
      by_cases h2 : sp ≤ hbb
      · omega
      · rw [List.drop_eq_nil_of_le (by rw [HI.out]; omega), one] at hq1
        cases hq1
    have HQ := Lib.hid hq1
    have GE2 : Hid (G = if q < i then none else if u ≤ (q - i) * 2 ^ wd + lw then none else some ((q - i) * 2 ^ wd + lw)) := Lib.hid (by rw [GE.out, hq1])
    clear hq1 GE
    go_wp2_with fail
    refine (HL.out _ LL4.1).mono ?_
    rintro e w5 ⟨rfl, k5⟩
    have LL5 := LB.next LL4 k5
    obtain ⟨c0, c1, c2, c3, c4, -⟩ := MK.out _ LL5
    clear k5 LL4
    by_cases hqi : q < i
    · have GN : Hid (G = none) := Lib.hid (by rw [GE2.out, if_pos hqi])
      go_wp2_with fail
      go_ret2
      exact ⟨rfl, LL5.2⟩
    · obtain ⟨j, hj⟩ : ∃ j, q - i = j := ⟨_, rfl⟩
      have JI : (q : Int) - (i : Int) = (j : Int) := by omega
      have hP := HM.out q hqb
      have OR := or_low (q - i) lw wd hP hlw hwl
      rw [hj] at hP OR GE2
      obtain ⟨P, hPe⟩ : ∃ P, j * 2 ^ wd = P := ⟨_, rfl⟩
      rw [hPe] at hP OR GE2
      have PI : (j : Int) * 2 ^ wd = (P : Int) := by rw [← hPe]; simp
      have hP2 : P < 1125899906842624 := hP
      have hqi' : (i : Int) ≤ (q : Int) := by omega
      have hlw2 : lw < 140737488355329 := Nat.lt_of_lt_of_le hlw (by
        calc 2 ^ wd ≤ 2 ^ 47 := Nat.pow_le_pow_right (by decide) hwl
          _ ≤ 140737488355329 := by decide)
      have hjl : j < 50331648 := by omega
      have hwP : IntKind.u64.wrap (P : Int) = (P : Int) := wraps_u64_64 _ (by omega) (by omega)
      have HJ := Lib.hid hj
      clear hj hPe hP
      by_cases hu : u ≤ P + lw
      · have GN : Hid (G = none) := Lib.hid (by rw [GE2.out, if_neg hqi, if_pos hu])
        have hui : (u : Int) ≤ ((P + lw : Nat) : Int) := by omega
        go_wp2_with fail
        go_ret2
        exact ⟨rfl, LL5.2⟩
      · have GN : Hid (G = some (P + lw)) := Lib.hid (by rw [GE2.out, if_neg hqi, if_neg hu])
        have hui : ((P + lw : Nat) : Int) < (u : Int) := by omega
        go_wp2_with fail
        go_ret2
        (have e := Option.some.inj GN.out; subst e; exact ⟨rfl, LL5.2⟩)
  · have GN : Hid (G = none) := Lib.hid (by rw [GE.out, hq1])
    clear GE
    have hq := Lib.hid hq1
    clear hq1
    go_wp2_with fail
    go_ret2
    exact ⟨rfl, LL4.2⟩

theorem get_any (s : ByteArray) (hs : s.size ≤ maxLen) (ho : opens (nats s)) (i : Int) (xb : Nat) (w : World) (h : LsC w xb s) :
    Calls Try.prog 30 #[.pointer (some ⟨xb, 0, none⟩), .int .i64 i] w fun e w' => e = .returned (getV (nats s) i) ∧ Below w.heap.size w w' := by
  unfold getV
  by_cases hi : 0 ≤ i ∧ i < (nS (nats s) : Int)
  · rw [if_pos hi]
    obtain ⟨k, rfl⟩ : ∃ k : Nat, i = (k : Int) := ⟨i.toNat, by omega⟩
    rw [Int.toNat_natCast]
    exact get_in s hs ho k xb w (by omega) h
  · rw [if_neg hi]
    exact get_out s i xb w h hi
end Go.Proofs.Ythaicpbdlhkkkaa.ef
