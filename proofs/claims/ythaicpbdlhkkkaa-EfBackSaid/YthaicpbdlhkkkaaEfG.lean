/- ef: the closure that reads 64 of the high bits; the search for a bit: one. -/
import Derived.Test.YthaicpbdlhkkkaaEfE
import Derived.Test.YthaicpbdlhkkkaaBitO
import Derived.Deep.RegionHeld3
import Derived.Laws.BitsAllLaws
namespace Go.Proofs.Ythaicpbdlhkkkaa.ef
open Go.RowKit Go.Proofs.Ythaicpbdlhkkkaa.own Go.Proofs.Ythaicpbdlhkkkaa.bit

theorem andNot7 (a : Nat) (h : a < 9223372036854775808) : bits .andNot .i64 (a : Int) 7 = ((8 * (a / 8) : Nat) : Int) := by
  have e : a &&& (2 ^ 64 - (7 + 1)) = 8 * (a / 8) := by
    apply Nat.eq_of_testBit_eq
    intro i
    rw [Nat.testBit_and, Nat.testBit_two_pow_sub_succ (by decide)]
    rw [show 8 * (a / 8) = 2 ^ 3 * (a / 2 ^ 3) + 0 from rfl, Nat.testBit_two_pow_mul_add _ (by decide)]
    rw [show (7 : Nat) = 2 ^ 3 - 1 from rfl, Nat.testBit_two_pow_sub_one]
    by_cases h3 : i < 3
    · simp [h3]
    · have hi : a.testBit i = (a / 2 ^ 3).testBit (i - 3) := by
        rw [Nat.testBit_div_two_pow]
        congr 1
        omega
      by_cases h64 : i < 64
      · simp [h3, h64, hi]
      · have hlt : a < 2 ^ i := Nat.lt_of_lt_of_le h (by
          calc 9223372036854775808 ≤ 2 ^ 64 := by decide
            _ ≤ 2 ^ i := Nat.pow_le_pow_right (by decide) (by omega))
        have hz : a.testBit i = false := Nat.testBit_lt_two_pow hlt
        rw [← hi, hz]
        simp [h3]
  show IntKind.i64.wrap ((BitVec.ofInt 64 (a : Int) &&& ~~~BitVec.ofInt 64 (7 : Int)).toNat : Int) = _
  have h7 : (BitVec.ofInt 64 (7 : Int)).toNat = 7 := by decide
  rw [BitVec.toNat_and, BitVec.toNat_not, h7, ofInt_u64 a (by omega), show 2 ^ 64 - 1 - 7 = 2 ^ 64 - (7 + 1) from rfl, e]
  exact IntWalk.i64_in _ (by omega)
/-- the greatest bit struck -/
theorem andNot_top (j y : Nat) (hj : j < 64) (hy : y < 2 ^ j) : bits .andNot .u64 ((2 ^ j + y : Nat) : Int) ((2 ^ j : Nat) : Int) = ((y : Nat) : Int) := by
  have hp : 2 ^ j ≤ 2 ^ 63 := Nat.pow_le_pow_right (by decide) (by omega)
  rw [u64_andNot_nat _ _ (by omega) (by omega)]
  congr 1
  apply Nat.eq_of_testBit_eq
  intro i
  rw [show 18446744073709551615 - 2 ^ j = 2 ^ 64 - (2 ^ j + 1) by omega, Nat.testBit_and, Nat.testBit_two_pow_sub_succ (by omega), Nat.testBit_two_pow, show 2 ^ j + y = 2 ^ j * 1 + y by omega, Nat.testBit_two_pow_mul_add _ hy]
  by_cases h : i < j
  · have h1 : ¬ j = i := by omega
    have h2 : i < 64 := by omega
    simp [h, h1, h2]
  · have hz : y.testBit i = false := Nat.testBit_lt_two_pow (Nat.lt_of_lt_of_le hy (Nat.pow_le_pow_right (by decide) (by omega)))
    rw [hz]
    by_cases h1 : j = i
    · subst h1; simp
    · have h2 : Nat.testBit 1 (i - j) = false := Nat.testBit_lt_two_pow (by
        have : 1 ≤ i - j := by omega
        calc 1 < 2 ^ 1 := by decide
          _ ≤ 2 ^ (i - j) := Nat.pow_le_pow_right (by decide) this)
      simp [h, h2]
theorem mask_shr (k : Nat) (hk : k ≤ 63) : (18446744073709551615 : Nat) / 2 ^ k = 2 ^ (64 - k) - 1 := by
  have e : (18446744073709551615 : Nat) = 2 ^ 64 - 1 := rfl
  have h : (2 : Nat) ^ 64 = 2 ^ (64 - k) * 2 ^ k := by rw [← Nat.pow_add]; congr 1; omega
  have hp : 0 < (2 : Nat) ^ k := Nat.pow_pos (by decide)
  have hq : 0 < (2 : Nat) ^ (64 - k) := Nat.pow_pos (by decide)
  rw [e, h]
  refine Nat.div_eq_of_lt_le ?_ ?_
  · rw [Nat.sub_mul, Nat.one_mul]
    omega
  · have h9 : 0 < 2 ^ (64 - k) * 2 ^ k := Nat.mul_pos hq hp
    rw [Nat.sub_add_cancel hq]
    omega
theorem and_mask (w k : Nat) (hk : k ≤ 63) (hw : w < 18446744073709551616) : bits .and .u64 (w : Int) ((18446744073709551615 : Int) / 2 ^ k) = ((w % 2 ^ (64 - k) : Nat) : Int) := by
  have e : ((18446744073709551615 : Int) / 2 ^ k) = ((2 ^ (64 - k) - 1 : Nat) : Int) := by
    rw [← mask_shr k hk]
    simp
  have hp : (2 : Nat) ^ (64 - k) ≤ 2 ^ 64 := Nat.pow_le_pow_right (by decide) (by omega)
  have hp0 : 0 < (2 : Nat) ^ (64 - k) := Nat.pow_pos (by decide)
  rw [e, (bits_nat .u64 64 (by decide) wraps_u64_64 w _ hw (by omega)).1, Nat.and_two_pow_sub_one_eq_mod]

/-- a list's fields and its source, in memory -/
def LC (w : World) (pb xb : Nat) (n u wd hb : Nat) (s : ByteArray) : Prop :=
  w.cell? ⟨pb, 0, none⟩ = some (.pointer (some ⟨xb, 0, none⟩)) ∧ w.cell? ⟨xb, 0, none⟩ = some (.int .i64 (n : Int)) ∧ w.cell? ⟨xb, 1, none⟩ = some (.int .u64 (u : Int)) ∧ w.cell? ⟨xb, 2, none⟩ = some (.int .i64 (wd : Int)) ∧ w.cell? ⟨xb, 3, none⟩ = some (.int .i64 (hb : Int)) ∧ w.cell? ⟨xb, 4, none⟩ = some (.iface 55 (.string s))
theorem cell_keep {w w' : World} {p : Addr} {v : Value} (k : Below w.heap.size w w') (h : w.cell? p = some v) : w'.cell? p = some v := (k.cell (World.block_lt_of_cell? _ _ h)).trans h
theorem LC.below {w w' : World} {pb xb n u wd hb : Nat} {s : ByteArray} (h : LC w pb xb n u wd hb s) (k : Below w.heap.size w w') : LC w' pb xb n u wd hb s := by
  obtain ⟨h0, h1, h2, h3, h4, h5⟩ := h
  exact ⟨cell_keep k h0, cell_keep k h1, cell_keep k h2, cell_keep k h3, cell_keep k h4, cell_keep k h5⟩

/-- what was read so far: the list stands, a word in its block -/
def RS (w : World) (pb xb wb : Nat) (n u wd hb : Nat) (s : ByteArray) (v : Nat) (w' : World) : Prop :=
  LC w' pb xb n u wd hb s ∧ Keeps w w' (fun b => b = wb) ∧ w'.heap[wb]? = some (.cells #[.int .u64 (v : Int)] 62 (0, 0))
theorem RS.next {w w' w2 : World} {pb xb wb n u wd hb v : Nat} {s : ByteArray} (h : RS w pb xb wb n u wd hb s v w') (k : Below w'.heap.size w' w2) : RS w pb xb wb n u wd hb s v w2 :=
  ⟨h.1.below k, ⟨k.os.trans h.2.1.os, k.tape.trans h.2.1.tape, k.output.trans h.2.1.output, Nat.le_trans h.2.1.size k.size, fun b hb hS => (k.block b (Nat.lt_of_lt_of_le hb h.2.1.size)).trans (h.2.1.block b hb hS)⟩, (k.block _ (lt_of_block h.2.2)).trans h.2.2⟩
theorem RS.drew {w w' : World} {pb xb wb n u wd hb v : Nat} {s : ByteArray} (h : RS w pb xb wb n u wd hb s v w') : RS w pb xb wb n u wd hb s v w'.drew :=
  h.next (Below.drew (Below.refl _ _))
theorem RS.drewN {w w' : World} {pb xb wb n u wd hb v : Nat} {s : ByteArray} (h : RS w pb xb wb n u wd hb s v w') (k : Nat) : RS w pb xb wb n u wd hb s v (w'.drewN k) :=
  h.next ⟨rfl, rfl, rfl, Nat.le_refl _, fun _ _ => rfl⟩
theorem RS.store {w w' : World} {pb xb wb n u wd hb v : Nat} {s : ByteArray} (h : RS w pb xb wb n u wd hb s v w') (hp : pb ≠ wb) (hx : xb ≠ wb) (v' : Nat) : RS w pb xb wb n u wd hb s v' (w'.setCell ⟨wb, 0, none⟩ (.int .u64 (v' : Int))) := by
  obtain ⟨⟨a0, a1, a2, a3, a4, a5⟩, h2, h3⟩ := h
  have hk : ∀ b, b ≠ wb → (w'.setCell ⟨wb, 0, none⟩ (.int .u64 (v' : Int))).heap[b]? = w'.heap[b]? := fun b hb => Below.heap_setCell w' ⟨wb, 0, none⟩ _ b hb
  refine ⟨⟨?_, ?_, ?_, ?_, ?_, ?_⟩, h2.setCell (.inl rfl) _, ?_⟩
  · rw [World.cell?_of_block (w := w') (hk pb hp)]; exact a0
  · rw [World.cell?_of_block (w := w') (hk xb hx)]; exact a1
  · rw [World.cell?_of_block (w := w') (hk xb hx)]; exact a2
  · rw [World.cell?_of_block (w := w') (hk xb hx)]; exact a3
  · rw [World.cell?_of_block (w := w') (hk xb hx)]; exact a4
  · rw [World.cell?_of_block (w := w') (hk xb hx)]; exact a5
  · rw [heap_setCell_same w' wb 0 _ _ _ h3]; rfl

theorem RS.mk {w w' : World} {pb xb wb n u wd hb v : Nat} {s : ByteArray} (h : RS w pb xb wb n u wd hb s v w') :
    w'.cell? ⟨pb, 0, none⟩ = some (.pointer (some ⟨xb, 0, none⟩)) ∧ w'.cell? ⟨xb, 0, none⟩ = some (.int .i64 (n : Int)) ∧ w'.cell? ⟨xb, 1, none⟩ = some (.int .u64 (u : Int)) ∧ w'.cell? ⟨xb, 2, none⟩ = some (.int .i64 (wd : Int)) ∧ w'.cell? ⟨xb, 3, none⟩ = some (.int .i64 (hb : Int)) ∧ w'.cell? ⟨xb, 4, none⟩ = some (.iface 55 (.string s)) ∧ RS w pb xb wb n u wd hb s v w' :=
  ⟨h.1.1, h.1.2.1, h.1.2.2.1, h.1.2.2.2.1, h.1.2.2.2.2.1, h.1.2.2.2.2.2, h⟩
theorem RS.rs {A B C D E F : Prop} {w w' : World} {pb xb wb n u wd hb v : Nat} {s : ByteArray} (h : A ∧ B ∧ C ∧ D ∧ E ∧ F ∧ RS w pb xb wb n u wd hb s v w') : RS w pb xb wb n u wd hb s v w' := h.2.2.2.2.2.2

set_option maxRecDepth 100000 in
set_option maxHeartbeats 1600000 in
theorem read_any (s : ByteArray) (hs : s.size ≤ maxLen) (ho : opens (nats s)) (at_ xb pb wb v : Nat) (w : World) (hpx : pb ≠ wb) (hxw : xb ≠ wb) (hat : at_ < hib (nS (nats s)) (uS (nats s)))
    (h : RS w pb xb wb (nS (nats s)) (uS (nats s)) (wid (nS (nats s)) (uS (nats s))) (hib (nS (nats s)) (uS (nats s))) s v w) :
    Calls Try.prog 76 #[.int .i64 (at_ : Int), .pointer (some ⟨pb, 0, none⟩), .pointer (some ⟨wb, 0, none⟩)] w fun e w' => e = .returned (.int .i64 0) ∧
      RS w pb xb wb (nS (nats s)) (uS (nats s)) (wid (nS (nats s)) (uS (nats s))) (hib (nS (nats s)) (uS (nats s))) s (num (wrd (hiS (nats s)) at_)) w' := by
  obtain ⟨ho1, ho2, ho3, ho4, ho5⟩ := ho
  rw [nats_length] at ho5
  have hh := hib_lt (nS (nats s)) (uS (nats s)) ho2
  have hl := lowB_lt (nS (nats s)) (uS (nats s)) ho2 (by omega)
  obtain ⟨f, hf⟩ : ∃ f, at_ / 8 = f := ⟨_, rfl⟩
  obtain ⟨k, hk⟩ : ∃ k, at_ % 8 = k := ⟨_, rfl⟩
  obtain ⟨hbb, hhb⟩ : ∃ q, hib (nS (nats s)) (uS (nats s)) = q := ⟨_, rfl⟩
  rw [hhb] at hat h hh ⊢
  obtain ⟨nb, hnb⟩ : ∃ q, q = min 8 ((hbb + 7) / 8 - f) := ⟨_, rfl⟩
  have hnb8 : nb ≤ 8 := by omega
  have hnb0 : 0 < nb := by omega
  have HI := Lib.hid (fun W => high_any (nS (nats s)) (uS (nats s)) ho2 (by omega) W)
  have hsz : 12 + lowB (nS (nats s)) (uS (nats s)) + (hbb + 7) / 8 ≤ s.size := by rw [← ho5, ← hhb]; unfold sizeB highB; omega
  obtain ⟨lo0, hlo0⟩ : ∃ q, 12 + lowB (nS (nats s)) (uS (nats s)) = q := ⟨_, rfl⟩
  have HR := Lib.hid (fun W => efT.readAt_yes s (lo0 + f) nb hs (by omega) W)
  obtain ⟨t, ht⟩ : ∃ t, s.extract (lo0 + f) (lo0 + f + nb) = t := ⟨_, rfl⟩
  rw [ht] at HR
  obtain ⟨L, hL⟩ : ∃ L, ((nats s).drop lo0).take ((hbb + 7) / 8) = L := ⟨_, rfl⟩
  have htn : nats t = (L.drop f).take nb := by
    rw [← ht, nats_extract, ← hL, List.drop_take, List.drop_drop, List.take_take]
    congr 1
    omega
  have htz : t.size ≤ 8 := by rw [← nats_length, htn, List.length_take]; omega
  have HN := Lib.hid (fun W => number_any t htz W)
  have hLl : L.length = (hbb + 7) / 8 := by rw [← hL, List.length_take, List.length_drop, nats_length]; omega
  have hLb : ∀ b ∈ L, b < 256 := fun b hb => nats_lt s b (List.mem_of_mem_drop (List.mem_of_mem_take (hL ▸ hb)))
  have hHi : hiS (nats s) = (unpack L).take hbb := by unfold hiS; rw [hhb, ← hL, hlo0]; unfold highB; rw [hhb]
  obtain ⟨v0, hv0⟩ : ∃ q, val (nats t) = q := ⟨_, rfl⟩
  have WN := wrd_num L hbb at_ hLb hat hLl nb (by rw [hf]; exact hnb)
  rw [← hHi, hf, ← htn, hv0, hk] at WN
  have hv0l : v0 < 2 ^ (8 * nb) := by
    rw [← hv0, val_num _ (nats_lt t)]
    refine Nat.lt_of_lt_of_le (num_lt _) (Nat.pow_le_pow_right (by decide) ?_)
    rw [unpack_length, htn, List.length_take]
    omega
  obtain ⟨v1, hv1⟩ : ∃ q, v0 * 2 ^ (64 - 8 * nb) = q := ⟨_, rfl⟩
  have hv1l : v1 < 18446744073709551616 := by
    rw [← hv1]
    calc v0 * 2 ^ (64 - 8 * nb) < 2 ^ (8 * nb) * 2 ^ (64 - 8 * nb) := Nat.mul_lt_mul_of_pos_right hv0l (Nat.pow_pos (by decide))
      _ = 18446744073709551616 := by rw [← Nat.pow_add, show 8 * nb + (64 - 8 * nb) = 64 by omega]
  have E1 : IntKind.u64.wrap ((v0 : Int) * 2 ^ (64 - 8 * nb)) = (v1 : Int) := by
    rw [show ((v0 : Int) * 2 ^ (64 - 8 * nb)) = (v1 : Int) by rw [← hv1]; simp]
    exact wraps_u64_64 _ (by omega) (by omega)
  rw [hv1] at WN
  obtain ⟨v2, hv2⟩ : ∃ q, v1 % 2 ^ (64 - k) = q := ⟨_, rfl⟩
  have E2 := and_mask v1 k (by omega) hv1l
  rw [hv2] at E2 WN
  have hv2l : v2 < 18446744073709551616 := by rw [← hv2]; exact Nat.lt_of_le_of_lt (Nat.mod_le _ _) hv1l
  have WH := Lib.hid WN
  have A7 := andNot7 at_ (by omega)
  rw [hf] at A7
  have T1 : ((hbb : Int) + 7).tdiv 8 = (((hbb + 7) / 8 : Nat) : Int) := by rw [Int.tdiv_eq_ediv_of_nonneg (by omega)]; omega
  have T2 : ((8 * f : Nat) : Int).tdiv 8 = (f : Int) := by rw [Int.tdiv_eq_ediv_of_nonneg (by omega)]; omega
  have M1 : min 8 ((((hbb + 7) / 8 : Nat) : Int) - (f : Int)) = (nb : Int) := by omega
  have hlo : lo0 ≤ 98566157 := by omega
  have hfl : f ≤ 6291456 := by omega
  have hql : (hbb + 7) / 8 ≤ 6291457 := by omega
  have EH := Lib.hid hf
  have EK := Lib.hid hk
  have HS := Lib.hid h
  unfold formV at HI
  rw [hhb, hlo0] at HI
  rw [hv0] at HN
  generalize wid (nS (nats s)) (uS (nats s)) = wd at *
  generalize nS (nats s) = n at *
  generalize uS (nats s) = u at *
  generalize hG : num (wrd (hiS (nats s)) at_) = G at *
  obtain ⟨q8, hq8⟩ : ∃ q, (hbb + 7) / 8 = q := ⟨_, rfl⟩
  obtain ⟨fr, hfr⟩ : ∃ q, 8 * f = q := ⟨_, rfl⟩
  rw [hq8] at T1 M1 hql
  rw [hfr] at A7 T2
  rw [hfr] at WH
  clear WN hnb hv0 hv1 hv2 hf hk hhb hlo0 ht hL htn hq8 hG hLl hLb hHi ho3 ho5 hl hsz h hv0l
  go_enter Try.func76, Try.ntmps76
  have hsl := HS.out.1
  obtain ⟨l0, l1, l2, l3, l4, l5⟩ := hsl
  go_upto_region 3 with fail
  have hrs := HS.out
  clear l0 l1 l2 l3 l4 l5
  have hfr2 : fr ≤ 50331648 := by omega
  have F7 : Hid (IntKind.i64.wrap ((lo0 : Int) + IntKind.i64.wrap (f : Int)) = ((lo0 + f : Nat) : Int)) := Lib.hid (by rw [IntWalk.i64_in (f : Int) (by omega), IntWalk.i64_in _ (by omega)]; simp)
  have F8 : Hid (IntKind.i64.wrap ((lo0 : Int) + (f : Int)) = ((lo0 + f : Nat) : Int)) := Lib.hid (by rw [IntWalk.i64_in _ (by omega)]; simp)
  go_region_held3 (fun w' => w'.cell? ⟨pb, 0, none⟩ = some (.pointer (some ⟨xb, 0, none⟩)) ∧ w'.cell? ⟨xb, 0, none⟩ = some (.int .i64 (n : Int)) ∧ w'.cell? ⟨xb, 1, none⟩ = some (.int .u64 (u : Int)) ∧ w'.cell? ⟨xb, 2, none⟩ = some (.int .i64 (wd : Int)) ∧ w'.cell? ⟨xb, 3, none⟩ = some (.int .i64 (hbb : Int)) ∧ w'.cell? ⟨xb, 4, none⟩ = some (.iface 55 (.string s)) ∧ RS w pb xb wb n u wd hbb s v w')
    (first
      | exact RS.mk (by assumption)
      | exact RS.mk (RS.drew (by assumption))
      | exact RS.mk (RS.drewN (by assumption) _)
      | exact RS.mk (RS.rs (by assumption))
      | exact RS.mk (RS.drew (RS.rs (by assumption)))
      | exact RS.mk (RS.drewN (RS.rs (by assumption)) _))
    (first
      | (go_at_call 75; refine (HI.out _).mono ?_; rintro e w2 ⟨rfl, k1⟩; first | have hrs2 := RS.next (by assumption) k1 | have hrs2 := RS.next (RS.rs (by assumption)) k1 | have hrs2 := RS.next (RS.drewN (by assumption) _) k1 | have hrs2 := RS.next (RS.drewN (RS.rs (by assumption)) _) k1)
      | (go_at_call 24; (first | rw [F7.out] | rw [F8.out]); refine (HR.out _).mono ?_; rintro e w2 ⟨rfl, rfl⟩))
  have T4 : Hid (IntKind.i64.wrap ((at_ : Int) - (fr : Int)) = (k : Int)) := Lib.hid (by have h1 := EH.out; have h2 := EK.out; rw [IntWalk.i64_in _ (by omega)]; omega)
  have g2 : w2.cell? ⟨wb, 0, none⟩ = some (.int .u64 (v : Int)) := by rw [cell_of_row w2 wb _ _ _ _ hrs2.2.2]; rfl
  have hk63 : k ≤ 63 := by have := EK.out; omega
  go_wp2_with fail
  refine (HN.out _).mono ?_
  rintro e w3 ⟨rfl, k3⟩
  have hrs3 := RS.next hrs2 k3
  have g3 : w3.cell? ⟨wb, 0, none⟩ = some (.int .u64 (v : Int)) := by rw [cell_of_row w3 wb _ _ _ _ hrs3.2.2]; rfl
  have f3 : w3.frozen? ⟨wb, 0, none⟩ = false := frozen_of_row w3 wb 0 _ _ hrs3.2.2
  go_upto_region 5 with fail
  have hrs4 := RS.store hrs3 hpx hxw v1
  generalize w3.setCell ⟨wb, 0, none⟩ (.int .u64 (v1 : Int)) = w4 at hrs4 ⊢
  have g4 : w4.cell? ⟨wb, 0, none⟩ = some (.int .u64 (v1 : Int)) := by rw [cell_of_row w4 wb _ _ _ _ hrs4.2.2]; rfl
  have f4 : w4.frozen? ⟨wb, 0, none⟩ = false := frozen_of_row w4 wb 0 _ _ hrs4.2.2
  have T4o := T4.out
  refine wp_region_still_tail 6 (by kernel_rfl) (by kernel_rfl) ?_
  simp only [List.take_succ_cons, List.take_zero, List.drop_succ_cons, List.drop_zero]
  repeat still_step
  refine wpStill_nil ?_
  generalize hW5 : ({ heap := w4.heap, tape := w4.tape, drawn := w4.drawn + 1, os := w4.os, output := w4.output } : World) = w5
  have hrs5 : RS w pb xb wb n u wd hbb s v1 w5 := by rw [← hW5]; exact RS.drew hrs4
  have g5 : w5.cell? ⟨wb, 0, none⟩ = some (.int .u64 (v1 : Int)) := by rw [cell_of_row w5 wb _ _ _ _ hrs5.2.2]; rfl
  have f5 : w5.frozen? ⟨wb, 0, none⟩ = false := frozen_of_row w5 wb 0 _ _ hrs5.2.2
  clear hW5 hrs hrs2 hrs3 hrs4 g2 g3 f3 g4 f4 k1 k3
  go_upto_region 6 with fail
  have hrs6 := RS.store hrs5 hpx hxw v2
  generalize w5.setCell ⟨wb, 0, none⟩ (.int .u64 (v2 : Int)) = w6 at hrs6 ⊢
  clear hrs5 g5 f5
  have g6 : w6.cell? ⟨wb, 0, none⟩ = some (.int .u64 (v2 : Int)) := by rw [cell_of_row w6 wb _ _ _ _ hrs6.2.2]; rfl
  have f6 : w6.frozen? ⟨wb, 0, none⟩ = false := frozen_of_row w6 wb 0 _ _ hrs6.2.2
  obtain ⟨l0, l1, l2, l3, l4, l5, -⟩ := hrs6.mk
  by_cases hrest : hbb < fr + 64
  · obtain ⟨r, hr⟩ : ∃ r, fr + 64 - hbb = r := ⟨_, rfl⟩
    have WG := WH.out.2 hrest
    rw [hr] at WG
    have hG64 : G < 18446744073709551616 := by
      rw [← WG]
      exact Nat.lt_of_le_of_lt (Nat.div_mul_le_self _ _) hv2l
    have T7 : Hid ((fr : Int) + 64 - (hbb : Int) = (r : Int)) := Lib.hid (by omega)
    have T6 : IntKind.u64.wrap ((v2 : Int) / 2 ^ r * 2 ^ r) = (G : Int) := by
      rw [show ((v2 : Int) / 2 ^ r * 2 ^ r) = (G : Int) by rw [← WG]; simp]
      exact wraps_u64_64 _ (by omega) (by omega)
    have hr0 : (0 : Int) < (r : Int) := by omega
    clear WH
    have WGH := Lib.hid WG
    clear WG
    go_upto_region 7 with fail
    rw [T7.out]
    go_wp2_with fail
    go_ret
    have hr64 : r ≤ 64 := by have := EK.out; have := EH.out; omega
    rw [Nat.min_eq_left hr64, T6]
    exact ⟨rfl, RS.store hrs6 hpx hxw G⟩
  · have WG := WH.out.1 (by omega)
    subst WG
    go_wp2_with fail
    go_ret
    exact ⟨rfl, hrs6⟩
end Go.Proofs.Ythaicpbdlhkkkaa.ef
