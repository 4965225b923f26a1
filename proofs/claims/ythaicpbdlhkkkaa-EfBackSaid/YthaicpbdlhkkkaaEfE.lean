/- ef: Open, Len: a list that was opened. -/
import Derived.Test.YthaicpbdlhkkkaaEfD
import Derived.Test.YthaicpbdlhkkkaaEfTexts
namespace Go.Proofs.Ythaicpbdlhkkkaa.ef
open Go.RowKit Go.Proofs.Ythaicpbdlhkkkaa.own Go.Proofs.Ythaicpbdlhkkkaa.bit

theorem meth_len (k : Nat) (s : Value) (w : World) : (method (k + 1) 55 s "Length").run Try.prog w = .ok (26, s) w := by kernel_rfl
theorem meth_read (k : Nat) (s : Value) (w : World) : (method (k + 1) 55 s "ReadAt").run Try.prog w = .ok (24, s) w := by kernel_rfl
attribute [go_sem] meth_len meth_read

theorem nats_extract (s : ByteArray) (a b : Nat) : nats (s.extract a b) = ((nats s).drop a).take (b - a) := by
  unfold nats
  rw [Lib.extract_data]
  simp [List.map_take, List.map_drop]
theorem extract_size (s : ByteArray) (a b : Nat) (h : b ≤ s.size) (hab : a ≤ b) : (s.extract a b).size = b - a := by
  rw [← nats_length, nats_extract, List.length_take, List.length_drop, nats_length]
  omega

theorem formed_both (n u : Nat) (hn2 : n ≤ 16777216) (hu2 : u < 2 ^ 48) (h : n = 0 ↔ u = 0) (w : World) :
    Calls Try.prog 48 #[.int .i64 (n : Int), .int .u64 (u : Int)] w fun e w' => e = .returned (formV n u) ∧ Below w.heap.size w w' := by
  by_cases h0 : n = 0
  · subst h0
    exact formed_zero u w
  · exact formed_any n u (by omega) hn2 (by omega) hu2 w

theorem below_next {w w' w2 : World} (h : Below w.heap.size w w') (k : Below w'.heap.size w' w2) : Below w.heap.size w w2 := h.trans (k.mono h.size)

/-- a list that was opened -/
def LsC (w : World) (xb : Nat) (s : ByteArray) : Prop :=
  w.heap[xb]? = some (.cells #[.int .i64 ((nS (nats s) : Nat) : Int), .int .u64 ((uS (nats s) : Nat) : Int), .int .i64 ((wid (nS (nats s)) (uS (nats s)) : Nat) : Int), .int .i64 ((hib (nS (nats s)) (uS (nats s)) : Nat) : Int), .iface 55 (.string s)] 101 (0, 0))
theorem LsC.below {w w' : World} {xb : Nat} {s : ByteArray} (h : LsC w xb s) (k : Below w.heap.size w w') : LsC w' xb s := (k.block _ (lt_of_block h)).trans h

theorem val4 (l : List Nat) (hl : ∀ b ∈ l, b < 256) (h : l.length ≤ 4) : val l < 4294967296 := by
  refine Nat.lt_of_lt_of_le (val_lt l hl) ?_
  calc 256 ^ l.length ≤ 256 ^ 4 := Nat.pow_le_pow_right (by decide) h
    _ = 4294967296 := by decide
theorem val8 (l : List Nat) (hl : ∀ b ∈ l, b < 256) (h : l.length ≤ 8) : val l < 18446744073709551616 := by
  refine Nat.lt_of_lt_of_le (val_lt l hl) ?_
  calc 256 ^ l.length ≤ 256 ^ 8 := Nat.pow_le_pow_right (by decide) h
    _ = 18446744073709551616 := by decide

theorem open_short (s : ByteArray) (w : World) (hs : s.size < 12) :
    Calls Try.prog 27 #[.iface 55 (.string s)] w fun e w' => e = .returned (.tuple #[.pointer none, .int .i64 4]) ∧ w = w' := by
  have HL := Lib.hid (fun W => efT.length_any s W)
  go_enter Try.func27, Try.ntmps27
  go_wp2_with fail
  refine (HL.out _).mono ?_
  rintro e w1 ⟨rfl, rfl⟩
  go_wp2_with fail
  go_ret2
  exact ⟨rfl, rfl⟩

def OpenPost (s : ByteArray) (w : World) (e : Ending) (w' : World) : Prop :=
  Below w.heap.size w w' ∧ ((opens (nats s) ∧ ∃ xb, e = .returned (.tuple #[.pointer (some ⟨xb, 0, none⟩), .int .i64 0]) ∧ LsC w' xb s ∧ w.heap.size ≤ xb) ∨ (¬ opens (nats s) ∧ e = .returned (.tuple #[.pointer none, .int .i64 4])))

set_option maxRecDepth 100000 in
set_option maxHeartbeats 1600000 in
theorem open_long (s : ByteArray) (w : World) (hs : s.size ≤ maxLen) (h12 : 12 ≤ s.size) :
    Calls Try.prog 27 #[.iface 55 (.string s)] w (OpenPost s w) := by
  have hs2 : s.size ≤ 9223372036854775807 := by unfold maxLen at hs; omega
  have HL := Lib.hid (fun W => efT.length_any s W)
  have HR := Lib.hid (fun W => efT.readAt_yes s 0 12 hs (by omega) W)
  obtain ⟨t, ht⟩ : ∃ t, s.extract 0 (0 + 12) = t := ⟨_, rfl⟩
  rw [ht] at HR
  have htn : nats t = (nats s).take 12 := by rw [← ht, nats_extract]; simp
  have htz : t.size = 12 := by rw [← nats_length, htn, List.length_take, nats_length]; omega
  obtain ⟨t1, ht1⟩ : ∃ t1, t.extract 0 4 = t1 := ⟨_, rfl⟩
  obtain ⟨t2, ht2⟩ : ∃ t2, t.extract 4 12 = t2 := ⟨_, rfl⟩
  have h1 : nats t1 = (nats s).take 4 := by rw [← ht1, nats_extract, htn]; simp [List.take_take]
  have h2 : nats t2 = ((nats s).drop 4).take 8 := by rw [← ht2, nats_extract, htn]; simp [List.drop_take, List.take_take]
  have z1 : t1.size = 4 := by rw [← nats_length, h1, List.length_take, nats_length]; omega
  have z2 : t2.size = 8 := by rw [← nats_length, h2, List.length_take, List.length_drop, nats_length]; omega
  have HN1 := Lib.hid (fun W => number_any t1 (by omega) W)
  have HN2 := Lib.hid (fun W => number_any t2 (by omega) W)
  have e1 : val (nats t1) = nS (nats s) := by rw [h1]; rfl
  have e2 : val (nats t2) = uS (nats s) := by rw [h2]; rfl
  rw [e1] at HN1
  rw [e2] at HN2
  have b1 : nS (nats s) < 4294967296 := by rw [← e1]; exact val4 _ (nats_lt t1) (by rw [nats_length]; omega)
  have b2 : uS (nats s) < 18446744073709551616 := by rw [← e2]; exact val8 _ (nats_lt t2) (by rw [nats_length]; omega)
  have OP : Hid (opens (nats s) ↔ nS (nats s) ≤ 16777216 ∧ uS (nats s) ≤ 281474976710655 ∧ (nS (nats s) = 0 ↔ uS (nats s) = 0) ∧ sizeB (nS (nats s)) (uS (nats s)) = s.size) := Lib.hid (by
    unfold opens
    rw [nats_length]
    constructor
    · exact fun h => h.2
    · exact fun h => ⟨h12, h⟩)
  have LS : Hid (∀ W xb, LsC W xb s ↔ W.heap[xb]? = some (.cells #[.int .i64 ((nS (nats s) : Nat) : Int), .int .u64 ((uS (nats s) : Nat) : Int), .int .i64 ((wid (nS (nats s)) (uS (nats s)) : Nat) : Int), .int .i64 ((hib (nS (nats s)) (uS (nats s)) : Nat) : Int), .iface 55 (.string s)] 101 (0, 0))) := Lib.hid (fun _ _ => Iff.rfl)
  unfold OpenPost
  generalize nS (nats s) = n at *
  generalize uS (nats s) = u at *
  have HT1 := Lib.hid ht1
  have HT2 := Lib.hid ht2
  have z3 : ¬ (s.size : Int) < 12 := by omega
  clear ht htn ht1 ht2 h1 h2 e1 e2
  by_cases hgood : n ≤ 16777216 ∧ u ≤ 281474976710655 ∧ (n = 0 ↔ u = 0)
  · obtain ⟨g1, g2, g3⟩ := hgood
    have c1 : ¬ (16777216 : Int) < (n : Int) := by omega
    have c2 : ¬ (281474976710655 : Int) < (u : Int) := by omega
    have c3 : ((n : Int) == 0) = ((u : Int) == 0) := by
      by_cases h0 : n = 0
      · have := g3.1 h0; subst h0; subst this; rfl
      · have : u ≠ 0 := fun h => h0 (g3.2 h)
        rw [beq_eq_false_iff_ne.2 (by omega), beq_eq_false_iff_ne.2 (by omega)]
    have HF := Lib.hid (fun W => formed_both n u g1 (by omega) g3 W)
    have HS := Lib.hid (fun W => size_any n u g1 (by omega) W)
    have hsz : sizeB n u ≤ 9223372036854775807 := by
      have a1 := lowB_lt n u g1 (by omega)
      have a2 := hib_lt n u g1
      unfold sizeB highB sampB
      omega
    have OQ : Hid (opens (nats s) ↔ sizeB n u = s.size) := Lib.hid (by rw [OP.out]; exact ⟨fun h => h.2.2.2, fun h => ⟨g1, g2, g3, h⟩⟩)
    unfold formV at HF HS
    generalize sizeB n u = z at *
    generalize wid n u = wd at *
    generalize hib n u = hb at *
    clear OP g3
    go_enter Try.func27, Try.ntmps27
    go_wp2_with fail
    refine (HL.out _).mono ?_
    rintro e w1 ⟨rfl, rfl⟩
    go_wp2_with fail
    refine (HR.out _).mono ?_
    rintro e w1 ⟨rfl, rfl⟩
    have q1 : (4 : Int) ≤ (t.size : Int) := by omega
    have K0 := Below.refl w.heap.size w
    go_upto_region 8 with fail
    go_region_held3 (fun w' => Below w.heap.size w w') (first | assumption | exact Below.drew (by assumption) | exact below_drewN (by assumption) _)
      (first
        | (go_at_call 47; rw [HT1.out]; refine (HN1.out _).mono ?_; rintro e w2 ⟨rfl, k1⟩; have K1 := below_next (by assumption) k1)
        | (go_at_call 47; rw [HT2.out]; refine (HN2.out _).mono ?_; rintro e w2 ⟨rfl, k1⟩; have K2 := below_next (by assumption) k1))
    go_wp2_with fail
    refine (HF.out _).mono ?_
    rintro e w3 ⟨rfl, k3⟩
    have K3 := below_next (by assumption) k3
    go_wp2_with fail
    have F0 := FS.start w3 n u wd hb
    generalize w3.alloc _ = w4 at F0 ⊢
    refine (HS.out _).mono ?_
    rintro e w5 ⟨rfl, k5⟩
    have F1 := F0.next k5
    have K5 := below_next K3 (F1.1)
    obtain ⟨d0, d1, d2, d3, -⟩ := F1.mk
    by_cases hz : z = s.size
    · subst hz
      have ze : ((s.size : Int) == (s.size : Int)) = true := beq_self_eq_true _
      go_wp2_with fail
      refine (HL.out _).mono ?_
      rintro e w1 ⟨rfl, rfl⟩
      go_wp2_with fail
      go_ret2
      exact ⟨K5.alloc (by have := K5.size; omega) _, .inl ⟨(by first | exact OQ.out.2 rfl | exact OQ.out.2 trivial), _, rfl, (LS.out _ _).2 (heap_alloc_new _ _), K5.size⟩⟩
    · have ze : ((z : Int) == (s.size : Int)) = false := beq_eq_false_iff_ne.2 (by omega)
      go_wp2_with fail
      refine (HL.out _).mono ?_
      rintro e w1 ⟨rfl, rfl⟩
      go_wp2_with fail
      go_ret2
      exact ⟨K5, .inr ⟨fun h => hz (OQ.out.1 h), rfl⟩⟩
  · have NO : Hid (¬ opens (nats s)) := Lib.hid (fun h => hgood (by have := OP.out.1 h; exact ⟨this.1, this.2.1, this.2.2.1⟩))
    have hcase : 16777216 < n ∨ (n ≤ 16777216 ∧ 281474976710655 < u) ∨ (n ≤ 16777216 ∧ u ≤ 281474976710655 ∧ ((n : Int) == 0) = !((u : Int) == 0)) := by
      by_cases a1 : n ≤ 16777216
      · by_cases a2 : u ≤ 281474976710655
        · refine .inr (.inr ⟨a1, a2, ?_⟩)
          by_cases h0 : n = 0
          · by_cases h1 : u = 0
            · exact absurd ⟨a1, a2, by omega⟩ hgood
            · rw [beq_iff_eq.2 (by omega : (n : Int) = 0), beq_eq_false_iff_ne.2 (by omega)]; rfl
          · by_cases h1 : u = 0
            · rw [beq_iff_eq.2 (by omega : (u : Int) = 0), beq_eq_false_iff_ne.2 (by omega)]; rfl
            · exact absurd ⟨a1, a2, by omega⟩ hgood
        · exact .inr (.inl ⟨a1, by omega⟩)
      · exact .inl (by omega)
    clear hgood OP LS
    obtain ⟨bu, hbu⟩ : ∃ b, ((u : Int) == 0) = b := ⟨_, rfl⟩
    rw [hbu] at hcase
    rcases hcase with c1 | ⟨c1, c2⟩ | ⟨c1, c2, c3⟩
    all_goals
      go_enter Try.func27, Try.ntmps27
      go_wp2_with fail
      refine (HL.out _).mono ?_
      rintro e w1 ⟨rfl, rfl⟩
      go_wp2_with fail
      refine (HR.out _).mono ?_
      rintro e w1 ⟨rfl, rfl⟩
      have q1 : (4 : Int) ≤ (t.size : Int) := by omega
      have K0 := Below.refl w.heap.size w
      go_upto_region 8 with fail
      go_region_held3 (fun w' => Below w.heap.size w w') (first | assumption | exact Below.drew (by assumption) | exact below_drewN (by assumption) _)
        (first
          | (go_at_call 47; rw [HT1.out]; refine (HN1.out _).mono ?_; rintro e w2 ⟨rfl, k1⟩; have K1 := below_next (by assumption) k1)
          | (go_at_call 47; rw [HT2.out]; refine (HN2.out _).mono ?_; rintro e w2 ⟨rfl, k1⟩; have K2 := below_next (by assumption) k1))
      go_wp2_with fail
      go_ret2
      exact ⟨by assumption, .inr ⟨NO.out, rfl⟩⟩
theorem open_any (s : ByteArray) (w : World) (hs : s.size ≤ maxLen) : Calls Try.prog 27 #[.iface 55 (.string s)] w (OpenPost s w) := by
  by_cases h : 12 ≤ s.size
  · exact open_long s w hs h
  · refine (open_short s w (by omega)).mono ?_
    rintro e w' ⟨rfl, rfl⟩
    exact ⟨Below.refl _ _, .inr ⟨fun ho => h (by have := ho.1; rwa [nats_length] at this), rfl⟩⟩
end Go.Proofs.Ythaicpbdlhkkkaa.ef
