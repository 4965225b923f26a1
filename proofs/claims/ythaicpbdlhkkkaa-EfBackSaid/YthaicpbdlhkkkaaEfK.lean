/- ef: low: a number's low bits. -/
import Derived.Test.YthaicpbdlhkkkaaEfI
import Derived.Test.YthaicpbdlhkkkaaBitR2
namespace Go.Proofs.Ythaicpbdlhkkkaa.ef
open Go.RowKit Go.Proofs.Ythaicpbdlhkkkaa.own Go.Proofs.Ythaicpbdlhkkkaa.bit

theorem fr_below {x x' : Nat → Nat} {C : Nat → Prop} {w w' : World} (h : Fr x x' C w w') (hC : ∀ b, b < w.heap.size → ¬ C (x b)) : Below w.heap.size w w' :=
  ⟨h.os, h.tape, h.output, h.size, fun b hb => h.old b hb (hC b hb)⟩

/-- so many bits from a place on, in the bytes that hold them -/
theorem bits_cut (U : Bits) (a wd k : Nat) (hw : a + wd ≤ 8 * k) :
    ((((U.drop (8 * (a / 8))).take (8 * (k - a / 8)))).drop (a % 8)).take wd = (U.drop a).take wd := by
  rw [List.drop_take, List.drop_drop, List.take_take]
  congr 1
  · omega
  · congr 1; omega

def lowS (s : List Nat) (i : Nat) : Nat := num (((loS s).drop (i * wid (nS s) (uS s))).take (wid (nS s) (uS s)))
theorem lowS_lt (s : List Nat) (i : Nat) : lowS s i < 2 ^ wid (nS s) (uS s) := by
  unfold lowS
  refine Nat.lt_of_lt_of_le (num_lt _) (Nat.pow_le_pow_right (by decide) ?_)
  rw [List.length_take]
  omega

set_option maxRecDepth 100000 in
set_option maxHeartbeats 1600000 in
theorem low_any (s : ByteArray) (hs : s.size ≤ maxLen) (ho : opens (nats s)) (i xb : Nat) (w : World) (hi : i < nS (nats s)) (h : LsC w xb s) :
    Calls Try.prog 55 #[.pointer (some ⟨xb, 0, none⟩), .int .i64 (i : Int)] w fun e w' => e = .returned (.tuple #[.int .u64 ((lowS (nats s) i : Nat) : Int), .int .i64 0]) ∧ Below w.heap.size w w' := by
  obtain ⟨ho1, ho2, ho3, ho4, ho5⟩ := ho
  rw [nats_length] at ho1 ho5
  have hwl := wid_le (nS (nats s)) (uS (nats s)) (by omega)
  have hxb := lt_of_block h
  have c2 : w.cell? ⟨xb, 2, none⟩ = some (.int .i64 ((wid (nS (nats s)) (uS (nats s)) : Nat) : Int)) := by rw [cell_of_row _ _ _ _ _ _ h]; rfl
  have c4 : w.cell? ⟨xb, 4, none⟩ = some (.iface 55 (.string s)) := by rw [cell_of_row _ _ _ _ _ _ h]; rfl
  obtain ⟨wd, hwd⟩ : ∃ k, wid (nS (nats s)) (uS (nats s)) = k := ⟨_, rfl⟩
  by_cases h0 : wd = 0
  · have R : Hid (lowS (nats s) i = 0) := Lib.hid (by unfold lowS; rw [hwd, h0, List.take_zero]; rfl)
    rw [hwd, h0] at c2
    clear h hwd
    go_enter Try.func55, Try.ntmps55
    go_wp2_with fail
    go_ret2
    exact ⟨by rw [R.out]; rfl, Below.refl _ _⟩
  · have hlow : lowB (nS (nats s)) (uS (nats s)) = (nS (nats s) * wd + 7) / 8 := by unfold lowB; rw [hwd]
    have hla := lowB_lt (nS (nats s)) (uS (nats s)) ho2 (by omega)
    have hsz : 12 + lowB (nS (nats s)) (uS (nats s)) ≤ s.size := by rw [← ho5]; unfold sizeB; omega
    obtain ⟨a, ha⟩ : ∃ a, i * wd = a := ⟨_, rfl⟩
    have hb : (i + 1) * wd = a + wd := by rw [Nat.add_mul, Nat.one_mul, ha]
    have hbn : a + wd ≤ nS (nats s) * wd := by rw [← hb]; exact Nat.mul_le_mul_right _ (by omega)
    obtain ⟨m, hm⟩ : ∃ m, lowB (nS (nats s)) (uS (nats s)) = m := ⟨_, rfl⟩
    rw [hm] at hlow hla hsz
    have hbm : a + wd ≤ 8 * m := by omega
    obtain ⟨k, hk⟩ : ∃ k, (a + wd + 7) / 8 = k := ⟨_, rfl⟩
    have hkm : k ≤ m := by omega
    obtain ⟨f, hf⟩ : ∃ f, a / 8 = f := ⟨_, rfl⟩
    have hfk : f ≤ k := by omega
    have HR := Lib.hid (fun W => efT.readAt_yes s (12 + f) (k - f) hs (by omega) W)
    obtain ⟨t, ht⟩ : ∃ t, s.extract (12 + f) (12 + f + (k - f)) = t := ⟨_, rfl⟩
    rw [ht] at HR
    have htn : nats t = ((nats s).drop (12 + f)).take (k - f) := by rw [← ht, nats_extract]; congr 1; omega
    have htz : t.size = k - f := by rw [← nats_length, htn, List.length_take, List.length_drop, nats_length]; omega
    have R : Hid (num (((unpack (nats t)).drop (a % 8)).take wd) = lowS (nats s) i) := Lib.hid (by
      unfold lowS loS
      rw [hwd, ha, hm, htn, unpack_take, unpack_drop, unpack_take, unpack_drop]
      congr 1
      have e1 := bits_cut ((unpack (nats s)).drop (8 * 12)) a wd k (by omega)
      rw [List.drop_drop] at e1
      rw [show 8 * (12 + f) = 8 * 12 + 8 * f by omega, ← hf, e1, List.drop_take, List.take_take]
      congr 1
      omega)
    have OP := Lib.hid (fun x c W => ropen_any x c t (by rw [htz]; omega) W)
    have e7 := and7 a (by omega)
    obtain ⟨r, hr⟩ : ∃ r, a % 8 = r := ⟨_, rfl⟩
    rw [hr] at e7 R
    have SK := Lib.hid (fun x c rb W h => Seek_any x c t 0 r rb W h (by rw [htz]; omega))
    have TK := Lib.hid (fun x c rb W h => Take_any x c W rb t r wd (by omega) (by rw [htz]; omega) h)
    have T1 : ((a : Int)).tdiv 8 = (f : Int) := by rw [Int.tdiv_eq_ediv_of_nonneg (by omega)]; omega
    have T2 : ((a : Int) + (wd : Int) + 7).tdiv 8 = (k : Int) := by rw [Int.tdiv_eq_ediv_of_nonneg (by omega)]; omega
    have M1 : (i : Int) * (wd : Int) = (a : Int) := by rw [← ha]; simp
    have M2 : ((i : Int) + 1) * (wd : Int) = (a : Int) + (wd : Int) := by rw [Int.add_mul, M1]; omega
    have hz : ((wd : Int) == 0) = false := beq_eq_false_iff_ne.2 (by omega)
    have W3 : IntKind.i64.wrap ((k : Int) - (f : Int)) = ((k - f : Nat) : Int) := by rw [IntWalk.i64_in _ (by omega)]; omega
    have W4 : IntKind.i64.wrap (12 + (f : Int)) = ((12 + f : Nat) : Int) := by rw [IntWalk.i64_in _ (by omega)]; omega
    rw [hwd] at c2
    have HL := Lib.hid h
    have hal : a ≤ 800000000 := by omega
    have hfl : f ≤ 100000000 := by omega
    have hkl : k ≤ 100000000 := by omega
    have hil : i < 16777216 := by omega
    clear h hwd ha hb hbn hm hlow hk hf ht htn htz hr ho4 ho5 hi
    go_enter Try.func55, Try.ntmps55
    go_upto_region 3 with fail
    go_region
    go_wp2_with fail
    have C12 : (12 : Int) + (f : Int) = ((12 + f : Nat) : Int) := by omega
    rw [C12]
    refine (HR.out _).mono ?_
    rintro e w1 ⟨rfl, rfl⟩
    have CH := Lib.hid C12
    clear C12
    go_wp2_with fail
    refine (OP.out (fun _ => 100) 0 _).mono ?_
    rintro e w2 ⟨rb, x2, rfl, f2, r2, hrb, b2⟩
    have F2 := Lib.hid f2
    have hx2 : x2 xb = 100 := f2.col xb hxb
    clear f2
    go_wp2_with fail
    refine (SK.out x2 0 rb _ r2).mono ?_
    rintro e w3 ⟨rfl, f3, r3⟩
    have F3 := Lib.hid f3
    have L2 : w2.heap[xb]? = w.heap[xb]? := b2.block xb hxb
    have L3 : w3.heap[xb]? = w.heap[xb]? := (f3.old xb (Nat.lt_of_lt_of_le hxb b2.size) (by rw [hx2]; decide)).trans L2
    have c3 : w3.cell? ⟨xb, 2, none⟩ = some (.int .i64 (wd : Int)) := by rw [World.cell?_of_block (w := w) L3]; exact c2
    clear f3 L2 L3
    go_wp2_with fail
    refine (TK.out x2 0 rb _ r3).mono ?_
    rintro e w4 ⟨rfl, x4, f4, r4⟩
    rw [R.out]
    go_wp2_with fail
    go_ret2
    have F := F2.out.trans (F3.out.trans f4)
    exact ⟨rfl, F.os, F.tape, F.output, F.size, fun b hb => F.old b hb (show ¬ (100 : Nat) = 0 by decide)⟩
end Go.Proofs.Ythaicpbdlhkkkaa.ef
