/- pack: the document's Text. -/
import Derived.Test.YthaicpbdlhkkkaaGreatDoorPkG
namespace Go.Proofs.YthaicpbdlhkkkaaGreatDoor.pk
open Go.RowKit Go.Proofs.YthaicpbdlhkkkaaGreatDoor.own Go.Proofs.YthaicpbdlhkkkaaGreatDoor.bit

/-- the bits of a head -/
def headBits (n m a d i z c b : Nat) : Bits := ofN 32 n ++ (ofN 32 m ++ (ofN 8 a ++ (ofN 8 d ++ (ofN 8 i ++ (ofN 8 z ++ (ofN 32 c ++ ofN 64 b))))))
def mark : List Nat := [119, 116, 108, 49]
theorem packN_headBits (n m a d i z c b : Nat) : packN (headBits n m a d i z c b) = packN (ofN 32 n) ++ (packN (ofN 32 m) ++ (packN (ofN 8 a) ++ (packN (ofN 8 d) ++ (packN (ofN 8 i) ++ (packN (ofN 8 z) ++ (packN (ofN 32 c) ++ packN (ofN 64 b))))))) := by
  unfold headBits
  rw [packN_append 4 _ _ (ofN_length _ _), packN_append 4 _ _ (ofN_length _ _), packN_append 1 _ _ (ofN_length _ _), packN_append 1 _ _ (ofN_length _ _), packN_append 1 _ _ (ofN_length _ _), packN_append 1 _ _ (ofN_length _ _), packN_append 4 _ _ (ofN_length _ _)]
def headTxt (n m a d i z c b : Nat) : ByteArray := txt (mark ++ packN (headBits n m a d i z c b))
theorem headTxt_parts (n m a d i z c b : Nat) {s0 s1 s2 s3 s4 s5 s6 s7 : ByteArray} (h0 : s0 = txt (packN (ofN 32 n))) (h1 : s1 = txt (packN (ofN 32 m))) (h2 : s2 = txt (packN (ofN 8 a))) (h3 : s3 = txt (packN (ofN 8 d))) (h4 : s4 = txt (packN (ofN 8 i))) (h5 : s5 = txt (packN (ofN 8 z))) (h6 : s6 = txt (packN (ofN 32 c))) (h7 : s7 = txt (packN (ofN 64 b))) :
    (ByteArray.mk #[119, 116, 108, 49]) ++ s0 ++ s1 ++ s2 ++ s3 ++ s4 ++ s5 ++ s6 ++ s7 = headTxt n m a d i z c b := by
  have hm : (ByteArray.mk #[119, 116, 108, 49]) = txt mark := by rfl
  subst h0 h1 h2 h3 h4 h5 h6 h7
  unfold headTxt
  rw [packN_headBits, hm]
  simp only [txt_append, List.append_assoc]

/-- two rows stand -/
def DT (w : World) (t p : Nat) (row prow : Array Value) (T U : TypeId) (w' : World) : Prop := w'.heap[t]? = some (.cells row T (0, 0)) ∧ w'.heap[p]? = some (.cells prow U (0, 0)) ∧ Below w.heap.size w w'
theorem DT.next {w w' w2 : World} {t p : Nat} {row prow : Array Value} {T U : TypeId} (h : DT w t p row prow T U w') (k : Below w'.heap.size w' w2) : DT w t p row prow T U w2 :=
  ⟨(k.block _ (lt_of_block h.1)).trans h.1, (k.block _ (lt_of_block h.2.1)).trans h.2.1, below_more h.2.2 k⟩
theorem DT.drew {w w' : World} {t p : Nat} {row prow : Array Value} {T U : TypeId} (h : DT w t p row prow T U w') : DT w t p row prow T U w'.drew := h.next (Below.drew (Below.refl _ _))

def NumPost (bits k n : Nat) (w : World) (e : Ending) (w' : World) : Prop :=
  ∃ s, e = .returned (.string s) ∧ s = txt (packN (ofN bits n)) ∧ s.size = k ∧ Below w.heap.size w w'
theorem num4 (n : Nat) (hn : n < 9223372036854775808) (w : World) : Calls Tryz.prog 18 #[.int .i64 (n : Int), .int .i64 4] w (NumPost 32 4 n w) :=
  (number_any n 4 (by decide) hn w).mono (fun e w' h => ⟨_, h.1, rfl, by rw [txt_size, packN_length, ofN_length], h.2⟩)
theorem num1 (n : Nat) (hn : n < 9223372036854775808) (w : World) : Calls Tryz.prog 18 #[.int .i64 (n : Int), .int .i64 1] w (NumPost 8 1 n w) :=
  (number_any n 1 (by decide) hn w).mono (fun e w' h => ⟨_, h.1, rfl, by rw [txt_size, packN_length, ofN_length], h.2⟩)
theorem num8 (n : Nat) (hn : n < 9223372036854775808) (w : World) : Calls Tryz.prog 18 #[.int .i64 (n : Int), .int .i64 8] w (NumPost 64 8 n w) :=
  (number_any n 8 (by decide) hn w).mono (fun e w' h => ⟨_, h.1, rfl, by rw [txt_size, packN_length, ofN_length], h.2⟩)

/-- a text, or a refusal -/
def TextPost (n m a d i z c b : Int) (w : World) (e : Ending) (w' : World) : Prop :=
  Below w.heap.size w w' ∧ ((headOk n m a d i z c b ∧ e = .returned (.tuple #[.string (headTxt n.toNat m.toNat a.toNat d.toNat i.toNat z.toNat c.toNat b.toNat), .int .i64 0])) ∨ (¬ headOk n m a d i z c b ∧ e = .returned (.tuple #[.string ⟨#[]⟩, .int .i64 1])))

theorem DT.cells {w W : World} {t p : Nat} {n m a d i z c b : Int} {T U : TypeId} (h : DT w t p #[.int .i64 n, .int .i64 m, .int .i64 a, .int .i64 d, .int .i64 i, .int .i64 z, .int .i64 c, .int .i64 b] #[.int .i64 a, .int .i64 d, .int .i64 i, .int .i64 z, .int .i64 c] T U W) :
    W.cell? ⟨t, 0, none⟩ = some (.int .i64 n) ∧ W.cell? ⟨t, 1, none⟩ = some (.int .i64 m) ∧ W.cell? ⟨t, 7, none⟩ = some (.int .i64 b)
    ∧ W.cell? ⟨p, 0, none⟩ = some (.int .i64 a) ∧ W.cell? ⟨p, 1, none⟩ = some (.int .i64 d) ∧ W.cell? ⟨p, 2, none⟩ = some (.int .i64 i) ∧ W.cell? ⟨p, 3, none⟩ = some (.int .i64 z) ∧ W.cell? ⟨p, 4, none⟩ = some (.int .i64 c)
    ∧ DT w t p #[.int .i64 n, .int .i64 m, .int .i64 a, .int .i64 d, .int .i64 i, .int .i64 z, .int .i64 c, .int .i64 b] #[.int .i64 a, .int .i64 d, .int .i64 i, .int .i64 z, .int .i64 c] T U W := by
  have g := h.1
  have g' := h.2.1
  refine ⟨?_, ?_, ?_, ?_, ?_, ?_, ?_, ?_, h⟩
  all_goals
    first
      | (rw [cell_of_row _ _ _ _ _ _ g]; rfl)
      | (rw [cell_of_row _ _ _ _ _ _ g']; rfl)

set_option maxRecDepth 100000 in
set_option maxHeartbeats 3200000 in
theorem dtext_any (n m a d i z c b : Int) (w : World) :
    Calls Tryz.prog 6 #[headV n m a d i z c b] w (TextPost n m a d i z c b w) := by
  have CH := Lib.hid (fun W => dhcheck_any n m a d i z c b W)
  by_cases hok : headOk n m a d i z c b
  · have HOK := Lib.hid hok
    have hok2 := hok
    obtain ⟨n0, n1, m0, m1, b0, b1, -, d0, d1, c0, c1, a0, a1, z0, z1, i0⟩ := hok2
    have i0 : 0 ≤ i ∧ i ≤ 64 := by omega
    obtain ⟨n, rfl⟩ := Int.eq_ofNat_of_zero_le n0
    obtain ⟨m, rfl⟩ := Int.eq_ofNat_of_zero_le m0
    obtain ⟨b, rfl⟩ := Int.eq_ofNat_of_zero_le b0
    obtain ⟨d, rfl⟩ := Int.eq_ofNat_of_zero_le d0
    obtain ⟨c, rfl⟩ := Int.eq_ofNat_of_zero_le c0
    obtain ⟨a, rfl⟩ := Int.eq_ofNat_of_zero_le a0
    obtain ⟨z, rfl⟩ := Int.eq_ofNat_of_zero_le (show 0 ≤ z by omega)
    obtain ⟨i, rfl⟩ := Int.eq_ofNat_of_zero_le i0.1
    have N0 := Lib.hid (fun W => num4 n (by omega) W)
    have N1 := Lib.hid (fun W => num4 m (by omega) W)
    have N2 := Lib.hid (fun W => num1 a (by omega) W)
    have N3 := Lib.hid (fun W => num1 d (by omega) W)
    have N4 := Lib.hid (fun W => num1 i (by omega) W)
    have N5 := Lib.hid (fun W => num1 z (by omega) W)
    have N6 := Lib.hid (fun W => num4 c (by omega) W)
    have N7 := Lib.hid (fun W => num8 b (by omega) W)
    unfold headV at CH ⊢
    clear hok n0 n1 m0 m1 b0 b1 d0 d1 c0 c1 a0 a1 z0 z1 i0
    go_enter Tryz.func6, Tryz.ntmps6
    go_upto_region 1 with fail
    have r0 := heap_alloc_new w (.cells #[.int .i64 n, .int .i64 m, .int .i64 a, .int .i64 d, .int .i64 i, .int .i64 z, .int .i64 c, .int .i64 b] 25)
    have k0 : Below w.heap.size w (w.alloc (.cells #[.int .i64 n, .int .i64 m, .int .i64 a, .int .i64 d, .int .i64 i, .int .i64 z, .int .i64 c, .int .i64 b] 25)) := (Below.refl _ _).alloc (Nat.le_refl _) _
    have R0 := Lib.hid r0
    have K0 := Lib.hid k0
    clear k0 r0
    go_wp2_with fail
    refine (CH.out _).mono ?_
    rintro e w2 ⟨k2, ⟨-, rfl⟩ | ⟨hno, -⟩⟩
    rotate_left
    · exact absurd HOK.out hno
    have r2 := (k2.block _ (lt_of_block R0.out)).trans R0.out
    have K2 := Lib.hid (below_more K0.out k2)
    obtain ⟨sz, hsz⟩ : ∃ k, w.heap.size = k := ⟨_, rfl⟩
    have HSZ := Lib.hid hsz
    clear R0
    rw [hsz] at r2 ⊢
    have c2 : ∀ j, w2.cell? ⟨sz, j, none⟩ = (#[Value.int .i64 n, .int .i64 m, .int .i64 a, .int .i64 d, .int .i64 i, .int .i64 z, .int .i64 c, .int .i64 b])[j]? := fun j => cell_of_row _ _ _ _ _ _ r2
    have f2 : ∀ j, w2.frozen? ⟨sz, j, none⟩ = false := fun j => frozen_of_row w2 _ j _ _ r2
    clear hsz k2 CH K0
    go_upto_region 4 with fail
    have r3 := heap_alloc_new w2 (.cells #[.int .i64 a, .int .i64 d, .int .i64 i, .int .i64 z, .int .i64 c] 23)
    have r4 := (Below.heap_alloc w2 (.cells #[.int .i64 a, .int .i64 d, .int .i64 i, .int .i64 z, .int .i64 c] 23) _ (lt_of_block r2)).trans r2
    have K3 := K2.out.alloc K2.out.size (.cells #[.int .i64 a, .int .i64 d, .int .i64 i, .int .i64 z, .int .i64 c] 23)
    obtain ⟨pb, hpb⟩ : ∃ k, w2.heap.size = k := ⟨_, rfl⟩
    rw [hpb] at r3 ⊢
    generalize w2.alloc (.cells #[.int .i64 a, .int .i64 d, .int .i64 i, .int .i64 z, .int .i64 c] 23) = W0 at r3 r4 K3 ⊢
    have H0 : DT w sz pb #[.int .i64 n, .int .i64 m, .int .i64 a, .int .i64 d, .int .i64 i, .int .i64 z, .int .i64 c, .int .i64 b] #[.int .i64 a, .int .i64 d, .int .i64 i, .int .i64 z, .int .i64 c] 25 23 W0 := ⟨r4, r3, K3⟩
    have MK := Lib.hid (fun W (h : DT w sz pb #[.int .i64 n, .int .i64 m, .int .i64 a, .int .i64 d, .int .i64 i, .int .i64 z, .int .i64 c, .int .i64 b] #[.int .i64 a, .int .i64 d, .int .i64 i, .int .i64 z, .int .i64 c] 25 23 W) => h.cells)
    clear r2 c2 f2 K2 r3 r4 K3 hpb i0
    go_region_held3 (fun w' => w'.cell? ⟨sz, 0, none⟩ = some (.int .i64 n) ∧ w'.cell? ⟨sz, 1, none⟩ = some (.int .i64 m) ∧ w'.cell? ⟨sz, 7, none⟩ = some (.int .i64 b) ∧ w'.cell? ⟨pb, 0, none⟩ = some (.int .i64 a) ∧ w'.cell? ⟨pb, 1, none⟩ = some (.int .i64 d) ∧ w'.cell? ⟨pb, 2, none⟩ = some (.int .i64 i) ∧ w'.cell? ⟨pb, 3, none⟩ = some (.int .i64 z) ∧ w'.cell? ⟨pb, 4, none⟩ = some (.int .i64 c) ∧ DT w sz pb #[.int .i64 n, .int .i64 m, .int .i64 a, .int .i64 d, .int .i64 i, .int .i64 z, .int .i64 c, .int .i64 b] #[.int .i64 a, .int .i64 d, .int .i64 i, .int .i64 z, .int .i64 c] 25 23 w')
      (first
        | (refine MK.out _ ?_; with_reducible exact DT.drew H0)
        | (refine MK.out _ ?_; with_reducible exact h2))
      (first
      | (go_at_call_of 18 (Value.int IntKind.i64 (n : Int)); refine (N0.out _).mono ?_; rintro e w3 ⟨s0, rfl, hs, hz0, k1⟩; have HS0 := Lib.hid hs; clear hs; (first | have h2 := DT.next (by with_reducible assumption) k1 | have h2 := DT.next (DT.drew (by with_reducible assumption)) k1); clear k1)
      | (go_at_call_of 18 (Value.int IntKind.i64 (m : Int)); refine (N1.out _).mono ?_; rintro e w3 ⟨s1, rfl, hs, hz1, k1⟩; have HS1 := Lib.hid hs; clear hs; (first | have h2 := DT.next (by with_reducible assumption) k1 | have h2 := DT.next (DT.drew (by with_reducible assumption)) k1); clear k1)
      | (go_at_call_of 18 (Value.int IntKind.i64 (a : Int)); refine (N2.out _).mono ?_; rintro e w3 ⟨s2, rfl, hs, hz2, k1⟩; have HS2 := Lib.hid hs; clear hs; (first | have h2 := DT.next (by with_reducible assumption) k1 | have h2 := DT.next (DT.drew (by with_reducible assumption)) k1); clear k1)
      | (go_at_call_of 18 (Value.int IntKind.i64 (d : Int)); refine (N3.out _).mono ?_; rintro e w3 ⟨s3, rfl, hs, hz3, k1⟩; have HS3 := Lib.hid hs; clear hs; (first | have h2 := DT.next (by with_reducible assumption) k1 | have h2 := DT.next (DT.drew (by with_reducible assumption)) k1); clear k1)
      | (go_at_call_of 18 (Value.int IntKind.i64 (i : Int)); refine (N4.out _).mono ?_; rintro e w3 ⟨s4, rfl, hs, hz4, k1⟩; have HS4 := Lib.hid hs; clear hs; (first | have h2 := DT.next (by with_reducible assumption) k1 | have h2 := DT.next (DT.drew (by with_reducible assumption)) k1); clear k1)
      | (go_at_call_of 18 (Value.int IntKind.i64 (z : Int)); refine (N5.out _).mono ?_; rintro e w3 ⟨s5, rfl, hs, hz5, k1⟩; have HS5 := Lib.hid hs; clear hs; (first | have h2 := DT.next (by with_reducible assumption) k1 | have h2 := DT.next (DT.drew (by with_reducible assumption)) k1); clear k1)
      | (go_at_call_of 18 (Value.int IntKind.i64 (c : Int)); refine (N6.out _).mono ?_; rintro e w3 ⟨s6, rfl, hs, hz6, k1⟩; have HS6 := Lib.hid hs; clear hs; (first | have h2 := DT.next (by with_reducible assumption) k1 | have h2 := DT.next (DT.drew (by with_reducible assumption)) k1); clear k1)
      | (go_at_call_of 18 (Value.int IntKind.i64 (b : Int)); refine (N7.out _).mono ?_; rintro e w3 ⟨s7, rfl, hs, hz7, k1⟩; have HS7 := Lib.hid hs; clear hs; (first | have h2 := DT.next (by with_reducible assumption) k1 | have h2 := DT.next (DT.drew (by with_reducible assumption)) k1); clear k1; have KK := Lib.hid h2.2.2))
    go_wp2_with fail
    go_ret2
    refine ⟨KK.out, .inl ⟨HOK.out, ?_⟩⟩
    simp only [Int.toNat_natCast]
    rw [headTxt_parts n m a d i z c b HS0.out HS1.out HS2.out HS3.out HS4.out HS5.out HS6.out HS7.out]
    rfl
  · have HOK := Lib.hid hok
    unfold headV at CH ⊢
    clear hok
    go_enter Tryz.func6, Tryz.ntmps6
    go_upto_region 1 with fail
    have k0 : Below w.heap.size w (w.alloc (.cells #[.int .i64 n, .int .i64 m, .int .i64 a, .int .i64 d, .int .i64 i, .int .i64 z, .int .i64 c, .int .i64 b] 25)) := (Below.refl _ _).alloc (Nat.le_refl _) _
    have K0 := Lib.hid k0
    clear k0
    go_wp2_with fail
    refine (CH.out _).mono ?_
    rintro e w2 ⟨k2, ⟨hok, -⟩ | ⟨-, rfl⟩⟩
    · exact absurd hok HOK.out
    have K2 := Lib.hid (below_more K0.out k2)
    clear k2
    go_wp2_with fail
    go_ret2
    exact ⟨K2.out, .inr ⟨HOK.out, rfl⟩⟩
end Go.Proofs.YthaicpbdlhkkkaaGreatDoor.pk
