/- pack: the program's Text. -/
import Derived.Deep.CutBlock
import Derived.Test.YthaicpbdlhkkkaaGreatDoorPkI
namespace Go.Proofs.YthaicpbdlhkkkaaGreatDoor.pk
open Go.RowKit Go.Proofs.YthaicpbdlhkkkaaGreatDoor.own Go.Proofs.YthaicpbdlhkkkaaGreatDoor.bit

/-- the fields of a head, each with its bits -/
def fields (n m a d i z c b : Nat) : List (Nat × Nat) := [(n, 32), (m, 32), (a, 8), (d, 8), (i, 8), (z, 8), (c, 32), (b, 64)]
def bitsOf (l : List (Nat × Nat)) : Bits := l.flatMap fun p => ofN p.2 p.1
theorem bitsOf_fields (n m a d i z c b : Nat) : bitsOf (fields n m a d i z c b) = headBits n m a d i z c b := by
  simp [bitsOf, fields, headBits]
theorem bitsOf_snoc (l : List (Nat × Nat)) (p : Nat × Nat) : bitsOf (l ++ [p]) = bitsOf l ++ ofN p.2 p.1 := by simp [bitsOf]
theorem bitsOf_len : ∀ (l : List (Nat × Nat)), (∀ p ∈ l, p.2 ≤ 64) → (bitsOf l).length ≤ 64 * l.length
  | [], _ => by simp [bitsOf]
  | p :: r, h => by
    have := bitsOf_len r (fun q hq => h q (List.mem_cons_of_mem _ hq))
    have h1 := h p (List.mem_cons_self ..)
    have e : bitsOf (p :: r) = ofN p.2 p.1 ++ bitsOf r := rfl
    rw [e, List.length_append, ofN_length, List.length_cons]
    omega
theorem fields_row {W : World} {ab n m a d i z c b : Nat} {T : TypeId} (h : W.heap[ab]? = some (.cells #[.int .i64 n, .int .i64 32, .int .i64 m, .int .i64 32, .int .i64 a, .int .i64 8, .int .i64 d, .int .i64 8, .int .i64 i, .int .i64 8, .int .i64 z, .int .i64 8, .int .i64 c, .int .i64 32, .int .i64 b, .int .i64 64] T (0, 0))) (hn : n < 2 ^ 32 ∧ m < 2 ^ 32 ∧ a < 2 ^ 8 ∧ d < 2 ^ 8 ∧ i < 2 ^ 8 ∧ z < 2 ^ 8 ∧ c < 2 ^ 32 ∧ b < 2 ^ 64) (k : Nat) (hk : k < 8) :
    ∃ v u : Nat, (fields n m a d i z c b).take (k + 1) = (fields n m a d i z c b).take k ++ [(v, u)] ∧ v < 2 ^ u ∧ u ≤ 64 ∧ W.cell? ⟨ab, k * 2, none⟩ = some (.int .i64 v) ∧ W.cell? ⟨ab, k * 2 + 1, none⟩ = some (.int .i64 u) := by
  obtain ⟨h1, h2, h3, h4, h5, h6, h7, h8⟩ := hn
  match k, hk with
  | 0, _ => exact ⟨n, 32, rfl, h1, by decide, by rw [cell_of_row _ _ _ _ _ _ h]; rfl, by rw [cell_of_row _ _ _ _ _ _ h]; rfl⟩
  | 1, _ => exact ⟨m, 32, rfl, h2, by decide, by rw [cell_of_row _ _ _ _ _ _ h]; rfl, by rw [cell_of_row _ _ _ _ _ _ h]; rfl⟩
  | 2, _ => exact ⟨a, 8, rfl, h3, by decide, by rw [cell_of_row _ _ _ _ _ _ h]; rfl, by rw [cell_of_row _ _ _ _ _ _ h]; rfl⟩
  | 3, _ => exact ⟨d, 8, rfl, h4, by decide, by rw [cell_of_row _ _ _ _ _ _ h]; rfl, by rw [cell_of_row _ _ _ _ _ _ h]; rfl⟩
  | 4, _ => exact ⟨i, 8, rfl, h5, by decide, by rw [cell_of_row _ _ _ _ _ _ h]; rfl, by rw [cell_of_row _ _ _ _ _ _ h]; rfl⟩
  | 5, _ => exact ⟨z, 8, rfl, h6, by decide, by rw [cell_of_row _ _ _ _ _ _ h]; rfl, by rw [cell_of_row _ _ _ _ _ _ h]; rfl⟩
  | 6, _ => exact ⟨c, 32, rfl, h7, by decide, by rw [cell_of_row _ _ _ _ _ _ h]; rfl, by rw [cell_of_row _ _ _ _ _ _ h]; rfl⟩
  | 7, _ => exact ⟨b, 64, rfl, h8, by decide, by rw [cell_of_row _ _ _ _ _ _ h]; rfl, by rw [cell_of_row _ _ _ _ _ _ h]; rfl⟩

set_option maxRecDepth 100000 in
set_option maxHeartbeats 3200000 in
theorem text_any (n m a d i z c b : Int) (w : World) :
    Calls Tryz.prog 5 #[headV n m a d i z c b] w (TextPost n m a d i z c b w) := by
  have CH := Lib.hid (fun W => hcheck_any n m a d i z c b W)
  by_cases hok : headOk n m a d i z c b
  · have HOK := Lib.hid hok
    have hok2 := hok
    obtain ⟨n0, n1, m0, m1, b0, b1, -, d0, d1, c0, c1, a0, a1, z0, z1, i0⟩ := hok2
    have i0 : 0 ≤ i ∧ i ≤ 64 := by omega
    obtain ⟨n, rfl⟩ := Int.eq_ofNat_of_zero_le n0
    obtain ⟨m, rfl⟩ := Int.eq_ofNat_of_zero_le m0
    obtain ⟨b, rfl⟩ := Int.eq_ofNat_of_zero_le b0
    obtain ⟨d, rfl⟩ := Int.eq_ofNat_of_zero_le d0
    obtain ⟨c, rfl⟩ := Int.eq_ofNat_of_zero_le c0
    obtain ⟨a, rfl⟩ := Int.eq_ofNat_of_zero_le a0
    obtain ⟨z, rfl⟩ := Int.eq_ofNat_of_zero_le (show 0 ≤ z by omega)
    obtain ⟨i, rfl⟩ := Int.eq_ofNat_of_zero_le i0.1
    have NB := Lib.hid (show n < 2 ^ 32 ∧ m < 2 ^ 32 ∧ a < 2 ^ 8 ∧ d < 2 ^ 8 ∧ i < 2 ^ 8 ∧ z < 2 ^ 8 ∧ c < 2 ^ 32 ∧ b < 2 ^ 64 by omega)
    unfold headV at CH ⊢
    clear hok n0 n1 m0 m1 b0 b1 d0 d1 c0 c1 a0 a1 z0 z1 i0
    go_enter Tryz.func5, Tryz.ntmps5
    go_upto_region 1 with fail
    have r0 := heap_alloc_new w (.cells #[.int .i64 n, .int .i64 m, .int .i64 a, .int .i64 d, .int .i64 i, .int .i64 z, .int .i64 c, .int .i64 b] 30)
    have k0 : Below w.heap.size w (w.alloc (.cells #[.int .i64 n, .int .i64 m, .int .i64 a, .int .i64 d, .int .i64 i, .int .i64 z, .int .i64 c, .int .i64 b] 30)) := (Below.refl _ _).alloc (Nat.le_refl _) _
    have R0 := Lib.hid r0
    have K0 := Lib.hid k0
    clear k0 r0
    go_wp2_with fail
    refine (CH.out _).mono ?_
    rintro e w2 ⟨k2, ⟨-, rfl⟩ | ⟨hno, -⟩⟩
    rotate_left
    · exact absurd HOK.out hno
    have R2 := Lib.hid ((k2.block _ (lt_of_block R0.out)).trans R0.out)
    have K2 := Lib.hid (below_more K0.out k2)
    clear k2 K0 R0 CH
    go_wp2_with fail
    refine (WT.new _).mono ?_
    rintro e w3 ⟨wb, rfl, h3⟩
    have r3 := (h3.below.block _ (lt_of_block R2.out)).trans R2.out
    have c3 : ∀ j, w3.cell? ⟨w.heap.size, j, none⟩ = (#[Value.int .i64 n, .int .i64 m, .int .i64 a, .int .i64 d, .int .i64 i, .int .i64 z, .int .i64 c, .int .i64 b])[j]? := fun j => cell_of_row _ _ _ _ _ _ r3
    have f3 : ∀ j, w3.frozen? ⟨w.heap.size, j, none⟩ = false := fun j => frozen_of_row w3 _ j _ _ r3
    have R3 := Lib.hid r3
    have H3 := Lib.hid h3
    clear r3 h3
    go_upto_region 6 with fail
    have h4 := H3.out.keep (.cells #[.int .i64 a, .int .i64 d, .int .i64 i, .int .i64 z, .int .i64 c] 28)
    have r4 := (Below.heap_alloc w3 (.cells #[.int .i64 a, .int .i64 d, .int .i64 i, .int .i64 z, .int .i64 c] 28) _ (lt_of_block R3.out)).trans R3.out
    obtain ⟨pb, hpb⟩ : ∃ k, w3.heap.size = k := ⟨_, rfl⟩
    obtain ⟨sz, hsz⟩ : ∃ k, w.heap.size = k := ⟨_, rfl⟩
    have HSZ := Lib.hid hsz
    rw [hpb] at h4 ⊢
    rw [hsz] at r4 ⊢
    generalize w3.alloc (.cells #[.int .i64 a, .int .i64 d, .int .i64 i, .int .i64 z, .int .i64 c] 28) = W4 at h4 r4 ⊢
    have c4 : ∀ j, W4.cell? ⟨sz, j, none⟩ = (#[Value.int .i64 n, .int .i64 m, .int .i64 a, .int .i64 d, .int .i64 i, .int .i64 z, .int .i64 c, .int .i64 b])[j]? := fun j => cell_of_row _ _ _ _ _ _ r4
    have p4 : ∀ j, W4.cell? ⟨pb, j, none⟩ = (#[Value.int .i64 a, .int .i64 d, .int .i64 i, .int .i64 z, .int .i64 c])[j]? := fun j => cell_of_row _ _ _ _ _ _ (h4.row (List.mem_cons_self ..))
    have R4 := Lib.hid r4
    have H4 := Lib.hid h4
    clear r4 h4 c3 f3 R3 H3 hpb hsz i0 R2
    go_upto_block 0 with fail
    have h5 := H4.out.keep (.cells #[.int .i64 n, .int .i64 32, .int .i64 m, .int .i64 32, .int .i64 a, .int .i64 8, .int .i64 d, .int .i64 8, .int .i64 i, .int .i64 8, .int .i64 z, .int .i64 8, .int .i64 c, .int .i64 32, .int .i64 b, .int .i64 64] 48)
    obtain ⟨ab, hab⟩ : ∃ k, W4.heap.size = k := ⟨_, rfl⟩
    rw [hab] at h5 ⊢
    generalize W4.alloc (.cells #[.int .i64 n, .int .i64 32, .int .i64 m, .int .i64 32, .int .i64 a, .int .i64 8, .int .i64 d, .int .i64 8, .int .i64 i, .int .i64 8, .int .i64 z, .int .i64 8, .int .i64 c, .int .i64 32, .int .i64 b, .int .i64 64] 48) = W5 at h5 ⊢
    obtain ⟨ks, hks⟩ : ∃ ks, ((ab, (Obj.cells #[.int .i64 n, .int .i64 32, .int .i64 m, .int .i64 32, .int .i64 a, .int .i64 8, .int .i64 d, .int .i64 8, .int .i64 i, .int .i64 8, .int .i64 z, .int .i64 8, .int .i64 c, .int .i64 32, .int .i64 b, .int .i64 64] 48 (0, 0))) :: [(pb, Obj.cells #[.int .i64 a, .int .i64 d, .int .i64 i, .int .i64 z, .int .i64 c] 28 (0, 0))]) = ks := ⟨_, rfl⟩
    have HM : Hid ((ab, (Obj.cells #[.int .i64 n, .int .i64 32, .int .i64 m, .int .i64 32, .int .i64 a, .int .i64 8, .int .i64 d, .int .i64 8, .int .i64 i, .int .i64 8, .int .i64 z, .int .i64 8, .int .i64 c, .int .i64 32, .int .i64 b, .int .i64 64] 48 (0, 0))) ∈ ks) := Lib.hid (by rw [← hks]; exact List.mem_cons_self ..)
    rw [hks] at h5
    have H5 := Lib.hid h5
    have FR := Lib.hid (fun (W : World) (h : W.heap[ab]? = some (Obj.cells #[.int .i64 n, .int .i64 32, .int .i64 m, .int .i64 32, .int .i64 a, .int .i64 8, .int .i64 d, .int .i64 8, .int .i64 i, .int .i64 8, .int .i64 z, .int .i64 8, .int .i64 c, .int .i64 32, .int .i64 b, .int .i64 64] 48 (0, 0))) => fields_row h NB.out)
    obtain ⟨L, hL⟩ : ∃ L, fields n m a d i z c b = L := ⟨_, rfl⟩
    have HL := Lib.hid hL
    rw [hL] at FR
    clear h5 hks hab c4 p4 R4 H4 hL
    go_wp2_with fail
    go_loopw [45] (fun iv W => ∃ k : Nat, k ≤ 8 ∧ iv = .int .i64 (k : Int) ∧ WT w2 wb (bitsOf (L.take k)) ks W)
      (fun iv _ => 8 - (intOf iv).toNat)
    case atStart => exact ⟨0, Nat.zero_le _, rfl, H5.out⟩
    case round =>
      obtain ⟨k, hk, rfl, hw⟩ := hrel
      by_cases hlt : k < 8
      · obtain ⟨v, u, ht, hv, hu, cv, cu⟩ := FR.out wr (hw.row HM.out) k hlt
        have hv64 : v < 18446744073709551616 := Nat.lt_of_lt_of_le hv (Nat.pow_le_pow_right (by decide) hu : 2 ^ u ≤ 2 ^ 64)
        have u1 : IntKind.u64.wrap (v : Int) = (v : Int) := wraps_u64_64 _ (by omega) (by omega)
        have HT := Lib.hid ht
        have h6 := hw.next ((Below.refl _ _).alloc (Nat.le_refl _) (.cells #[.int .i64 v, .int .i64 u] 48))
        have PU := Lib.hid (WT.put v u hv hu (by
          have := bitsOf_len (L.take k) (fun p hp => by
            rw [← HL.out] at hp
            have := List.mem_of_mem_take hp
            simp [fields] at this
            rcases this with rfl | rfl | rfl | rfl | rfl | rfl | rfl | rfl <;> simp)
          have := List.length_take_le k L
          omega) h6)
        clear hv hv64 ht h6 hw
        go_wp2_with fail
        refine PU.out.mono ?_
        rintro e W6 ⟨rfl, h6⟩
        go_wp2_with fail
        go_roundw
        case rel => exact ⟨k + 1, by omega, by go_num, by rw [HT.out, bitsOf_snoc]; exact h6⟩
        case measure => simp [intOf]; try omega
      · have h8 : k = 8 := by omega
        subst h8
        have hw8 : WT w2 wb (headBits n m a d i z c b) ks wr := by
          have e : bitsOf (L.take 8) = headBits n m a d i z c b := by rw [← bitsOf_fields, HL.out, ← HL.out]; rfl
          rw [← e]
          exact hw
        have H8 := Lib.hid (below_more K2.out hw8.below)
        have TX := Lib.hid hw8.text
        have SZ : (txt (packN (headBits n m a d i z c b))).size = 28 - 4 := by
          rw [txt_size, packN_length]
          simp [headBits, ofN_length]
        have HH : Hid ((ByteArray.mk #[119, 116, 108, 49]) ++ txt (packN (headBits n m a d i z c b)) = headTxt n m a d i z c b) := Lib.hid (by
          rw [show (ByteArray.mk #[119, 116, 108, 49]) = txt mark from rfl, txt_append]; rfl)
        generalize txt (packN (headBits n m a d i z c b)) = tx at *
        clear hw hw8
        go_wp2_with fail
        refine TX.out.mono ?_
        rintro e w6 ⟨rfl, rfl⟩
        go_wp2_with fail
        rw [HH.out]
        go_ret2
        refine ⟨H8.out, .inl ⟨HOK.out, ?_⟩⟩
        simp only [Int.toNat_natCast]
        rfl
  · have HOK := Lib.hid hok
    unfold headV at CH ⊢
    clear hok
    go_enter Tryz.func5, Tryz.ntmps5
    go_upto_region 1 with fail
    have k0 : Below w.heap.size w (w.alloc (.cells #[.int .i64 n, .int .i64 m, .int .i64 a, .int .i64 d, .int .i64 i, .int .i64 z, .int .i64 c, .int .i64 b] 30)) := (Below.refl _ _).alloc (Nat.le_refl _) _
    have K0 := Lib.hid k0
    clear k0
    go_wp2_with fail
    refine (CH.out _).mono ?_
    rintro e w2 ⟨k2, ⟨hok, -⟩ | ⟨-, rfl⟩⟩
    · exact absurd hok HOK.out
    have K2 := Lib.hid (below_more K0.out k2)
    clear k2
    go_wp2_with fail
    go_ret2
    exact ⟨K2.out, .inr ⟨HOK.out, rfl⟩⟩
end Go.Proofs.YthaicpbdlhkkkaaGreatDoor.pk
