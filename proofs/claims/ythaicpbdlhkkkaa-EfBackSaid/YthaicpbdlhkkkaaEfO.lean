/- ef: a list of numbers in memory; may; the document's May, number. -/
import Derived.BigQuiet
import Derived.Test.YthaicpbdlhkkkaaEfN
import Derived.Test.YthaicpbdlhkkkaaEfH3
namespace Go.Proofs.Ythaicpbdlhkkkaa.ef
open Go.RowKit Go.Proofs.Ythaicpbdlhkkkaa.own Go.Proofs.Ythaicpbdlhkkkaa.bit

def ivs (L : List Nat) : List Value := L.map fun (v : Nat) => Value.int .u64 (v : Int)
/-- a list of numbers, read only -/
def RU (w : World) (v : Value) (L : List Nat) : Prop :=
  ∃ a cap, v = .slice a L.length cap ∧ L.length ≤ cap ∧ ∀ k (hk : k < L.length), ∃ g, a = some ⟨g, 0, none⟩ ∧ w.cell? ⟨g, k, none⟩ = some (.int .u64 ((L[k] : Nat) : Int))
theorem RU.below {w w' : World} {v : Value} {L : List Nat} (h : RU w v L) (k : Below w.heap.size w w') : RU w' v L := by
  obtain ⟨a, cap, rfl, hc, hk⟩ := h
  exact ⟨a, cap, rfl, hc, fun i hi => by obtain ⟨g, h1, h2⟩ := hk i hi; exact ⟨g, h1, cell_keep k h2⟩⟩
theorem RU.of {w : World} {base : Nat} {v : Value} {L : List Nat} (h : w.ownsRow base 62 1 v L.length (ivs L)) : RU w v L := by
  rcases h.2 with ⟨hv, h0⟩ | ⟨g, cap, cur, hv, hb, hg, hn, hc, hcs, _⟩
  · exact ⟨none, 0, by rw [hv, h0], by omega, fun k hk => by omega⟩
  · subst hv
    refine ⟨_, _, rfl, hn, fun k hk => ⟨g, rfl, ?_⟩⟩
    rw [h.cellAt k (by omega)]
    simp [ivs, hk]

/-- the first k numbers may be -/
def mayK (L : List Nat) (k : Nat) : Prop := ∀ j, j < k → L.getD j 0 ≤ most ∧ (0 < j → L.getD (j - 1) 0 ≤ L.getD j 0)
theorem mayK_zero (L : List Nat) : mayK L 0 := fun _ hj => absurd hj (Nat.not_lt_zero _)
theorem mayK_step {L : List Nat} {k : Nat} (h : mayK L k) (h1 : L.getD k 0 ≤ most) (h2 : 0 < k → L.getD (k - 1) 0 ≤ L.getD k 0) : mayK L (k + 1) := fun j hj => by
  by_cases e : j = k
  · subst e; exact ⟨h1, h2⟩
  · exact h j (by omega)
theorem mayK_all {L : List Nat} (h : mayK L L.length) (hl : L.length ≤ 16777216) : mayS L := ⟨hl, fun k hk => h k hk⟩
theorem not_may {L : List Nat} {k : Nat} (hk : k < L.length) (h : ¬ (L.getD k 0 ≤ most ∧ (0 < k → L.getD (k - 1) 0 ≤ L.getD k 0))) : ¬ mayS L := fun hm => h (hm.2 k hk)
theorem getD_at (L : List Nat) (k : Nat) (hk : k < L.length) : L.getD k 0 = L[k] := by
  rw [List.getD_eq_getElem?_getD, List.getElem?_eq_getElem hk]; rfl

def MayPost (L : List Nat) (w : World) (e : Ending) (w' : World) : Prop := Below w.heap.size w w' ∧ ∃ b, e = .returned (.bool b) ∧ (b = true ↔ mayS L)

set_option maxRecDepth 100000 in
set_option maxHeartbeats 1600000 in
theorem may_any (w : World) (v : Value) (L : List Nat) (h : RU w v L) : Calls Try.prog 63 #[v] w (MayPost L w) := by
  obtain ⟨a, cap, rfl, hcap, hc⟩ := h
  have HC := Lib.hid hc
  clear hc
  obtain ⟨n, hn⟩ : ∃ n, L.length = n := ⟨_, rfl⟩
  have HN := Lib.hid hn
  rw [hn] at hcap ⊢
  unfold MayPost
  by_cases hbig : n ≤ 16777216
  · have MK := Lib.hid (fun (h : mayK L n) => mayK_all (L := L) (by rw [hn]; exact h) (by rw [hn]; exact hbig))
    have NM := Lib.hid (fun k hk => not_may (L := L) (k := k) (by rw [hn]; exact hk))
    have GD := Lib.hid (fun k hk => getD_at L k (by rw [HN.out]; exact hk))
    clear hn
    go_enter Try.func63, Try.ntmps63
    go_wp2_with fail
    go_loopw [3, 11] (fun lv iv wr => ∃ k last : Nat, k ≤ n ∧ iv = .int .i64 (k : Int) ∧ lv = .int .u64 (last : Int) ∧ last = (if k = 0 then 0 else L.getD (k - 1) 0) ∧ mayK L k ∧ wr = w)
      (fun _ iv _ => n - (intOf iv).toNat)
    case atStart => exact ⟨0, 0, Nat.zero_le _, rfl, rfl, rfl, mayK_zero L, rfl⟩
    case round =>
      obtain ⟨k, last, hk, rfl, rfl, hlast, hmay, rfl⟩ := hrel
      have HM := Lib.hid hmay
      have HLA := Lib.hid hlast
      clear hmay hlast
      by_cases hlt : k < n
      · obtain ⟨g, rfl, hcell⟩ := HC.out k (by rw [HN.out]; exact hlt)
        obtain ⟨x, hx⟩ : ∃ x, L[k]'(by rw [HN.out]; exact hlt) = x := ⟨_, rfl⟩
        rw [hx] at hcell
        have hgx : Hid (L.getD k 0 = x) := Lib.hid (by rw [GD.out k hlt, hx])
        clear hx
        by_cases h1 : x < last
        · have NO : Hid (¬ mayS L) := Lib.hid (NM.out k hlt (fun h => by
            have h2 := HLA.out
            by_cases k0 : k = 0
            · rw [if_pos k0] at h2; omega
            · rw [if_neg k0] at h2
              have h3 := h.2 (by omega)
              rw [hgx.out, ← h2] at h3
              omega))
          go_wp2_with fail
          go_ret
          exact ⟨Below.refl _ _, false, rfl, by simp [NO.out]⟩
        · by_cases h2 : 281474976710654 < x
          · have NO : Hid (¬ mayS L) := Lib.hid (NM.out k hlt (fun h => by
              have h3 := h.1
              rw [hgx.out] at h3
              unfold most at h3
              omega))
            have h1i : (last : Int) ≤ (x : Int) := by omega
            have h2i : (281474976710654 : Int) < (x : Int) := by omega
            go_wp2_with fail
            go_ret
            exact ⟨Below.refl _ _, false, rfl, by simp [NO.out]⟩
          · have NX : Hid (mayK L (k + 1)) := Lib.hid (mayK_step HM.out (by rw [hgx.out]; unfold most; omega) (fun h0 => by
              have h3 := HLA.out
              rw [if_neg (by omega)] at h3
              rw [hgx.out, ← h3]
              omega))
            have h1i : (last : Int) ≤ (x : Int) := by omega
            have h2i : (x : Int) ≤ 281474976710654 := by omega
            go_wp2_with fail
            go_roundw
            case rel => exact ⟨k + 1, x, by omega, by go_num, rfl, by rw [if_neg (by omega)]; simp only [Nat.add_sub_cancel]; exact hgx.out.symm, NX.out, by first | rfl | trivial⟩
            case measure => simp [intOf]; try omega
      · obtain rfl : k = n := by omega
        have YES : Hid (mayS L) := Lib.hid (MK.out HM.out)
        go_wp2_with fail
        go_ret
        exact ⟨Below.refl _ _, true, rfl, by simp [YES.out]⟩
  · have NO : Hid (¬ mayS L) := Lib.hid (fun h => hbig (by rw [← hn]; exact h.1))
    clear hn
    go_enter Try.func63, Try.ntmps63
    go_wp2_with fail
    go_ret
    exact ⟨Below.refl _ _, false, rfl, by simp [NO.out]⟩

theorem dnumber_any (x n : Nat) (hn : n ≤ 8) (hx : x < 18446744073709551616) (w : World) :
    Calls Try.prog 84 #[.int .u64 (x : Int), .int .i64 (n : Int)] w fun e w' => e = .returned (.string (txt (packN (ofN (8 * n) x)))) ∧ Below w.heap.size w w' := by
  have OF := Lib.hid (fun W => Of_any (8 * n) x (by omega) hx W)
  unfold RowPost at OF
  rw [ofN_length] at OF
  have TX := Lib.hid (fun (W : World) base v h => Text_any W base v (ofN (8 * n) x) (by rw [ofN_length]; omega) h)
  rw [ofN_length] at TX
  have e8 := Lib.hid (show (8 : Int) * (n : Int) = ((8 * n : Nat) : Int) by omega)
  go_enter Try.func84, Try.ntmps84
  go_wp2_with fail
  rw [e8.out]
  refine (OF.out _).mono ?_
  rintro e w1 ⟨v1, rfl, h1, k1⟩
  go_wp2_with fail
  refine (TX.out _ _ _ h1).mono ?_
  rintro e w2 ⟨rfl, k2⟩
  have K := Lib.hid (below_next k1 k2)
  go_wp2_with fail
  go_ret
  exact ⟨rfl, K.out⟩

set_option maxRecDepth 100000 in
set_option maxHeartbeats 1600000 in
theorem dmay_any (w : World) (v : Value) (L : List Nat) (h : RU w v L) (hl : L.length ≤ 1099511627776) : Calls Try.prog 82 #[v] w (MayPost L w) := by
  obtain ⟨a, cap, rfl, hcap, hc⟩ := h
  have HC := Lib.hid hc
  clear hc
  obtain ⟨n, hn⟩ : ∃ n, L.length = n := ⟨_, rfl⟩
  have HN := Lib.hid hn
  rw [hn] at hcap hl ⊢
  unfold MayPost
  have MK := Lib.hid (fun (h : mayK L n) hbig => mayK_all (L := L) (by rw [hn]; exact h) (by rw [hn]; exact hbig))
  have NM := Lib.hid (fun k hk => not_may (L := L) (k := k) (by rw [hn]; exact hk))
  have GD := Lib.hid (fun k hk => getD_at L k (by rw [HN.out]; exact hk))
  have NB := Lib.hid (fun (h : mayS L) => (show n ≤ 16777216 by rw [← hn]; exact h.1))
  clear hn
  go_enter Try.func82, Try.ntmps82
  go_wp2_with fail
  go_loopw [3] (fun iv wr => ∃ k : Nat, k ≤ n ∧ iv = .int .i64 (k : Int) ∧ mayK L k ∧ Below w.heap.size w wr)
    (fun iv _ => n - (intOf iv).toNat)
  case atStart => exact ⟨0, Nat.zero_le _, rfl, mayK_zero L, Below.refl _ _⟩
  case round =>
    obtain ⟨k, hk, rfl, hmay, hb⟩ := hrel
    have HM := Lib.hid hmay
    clear hmay
    by_cases hlt : k < n
    · obtain ⟨g, rfl, hcell⟩ := HC.out k (by rw [HN.out]; exact hlt)
      obtain ⟨x, hx⟩ : ∃ x, L[k]'(by rw [HN.out]; exact hlt) = x := ⟨_, rfl⟩
      rw [hx] at hcell
      have hcell := cell_keep hb hcell
      have hgx : Hid (L.getD k 0 = x) := Lib.hid (by rw [GD.out k hlt, hx])
      clear hx
      by_cases h2 : 281474976710654 < x
      · have h2i : decide ((281474976710654 : Int) < (x : Int)) = true := decide_eq_true (by omega)
        have NO : Hid (¬ mayS L) := Lib.hid (NM.out k hlt (fun h => by
          have h3 := h.1
          rw [hgx.out] at h3
          unfold most at h3
          omega))
        go_upto_region 4 with fail
        go_quiet (fail)
        go_wp2_with fail
        go_ret
        exact ⟨below_next hb ⟨rfl, rfl, rfl, Nat.le_refl _, fun _ _ => rfl⟩, false, rfl, by simp [NO.out]⟩
      · have h2i : decide ((281474976710654 : Int) < (x : Int)) = false := decide_eq_false (by omega)
        by_cases k0 : k = 0
        · subst k0
          have NX : Hid (mayK L 1) := Lib.hid (mayK_step HM.out (by rw [hgx.out]; unfold most; omega) (fun h0 => absurd h0 (Nat.lt_irrefl _)))
          go_upto_region 4 with fail
          go_quiet (fail)
          go_wp2_with fail
          go_roundw
          case rel => exact ⟨1, by omega, by go_num, NX.out, below_next hb ⟨rfl, rfl, rfl, Nat.le_refl _, fun _ _ => rfl⟩⟩
          case measure => simp [intOf]; try omega
        · obtain ⟨j, hj⟩ : ∃ j, j + 1 = k := ⟨k - 1, by omega⟩
          obtain ⟨g', hg', hcell'⟩ := HC.out j (by rw [HN.out]; omega)
          injection hg' with hg'
          injection hg' with hg' _ _
          subst hg'
          obtain ⟨y, hy⟩ : ∃ y, L[j]'(by rw [HN.out]; omega) = y := ⟨_, rfl⟩
          rw [hy] at hcell'
          have hcell' := cell_keep hb hcell'
          have hgy : Hid (L.getD j 0 = y) := Lib.hid (by rw [GD.out j (by omega), hy])
          clear hy
          have hj1 : IntKind.i64.wrap ((k : Int) - 1) = (j : Int) := by rw [IntWalk.i64_in _ (by omega)]; omega
          have k0i : decide ((0 : Int) < (k : Int)) = true := decide_eq_true (by omega)
          have k0n : decide (0 < k) = true := decide_eq_true (by omega)
          have HJ := Lib.hid hj
          have hjn : (j : Int) < (n : Int) := by omega
          clear hj
          by_cases h3 : x < y
          · have NO : Hid (¬ mayS L) := Lib.hid (NM.out k hlt (fun h => by
              have h4 := h.2 (by omega)
              rw [show k - 1 = j by have := HJ.out; omega, hgx.out, hgy.out] at h4
              omega))
            go_upto_region 4 with fail
            go_quiet (fail)
            go_wp2_with fail
            go_ret
            exact ⟨below_next hb ⟨rfl, rfl, rfl, Nat.le_refl _, fun _ _ => rfl⟩, .inl ⟨rfl, NO.out⟩⟩
          · have NX : Hid (mayK L (k + 1)) := Lib.hid (mayK_step HM.out (by rw [hgx.out]; unfold most; omega) (fun h0 => by
              rw [show k - 1 = j by have := HJ.out; omega, hgx.out, hgy.out]
              omega))
            go_upto_region 4 with fail
            go_quiet (fail)
            go_wp2_with fail
            go_roundw
            case rel => exact ⟨k + 1, by omega, by go_num, NX.out, below_next hb ⟨rfl, rfl, rfl, Nat.le_refl _, fun _ _ => rfl⟩⟩
            case measure => simp [intOf]; try omega
    · obtain rfl : k = n := by omega
      by_cases hbig : k ≤ 16777216
      · have YES : Hid (mayS L) := Lib.hid (MK.out HM.out hbig)
        go_wp2_with fail
        go_ret
        exact ⟨hb, _, rfl, by rw [decide_eq_true_iff]; exact ⟨fun _ => YES.out, fun _ => by omega⟩⟩
      · have NO : Hid (¬ mayS L) := Lib.hid (fun h => hbig (NB.out h))
        go_wp2_with fail
        go_ret
        exact ⟨hb, _, rfl, by rw [decide_eq_true_iff]; exact ⟨fun h => absurd h (by omega), fun h => absurd h NO.out⟩⟩
end Go.Proofs.Ythaicpbdlhkkkaa.ef
