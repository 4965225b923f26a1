/- EfBack: the walk of the law. -/
import Derived.BigQuiet
import Derived.Deep.CutRange
import Derived.Test.YthaicpbdlhkkkaaEfReads
import Derived.Test.YthaicpbdlhkkkaaEfW
namespace Go.Proofs.Ythaicpbdlhkkkaa.ef
open Go.RowKit Go.Proofs.Ythaicpbdlhkkkaa.own Go.Proofs.Ythaicpbdlhkkkaa.bit

theorem wf_u32 {n : Int} (h : (Lit.int .u32 n).wf = true) : 0 ≤ n ∧ n ≤ 4294967295 := by
  simp only [Lit.wf, IntKind.min, IntKind.max, IntKind.signed, IntKind.bits, Bool.and_eq_true, decide_eq_true_eq, Bool.false_eq_true, if_false] at h
  omega
theorem wf_u64 {n : Int} (h : (Lit.int .u64 n).wf = true) : 0 ≤ n ∧ n ≤ 18446744073709551615 := by
  simp only [Lit.wf, IntKind.min, IntKind.max, IntKind.signed, IntKind.bits, Bool.and_eq_true, decide_eq_true_eq, Bool.false_eq_true, if_false] at h
  omega
theorem row_nat {k : IntKind} {M : Int} (hk : ∀ n, (Lit.int k n).wf = true → 0 ≤ n ∧ n ≤ M) {W : World} {a : Option Addr} {len cap : Nat} {zs : List Int}
    (hr : (a = none ∧ len = 0 ∧ cap = 0 ∧ zs = []) ∨ ∃ x, a = some x ∧ len ≤ cap ∧ cap ≤ maxLen ∧ zs.length = cap ∧ (∀ i, i < zs.length → W.cell? (x.add i) = some (.int k (zs.getD i 0))) ∧ ∀ n ∈ zs, (Lit.int k n).wf = true) :
    ∀ i, i < len → ∃ x, ∃ m : Nat, a = some x ∧ (m : Int) ≤ M ∧ W.cell? (x.add i) = some (.int k (m : Int)) := by
  intro i hi
  rcases hr with ⟨_, h0, _⟩ | ⟨x, h1, h2, _, h4, h5, h6⟩
  · omega
  · have hl : i < zs.length := by omega
    have hm := h6 _ (List.getElem_mem hl)
    have hr := hk _ hm
    have e : zs.getD i 0 = zs[i] := by rw [List.getD_eq_getElem?_getD, List.getElem?_eq_getElem hl]; rfl
    refine ⟨x, zs[i].toNat, h1, by omega, ?_⟩
    rw [h5 i hl, e]
    congr 2
    omega
theorem getD_snoc_old (L : List Nat) (x j : Nat) (h : j < L.length) : (L ++ [x]).getD j 0 = L.getD j 0 := by
  rw [List.getD_eq_getElem?_getD, List.getD_eq_getElem?_getD, List.getElem?_append_left h]
theorem getD_snoc_new (L : List Nat) (x : Nat) : (L ++ [x]).getD L.length 0 = x := by
  rw [List.getD_eq_getElem?_getD, List.getElem?_append_right (Nat.le_refl _)]
  simp
theorem mayK_snoc {L : List Nat} {x : Nat} (h : mayK L L.length) (hx : x ≤ most) (hl : 0 < L.length → L.getD (L.length - 1) 0 ≤ x) : mayK (L ++ [x]) (L.length + 1) := by
  intro j hj
  by_cases e : j = L.length
  · subst e
    rw [getD_snoc_new]
    refine ⟨hx, fun h0 => ?_⟩
    rw [getD_snoc_old _ _ _ (by omega)]
    exact hl h0
  · rw [getD_snoc_old _ _ _ (by omega)]
    refine ⟨(h j (by omega)).1, fun h0 => ?_⟩
    rw [getD_snoc_old _ _ _ (by omega)]
    exact (h j (by omega)).2 h0

set_option maxRecDepth 100000 in
set_option maxHeartbeats 12800000 in
theorem efBack_walk (a0 : Option Addr) (len0 cap0 : Nat) (z0 : List Int) (a1 : Option Addr) (len1 cap1 : Nat) (z1 : List Int) (W : World)
    (h0 : (a0 = none ∧ len0 = 0 ∧ cap0 = 0 ∧ z0 = []) ∨ ∃ x, a0 = some x ∧ len0 ≤ cap0 ∧ cap0 ≤ maxLen ∧ z0.length = cap0 ∧ (∀ i, i < z0.length → W.cell? (x.add i) = some (.int .u32 (z0.getD i 0))) ∧ ∀ n ∈ z0, (Lit.int .u32 n).wf = true)
    (h1 : (a1 = none ∧ len1 = 0 ∧ cap1 = 0 ∧ z1 = []) ∨ ∃ x, a1 = some x ∧ len1 ≤ cap1 ∧ cap1 ≤ maxLen ∧ z1.length = cap1 ∧ (∀ i, i < z1.length → W.cell? (x.add i) = some (.int .u64 (z1.getD i 0))) ∧ ∀ n ∈ z1, (Lit.int .u64 n).wf = true) :
    Calls Try.prog 9 #[.slice a0 len0 cap0, .slice a1 len1 cap1] W fun e W' => e = .returned (.bool true) ∧ Below W.heap.size W W' := by
  obtain ⟨i0, hi, hz0, hz1, hz2⟩ := info_parts Try.infoU64
  have HR0 := Lib.hid (row_nat (fun n h => wf_u32 h) h0)
  have HR1 := Lib.hid (row_nat (fun n h => wf_u64 h) h1)
  clear h0 h1
  go_enter Try.func9, Try.ntmps9
  go_wp2_with fail
  go_loopw [5, 6, 7] (fun v lv iv wr => ∃ (L : List Nat) (last : Nat), L.length ≤ 3000 ∧ iv = .int .i64 (L.length : Int) ∧ lv = .int .u64 (last : Int) ∧ last ≤ L.length * 4294967295 ∧ last = (if L.length = 0 then 0 else L.getD (L.length - 1) 0) ∧ mayK L L.length ∧
      wr.ownsRow W.heap.size 62 1 v L.length (ivs L) ∧ Below W.heap.size W wr)
    (fun _ _ iv _ => 3000 - (intOf iv).toNat)
  case atStart => exact ⟨[], 0, Nat.zero_le _, rfl, rfl, Nat.zero_le _, rfl, mayK_zero _, World.ownsRow_nil _ _ _ _, Below.refl _ _⟩
  case round =>
    obtain ⟨L, last, hL, rfl, rfl, hlast, hlv, hmay, hown, hb⟩ := hrel
    have HM := Lib.hid hmay
    have HLV := Lib.hid hlv
    obtain ⟨k, hk⟩ : ∃ k, L.length = k := ⟨_, rfl⟩
    have HK := Lib.hid hk
    rw [hk] at hL hlast hown ⊢
    clear hmay hlv hk
    by_cases hlt : k < len0 ∧ k < 3000
    · obtain ⟨hl1, hl2⟩ := hlt
      obtain ⟨x, m, rfl, hm, hcell⟩ := HR0.out k hl1
      have hcell := cell_keep hb hcell
      have hl1i : (k : Int) < (len0 : Int) := by omega
      have hl2i : (k : Int) < 3000 := by omega
      have W1 : IntKind.u64.wrap (m : Int) = (m : Int) := wraps_u64_64 _ (by omega) (by omega)
      have W2 : IntKind.u64.wrap ((last : Int) + (m : Int)) = ((last + m : Nat) : Int) := by rw [wraps_u64_64 _ (by omega) (by omega)]; omega
      obtain ⟨y, hy⟩ : ∃ y, last + m = y := ⟨_, rfl⟩
      rw [hy] at W2
      have LM : (last : Int) + (m : Int) = (y : Int) := by omega
      have NM : Hid (mayK (L ++ [y]) (L ++ [y]).length) := Lib.hid (by
        rw [List.length_append, List.length_singleton]
        refine mayK_snoc HM.out (by unfold most; omega) (fun h0 => ?_)
        have h2 := HLV.out
        rw [if_neg (by omega)] at h2
        omega)
      have hyl : y ≤ (k + 1) * 4294967295 := by omega
      clear hy
      go_wp2_with (at_builtin; refine wpList_append_own _ rfl _ _ 72 rfl W.heap.size 62 i0 (.int .u64 0) 1 8 Try.underlying72 hi hz0 hz1 hz2 rfl (by decide) _ k _ rfl (hown.alloc _) ⟨wr.heap.size, 0, none⟩ 1 1 [.int .u64 (y : Int)] rfl rfl ?c1 (one_u64 _) ?c3 ?c4 ?c5 ?_)
      case c1 => exact cell_one_new _ _ _
      case c3 => simp only [maxLen]; omega
      case c4 => omega
      case c5 => have := hb.size; simp; try omega
      intro v1 w3 hown3 hg3 _
      have B3 := below_grow hb hown hg3
      rw [ivs_snoc] at hown3
      clear hown hb hg3 hcell
      go_wp2_with fail
      go_roundw
      case rel => exact ⟨L ++ [y], y, by rw [List.length_append, HK.out]; simp; omega, by rw [List.length_append, HK.out]; go_num, rfl, by rw [List.length_append, HK.out]; exact hyl, by rw [List.length_append, if_neg (by simp)]; simp, NM.out, by rw [List.length_append, HK.out]; exact hown3, B3⟩
      case measure => simp [intOf]; try omega
    · have hno : (¬ k < len0 ∧ ¬ (k : Int) < (len0 : Int)) ∨ ((k < len0 ∧ (k : Int) < (len0 : Int)) ∧ ¬ k < 3000 ∧ ¬ (k : Int) < 3000) := by omega
      clear hlt
      go_upto_region 4 with fail
      go_cut [28] from 21 to 41 (fun s28 wc => s28 = .bool false ∧ wr = wc)
      case first =>
        rcases hno with ⟨n1, n1i⟩ | ⟨⟨n1, n1i⟩, n2, n2i⟩
        all_goals
          go_wp2_with fail
          go_meet
          case rel => exact ⟨rfl, rfl⟩
      case rest =>
        obtain ⟨rfl, rfl⟩ := hcut
        clear hno HR0 hi hz0 hz1 hz2
        -- what the bytes say
        have hm : mayS L := mayK_all HM.out (by rw [HK.out]; omega)
        have hul := uL_le hm
        have hwl := wid_le L.length (uL L) (by omega)
        have hw : L.length * wL L ≤ 134217728 := by
          have : L.length * wL L ≤ 3000 * 47 := Nat.mul_le_mul (by rw [HK.out]; exact hL) hwl
          omega
        have HB := Lib.hid (build_any wr u5 L (RU.of (by rw [HK.out]; exact hown)) (by rw [HK.out]; omega))
        have HRU := Lib.hid (RU.of (w := wr) (v := u5) (L := L) (by rw [HK.out]; exact hown))
        have HBR := Lib.hid hb
        unfold BuildPost at HB
        have HMS := Lib.hid hm
        obtain ⟨s, hs⟩ : ∃ s, txt (build L) = s := ⟨_, rfl⟩
        have hns : nats s = build L := by rw [← hs, nats_txt _ (build_lt L)]
        have hop : opens (nats s) := by rw [hns]; exact build_opens hm hw
        have hnS : nS (nats s) = k := by rw [hns, build_nS hm, HK.out]
        have HGET := Lib.hid (fun i (h : i < k) => (show getS (nats s) i = some (L.getD i 0) from by rw [hns]; exact build_get hm hw i (by rw [HK.out]; exact h)))
        have hok : okS (nats s) := by rw [hns]; exact build_ok hm hw
        have hall : allL (nats s) = L := by rw [hns]; exact build_all hm hw
        have hsz : s.size = 12 + lowB k (uL L) + highB k (uL L) + sampB k := by rw [← nats_length, hns, build_size hm hw, HK.out]
        have hsm : s.size ≤ maxLen := by
          have q1 := lowB_lt k (uL L) (by omega) (by omega)
          have q2 := hib_lt k (uL L) (by omega)
          rw [hsz]
          unfold highB sampB
          simp only [maxLen]
          omega
        have hnx := hnS
        have GTI := Lib.hid (fun i (h : i < k) xb W (hW : LsC W xb s) => (show Calls Try.prog 30 #[.pointer (some ⟨xb, 0, none⟩), .int .i64 (i : Int)] W fun e w' => e = .returned (.tuple #[.int .u64 ((L.getD i 0 : Nat) : Int), .int .i64 0]) ∧ Below W.heap.size W w' from by
          have h1 := get_in s hsm hop i xb W (by rw [hnS]; exact h) hW
          rw [HGET.out i h] at h1
          exact h1))
        have GVI : ∀ i, i < k → gv (nats s) i = L.getD i 0 := fun i h => by unfold gv; rw [HGET.out i h]; rfl
        have NXI := Lib.hid (fun (v : Nat) xb W (hW : LsC W xb s) => (show Calls Try.prog 32 #[.pointer (some ⟨xb, 0, none⟩), .int .u64 (v : Int)] W fun e w' => (∃ m : Nat, e = .returned (.tuple #[.int .i64 (m : Int), .int .i64 0]) ∧ m ≤ k ∧ (m < k → v ≤ L.getD m 0) ∧ (0 < m → L.getD (m - 1) 0 < v)) ∧ Below W.heap.size W w' from by
          refine (next_any s hsm hop xb v W hW).mono ?_
          rintro e w' ⟨hb, ⟨m, he, h1, h2, h3⟩ | ⟨_, j, hj, hnone⟩⟩
          · rw [hnS] at h1 h2
            refine ⟨⟨m, he, h1, fun h => ?_, fun h => ?_⟩, hb⟩
            · rw [← GVI m h]; exact h2 h
            · rw [← GVI (m - 1) (by omega)]; exact h3 h
          · rw [hnS] at hj
            rw [HGET.out j hj] at hnone
            cases hnone))
        have ALI := Lib.hid (fun xb W (hW : LsC W xb s) => (show Calls Try.prog 33 #[.pointer (some ⟨xb, 0, none⟩)] W fun e w' => (∃ v, e = .returned (.tuple #[v, .int .i64 0]) ∧ RU w' v L) ∧ Below W.heap.size W w' from by
          refine (all_any s hsm hop xb W hW).mono ?_
          rintro e w' ⟨hb, ⟨_, v, he, ho⟩ | ⟨hno, _⟩⟩
          · rw [hall] at ho
            exact ⟨⟨v, he, RU.of ho⟩, hb⟩
          · exact absurd hok hno))
        have LEN := Lib.hid (fun xb W (hW : LsC W xb s) => (show Calls Try.prog 29 #[.pointer (some ⟨xb, 0, none⟩)] W fun e w' => e = .returned (.int .i64 (k : Int)) ∧ w' = W from by
          have h1 := len_same s xb W hW
          rw [hnS] at h1
          exact h1))
        have OPN := Lib.hid (fun W => open_any s W hsm)
        unfold OpenPost at OPN
        have HOP := Lib.hid hop
        have HSZ := Lib.hid hsz
        rw [hs] at HB
        clear hown hb hm hw hwl hns hop hnS hnx hok hall hsz hs GVI HGET
        obtain ⟨aL, cL, rfl, hcL, -⟩ := id HRU.out
        rw [HK.out] at HRU HB hcL ⊢
        go_wp2_with fail
        refine HB.out.mono ?_
        rintro e w1 ⟨k1, ⟨-, rfl⟩ | ⟨hno, -⟩⟩
        rotate_left
        · exact absurd HMS.out hno
        go_wp2_with fail
        refine (OPN.out _).mono ?_
        rintro e w2 ⟨k2, ⟨-, xb, rfl, hls, -⟩ | ⟨hno, -⟩⟩
        rotate_left
        · exact absurd HOP.out hno
        have K2 := Lib.hid (below_next HBR.out (below_next k1 k2))
        have R2 := Lib.hid (HRU.out.below (below_next k1 k2))
        have HLS := Lib.hid hls
        have LN2 := Lib.hid (LEN.out xb w2 hls)
        clear k1 k2 hls HB HBR HRU
        go_wp2_with fail
        refine LN2.out.mono ?_
        rintro e w3 ⟨rfl, rfl⟩
        go_wp2_with fail
        go_loopw [12] (fun iv wr => ∃ i : Nat, i ≤ k ∧ iv = .int .i64 (i : Int) ∧ Below w3.heap.size w3 wr) (fun iv _ => k - (intOf iv).toNat)
        case atStart => exact ⟨0, Nat.zero_le _, rfl, Below.refl _ _⟩
        case round =>
          obtain ⟨i, hik, rfl, hb⟩ := hrel
          by_cases hlt : i < k
          · have G1 := Lib.hid (GTI.out i hlt xb wr (HLS.out.below hb))
            obtain ⟨g, rfl, hcell⟩ := R2.out.cell i (by rw [HK.out]; exact hlt)
            have CC := Lib.hid hcell
            clear hcell
            obtain ⟨x, hx⟩ : ∃ x, L.getD i 0 = x := ⟨_, rfl⟩
            rw [hx] at G1 CC
            clear hx
            go_wp2_with fail
            refine G1.out.mono ?_
            rintro e w4 ⟨rfl, k4⟩
            have hb4 := below_next hb k4
            have hcell := cell_keep hb4 CC.out
            clear hb k4
            go_wp2_with fail
            go_roundw
            case rel => exact ⟨i + 1, by omega, by go_num, hb4⟩
            case measure => simp [intOf]; try omega
          · obtain rfl : i = k := by omega
            have AL1 := Lib.hid (ALI.out xb wr (HLS.out.below hb))
            go_wp2_with fail
            refine AL1.out.mono ?_
            rintro e w4 ⟨⟨v4, rfl, r4⟩, k4⟩
            have hb4 := below_next hb k4
            have SA := Lib.hid (same_any w4 v4 _ L (by rw [HK.out]; omega) r4 (R2.out.below hb4))
            clear hb k4 r4 AL1
            go_wp2_with fail
            refine SA.out.mono ?_
            rintro e w5 ⟨rfl, k5⟩
            have hb5 := below_next hb4 k5
            clear hb4 k5 SA
            go_wp2_with fail
            have hn3 : i ≤ 3000 := hL
            clear hik hlt
            go_loopw [17] (fun iv wr => ∃ j : Nat, j ≤ 50 ∧ iv = .int .i64 (j : Int) ∧ Below w3.heap.size w3 wr) (fun iv _ => 50 - (intOf iv).toNat)
            case atStart => exact ⟨0, Nat.zero_le _, rfl, hb5⟩
            case round =>
              obtain ⟨j, hj, rfl, hb⟩ := hrel
              by_cases hlt : j < len1 ∧ j < 50
              · obtain ⟨hl1, hl2⟩ := hlt
                obtain ⟨x, m, rfl, hm, hcell⟩ := HR1.out j hl1
                have CC := Lib.hid (cell_keep K2.out hcell)
                have hcell := cell_keep hb CC.out
                have hl1i : (j : Int) < (len1 : Int) := by omega
                have hl2i : (j : Int) < 50 := by omega
                have NX := Lib.hid (NXI.out m xb wr (HLS.out.below hb))
                go_wp2_with fail
                refine NX.out.mono ?_
                rintro e w6 ⟨⟨q, rfl, hq1, hq2, hq3⟩, k6⟩
                have hb6 := below_next hb k6
                have hcell := cell_keep hb6 CC.out
                have HQ2 := Lib.hid hq2
                have HQ3 := Lib.hid hq3
                clear hb k6 NX hq2 hq3
                go_upto_region 25 with fail
                go_cut [164] from 101 to 164 (fun s164 wc => s164 = .bool false ∧ Below w3.heap.size w3 wc)
                case first =>
                  have dq : decide ((q : Int) < 0) = false := decide_eq_false (by omega)
                  have hqn : decide ((i : Int) < (q : Int)) = false := decide_eq_false (by omega)
                  have hqnn : decide (i < q) = false := decide_eq_false (by omega)
                  by_cases c1 : q < i
                  · obtain ⟨g, rfl, hcq⟩ := R2.out.cell q (by rw [HK.out]; exact c1)
                    have hcq := cell_keep hb6 hcq
                    have hv1 := HQ2.out c1
                    obtain ⟨y, hy⟩ : ∃ y, L.getD q 0 = y := ⟨_, rfl⟩
                    rw [hy] at hcq hv1
                    clear hy
                    have d1 : decide ((q : Int) < (i : Int)) = true := decide_eq_true (by omega)
                    have d1n : decide (q < i) = true := decide_eq_true c1
                    have d2 : decide ((y : Int) < (m : Int)) = false := decide_eq_false (by omega)
                    have d2n : decide (y < m) = false := decide_eq_false (by omega)
                    have c1i : (q : Int) < (i : Int) := by omega
                    by_cases c2 : q = 0
                    · have d3 : decide ((0 : Int) < (q : Int)) = false := decide_eq_false (by omega)
                      have d3n : decide (0 < q) = false := decide_eq_false (by omega)
                      clear HQ2 HQ3 c2
                      go_quiet (fail)
                      go_wp2_with fail
                      go_meet
                      case rel => exact ⟨rfl, below_next hb6 ⟨rfl, rfl, rfl, Nat.le_refl _, fun _ _ => rfl⟩⟩
                    · obtain ⟨p, hp⟩ : ∃ p, p + 1 = q := ⟨q - 1, by omega⟩
                      have hv2 := HQ3.out (by omega)
                      obtain ⟨g2, hg2, hcp⟩ := R2.out.cell p (by rw [HK.out]; omega)
                      injection hg2 with hg2
                      injection hg2 with hg2 _ _
                      subst hg2
                      have hcp := cell_keep hb6 hcp
                      rw [show q - 1 = p by omega] at hv2
                      obtain ⟨y2, hy2⟩ : ∃ y, L.getD p 0 = y := ⟨_, rfl⟩
                      rw [hy2] at hcp hv2
                      clear hy2
                      have d3 : decide ((0 : Int) < (q : Int)) = true := decide_eq_true (by omega)
                      have d3n : decide (0 < q) = true := decide_eq_true (by omega)
                      have d4 : decide ((m : Int) ≤ (y2 : Int)) = false := decide_eq_false (by omega)
                      have d4n : decide (m ≤ y2) = false := decide_eq_false (by omega)
                      have hj1 : IntKind.i64.wrap ((q : Int) - 1) = (p : Int) := by rw [IntWalk.i64_in _ (by omega)]; omega
                      have hpn : (p : Int) < (i : Int) := by omega
                      have HP := Lib.hid hp
                      clear HQ2 HQ3 c2 hp
                      go_quiet (fail)
                      go_wp2_with fail
                      go_meet
                      case rel => exact ⟨rfl, below_next hb6 ⟨rfl, rfl, rfl, Nat.le_refl _, fun _ _ => rfl⟩⟩
                  · have d1 : decide ((q : Int) < (i : Int)) = false := decide_eq_false (by omega)
                    have d1n : decide (q < i) = false := decide_eq_false c1
                    by_cases c2 : q = 0
                    · have d3 : decide ((0 : Int) < (q : Int)) = false := decide_eq_false (by omega)
                      have d3n : decide (0 < q) = false := decide_eq_false (by omega)
                      clear HQ2 HQ3 c2
                      go_quiet (fail)
                      go_wp2_with fail
                      go_meet
                      case rel => exact ⟨rfl, below_next hb6 ⟨rfl, rfl, rfl, Nat.le_refl _, fun _ _ => rfl⟩⟩
                    · obtain ⟨p, hp⟩ : ∃ p, p + 1 = q := ⟨q - 1, by omega⟩
                      have hv2 := HQ3.out (by omega)
                      obtain ⟨g2, hg2, hcp⟩ := R2.out.cell p (by rw [HK.out]; omega)
                      subst hg2
                      have hcp := cell_keep hb6 hcp
                      rw [show q - 1 = p by omega] at hv2
                      obtain ⟨y2, hy2⟩ : ∃ y, L.getD p 0 = y := ⟨_, rfl⟩
                      rw [hy2] at hcp hv2
                      clear hy2
                      have d3 : decide ((0 : Int) < (q : Int)) = true := decide_eq_true (by omega)
                      have d3n : decide (0 < q) = true := decide_eq_true (by omega)
                      have d4 : decide ((m : Int) ≤ (y2 : Int)) = false := decide_eq_false (by omega)
                      have d4n : decide (m ≤ y2) = false := decide_eq_false (by omega)
                      have hj1 : IntKind.i64.wrap ((q : Int) - 1) = (p : Int) := by rw [IntWalk.i64_in _ (by omega)]; omega
                      have hpn : (p : Int) < (i : Int) := by omega
                      have HP := Lib.hid hp
                      clear HQ2 HQ3 c2 hp
                      go_quiet (fail)
                      go_wp2_with fail
                      go_meet
                      case rel => exact ⟨rfl, below_next hb6 ⟨rfl, rfl, rfl, Nat.le_refl _, fun _ _ => rfl⟩⟩
                case rest =>
                  obtain ⟨rfl, hb7⟩ := hcut
                  clear hb6 hcell
                  go_wp2_with fail
                  go_roundw
                  case rel => exact ⟨j + 1, by omega, by go_num, hb7⟩
                  case measure => simp [intOf]; try omega
              · have hno : (¬ j < len1 ∧ ¬ (j : Int) < (len1 : Int)) ∨ ((j < len1 ∧ (j : Int) < (len1 : Int)) ∧ ¬ j < 50 ∧ ¬ (j : Int) < 50) := by omega
                clear hlt
                go_upto_region 22 with fail
                go_cut [108] from 101 to 164 (fun s108 wc => s108 = .bool false ∧ wr = wc)
                case first =>
                  rcases hno with ⟨n1, n1i⟩ | ⟨⟨n1, n1i⟩, n2, n2i⟩
                  all_goals
                    go_wp2_with fail
                    go_meet
                    case rel => exact ⟨rfl, rfl⟩
                case rest =>
                  obtain ⟨rfl, rfl⟩ := hcut
                  clear hno HR1 GTI NXI ALI LEN OPN
                  have hlast2 : last ≤ 12884901885000 := by omega
                  have HFB : Hid (∀ b, (i = 0 ∧ b = 0) ∨ (0 < i ∧ last < i * 2 ^ b ∧ (b = 0 ∨ i * 2 ^ (b - 1) ≤ last)) → 8 * (lowB i (uL L) + highB i (uL L)) ≤ (b + 2) * i + 16) := Lib.hid (fun b hc => by
                    rcases hc with ⟨rfl, rfl⟩ | ⟨h1, h2, h3⟩
                    · unfold lowB highB hib
                      simp
                    · have e : uL L = last + 1 := by
                        have h4 := HLV.out
                        rw [if_neg (by rw [HK.out]; omega)] at h4
                        rw [uL_get (by rw [HK.out]; exact h1), ← h4]
                      rw [e]
                      exact few_bits i last b h1 h2 h3)
                  have HBL : Hid (∀ b, b = 0 ∨ (0 < i ∧ i * 2 ^ (b - 1) ≤ last) → b ≤ 45) := Lib.hid (fun b hc => by
                    rcases hc with h | ⟨h1, h2⟩
                    · omega
                    · have h3 : 2 ^ (b - 1) ≤ last := Nat.le_trans (by
                        calc 2 ^ (b - 1) = 1 * 2 ^ (b - 1) := (Nat.one_mul _).symm
                          _ ≤ i * 2 ^ (b - 1) := Nat.mul_le_mul_right _ h1) h2
                      have h4 : 2 ^ (b - 1) < 2 ^ 44 := Nat.lt_of_le_of_lt h3 (Nat.lt_of_le_of_lt hlast2 (by decide))
                      have := (Nat.pow_lt_pow_iff_right (by decide)).1 h4
                      omega)
                  go_wp2_with fail
                  go_loopw [20] (fun bv wr => ∃ b : Nat, bv = .int .i64 (b : Int) ∧ (b = 0 ∨ (0 < i ∧ i * 2 ^ (b - 1) ≤ last)) ∧ Below w3.heap.size w3 wr) (fun bv _ => 64 - (intOf bv).toNat)
                  case atStart => exact ⟨0, rfl, .inl rfl, hb⟩
                  case round =>
                    obtain ⟨b, rfl, hbb, hb⟩ := hrel
                    have hb45 := HBL.out b hbb
                    obtain ⟨P, hP⟩ : ∃ P, i * 2 ^ b = P := ⟨_, rfl⟩
                    have hPl : P ≤ 3000 * 2 ^ 45 := by
                      rw [← hP]
                      exact Nat.mul_le_mul hn3 (Nat.pow_le_pow_right (by decide) hb45)
                    have hPl2 : P ≤ 105553116266496000 := hPl
                    have PI : (i : Int) * 2 ^ b = (P : Int) := by rw [← hP]; simp
                    have WP : IntKind.u64.wrap (P : Int) = (P : Int) := wraps_u64_64 _ (by omega) (by omega)
                    have WI : IntKind.u64.wrap (i : Int) = (i : Int) := wraps_u64_64 _ (by omega) (by omega)
                    have HBB := Lib.hid hbb
                    have HP := Lib.hid hP
                    clear hbb hP hPl
                    by_cases hgo : 0 < i ∧ P ≤ last
                    · obtain ⟨g1, g2⟩ := hgo
                      have g1i : (0 : Int) < (i : Int) := by omega
                      have g2i : (P : Int) ≤ (last : Int) := by omega
                      go_wp2_with fail
                      go_roundw
                      case rel => exact ⟨b + 1, by go_num, .inr ⟨g1, by rw [Nat.add_sub_cancel, HP.out]; exact g2⟩, hb⟩
                      case measure => simp [intOf]; try omega
                    · have hstop : (¬ 0 < i ∧ ¬ (0 : Int) < (i : Int)) ∨ ((0 < i ∧ (0 : Int) < (i : Int)) ∧ ¬ P ≤ last ∧ ¬ (P : Int) ≤ (last : Int)) := by omega
                      have FB := HFB.out b (by
                        have h1 := HBB.out
                        have h2 := HP.out
                        by_cases hi0 : i = 0
                        · left
                          exact ⟨hi0, by omega⟩
                        · right
                          refine ⟨by omega, by omega, ?_⟩
                          rcases h1 with h | ⟨_, h⟩
                          · exact .inl h
                          · exact .inr h)
                      have FBH := Lib.hid FB
                      clear FB hgo
                      go_upto_region 28 with fail
                      go_cut [176] from 165 to 178 (fun s176 wc => s176 = .bool false ∧ wr = wc)
                      case first =>
                        rcases hstop with ⟨n1, n1i⟩ | ⟨⟨n1, n1i⟩, n2, n2i⟩
                        all_goals
                          go_wp2_with fail
                          go_meet
                          case rel => exact ⟨rfl, rfl⟩
                      case rest =>
                        obtain ⟨rfl, rfl⟩ := hcut
                        clear hstop
                        obtain ⟨k6, hk6⟩ : ∃ q, (i + 63) / 64 = q := ⟨_, rfl⟩
                        have T6 : ((i : Int) + 63).tdiv 64 = (k6 : Int) := by rw [Int.tdiv_eq_ediv_of_nonneg (by omega)]; omega
                        obtain ⟨bi, hbi⟩ : ∃ q, (b + 2) * i = q := ⟨_, rfl⟩
                        have hbil : bi ≤ 47 * 3000 := by rw [← hbi]; exact Nat.mul_le_mul (by omega) hn3
                        have BI : ((b : Int) + 2) * (i : Int) = (bi : Int) := by rw [← hbi]; simp
                        have hz := HSZ.out
                        have hfb := FBH.out
                        rw [hbi] at hfb
                        have hsamp : sampB i = 4 * k6 := by unfold sampB; rw [hk6]
                        have hk6l : k6 ≤ 48 := by omega
                        obtain ⟨lb, hlb⟩ : ∃ q, lowB i (uL L) = q := ⟨_, rfl⟩
                        obtain ⟨hB, hhB⟩ : ∃ q, highB i (uL L) = q := ⟨_, rfl⟩
                        rw [hlb, hhB] at hfb
                        rw [hlb, hhB, hsamp] at hz
                        obtain ⟨z, hzz⟩ : ∃ q, s.size = q := ⟨_, rfl⟩
                        rw [hzz] at hz
                        have hz2 : 8 * ((z : Int) - 12 - 4 * (k6 : Int)) ≤ (bi : Int) + 16 := by omega
                        have hzl : z ≤ 100000 := by omega
                        have hz12 : 12 + 4 * k6 ≤ z := by omega
                        have HZZ := Lib.hid hzz
                        clear hz hfb hsamp hlb hhB hk6 hbi HSZ
                        go_wp2_with fail
                        refine (efT.awake_any _).mono ?_
                        rintro e w8 ⟨rfl, k8⟩
                        have KE := below_next K2.out (below_next hb k8)
                        clear HZZ
                        go_wp2_with fail
                        go_ret
                        exact ⟨rfl, KE⟩
end Go.Proofs.Ythaicpbdlhkkkaa.ef
