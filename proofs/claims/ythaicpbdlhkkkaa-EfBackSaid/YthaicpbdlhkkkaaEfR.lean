/- ef: Build. -/
import Derived.Deep.CutRange
import Derived.Test.YthaicpbdlhkkkaaEfQ
namespace Go.Proofs.Ythaicpbdlhkkkaa.ef
open Go.RowKit Go.Proofs.Ythaicpbdlhkkkaa.own Go.Proofs.Ythaicpbdlhkkkaa.bit

def BuildPost (L : List Nat) (w : World) (e : Ending) (w' : World) : Prop :=
  Below w.heap.size w w' ∧ ((mayS L ∧ e = .returned (.tuple #[.string (txt (build L)), .int .i64 0])) ∨ (¬ mayS L ∧ e = .returned (.tuple #[.string ByteArray.empty, .int .i64 1])))
theorem lo_next (wd : Nat) (L : List Nat) (k : Nat) : lo wd L (k + 1) = if (lo wd L k).length + wd ≤ 134217728 then lo wd L k ++ ofN wd (L.getD k 0 % 2 ^ wd) else lo wd L k := by
  rw [lo, ofN_mod]
theorem RU.cell {w : World} {a : Option Addr} {n cap : Nat} {L : List Nat} (h : RU w (.slice a n cap) L) (k : Nat) (hk : k < L.length) : ∃ g, a = some ⟨g, 0, none⟩ ∧ w.cell? ⟨g, k, none⟩ = some (.int .u64 ((L.getD k 0 : Nat) : Int)) := by
  obtain ⟨a', cap', e, _, hc⟩ := h
  obtain ⟨g, hg, hcell⟩ := hc k hk
  injection e with e1 _ _
  exact ⟨g, e1.trans hg, by rw [getD_at L k hk]; exact hcell⟩
theorem zeros_more (A : Bits) (m d : Nat) : A ++ List.replicate m false ++ List.replicate d false = A ++ List.replicate (m + d) false := by
  rw [List.append_assoc, List.replicate_append_replicate]

set_option maxRecDepth 100000 in
set_option maxHeartbeats 6400000 in
theorem build_any (w : World) (v : Value) (L : List Nat) (h : RU w v L) (hl : L.length ≤ 16777216) : Calls Try.prog 36 #[v] w (BuildPost L w) := by
  have MA := Lib.hid (may_any w v L h)
  have HRU := Lib.hid h
  obtain ⟨a0, cap, rfl, hcap, -⟩ := h
  obtain ⟨n, hn⟩ : ∃ n, L.length = n := ⟨_, rfl⟩
  have HN := Lib.hid hn
  rw [hn] at hl hcap MA HRU ⊢
  clear hn
  unfold MayPost at MA
  unfold BuildPost
  go_enter Try.func36, Try.ntmps36
  go_wp2_with fail
  refine MA.out.mono ?_
  rintro e w1 ⟨k1, b, rfl, hb⟩
  cases b with
  | false =>
    have NO : Hid (¬ mayS L) := Lib.hid (fun h => by have := hb.2 h; cases this)
    go_wp2_with fail
    go_ret2
    exact ⟨k1, .inr ⟨NO.out, rfl⟩⟩
  | true =>
    have hm := hb.1 rfl
    have HM := Lib.hid hm
    have HR1 := Lib.hid (HRU.out.below k1)
    clear hb MA HRU
    have hun : n = 0 ↔ uL L = 0 := by
      have := HN.out
      unfold uL
      by_cases h0 : n = 0
      · simp [this, h0]
      · rw [if_neg (by omega)]; omega
    have hul : uL L ≤ 281474976710655 := by
      have h1 := HN.out
      unfold uL
      split
      · omega
      · have := (hm.2 (L.length - 1) (by omega)).1
        unfold most at this
        omega
    have FO := Lib.hid (fun W => formed_both n (uL L) hl (by omega) hun W)
    unfold formV at FO
    have hwl := wid_le n (uL L) (by omega)
    have hwL : Hid (wL L = wid n (uL L)) := Lib.hid (by unfold wL; rw [HN.out])
    have hh := hib_lt n (uL L) hl
    obtain ⟨u, hu⟩ : ∃ u, uL L = u := ⟨_, rfl⟩
    have HU := Lib.hid hu
    have PL := Lib.hid (fun k hk => place_lt hm k hk)
    have HHI := Lib.hid (fun k hk => hi_le hm (wL L) k hk)
    have HHL := Lib.hid (fun k hk => hi_length hm (wL L) k hk)
    rw [HN.out, hwL.out] at PL
    rw [HN.out, hwL.out] at HHI HHL
    have XS := Lib.hid (fun k hk => (hm.2 k hk).1)
    rw [HN.out] at XS
    rw [hu] at FO hul hwl hh PL HHI HHL hun
    have ULG : Hid (0 < n → L.getD (n - 1) 0 + 1 = u) := Lib.hid (fun h0 => by rw [← hu, uL_get (by rw [HN.out]; exact h0), HN.out])
    have BE : Hid (build L = packN (ofN 32 n ++ ofN 64 u) ++ packN (lo (wid n u) L n) ++ packN (hi (wid n u) L n) ++ packN (sm (wid n u) L n)) := Lib.hid (by
      unfold build
      rw [hwL.out, HN.out, hu])
    generalize hib n u = hbb at *
    generalize wid n u = wd at *
    clear hu hm hwL
    go_upto_if 24 with fail
    go_cut [4] from 24 to 31 (fun s4 wc => s4 = .int .u64 (u : Int) ∧ w1 = wc)
    case first =>
      by_cases h0 : n = 0
      · have hu0 := hun.1 h0
        have hn0 : ¬ (0 : Int) < (n : Int) := by omega
        have hn0n : ¬ 0 < n := by omega
        have HU0 := Lib.hid hu0
        clear hun hu0 h0
        go_wp2_with fail
        go_meet
        case rel => exact ⟨by rw [HU0.out]; rfl, rfl⟩
      · have hn0 : (0 : Int) < (n : Int) := by omega
        obtain ⟨g, rfl, hcell⟩ := HR1.out.cell (n - 1) (by rw [HN.out]; omega)
        obtain ⟨x, hx⟩ : ∃ x, L.getD (n - 1) 0 = x := ⟨_, rfl⟩
        rw [hx] at hcell
        have hxu : x + 1 = u := by rw [← hx]; exact ULG.out (by omega)
        have WN : IntKind.i64.wrap ((n : Int) - 1) = ((n - 1 : Nat) : Int) := by rw [IntWalk.i64_in _ (by omega)]; omega
        have WX : IntKind.u64.wrap ((x : Int) + 1) = (u : Int) := by rw [wraps_u64_64 _ (by omega) (by omega)]; omega
        have hnn : ((n - 1 : Nat) : Int) < (n : Int) := by omega
        obtain ⟨n1, hn1⟩ : ∃ m, n - 1 = m := ⟨_, rfl⟩
        rw [hn1] at WN hnn hcell
        have XU : (x : Int) + 1 = (u : Int) := by omega
        have N1 : (n : Int) - 1 = (n1 : Int) := by omega
        clear hx hxu hn1 hun
        go_wp2_with fail
        go_meet
        case rel => exact ⟨rfl, rfl⟩
    case rest =>
      obtain ⟨rfl, rfl⟩ := hcut
      clear hun
      go_wp2_with fail
      refine (FO.out _).mono ?_
      rintro e w2 ⟨rfl, k2⟩
      have K2 := Lib.hid (below_next k1 k2)
      have HR2 := Lib.hid (HR1.out.below k2)
      clear k2 k1 HR1 FO
      go_upto_region 7 with fail
      have F0 := FS.start w2 n u wd hbb
      have ka : Below w2.heap.size w2 (w2.alloc (.cells #[.int .i64 (n : Int), .int .u64 (u : Int), .int .i64 (wd : Int), .int .i64 (hbb : Int)] 98)) := (Below.refl _ _).alloc (Nat.le_refl _) _
      generalize hw3 : w2.alloc _ = w3 at F0 ka ⊢
      clear hw3
      have K3 := Lib.hid (below_next K2.out ka)
      have HR3 := Lib.hid (HR2.out.below ka)
      have MK := Lib.hid (fun W (k : Below w3.heap.size w3 W) => (F0.next k).mk)
      clear F0 ka HR2 K2
      have B0 := BS.start w3
      go_wp2_with fail
      refine (bs_new w3 _ [] (by simp) B0).mono ?_
      rintro e w4 ⟨lb, rfl, B1⟩
      clear B0
      go_wp2_with fail
      refine (bs_new w3 _ _ (by simp) B1).mono ?_
      rintro e w5 ⟨hb, rfl, B2⟩
      clear B1
      go_wp2_with fail
      refine (bs_new w3 _ _ (by simp) B2).mono ?_
      rintro e w6 ⟨rb, rfl, B3⟩
      clear B2
      have B3 : BS w3 [(lb, lo wd L 0), (hb, hi wd L 0), (rb, sm wd L 0)] w6 := B3
      go_wp2_with fail
      go_loopw [41] (fun iv wr => ∃ k : Nat, k ≤ n ∧ iv = .int .i64 (k : Int) ∧ BS w3 [(lb, lo wd L k), (hb, hi wd L k), (rb, sm wd L k)] wr)
        (fun iv _ => n - (intOf iv).toNat)
      case atStart => exact ⟨0, Nat.zero_le _, rfl, B3⟩
      case round =>
        obtain ⟨k, hk, rfl, hbs⟩ := hrel
        by_cases hlt : k < n
        · have hkL : k < L.length := by rw [HN.out]; exact hlt
          obtain ⟨g, rfl, hcell⟩ := HR3.out.cell k hkL
          have hcell := cell_keep hbs.below hcell
          obtain ⟨x, hx⟩ : ∃ x, L.getD k 0 = x := ⟨_, rfl⟩
          rw [hx] at hcell
          have hxm : x ≤ 281474976710654 := by have := XS.out k hlt; rw [hx] at this; exact this
          have hpl := PL.out k hlt
          have hhi := HHI.out k hlt
          have LN := Lib.hid (lo_next wd L k)
          have HNX : Hid (hi wd L (k + 1) = hi wd L k ++ List.replicate (x / 2 ^ wd + k - (hi wd L k).length) false ++ [true]) := Lib.hid (by rw [hi, hx])
          have SN : Hid (sm wd L (k + 1) = if k % 64 = 0 then sm wd L k ++ ofN 32 (x / 2 ^ wd + k) else sm wd L k) := Lib.hid (by rw [sm, hx])
          have SL := Lib.hid (sm_length wd L k)
          rw [hx] at hpl hhi LN
          obtain ⟨y, hy⟩ : ∃ y, x % 2 ^ wd = y := ⟨_, rfl⟩
          have hyl : y < 2 ^ wd := by rw [← hy]; exact Nat.mod_lt _ (Nat.pow_pos (by decide))
          have AN := and64 x wd (by omega) (by omega)
          rw [hy] at AN LN
          obtain ⟨q, hq⟩ : ∃ q, x / 2 ^ wd = q := ⟨_, rfl⟩
          have QI : (x : Int) / 2 ^ wd = (q : Int) := by rw [← hq]; simp
          rw [hq] at hpl hhi HNX SN
          have HX := Lib.hid hx
          have HY := Lib.hid hy
          have HQ := Lib.hid hq
          have hpw : (2 : Nat) ^ wd ≤ 140737488355328 := by
            calc 2 ^ wd ≤ 2 ^ 47 := Nat.pow_le_pow_right (by decide) hwl
              _ = 140737488355328 := by decide
          have hpw1 : 0 < (2 : Nat) ^ wd := Nat.pow_pos (by decide)
          obtain ⟨pw, hpe⟩ : ∃ pw, 2 ^ wd = pw := ⟨_, rfl⟩
          rw [hpe] at hpw hpw1
          have PWI : (2 : Int) ^ wd = (pw : Int) := by rw [← hpe]; simp
          have W1 : IntKind.u64.wrap (pw : Int) = (pw : Int) := wraps_u64_64 _ (by omega) (by omega)
          have W2 : IntKind.u64.wrap ((pw : Int) - 1) = (pw : Int) - 1 := wraps_u64_64 _ (by omega) (by omega)
          have AN2 : bits .and .u64 (x : Int) ((pw : Int) - 1) = (y : Int) := by rw [← PWI]; exact AN
          have HPE := Lib.hid hpe
          have QIH := Lib.hid QI
          have hql : q < 50331648 := by omega
          clear hx hy hq AN hpe QI
          have P1 : Hid (∀ W, BS w3 [(lb, lo wd L k), (hb, hi wd L k), (rb, sm wd L k)] W → Calls Try.prog 65 #[.pointer (some ⟨lb, 0, none⟩), .int .u64 (y : Int), .int .i64 (wd : Int)] W fun e w' => (∃ k : Int, e = .returned (.int .i64 k)) ∧ BS w3 [(lb, lo wd L (k + 1)), (hb, hi wd L k), (rb, sm wd L k)] w') := Lib.hid (fun W h => by
            rw [LN.out]
            exact bs_put w3 W _ (by simp) 0 lb (lo wd L k) rfl y wd hyl (by omega) h)
          have DR : Hid (∀ W ws, BS w3 ws W → ws.length ≤ 40 → BS w3 ws W.drew) := Lib.hid (fun W ws h hl => h.next hl (Below.drew (Below.refl _ _)))
          go_upto_region 11 with fail
          obtain ⟨f0, f1, f2, f3, -⟩ := MK.out _ hbs.below
          clear f0 f1 f3
          go_region_held3 (fun w' => w'.cell? ⟨w2.heap.size, 2, none⟩ = some (.int .i64 (wd : Int)))
            (first | assumption | exact f2)
            (first
              | (go_at_call 65; refine (P1.out _ (DR.out _ _ hbs (by simp))).mono ?_; rintro e w7 ⟨⟨e7, rfl⟩, b7⟩; obtain ⟨_, _, f7, _, -⟩ := MK.out _ b7.below))
          clear f2 P1 hcell hbs W1 W2 AN2 PWI
          have QI := QIH.out
          have Q1 : IntKind.i64.wrap ((q : Int) + (k : Int)) = ((q + k : Nat) : Int) := by rw [IntWalk.i64_in _ (by omega)]; omega
          obtain ⟨p, hp⟩ : ∃ p, q + k = p := ⟨_, rfl⟩
          rw [hp] at Q1 HNX SN hhi hpl
          have QK : (q : Int) + (k : Int) = (p : Int) := by omega
          have HP := Lib.hid hp
          clear hp
          obtain ⟨H0, hH0⟩ : ∃ H, hi wd L k = H := ⟨_, rfl⟩
          have B7 : BS w3 [(lb, lo wd L (k + 1)), (hb, H0 ++ List.replicate 0 false), (rb, sm wd L k)] w7 := by rw [← hH0]; simpa using b7
          rw [hH0] at HNX hhi
          clear b7 hH0
          obtain ⟨h0l, hh0⟩ : ∃ m, H0.length = m := ⟨_, rfl⟩
          have LE0 : Hid (∀ m, (H0 ++ List.replicate m false).length = h0l + m) := Lib.hid (fun m => by rw [List.length_append, List.length_replicate, hh0])
          rw [hh0] at hhi HNX
          clear hh0
          have LN0 := bs_len w3 w7 _ 1 hb _ rfl B7
          rw [LE0.out 0, Nat.add_zero] at LN0
          have LN0 := Lib.hid LN0
          go_wp2_with fail
          refine LN0.out.mono ?_
          rintro e w8 ⟨rfl, rfl⟩
          have B8 := B7
          clear B7 f7
          have RI : (p : Int) - (h0l : Int) = ((p - h0l : Nat) : Int) := by omega
          clear QI Q1 QK
          have LENH := Lib.hid (fun m W h => bs_len w3 W [(lb, lo wd L (k + 1)), (hb, H0 ++ List.replicate m false), (rb, sm wd L k)] 1 hb _ rfl h)
          go_wp2_with fail
          go_loopw [12] (fun rv wr => ∃ m : Nat, h0l + m ≤ p ∧ rv = .int .i64 ((p - (h0l + m) : Nat) : Int) ∧ BS w3 [(lb, lo wd L (k + 1)), (hb, H0 ++ List.replicate m false), (rb, sm wd L k)] wr)
            (fun rv _ => (intOf rv).toNat)
          case atStart => exact ⟨0, hhi, by go_num, B8⟩
          case round =>
            obtain ⟨m, hmp, rfl, hbs⟩ := hrel
            obtain ⟨r, hr⟩ : ∃ r, p - (h0l + m) = r := ⟨_, rfl⟩
            rw [hr]
            by_cases hr0 : r = 0
            · have hm2 : m = p - h0l := by omega
              have P3 : Hid (Calls Try.prog 65 #[.pointer (some ⟨hb, 0, none⟩), .int .u64 1, .int .i64 1] wr fun e w' => (∃ k : Int, e = .returned (.int .i64 k)) ∧ BS w3 [(lb, lo wd L (k + 1)), (hb, hi wd L (k + 1)), (rb, sm wd L k)] w') := Lib.hid (by
                have h := bs_put w3 wr _ (by simp) 1 hb _ rfl 1 1 (by decide) (by decide) hbs
                rw [if_pos (by rw [LE0.out]; omega)] at h
                rw [HNX.out, ← hm2]
                exact h)
              have hr0i : ¬ (0 : Int) < (r : Int) := by omega
              have hr0n : ¬ 0 < r := by omega
              have H3 := Lib.hid hm2
              clear hm2 hr hr0
              go_wp2_with fail
              refine P3.out.mono ?_
              rintro e w9 ⟨⟨e9, rfl⟩, B9⟩
              by_cases h64 : k % 64 = 0
              · have KT : (k : Int).tmod 64 = 0 := by rw [Int.tmod_eq_emod_of_nonneg (by omega)]; omega
                have P4 : Hid (Calls Try.prog 65 #[.pointer (some ⟨rb, 0, none⟩), .int .u64 (p : Int), .int .i64 32] w9 fun e w' => (∃ k : Int, e = .returned (.int .i64 k)) ∧ BS w3 [(lb, lo wd L (k + 1)), (hb, hi wd L (k + 1)), (rb, sm wd L (k + 1))] w') := Lib.hid (by
                  have h := bs_put w3 w9 _ (by simp) 2 rb _ rfl p 32 (by omega) (by decide) B9
                  rw [if_pos (by rw [SL.out]; omega)] at h
                  rw [SN.out, if_pos h64]
                  exact h)
                have WP : IntKind.u64.wrap (p : Int) = (p : Int) := wraps_u64_64 _ (by omega) (by omega)
                clear h64 RI
                go_wp2_with fail
                refine P4.out.mono ?_
                rintro e w10 ⟨⟨e10, rfl⟩, B10⟩
                go_wp2_with fail
                go_roundw
                case rel => exact ⟨k + 1, by omega, by go_num, B10⟩
                case measure => simp [intOf]; try omega
              · obtain ⟨k6, hk6⟩ : ∃ m, k % 64 = m := ⟨_, rfl⟩
                have KT : (k : Int).tmod 64 = (k6 : Int) := by rw [Int.tmod_eq_emod_of_nonneg (by omega)]; omega
                have K6 : ((k6 : Int) == 0) = false := beq_eq_false_iff_ne.2 (by omega)
                have B10 : BS w3 [(lb, lo wd L (k + 1)), (hb, hi wd L (k + 1)), (rb, sm wd L (k + 1))] w9 := by rw [SN.out, if_neg h64]; exact B9
                clear h64 RI hk6
                go_wp2_with fail
                go_roundw
                case rel => exact ⟨k + 1, by omega, by go_num, B10⟩
                case measure => simp [intOf]; try omega
            · obtain ⟨d, hd⟩ : ∃ d, min r 64 = d := ⟨_, rfl⟩
              have MI : min (r : Int) 64 = (d : Int) := by omega
              have hdr : d ≤ r := by omega
              have hd64 : d ≤ 64 := by omega
              have hd0 : 0 < d := by omega
              have P2 : Hid (∀ W, BS w3 [(lb, lo wd L (k + 1)), (hb, H0 ++ List.replicate m false), (rb, sm wd L k)] W → Calls Try.prog 65 #[.pointer (some ⟨hb, 0, none⟩), .int .u64 0, .int .i64 (d : Int)] W fun e w' => (∃ k : Int, e = .returned (.int .i64 k)) ∧ BS w3 [(lb, lo wd L (k + 1)), (hb, H0 ++ List.replicate (m + d) false), (rb, sm wd L k)] w') := Lib.hid (fun W hW => by
                have h := bs_put w3 W _ (by simp) 1 hb _ rfl 0 d (Nat.pow_pos (by decide)) hd64 hW
                rw [if_pos (by rw [LE0.out]; omega), ofN_zero, zeros_more] at h
                exact h)
              have hr0i : (0 : Int) < (r : Int) := by omega
              have hr0n : 0 < r := by omega
              have NXR : Hid ((p : Int) - ((h0l + (m + d) : Nat) : Int) = ((p - (h0l + (m + d)) : Nat) : Int)) := Lib.hid (by omega)
              have HR := Lib.hid hr
              clear hd hr
              go_wp2_with fail
              refine (P2.out _ hbs).mono ?_
              rintro e w9 ⟨⟨e9, rfl⟩, B9⟩
              have LN9 := LENH.out _ _ B9
              rw [LE0.out] at LN9
              have LN9 := Lib.hid LN9
              go_wp2_with fail
              refine LN9.out.mono ?_
              rintro e w10 ⟨rfl, rfl⟩
              go_wp2_with fail
              go_roundw
              case rel => exact ⟨m + d, by have := HR.out; omega, by have := HR.out; congr 1; try omega, B9⟩
              case measure => have := HR.out; simp [intOf]; try omega
        · obtain rfl : k = n := by omega
          have hbs0 := hbs
          obtain ⟨f0, f1, f2, f3, -⟩ := MK.out _ hbs.below
          clear f1 f2 f3
          go_wp2_with fail
          refine (bs_new w3 wr _ (by simp) hbs0).mono ?_
          rintro e w4 ⟨hd, rfl, B4⟩
          have B4 : BS w3 [(lb, lo wd L k), (hb, hi wd L k), (rb, sm wd L k), (hd, [])] w4 := B4
          obtain ⟨f0, f1, f2, f3, -⟩ := MK.out _ B4.below
          clear f1 f2 f3
          have WK : IntKind.u64.wrap (k : Int) = (k : Int) := wraps_u64_64 _ (by omega) (by omega)
          have P5 : Hid (Calls Try.prog 65 #[.pointer (some ⟨hd, 0, none⟩), .int .u64 (k : Int), .int .i64 32] w4 fun e w' => (∃ k : Int, e = .returned (.int .i64 k)) ∧ BS w3 [(lb, lo wd L k), (hb, hi wd L k), (rb, sm wd L k), (hd, ofN 32 k)] w') := Lib.hid (by
            have h := bs_put w3 w4 _ (by simp) 3 hd _ rfl k 32 (by omega) (by decide) B4
            rw [if_pos (by simp)] at h
            exact h)
          go_wp2_with fail
          refine P5.out.mono ?_
          rintro e w5 ⟨⟨e5, rfl⟩, B5⟩
          have P6 : Hid (Calls Try.prog 65 #[.pointer (some ⟨hd, 0, none⟩), .int .u64 (u : Int), .int .i64 64] w5 fun e w' => (∃ k : Int, e = .returned (.int .i64 k)) ∧ BS w3 [(lb, lo wd L k), (hb, hi wd L k), (rb, sm wd L k), (hd, ofN 32 k ++ ofN 64 u)] w') := Lib.hid (by
            have h := bs_put w3 w5 _ (by simp) 3 hd _ rfl u 64 (by omega) (by decide) B5
            rw [if_pos (by rw [ofN_length]; omega)] at h
            exact h)
          clear B4 f0
          go_wp2_with fail
          refine P6.out.mono ?_
          rintro e w6 ⟨⟨e6, rfl⟩, B6⟩
          clear B5 P5 P6
          go_wp2_with fail
          have r7 := heap_alloc_new w6 (.cells #[.pointer (some ⟨hd, 0, none⟩), .pointer (some ⟨lb, 0, none⟩), .pointer (some ⟨hb, 0, none⟩), .pointer (some ⟨rb, 0, none⟩)] 110)
          have B7 := B6.next (by simp) ((Below.refl w6.heap.size w6).alloc (Nat.le_refl _) (.cells #[.pointer (some ⟨hd, 0, none⟩), .pointer (some ⟨lb, 0, none⟩), .pointer (some ⟨hb, 0, none⟩), .pointer (some ⟨rb, 0, none⟩)] 110))
          obtain ⟨sb, hsb⟩ : ∃ b, w6.heap.size = b := ⟨_, rfl⟩
          rw [hsb] at r7 ⊢
          clear hsb B6
          generalize World.alloc w6 _ = W7 at r7 B7 ⊢
          have c0 : W7.cell? ⟨sb, 0, none⟩ = some (.pointer (some ⟨hd, 0, none⟩)) := by rw [cell_of_row _ _ _ _ _ _ r7]; rfl
          have c1 : W7.cell? ⟨sb, 1, none⟩ = some (.pointer (some ⟨lb, 0, none⟩)) := by rw [cell_of_row _ _ _ _ _ _ r7]; rfl
          have c2 : W7.cell? ⟨sb, 2, none⟩ = some (.pointer (some ⟨hb, 0, none⟩)) := by rw [cell_of_row _ _ _ _ _ _ r7]; rfl
          have c3 : W7.cell? ⟨sb, 3, none⟩ = some (.pointer (some ⟨rb, 0, none⟩)) := by rw [cell_of_row _ _ _ _ _ _ r7]; rfl
          have T0 := Lib.hid (bs_text w3 W7 _ 3 hd _ rfl B7)
          have T1 := Lib.hid (bs_text w3 W7 _ 0 lb _ rfl B7)
          have T2 := Lib.hid (bs_text w3 W7 _ 1 hb _ rfl B7)
          have T3 := Lib.hid (bs_text w3 W7 _ 2 rb _ rfl B7)
          have KB := Lib.hid (below_next K3.out B7.below)
          have BL := BE.out
          have zA : (packN (ofN 32 k ++ ofN 64 u)).length ≤ 16777216 := by rw [packN_length]; have := B7.len_le (i := 3) rfl; simp only at this; omega
          have zB : (packN (lo wd L k)).length ≤ 16777216 := by rw [packN_length]; have := B7.len_le (i := 0) rfl; simp only at this; omega
          have zC : (packN (hi wd L k)).length ≤ 16777216 := by rw [packN_length]; have := B7.len_le (i := 1) rfl; simp only at this; omega
          have zD : (packN (sm wd L k)).length ≤ 16777216 := by rw [packN_length]; have := B7.len_le (i := 2) rfl; simp only at this; omega
          generalize packN (ofN 32 k ++ ofN 64 u) = A at T0 BL zA
          generalize packN (lo wd L k) = B at T1 BL zB
          generalize packN (hi wd L k) = C at T2 BL zC
          generalize packN (sm wd L k) = D at T3 BL zD
          obtain ⟨S0, hS0⟩ : ∃ S, txt [] = S := ⟨_, rfl⟩
          obtain ⟨SA, hSA⟩ : ∃ S, txt A = S := ⟨_, rfl⟩
          obtain ⟨SB, hSB⟩ : ∃ S, txt B = S := ⟨_, rfl⟩
          obtain ⟨SC, hSC⟩ : ∃ S, txt C = S := ⟨_, rfl⟩
          obtain ⟨SD, hSD⟩ : ∃ S, txt D = S := ⟨_, rfl⟩
          obtain ⟨S1, hS1⟩ : ∃ S, txt ([] ++ A) = S := ⟨_, rfl⟩
          obtain ⟨S2, hS2⟩ : ∃ S, txt ([] ++ A ++ B) = S := ⟨_, rfl⟩
          obtain ⟨S3, hS3⟩ : ∃ S, txt ([] ++ A ++ B ++ C) = S := ⟨_, rfl⟩
          obtain ⟨S4, hS4⟩ : ∃ S, txt ([] ++ A ++ B ++ C ++ D) = S := ⟨_, rfl⟩
          have AP1 : Hid (S0 ++ SA = S1) := Lib.hid (by rw [← hS0, ← hSA, ← hS1, txt_append])
          have AP2 : Hid (S1 ++ SB = S2) := Lib.hid (by rw [← hS1, ← hSB, ← hS2, txt_append])
          have AP3 : Hid (S2 ++ SC = S3) := Lib.hid (by rw [← hS2, ← hSC, ← hS3, txt_append])
          have AP4 : Hid (S3 ++ SD = S4) := Lib.hid (by rw [← hS3, ← hSD, ← hS4, txt_append])
          have y1 : S0.size + SA.size ≤ 9223372036854775807 := by rw [← hS0, ← hSA, txt_size, txt_size]; simp; omega
          have y2 : S1.size + SB.size ≤ 9223372036854775807 := by rw [← hS1, ← hSB, txt_size, txt_size]; simp; omega
          have y3 : S2.size + SC.size ≤ 9223372036854775807 := by rw [← hS2, ← hSC, txt_size, txt_size]; simp; omega
          have y4 : S3.size + SD.size ≤ 9223372036854775807 := by rw [← hS3, ← hSD, txt_size, txt_size]; simp; omega
          have RES : Hid (S4 = txt (build L)) := Lib.hid (by rw [← hS4, BL]; simp)
          have E0 : Hid (S0 = ⟨#[]⟩) := Lib.hid (by rw [← hS0]; rfl)
          rw [hSA] at T0
          rw [hSB] at T1
          rw [hSC] at T2
          rw [hSD] at T3
          clear hS0 hSA hSB hSC hSD hS1 hS2 hS3 hS4 zA zB zC zD BL
          clear r7 B7 hbs hbs0 B3
          go_loopw [14, 102] (fun sv iv wr => wr = W7 ∧ ((iv = .int .i64 0 ∧ sv = .string S0) ∨ (iv = .int .i64 1 ∧ sv = .string S1) ∨ (iv = .int .i64 2 ∧ sv = .string S2) ∨ (iv = .int .i64 3 ∧ sv = .string S3) ∨ (iv = .int .i64 4 ∧ sv = .string S4)))
            (fun _ iv _ => 4 - (intOf iv).toNat)
          case atStart => exact ⟨rfl, .inl ⟨rfl, by rw [E0.out]⟩⟩
          case round =>
            obtain ⟨rfl, h⟩ := hrel
            rcases h with ⟨rfl, rfl⟩ | ⟨rfl, rfl⟩ | ⟨rfl, rfl⟩ | ⟨rfl, rfl⟩ | ⟨rfl, rfl⟩
            · go_wp2_with fail
              refine T0.out.mono ?_
              rintro e w8 ⟨rfl, rfl⟩
              go_wp2_with fail
              rw [AP1.out]
              go_roundw
              case rel => exact ⟨by first | rfl | trivial, .inr (.inl ⟨by go_num, rfl⟩)⟩
              case measure => simp [intOf]; try omega
            · go_wp2_with fail
              refine T1.out.mono ?_
              rintro e w8 ⟨rfl, rfl⟩
              go_wp2_with fail
              rw [AP2.out]
              go_roundw
              case rel => exact ⟨by first | rfl | trivial, .inr (.inr (.inl ⟨by go_num, rfl⟩))⟩
              case measure => simp [intOf]; try omega
            · go_wp2_with fail
              refine T2.out.mono ?_
              rintro e w8 ⟨rfl, rfl⟩
              go_wp2_with fail
              rw [AP3.out]
              go_roundw
              case rel => exact ⟨by first | rfl | trivial, .inr (.inr (.inr (.inl ⟨by go_num, rfl⟩)))⟩
              case measure => simp [intOf]; try omega
            · go_wp2_with fail
              refine T3.out.mono ?_
              rintro e w8 ⟨rfl, rfl⟩
              go_wp2_with fail
              rw [AP4.out]
              go_roundw
              case rel => exact ⟨by first | rfl | trivial, .inr (.inr (.inr (.inr ⟨by go_num, rfl⟩)))⟩
              case measure => simp [intOf]; try omega
            · go_wp2_with fail
              go_ret2
              exact ⟨KB.out, .inl ⟨HM.out, by rw [← RES.out]; rfl⟩⟩
end Go.Proofs.Ythaicpbdlhkkkaa.ef
