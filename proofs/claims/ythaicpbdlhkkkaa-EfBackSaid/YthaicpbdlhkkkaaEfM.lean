/- The document's Get. -/
import Derived.Test.YthaicpbdlhkkkaaEfJ
import Derived.Test.YthaicpbdlhkkkaaEfL
import Derived.Test.YthaicpbdlhkkkaaEfH3
namespace Go.Proofs.Ythaicpbdlhkkkaa.ef
open Go.RowKit Go.Proofs.Ythaicpbdlhkkkaa.own Go.Proofs.Ythaicpbdlhkkkaa.bit

theorem dget_out (s : ByteArray) (hs : s.size ≤ maxLen) (ho : opens (nats s)) (i : Int) (w : World) (hi : ¬ (0 ≤ i ∧ i < (nS (nats s) : Int))) :
    Calls Try.prog 31 #[.string s, .int .i64 i] w fun e w' => e = .returned (.tuple #[.int .u64 0, .int .i64 1]) ∧ Below w.heap.size w w' := by
  have OP := Lib.hid (dopen_any s w hs)
  unfold DOpenPost formV at OP
  have HO := Lib.hid ho
  clear ho
  generalize hib (nS (nats s)) (uS (nats s)) = hbb at *
  generalize wid (nS (nats s)) (uS (nats s)) = wd at *
  generalize nS (nats s) = n at *
  generalize uS (nats s) = u at *
  by_cases h0 : i < 0
  · go_enter Try.func31, Try.ntmps31
    go_wp2_with fail
    refine OP.out.mono ?_
    rintro e w1 ⟨k1, ⟨-, rfl⟩ | ⟨hno, -⟩⟩
    · go_wp2_with fail
      go_ret2
      exact ⟨rfl, k1.alloc k1.size _⟩
    · exact absurd HO.out hno
  · have h1 : (n : Int) ≤ i := by omega
    clear hi
    go_enter Try.func31, Try.ntmps31
    go_wp2_with fail
    refine OP.out.mono ?_
    rintro e w1 ⟨k1, ⟨-, rfl⟩ | ⟨hno, -⟩⟩
    · go_wp2_with fail
      go_ret2
      exact ⟨rfl, k1.alloc k1.size _⟩
    · exact absurd HO.out hno

theorem number_part (w : World) (base cap m x0 wd : Nat) (al : Option Addr) (Lo : Bits) (hm : Lo.length = m) (hwd : wd ≤ 64) (hb : x0 + wd ≤ m) (ho : w.ownsRow base 4 1 (.slice al m cap) m (bls Lo)) (W : World) (hW : Below w.heap.size w W) :
    Calls Try.prog 59 #[.slice (if cap = x0 then al else Option.map (fun x => x.add x0) al) wd (cap - x0)] W fun e w' => e = .returned (.int .u64 ((num ((Lo.drop x0).take wd) : Nat) : Int)) ∧ Below W.heap.size W w' := by
  have hl : ((Lo.drop x0).take wd).length = wd := by rw [List.length_take, List.length_drop]; omega
  rcases ho.2 with ⟨hv, h0⟩ | ⟨g, c, cur, hv, _, hg, hn, hc, hcs, _⟩
  · injection hv with ha _ _
    subst ha
    have hw0 : wd = 0 := by omega
    refine Number_any W 0 (cap - x0) none _ (by rw [hl]; exact hwd) _ ?_ (fun j hj => by rw [hl] at hj; omega)
    rw [hl]
    split <;> rfl
  · injection hv with ha _ he
    subst ha
    by_cases hx : cap = x0
    · have hw0 : wd = 0 := by omega
      refine Number_any W 0 (cap - x0) (some g) _ (by rw [hl]; exact hwd) _ ?_ (fun j hj => by rw [hl] at hj; omega)
      rw [hl, if_pos hx]
      rfl
    · refine Number_any W x0 (cap - x0) (some g) _ (by rw [hl]; exact hwd) _ ?_ (fun j hj => ⟨g, rfl, ?_⟩)
      · rw [hl, if_neg hx]
        simp [Addr.add]
        try omega
      · rw [hl] at hj
        rw [World.cell?_of_block (w := w) (hW.block g (lt_of_block hg)), ho.cellAt (x0 + j) (by omega)]
        have hlt : x0 + j < Lo.length := by omega
        simp [bls, hlt]
theorem DS.cells {w w4 W : World} {n u wd hb : Nat} (h : DS w n u wd hb w4) (k : Below w4.heap.size w4 W) :
    W.cell? ⟨w.heap.size, 0, none⟩ = some (.int .i64 (n : Int)) ∧ W.cell? ⟨w.heap.size, 1, none⟩ = some (.int .u64 (u : Int)) ∧ W.cell? ⟨w.heap.size, 2, none⟩ = some (.int .i64 (wd : Int)) ∧ W.cell? ⟨w.heap.size, 3, none⟩ = some (.int .i64 (hb : Int)) ∧ Below w4.heap.size w4 W := by
  obtain ⟨a0, a1, a2, a3, -⟩ := (h.next k).mk
  exact ⟨a0, a1, a2, a3, k⟩
theorem below_of {A B C D : Prop} {w w' : World} (h : A ∧ B ∧ C ∧ D ∧ Below w.heap.size w w') : Below w.heap.size w w' := h.2.2.2.2

set_option maxRecDepth 100000 in
set_option maxHeartbeats 3200000 in
theorem dget_in (s : ByteArray) (hs : s.size ≤ maxLen) (ho : opens (nats s)) (i : Nat) (w : World) (hi : i < nS (nats s)) :
    Calls Try.prog 31 #[.string s, .int .i64 (i : Int)] w fun e w' => e = .returned (match getS (nats s) i with
      | some v => .tuple #[.int .u64 (v : Int), .int .i64 0]
      | none => .tuple #[.int .u64 0, .int .i64 4]) ∧ Below w.heap.size w w' := by
  have OP := Lib.hid (dopen_any s w hs)
  unfold DOpenPost formV at OP
  have HOP := Lib.hid ho
  have ho' := ho
  obtain ⟨ho1, ho2, ho3, ho4, ho5⟩ := ho'
  rw [nats_length] at ho1 ho5
  have hs3 : s.size ≤ 9223372036854775807 := by unfold maxLen at hs; omega
  have hwl := wid_le (nS (nats s)) (uS (nats s)) (by omega)
  have hh := hib_lt (nS (nats s)) (uS (nats s)) ho2
  have hl := lowB_lt (nS (nats s)) (uS (nats s)) ho2 (by omega)
  have LO := Lib.hid (fun W => Low_any (nS (nats s)) (uS (nats s)) ho2 (by omega) W)
  have HG := Lib.hid (fun W => High_any (nS (nats s)) (uS (nats s)) ho2 W)
  have hhB : highB (nS (nats s)) (uS (nats s)) = (hib (nS (nats s)) (uS (nats s)) + 7) / 8 := rfl
  have hlB : lowB (nS (nats s)) (uS (nats s)) = (nS (nats s) * wid (nS (nats s)) (uS (nats s)) + 7) / 8 := rfl
  obtain ⟨d, hd⟩ : ∃ k, i / 64 = k := ⟨_, rfl⟩
  have hsz : 12 + lowB (nS (nats s)) (uS (nats s)) + highB (nS (nats s)) (uS (nats s)) + 4 * d + 4 ≤ s.size := by rw [← ho5, ← hd]; unfold sizeB sampB; omega
  have hlow : loS (nats s) = unpack ((((nats s).drop 12)).take (lowB (nS (nats s)) (uS (nats s)))) := rfl
  have hhi : hiS (nats s) = (unpack (((nats s).drop (12 + lowB (nS (nats s)) (uS (nats s)))).take (highB (nS (nats s)) (uS (nats s))))).take (hib (nS (nats s)) (uS (nats s))) := rfl
  have hsp : saS (nats s) i = val (((nats s).drop (12 + lowB (nS (nats s)) (uS (nats s)) + highB (nS (nats s)) (uS (nats s)) + 4 * d)).take 4) := by rw [← hd]; rfl
  have HI := Lib.hid (hiS_length s ho)
  have GE := Lib.hid (getS_eq (nats s) i)
  have hlw := lowS_lt (nats s) i
  have hlS : lowS (nats s) i = num (((loS (nats s)).drop (i * wid (nS (nats s)) (uS (nats s)))).take (wid (nS (nats s)) (uS (nats s)))) := rfl
  have HM := Lib.hid (fun q hq => num_small (nS (nats s)) (uS (nats s)) q i (by omega) ho2 (by omega) hq)
  have hip : 0 < hib (nS (nats s)) (uS (nats s)) := by unfold hib; rw [if_neg (by omega)]; exact Nat.add_pos_right _ (by omega)
  unfold numS at GE
  unfold formV at LO HG
  generalize getS (nats s) i = G at *
  obtain ⟨r, hr⟩ : ∃ r, i % 64 = r := ⟨_, rfl⟩
  rw [hr] at GE
  obtain ⟨lb, hlb⟩ : ∃ k, lowB (nS (nats s)) (uS (nats s)) = k := ⟨_, rfl⟩
  obtain ⟨hB, hhb⟩ : ∃ k, highB (nS (nats s)) (uS (nats s)) = k := ⟨_, rfl⟩
  rw [hlb] at hl LO hsz hlow hhi hsp hlB
  rw [hhb] at HG hsz hhi hsp hhB
  generalize hib (nS (nats s)) (uS (nats s)) = hbb at *
  generalize wid (nS (nats s)) (uS (nats s)) = wd at *
  generalize nS (nats s) = n at *
  generalize uS (nats s) = u at *
  -- the texts that are cut
  obtain ⟨tl, htl⟩ : ∃ t, s.extract 12 (12 + lb) = t := ⟨_, rfl⟩
  obtain ⟨th, hth⟩ : ∃ t, s.extract (12 + lb) (12 + lb + hB) = t := ⟨_, rfl⟩
  obtain ⟨ts, hts⟩ : ∃ t, s.extract (12 + lb + hB + 4 * d) (12 + lb + hB + 4 * d + 4) = t := ⟨_, rfl⟩
  have zl : tl.size = lb := by rw [← htl, extract_size s _ _ (by omega) (by omega)]; omega
  have zh : th.size = hB := by rw [← hth, extract_size s _ _ (by omega) (by omega)]; omega
  have zs : ts.size = 4 := by rw [← hts, extract_size s _ _ (by omega) (by omega)]; omega
  have nl : unpack (nats tl) = loS (nats s) := by rw [hlow, ← htl, nats_extract]; congr 3; omega
  have nh : (unpack (nats th)).take hbb = hiS (nats s) := by rw [hhi, ← hth, nats_extract]; congr 4; omega
  have ns : val (nats ts) = saS (nats s) i := by rw [hsp, ← hts, nats_extract]; congr 2; omega
  have BL := Lib.hid (fun W => Bits_any tl (by omega) W)
  have BH := Lib.hid (fun W => Bits_any th (by omega) W)
  have VS := Lib.hid (fun W => value_any ts (by omega) W)
  rw [ns] at VS
  have hspl : saS (nats s) i < 4294967296 := by rw [← ns]; exact val4 _ (nats_lt ts) (by rw [nats_length]; omega)
  generalize lowS (nats s) i = lw at *
  generalize saS (nats s) i = sp at *
  unfold RowPost at BL BH
  rw [unpack_length, nats_length, zl, nl] at BL
  rw [unpack_length, nats_length, zh] at BH
  obtain ⟨z1, hz1⟩ : ∃ z, 12 + lb = z := ⟨_, rfl⟩
  obtain ⟨z2, hz2⟩ : ∃ z, z1 + hB = z := ⟨_, rfl⟩
  obtain ⟨z3, hz3⟩ : ∃ z, z2 + 4 * d = z := ⟨_, rfl⟩
  rw [hz1] at htl
  rw [hz1, hz2] at hth
  rw [hz1, hz2, hz3] at hts
  have hz12 : (z1 : Int) ≤ (z2 : Int) := by omega
  have hz12n : z1 ≤ z2 := by omega
  have hz2sn : z2 ≤ s.size := by omega
  have hz1p : (0 : Int) ≤ (z1 : Int) := by omega
  have hz2p : (0 : Int) ≤ (z2 : Int) := by omega
  have hz1s : (z1 : Int) ≤ (s.size : Int) := by omega
  have hz2s : (z2 : Int) ≤ (s.size : Int) := by omega
  have hz3s : ((z3 + 4 : Nat) : Int) ≤ (s.size : Int) := by omega
  have hz1l : z1 ≤ 110000000 := by omega
  have hz2l : z2 ≤ 110000000 := by omega
  have hz3l : z3 ≤ 120000000 := by omega
  have HZ3 := Lib.hid hz3
  have HNH := Lib.hid nh
  have HTL := Lib.hid htl
  have HTH := Lib.hid hth
  have HTS := Lib.hid hts
  have HLS := Lib.hid hlS
  have HR := Lib.hid hr
  have HLO := Lib.hid (show (loS (nats s)).length = 8 * lb by rw [← nl, unpack_length, nats_length, zl])
  generalize loS (nats s) = Lo at *
  generalize hiS (nats s) = H at *
  have hin : (i : Int) < (n : Int) := by omega
  have hdl : d ≤ 262144 := by omega
  have hbl : hB ≤ 6291457 := by omega
  have hbl2 : hbb ≤ 8 * hB := by omega
  have hbw : i * wd + wd ≤ 8 * lb := by
    have e : (i + 1) * wd = i * wd + wd := by rw [Nat.add_mul, Nat.one_mul]
    have : (i + 1) * wd ≤ n * wd := Nat.mul_le_mul_right _ hi
    omega
  have T1 : ((i : Int)).tdiv 64 = (d : Int) := by rw [Int.tdiv_eq_ediv_of_nonneg (by omega)]; omega
  have R1 : ((i : Int)).tmod 64 = (r : Int) := by rw [Int.tmod_eq_emod_of_nonneg (by omega)]; omega
  have hr64 : r < 64 := by omega
  clear ho ho1 ho3 ho4 ho5 hd hlow hhi hsp nl nh ns htl hth hts hlS hr hlb hhb hhB hlB hz3 hsz
  go_enter Try.func31, Try.ntmps31
  go_wp2_with fail
  refine OP.out.mono ?_
  rintro e w1 ⟨k1, ⟨-, rfl⟩ | ⟨hno, -⟩⟩
  rotate_left
  · exact absurd HOP.out hno
  go_upto_region 2 with fail
  have F0 := DS.start w1 n u wd hbb
  have k2 : Below w.heap.size w (w1.alloc (.cells #[.int .i64 (n : Int), .int .u64 (u : Int), .int .i64 (wd : Int), .int .i64 (hbb : Int)] 64)) := k1.alloc k1.size _
  generalize hw2 : w1.alloc _ = w2 at F0 k2 ⊢
  clear hw2
  have F0H := Lib.hid F0
  obtain ⟨f0, f1, f2, f3, -⟩ := F0.mk
  clear F0
  go_wp2_with fail
  refine (LO.out _).mono ?_
  rintro e w3 ⟨rfl, k3⟩
  have P0 : (12 : Int) + (lb : Int) = (z1 : Int) := by omega
  go_wp2_with fail
  rw [HTL.out]
  refine (BL.out _).mono ?_
  rintro e w4 ⟨vl, rfl, hol, k4⟩
  have F4 := (F0H.out.next k3).next k4
  have K4 := Lib.hid (below_next k1 F4.1)
  have MK := Lib.hid (fun W (k : Below w4.heap.size w4 W) => F4.cells k)
  have F4H := Lib.hid F4
  clear f0 f1 f2 f3 F0H F4
  go_upto_region 5 with fail
  have P1 : IntKind.i64.wrap ((12 : Int) + (lb : Int)) = (z1 : Int) := by rw [IntWalk.i64_in _ (by omega)]; exact P0
  have P2 : IntKind.i64.wrap ((z1 : Int) + (hB : Int)) = (z2 : Int) := by rw [IntWalk.i64_in _ (by omega)]; omega
  have HOL := Lib.hid hol
  have P0H := Lib.hid P0
  clear P0
  have W1 : IntKind.i64.wrap (z1 : Int) = (z1 : Int) := IntWalk.i64_in _ (by omega)
  have W2 : IntKind.i64.wrap (z2 : Int) = (z2 : Int) := IntWalk.i64_in _ (by omega)
  have KK := Below.refl w4.heap.size w4
  clear hol k4 k3 k2
  go_region_held3 (fun w' => w'.cell? ⟨w1.heap.size, 0, none⟩ = some (.int .i64 (n : Int)) ∧ w'.cell? ⟨w1.heap.size, 1, none⟩ = some (.int .u64 (u : Int)) ∧ w'.cell? ⟨w1.heap.size, 2, none⟩ = some (.int .i64 (wd : Int)) ∧ w'.cell? ⟨w1.heap.size, 3, none⟩ = some (.int .i64 (hbb : Int)) ∧ Below w4.heap.size w4 w')
    (first
      | exact MK.out _ (by assumption)
      | exact MK.out _ (Below.drew (by assumption))
      | exact MK.out _ (below_drewN (by assumption) _)
      | exact MK.out _ (below_of (by assumption))
      | exact MK.out _ (Below.drew (below_of (by assumption)))
      | exact MK.out _ (below_drewN (below_of (by assumption)) _))
    (first
      | (go_at_call 57; refine (LO.out _).mono ?_; rintro e w2 ⟨rfl, k1⟩; first | have hfs2 := below_next (by assumption) k1 | have hfs2 := below_next (below_of (by assumption)) k1 | have hfs2 := below_next (below_drewN (by assumption) _) k1 | have hfs2 := below_next (below_drewN (below_of (by assumption)) _) k1)
      | (go_at_call 58; refine (HG.out _).mono ?_; rintro e w2 ⟨rfl, k1⟩; first | have hfs2 := below_next (by assumption) k1 | have hfs2 := below_next (below_of (by assumption)) k1 | have hfs2 := below_next (below_drewN (by assumption) _) k1 | have hfs2 := below_next (below_drewN (below_of (by assumption)) _) k1)
      | (go_at_call 56; rw [HTH.out]; refine (BH.out _).mono ?_; rintro e w2 ⟨vh, rfl, hoh, k1⟩; obtain ⟨ah, caph, rfl, hcap⟩ := own_slice hoh; have HOH := Lib.hid hoh; clear hoh; have hcb : (hbb : Int) ≤ (caph : Int) := (by omega); have hcbn : hbb ≤ caph := (by omega); have hbp : (0 : Int) ≤ (hbb : Int) := (by omega); first | have hfs2 := below_next (by assumption) k1 | have hfs2 := below_next (below_of (by assumption)) k1 | have hfs2 := below_next (below_drewN (by assumption) _) k1 | have hfs2 := below_next (below_drewN (below_of (by assumption)) _) k1))
  have F6H := Lib.hid (F4H.out.next hfs2)
  have K6 := Lib.hid (below_next K4.out hfs2)
  have HOL6 := Lib.hid (own_below HOL.out hfs2)
  have CH : Hid (∀ k (hk : k < H.length), ∃ g, ah = some ⟨g, 0, none⟩ ∧ w2.cell? ⟨g, k, none⟩ = some (.bool H[k])) := Lib.hid (by
    intro k hk
    have h1 := HOH.out
    have e8 : (unpack (nats th)).length = 8 * hB := by rw [unpack_length, nats_length, zh]
    rw [← e8] at h1
    obtain ⟨a, c, e, hc⟩ := bls_cell h1
    have hkk := hk
    rw [HI.out] at hkk
    obtain ⟨g, hg, _, hcell⟩ := hc k (by omega)
    injection e with e _ _
    refine ⟨g, by rw [e, hg], ?_⟩
    rw [hcell]
    congr 2
    have := HNH.out
    subst this
    rw [List.getElem_take])
  have MK6 := Lib.hid (fun W (k : Below w2.heap.size w2 W) => F6H.out.cells k)
  have KK6 := Below.refl w2.heap.size w2
  clear KK P1 P2 W1 W2 k1 hfs2 hcb hcbn MK
  generalize hw6 : w2 = w6 at *
  clear hw6
  have D0 : IntKind.i64.wrap (d : Int) = (d : Int) := IntWalk.i64_in _ (by omega)
  have D1 : IntKind.i64.wrap (4 * (d : Int)) = 4 * (d : Int) := IntWalk.i64_in _ (by omega)
  have D2 : IntKind.i64.wrap ((z2 : Int) + 4 * (d : Int)) = (z3 : Int) := by have := HZ3.out; rw [IntWalk.i64_in _ (by omega)]; omega
  have P1 : IntKind.i64.wrap ((12 : Int) + (lb : Int)) = (z1 : Int) := by rw [IntWalk.i64_in _ (by omega)]; exact P0H.out
  have P2 : IntKind.i64.wrap ((z1 : Int) + (hB : Int)) = (z2 : Int) := by rw [IntWalk.i64_in _ (by omega)]; omega
  go_upto_region 6 with fail
  go_region_held3 (fun w' => w'.cell? ⟨w1.heap.size, 0, none⟩ = some (.int .i64 (n : Int)) ∧ w'.cell? ⟨w1.heap.size, 1, none⟩ = some (.int .u64 (u : Int)) ∧ w'.cell? ⟨w1.heap.size, 2, none⟩ = some (.int .i64 (wd : Int)) ∧ w'.cell? ⟨w1.heap.size, 3, none⟩ = some (.int .i64 (hbb : Int)) ∧ Below w6.heap.size w6 w')
    (first
      | exact MK6.out _ (by assumption)
      | exact MK6.out _ (Below.drew (by assumption))
      | exact MK6.out _ (below_drewN (by assumption) _)
      | exact MK6.out _ (below_of (by assumption))
      | exact MK6.out _ (Below.drew (below_of (by assumption)))
      | exact MK6.out _ (below_drewN (below_of (by assumption)) _))
    (first
      | (go_at_call 57; refine (LO.out _).mono ?_; rintro e w2 ⟨rfl, k1⟩; first | have hfs2 := below_next (by assumption) k1 | have hfs2 := below_next (below_of (by assumption)) k1 | have hfs2 := below_next (below_drewN (by assumption) _) k1 | have hfs2 := below_next (below_drewN (below_of (by assumption)) _) k1)
      | (go_at_call 58; refine (HG.out _).mono ?_; rintro e w2 ⟨rfl, k1⟩; first | have hfs2 := below_next (by assumption) k1 | have hfs2 := below_next (below_of (by assumption)) k1 | have hfs2 := below_next (below_drewN (by assumption) _) k1 | have hfs2 := below_next (below_drewN (below_of (by assumption)) _) k1))
  obtain ⟨f0, f1, f2, f3, -⟩ := MK6.out _ hfs2
  clear D0 D1 D2 P1 P2
  go_wp2_with fail
  rw [HTS.out]
  refine (VS.out _).mono ?_
  rintro e w8 ⟨rfl, rfl⟩
  have K8 := Lib.hid (below_next K6.out hfs2)
  have HOL8 := own_below HOL6.out hfs2
  obtain ⟨al, capl, rfl, hcapl⟩ := own_slice HOL8
  have HOL9 := Lib.hid HOL8
  have CH8 : Hid (∀ k (hk : k < H.length), ∃ g, ah = some ⟨g, 0, none⟩ ∧ w8.cell? ⟨g, k, none⟩ = some (.bool H[k])) := Lib.hid (fun k hk => by
    obtain ⟨g, h1, h2⟩ := CH.out k hk
    exact ⟨g, h1, cell_keep hfs2 h2⟩)
  have MK8 := Lib.hid (fun W (k : Below w8.heap.size w8 W) => (F6H.out.next hfs2).cells k)
  clear HOL8 HOL HOH HOL6 CH MK6 KK6 k1 hfs2
  have WB : IntKind.u64.wrap (hbb : Int) = (hbb : Int) := wraps_u64_64 _ (by omega) (by omega)
  by_cases hspb : sp < hbb
  · have hspi : (sp : Int) < (hbb : Int) := by omega
    go_wp2_with fail
    go_loopw [12, 13] (fun lv qv wr => ∃ l a : Nat, lv = .int .i64 (l : Int) ∧ qv = .int .i64 (a : Int) ∧ l < 64 ∧ a ≤ hbb ∧ one (H.drop a) a l = one (H.drop sp) sp r ∧ wr = w8)
      (fun _ qv _ => hbb - (intOf qv).toNat)
    case atStart => exact ⟨r, sp, rfl, rfl, hr64, Nat.le_of_lt hspb, rfl, rfl⟩
    case round =>
      obtain ⟨l, a, rfl, rfl, hl64, hal, hone, rfl⟩ := hrel
      by_cases hlt : a < hbb
      · have haH : a < H.length := by rw [HI.out]; exact hlt
        obtain ⟨g, rfl, hcell⟩ := CH8.out a haH
        have HD := Lib.hid (List.drop_eq_getElem_cons haH)
        have HO := Lib.hid hone
        clear hone
        obtain ⟨c, hc⟩ : ∃ c, H[a] = c := ⟨_, rfl⟩
        rw [hc] at hcell HD
        clear hc
        cases c
        · have NX : Hid (one (H.drop (a + 1)) (a + 1) l = one (H.drop sp) sp r) := Lib.hid (by rw [← HO.out, HD.out, one])
          go_wp2_with fail
          go_roundw
          case rel => exact ⟨l, a + 1, rfl, by go_num, hl64, by omega, NX.out, by first | rfl | trivial⟩
          case measure => simp [intOf]; try omega
        · by_cases hl0 : l = 0
          · subst hl0
            have RES : Hid (one (H.drop sp) sp r = some a) := Lib.hid (by rw [← HO.out, HD.out, one])
            have GE2 : Hid (G = if a < i then none else if u ≤ (a - i) * 2 ^ wd + lw then none else some ((a - i) * 2 ^ wd + lw)) := Lib.hid (by rw [GE.out, RES.out])
            clear GE HO HD
            by_cases hqi : a < i
            · have GN : Hid (G = none) := Lib.hid (by rw [GE2.out, if_pos hqi])
              go_wp2_with fail
              go_ret2
              exact ⟨rfl, K8.out⟩
            · obtain ⟨j, hj⟩ : ∃ j, a - i = j := ⟨_, rfl⟩
              have JI : (a : Int) - (i : Int) = (j : Int) := by omega
              have hP := HM.out a hlt
              rw [hj] at hP GE2
              obtain ⟨P, hPe⟩ : ∃ P, j * 2 ^ wd = P := ⟨_, rfl⟩
              rw [hPe] at hP GE2
              have PI : (j : Int) * 2 ^ wd = (P : Int) := by rw [← hPe]; simp
              have hP2 : P < 1125899906842624 := hP
              have hqi' : (i : Int) ≤ (a : Int) := by omega
              have hlw2 : lw < 140737488355329 := Nat.lt_of_lt_of_le hlw (by
                calc 2 ^ wd ≤ 2 ^ 47 := Nat.pow_le_pow_right (by decide) hwl
                  _ ≤ 140737488355329 := by decide)
              have hjl : j < 50331648 := by omega
              have hwP : IntKind.u64.wrap (P : Int) = (P : Int) := wraps_u64_64 _ (by omega) (by omega)
              have HJ := Lib.hid hj
              obtain ⟨x0, hx0⟩ : ∃ x, i * wd = x := ⟨_, rfl⟩
              obtain ⟨x1, hx1⟩ : ∃ x, x0 + wd = x := ⟨_, rfl⟩
              have hx1b : x1 ≤ 8 * lb := by rw [hx0, hx1] at hbw; exact hbw
              have M1 : (i : Int) * (wd : Int) = (x0 : Int) := by rw [← hx0]; simp
              have M2 : ((i : Int) + 1) * (wd : Int) = (x1 : Int) := by rw [Int.add_mul, M1]; omega
              have HX0 := Lib.hid hx0
              have HX1 := Lib.hid hx1
              have hx01 : (x0 : Int) ≤ (x1 : Int) := by omega
              have hx01n : x0 ≤ x1 := by omega
              have hx1c : (x1 : Int) ≤ (capl : Int) := by omega
              have hx1cn : x1 ≤ capl := by omega
              have hx0p : (0 : Int) ≤ (x0 : Int) := by omega
              clear hj hPe hP hx0 hx1 hbw
              have V1 : IntKind.i64.wrap (j : Int) = (j : Int) := IntWalk.i64_in _ (by omega)
              have V2 : IntKind.u64.wrap (j : Int) = (j : Int) := wraps_u64_64 _ (by omega) (by omega)
              have V3 : IntKind.i64.wrap (x0 : Int) = (x0 : Int) := IntWalk.i64_in _ (by omega)
              have V4 : IntKind.i64.wrap (x1 : Int) = (x1 : Int) := IntWalk.i64_in _ (by omega)
              have V5 : IntKind.i64.wrap ((i : Int) + 1) = (i : Int) + 1 := IntWalk.i64_in _ (by omega)
              have NP : Hid (∀ W, Below wr.heap.size wr W → Calls Try.prog 59 #[.slice (if capl = x0 then al else Option.map (fun x => x.add x0) al) (x1 - x0) (capl - x0)] W fun e w' => e = .returned (.int .u64 (lw : Int)) ∧ Below W.heap.size W w') := Lib.hid (fun W hW => by
                have h1 := HX1.out
                have h2 := number_part wr _ capl (8 * lb) x0 wd al Lo HLO.out (by omega) (by omega) HOL9.out W hW
                rw [show x1 - x0 = wd by omega, HLS.out, HX0.out]
                exact h2)
              obtain ⟨A, hA⟩ : ∃ A, (if capl = x0 then al else Option.map (fun x => x.add x0) al) = A := ⟨_, rfl⟩
              rw [hA] at NP
              go_upto_region 19 with fail
              have KK8 := Below.refl wr.heap.size wr
              go_region_held3 (fun w' => w'.cell? ⟨w1.heap.size, 0, none⟩ = some (.int .i64 (n : Int)) ∧ w'.cell? ⟨w1.heap.size, 1, none⟩ = some (.int .u64 (u : Int)) ∧ w'.cell? ⟨w1.heap.size, 2, none⟩ = some (.int .i64 (wd : Int)) ∧ w'.cell? ⟨w1.heap.size, 3, none⟩ = some (.int .i64 (hbb : Int)) ∧ Below wr.heap.size wr w')
                (first
                  | exact MK8.out _ (by assumption)
                  | exact MK8.out _ (Below.drew (by assumption))
                  | exact MK8.out _ (below_drewN (by assumption) _)
                  | exact MK8.out _ (below_of (by assumption))
                  | exact MK8.out _ (Below.drew (below_of (by assumption)))
                  | exact MK8.out _ (below_drewN (below_of (by assumption)) _))
                (first
                  | (go_at_call 59; refine (NP.out _ (by assumption)).mono ?_; rintro e w2 ⟨rfl, k1⟩; have hfs2 := below_next (by assumption) k1)
                  | (go_at_call 59; refine (NP.out _ (Below.drew (by assumption))).mono ?_; rintro e w2 ⟨rfl, k1⟩; have hfs2 := below_next (Below.drew (by assumption)) k1)
                  | (go_at_call 59; refine (NP.out _ (below_of (by assumption))).mono ?_; rintro e w2 ⟨rfl, k1⟩; have hfs2 := below_next (below_of (by assumption)) k1))
              obtain ⟨f0, f1, f2, f3, -⟩ := MK8.out _ hfs2
              have VS2 : IntKind.u64.wrap ((P : Int) + (lw : Int)) = ((P + lw : Nat) : Int) := by rw [wraps_u64_64 _ (by omega) (by omega)]; omega
              rw [VS2]
              have KE := Lib.hid (below_next K8.out hfs2)
              clear V1 V2 V3 V4 V5 hA M1 M2 PI JI VS2
              by_cases hu : u ≤ P + lw
              · have GN : Hid (G = none) := Lib.hid (by rw [GE2.out, if_neg hqi, if_pos hu])
                have hui : (u : Int) ≤ ((P + lw : Nat) : Int) := by omega
                go_wp2_with fail
                go_ret2
                exact ⟨rfl, KE.out⟩
              · have GN : Hid (G = some (P + lw)) := Lib.hid (by rw [GE2.out, if_neg hqi, if_neg hu])
                have hui : ((P + lw : Nat) : Int) < (u : Int) := by omega
                go_wp2_with fail
                go_ret2
                have e := Option.some.inj GN.out
                subst e
                exact ⟨rfl, KE.out⟩
          · obtain ⟨l', rfl⟩ : ∃ l', l = l' + 1 := ⟨l - 1, by omega⟩
            have NX : Hid (one (H.drop (a + 1)) (a + 1) l' = one (H.drop sp) sp r) := Lib.hid (by rw [← HO.out, HD.out, one])
            go_wp2_with fail
            go_roundw
            case rel => exact ⟨l', a + 1, by go_num, by go_num, by omega, by omega, NX.out, by first | rfl | trivial⟩
            case measure => simp [intOf]; try omega
      · have GN : Hid (G = none) := Lib.hid (by rw [GE.out, ← hone, List.drop_eq_nil_of_le (by rw [HI.out]; omega), one])
        clear hone
        go_wp2_with fail
        go_ret2
        exact ⟨rfl, K8.out⟩
  · have GN : Hid (G = none) := Lib.hid (by rw [GE.out, List.drop_eq_nil_of_le (by rw [HI.out]; omega), one])
    have hspi : (hbb : Int) ≤ (sp : Int) := by omega
    go_wp2_with fail
    go_ret2
    exact ⟨rfl, K8.out⟩

theorem dget_any (s : ByteArray) (hs : s.size ≤ maxLen) (ho : opens (nats s)) (i : Int) (w : World) :
    Calls Try.prog 31 #[.string s, .int .i64 i] w fun e w' => e = .returned (getV (nats s) i) ∧ Below w.heap.size w w' := by
  unfold getV
  by_cases hi : 0 ≤ i ∧ i < (nS (nats s) : Int)
  · rw [if_pos hi]
    obtain ⟨k, rfl⟩ : ∃ k : Nat, i = (k : Int) := ⟨i.toNat, by omega⟩
    rw [Int.toNat_natCast]
    exact dget_in s hs ho k w (by omega)
  · rw [if_neg hi]
    exact dget_out s hs ho i w hi
end Go.Proofs.Ythaicpbdlhkkkaa.ef
