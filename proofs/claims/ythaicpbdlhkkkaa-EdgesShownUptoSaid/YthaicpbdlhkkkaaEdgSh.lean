/- Statement EdgesShown: the law's walk. -/
import Derived.Test.YthaicpbdlhkkkaaEdgShP
import Derived.Deep.CutBlock
namespace Go.Proofs.Ythaicpbdlhkkkaa.edg
open Go.RowKit Go.Proofs.Ythaicpbdlhkkkaa.own Go.Proofs.Ythaicpbdlhkkkaa.so

theorem ba_of0 {T : ByteArray} {S : B} (h : T.data.toList = S) : (⟨S.toArray⟩ : ByteArray) = T := by
  subst h
  cases T
  simp
theorem MS.look {w0 W : World} {base : Nat} {m : List (Nat × Nat)} {v : Value} (h : MS w0 base m v W) (h0 : 0 < m.length) (hu : ∀ t ∈ m, t.1 < 4294967296 ∧ t.2 < 4294967296) : ∃ g cap, v = .slice (some ⟨g, 0, none⟩) m.length cap ∧ m.length ≤ cap ∧ EdgIs W (some ⟨g, 0, none⟩) m := by
  obtain ⟨a, c, rfl⟩ := own_shape h.2.2
  obtain ⟨g, rfl, hc, _⟩ := h.one hu 0 h0
  exact ⟨g, c, rfl, hc, h.edges hu⟩

set_option maxRecDepth 100000 in
set_option maxHeartbeats 12800000 in
theorem edgesShown_walk (n : Int) (aT : Option Addr) (l : List (Nat × Nat)) (c : Nat) (hnil : aT = none → l.length = 0 ∧ c = 0) (w : World) (hl : EdgIs w aT l) (hll : l.length ≤ 1073741824) :
    Calls Try.prog 4 #[.int .i64 n, .slice aT l.length c] w fun e w' => e = .returned (.bool true) ∧ Below w.heap.size w w' := by
  have HE := Lib.hid hl
  have HU : Hid (∀ t ∈ l ++ [(7, 7)], t.1 < 4294967296 ∧ t.2 < 4294967296) := Lib.hid (fun t ht => by
    rcases List.mem_append.1 ht with ht | ht
    · obtain ⟨k, hk, rfl⟩ := List.getElem_of_mem ht
      obtain ⟨_, _, _, _, _, _, u0, u1⟩ := HE.out k hk
      exact ⟨u0, u1⟩
    · simp only [List.mem_singleton] at ht; subst ht; decide)
  clear hl
  have ka : Below w.heap.size w (w.alloc (.cells #[] 37)) := (Below.refl _ _).alloc (Nat.le_refl _) _
  have O0 : Hid ((w.alloc (.cells #[] 37)).ownsRow w.heap.size 37 2 (.slice (some ⟨w.heap.size, 0, none⟩) 0 0) ([] : List (Nat × Nat)).length (edgeCells [])) := Lib.hid ⟨rfl, .inr ⟨w.heap.size, 0, #[], rfl, Nat.le_refl _, heap_alloc_new w _, Nat.le_refl _, Nat.zero_le _, rfl, rfl⟩⟩
  have E0 := Lib.hid (HE.out.next ka)
  have KA := Lib.hid ka
  have NIL := Lib.hid hnil
  clear ka hnil
  go_enter Try.func4, Try.ntmps4
  go_wp2_with (at_builtin; refine wpList_edges _ rfl _ _ rfl w.heap.size _ [] rfl O0.out aT l.length l rfl c rfl E0.out NIL.out (by simp; omega) (by simp) ?_)
  intro v1 w1 own1 hg1
  have KB : Hid (Below w.heap.size w w1) := Lib.hid (KA.out.grown hg1 (by simp) (fun k hk => (O0.out.lt k hk).1))
  have kc : Below w1.heap.size w1 (w1.alloc (.cells #[.int .u32 7, .int .u32 7] 37)) := (Below.refl _ _).alloc (Nat.le_refl _) _
  have O1 := Lib.hid (own_below own1 kc)
  have KC := Lib.hid (KB.out.trans (kc.mono KB.out.size))
  have LB1 : Hid (w.heap.size ≤ w1.heap.size) := Lib.hid KB.out.size
  have E1 : Hid (EdgIs (w1.alloc (.cells #[.int .u32 7, .int .u32 7] 37)) (some ⟨w1.heap.size, 0, none⟩) [(7, 7)]) := Lib.hid (fun k hk => by
    have e : k = 0 := by simpa using hk
    subst e
    have r := heap_alloc_new w1 (.cells #[.int .u32 7, .int .u32 7] 37)
    exact ⟨_, 0, rfl, lt_of_block r, (cell_of_row _ _ _ _ _ _ r).trans rfl, (cell_of_row _ _ _ _ _ _ r).trans rfl, by simp, by simp⟩)
  obtain ⟨a1, c1, rfl⟩ := own_shape own1
  clear own1 hg1 kc E0 O0 KA KB
  go_wp2_with (at_builtin; refine wpList_edges _ rfl _ _ rfl w.heap.size _ ([] ++ l) (by rfl) O1.out (some ⟨w1.heap.size, 0, none⟩) 1 [(7, 7)] rfl 1 rfl E1.out (fun e => by cases e) (by simp; omega) (by simp; have := LB1.out; omega) ?_)
  intro v2 w2 own2 hg2
  obtain ⟨m, hm⟩ : ∃ m, l ++ [(7, 7)] = m := ⟨_, rfl⟩
  have HM := Lib.hid hm
  have LM : Hid (m.length = l.length + 1) := Lib.hid (by rw [← hm]; simp)
  have M2 : Hid (MS w w.heap.size m v2 w2) := Lib.hid (by
    have own2' : w2.ownsRow w.heap.size 37 2 v2 m.length (edgeCells m) := by rw [LM.out, ← hm]; exact own2
    exact ⟨KC.out.grown hg2 (by have h := KC.out.size; exact h) (fun k hk => (O1.out.lt k hk).1), Nat.le_trans KC.out.size hg2.size, own2'⟩)
  rw [hm] at HU
  obtain ⟨g, cap, rfl, hcap, hE2⟩ := M2.out.look (by rw [LM.out]; omega) HU.out
  have HE2 := Lib.hid hE2
  rw [LM.out] at hcap
  have EF : Hid (EdgIs w2 (some ⟨g, 0, none⟩) l) := Lib.hid (by rw [← HM.out] at hE2; exact hE2.front)
  obtain ⟨B, hB⟩ : ∃ B, w.heap.size = B := ⟨_, rfl⟩
  rw [hB] at M2 ⊢
  have HB := Lib.hid hB
  have h1 : (l.length : Int) ≤ (cap : Int) := by omega
  have h2 : (l.length : Int) ≤ (m.length : Int) := by rw [LM.out]; omega
  have SHW := Lib.hid (show_any w2 (some ⟨g, 0, none⟩) l cap EF.out hll)
  obtain ⟨T, hT⟩ : ∃ T, (⟨(showL l).toArray⟩ : ByteArray) = T := ⟨_, rfl⟩
  have HT := Lib.hid hT
  rw [hT] at SHW
  clear hT hB hm own2 hg2 hcap hE2 O1 KC LB1 E1
  go_wp2_with fail
  refine SHW.out.mono ?_
  rintro e w3 ⟨rfl, k3⟩
  have M3 := Lib.hid (M2.out.next k3)
  have MF : Hid (∀ W, Below w2.heap.size w2 W → EdgIs W (some ⟨g, 0, none⟩) l ∧ EdgIs W (some ⟨g, 0, none⟩) m) := Lib.hid (fun W h => ⟨EF.out.next h, HE2.out.next h⟩)
  have B3 := Lib.hid k3
  clear k3 SHW M2
  go_upto_region 3 with fail
  go_cut [29] from 24 to 28 (fun s29 wc => ∃ b : Bool, s29 = .bool b ∧ w3 = wc)
  case first =>
    by_cases c1 : 300 < n
    · by_cases c2 : n ≤ 65536
      · go_wp2_with fail
        go_meet
        case rel => exact ⟨_, rfl, rfl⟩
      · go_wp2_with fail
        go_meet
        case rel => exact ⟨_, rfl, rfl⟩
    · go_wp2_with fail
      go_meet
      case rel => exact ⟨_, rfl, rfl⟩
  case rest =>
    obtain ⟨b, rfl, rfl⟩ := hcut
    go_upto_if 29 with fail
    go_cut [0] from 24 to 29 (fun s0 wc => ∃ n' : Int, s0 = .int .i64 n' ∧ w3 = wc)
    case first =>
      cases b
      · go_wp2_with fail
        go_meet
        case rel => exact ⟨_, rfl, rfl⟩
      · go_wp2_with fail
        go_meet
        case rel => exact ⟨_, rfl, rfl⟩
    case rest =>
      obtain ⟨n', rfl, rfl⟩ := hcut
      obtain ⟨N, code, hN, hG, hD⟩ := groups_same l n' hll
      have GG := Lib.hid (hG w3 (some ⟨g, 0, none⟩) cap (MF.out _ B3.out).1)
      have HD := Lib.hid hD
      have HN := Lib.hid hN
      clear hG hD hN
      go_wp2_with fail
      refine GG.out.mono ?_
      rintro e w4 ⟨ga, rfl, RA⟩
      have R4 := Lib.hid RA
      have B4 := Lib.hid (B3.out.trans (RA.1.mono B3.out.size))
      have M4 := Lib.hid (M3.out.next RA.1)
      have EL4 := Lib.hid (HE.out.next (M4.out.1.mono (by rw [HB.out]; exact Nat.le_refl _)))
      have DG := Lib.hid (HD.out w4 aT c EL4.out)
      clear RA GG HD B3 M3
      go_wp2_with fail
      refine DG.out.mono ?_
      rintro e w5 ⟨gd, rfl, RB⟩
      have R5 := Lib.hid RB
      have Q5 := Lib.hid (R4.out.next RB.1)
      have B5 := Lib.hid (B4.out.trans (RB.1.mono B4.out.size))
      have M5 := Lib.hid (M4.out.next RB.1)
      have EL5 := Lib.hid (EL4.out.next RB.1)
      have DS := Lib.hid (dshow_any w5 aT l c EL5.out hll)
      clear RB DG R4 B4 M4 EL4
      go_wp2_with fail
      refine DS.out.mono ?_
      rintro e w6 ⟨T2, rfl, hT2, k6⟩
      have eT : T2 = T := by rw [← HT.out]; exact (ba_of0 hT2).symm
      subst eT
      have R6 := Lib.hid (R5.out.next k6)
      have Q6 := Lib.hid (Q5.out.next k6)
      have B6 := Lib.hid (B5.out.trans (k6.mono B5.out.size))
      have M6 := Lib.hid (M5.out.next k6)
      have SAM := Lib.hid (same_edg l (some ⟨g, 0, none⟩) aT cap c w6 (MF.out _ B6.out).1 (EL5.out.next k6) (by omega))
      clear k6 hT2 DS R5 Q5 B5 M5 EL5
      go_wp2_with fail
      refine SAM.out.mono ?_
      rintro e w7 ⟨rfl, q, rfl⟩
      have k7 : Below w6.heap.size w6 (w6.drewN q) := ⟨rfl, rfl, rfl, Nat.le_refl _, fun _ _ => rfl⟩
      have R7 := Lib.hid (R6.out.next k7)
      have Q7 := Lib.hid (Q6.out.next k7)
      have B7 := Lib.hid (B6.out.trans (k7.mono B6.out.size))
      have M7 := Lib.hid (M6.out.next k7)
      obtain ⟨w8, hw8⟩ : ∃ W, w6.drewN q = W := ⟨_, rfl⟩
      rw [hw8] at R7 Q7 B7 M7 ⊢
      obtain ⟨z0, z1⟩ : w8.cell? ⟨g, l.length * 2, none⟩ = some (.int .u32 7) ∧ w8.cell? ⟨g, l.length * 2 + 1, none⟩ = some (.int .u32 7) := by
        obtain ⟨g9, o9, ha, _, h0, h1, _⟩ := (MF.out _ B7.out).2 l.length (by rw [LM.out]; omega)
        injection ha with ha
        injection ha with hg ho
        subst hg ho
        have e : m[l.length]'(by rw [LM.out]; omega) = (7, 7) := by
          have := HM.out
          subst this
          simp
        rw [e] at h0 h1
        simp only [Nat.zero_add] at h0 h1
        exact ⟨h0, h1⟩
      have h3 : (l.length : Int) < (m.length : Int) := by rw [LM.out]; omega
      have BA : Hid (Below B w w8) := Lib.hid M7.out.1
      have BZ : Hid (B ≤ w8.heap.size) := Lib.hid M7.out.2.1
      clear hw8 k7 SAM R6 Q6 B6 M6
      go_wp2_with fail
      clear z0 z1 h1 h2 h3
      have FL : Hid (∀ i, ((fun v => fin (grp l v)) i).length ≤ 1073741824) := Lib.hid (fun i => Nat.le_trans (fin_length _) (Nat.le_trans (grp_length _ _) hll))
      obtain ⟨F, hF⟩ : ∃ F, (fun v => fin (grp l v)) = F := ⟨_, rfl⟩
      rw [hF] at Q7 R7 FL
      have HU := trivial
      clear hF M7 B7 HE2 EF HE NIL HM LM
      go_loopw [11] (fun vi wr => ∃ i q : Nat, vi = .int .i64 (i : Int) ∧ i ≤ N ∧ w8.drewN q = wr) (fun vi _ => N - (intOf vi).toNat)
      case atStart => exact ⟨0, 0, rfl, Nat.zero_le _, rfl⟩
      case round =>
        obtain ⟨i, q, rfl, hi, rfl⟩ := hrel
        by_cases h1 : i < N
        · obtain ⟨g1, a1', c1', hga, _, ca, la⟩ := Q7.out.2.2 i h1
          obtain ⟨g2, a2', c2', hgd, _, cb, lb⟩ := R7.out.2.2 i h1
          subst hga hgd
          have LA := Lib.hid la
          have LB := Lib.hid lb
          obtain ⟨Fi, hFi⟩ : ∃ q, F i = q := ⟨_, rfl⟩
          have LL : Hid (Fi.length ≤ 1073741824) := Lib.hid (by rw [← hFi]; exact FL.out i)
          rw [hFi] at ca cb LA LB
          have i1 : (i : Int) < (N : Int) := by omega
          have CA : Hid (∀ q, (w8.drewN q).cell? ⟨g1, i, none⟩ = some (.slice a1' Fi.length c1')) := Lib.hid (fun _ => ca)
          have CB : Hid (∀ q, (w8.drewN q).cell? ⟨g2, i, none⟩ = some (.slice a2' Fi.length c2')) := Lib.hid (fun _ => cb)
          have ca := CA.out q
          have cb := CB.out q
          clear la lb hFi
          go_wp2_with fail
          go_quiet (fail)
          clear ca cb
          go_wp2_with fail
          go_loopw [12] (fun vj wr2 => ∃ j q2 : Nat, vj = .int .i64 (j : Int) ∧ j ≤ Fi.length ∧ w8.drewN q2 = wr2) (fun vj _ => Fi.length - (intOf vj).toNat)
          case atStart => exact ⟨0, q + nq, rfl, Nat.zero_le _, by simp [World.drewN, Nat.add_assoc]⟩
          case round =>
            obtain ⟨j, q2, rfl, hj, rfl⟩ := hrel
            have ca := CA.out q2
            have cb := CB.out q2
            by_cases h2 : j < Fi.length
            · obtain ⟨g3, ha3, _, x1⟩ := LA.out j h2
              obtain ⟨g4, ha4, _, x2⟩ := LB.out j h2
              subst ha3 ha4
              have j1 : (j : Int) < (Fi.length : Int) := by omega
              have j3 : IntKind.i64.wrap ((j : Int) + 1) = (j : Int) + 1 := IntWalk.i64_in _ (by have := LL.out; omega)
              have xa : w8.cell? ⟨g3, j, none⟩ = some (.int .u32 Fi[j]) := x1
              have xb : w8.cell? ⟨g4, j, none⟩ = some (.int .u32 Fi[j]) := x2
              obtain ⟨x, hx⟩ : ∃ x, Fi[j] = x := ⟨_, rfl⟩
              rw [hx] at xa xb
              clear x1 x2 hx
              go_wp2_with fail
              go_quiet (fail)
              go_wp2_with fail
              go_roundw
              case rel => exact ⟨j + 1, q2 + nq, by go_num, by omega, by first | rfl | exact drewN_add _ _ _⟩
              case measure => simp [intOf]; omega
            · have j1 : ¬ (j : Int) < (Fi.length : Int) := by omega
              have i3 : IntKind.i64.wrap ((i : Int) + 1) = (i : Int) + 1 := IntWalk.i64_in _ (by have := HN.out; omega)
              go_wp2_with fail
              go_roundw
              case rel => exact ⟨i + 1, q2, by go_num, by omega, rfl⟩
              case measure => simp [intOf]; omega
        · have i1 : ¬ (i : Int) < (N : Int) := by omega
          have AW := Lib.hid (awake_any (w8.drewN q))
          have BW : Hid (Below B w (w8.drewN q)) := Lib.hid (BA.out.trans ⟨rfl, rfl, rfl, Nat.le_refl _, fun _ _ => rfl⟩)
          have BQ : Hid (B ≤ (w8.drewN q).heap.size) := Lib.hid BZ.out
          go_wp2_with fail
          refine AW.out.mono ?_
          rintro e w11 ⟨rfl, k11⟩
          have BE : Hid (Below B w w11) := Lib.hid (BW.out.trans (k11.mono BQ.out))
          clear k11
          go_wp2_with fail
          go_ret
          exact ⟨rfl, by rw [HB.out]; exact BE.out⟩
end Go.Proofs.Ythaicpbdlhkkkaa.edg
