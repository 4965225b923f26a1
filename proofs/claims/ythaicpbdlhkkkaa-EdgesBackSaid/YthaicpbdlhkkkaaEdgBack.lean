/- Statement EdgesBack: the law's walk. -/
import Derived.Test.YthaicpbdlhkkkaaEdgBkQ
import Derived.Deep.CutBlock
namespace Go.Proofs.Ythaicpbdlhkkkaa.edg
open Go.RowKit Go.Proofs.Ythaicpbdlhkkkaa.own Go.Proofs.Ythaicpbdlhkkkaa.so

/-- the edges that are shown: the first of those that came in, brought below k -/
def mOf (l : List (Nat × Nat)) (k i : Nat) : List (Nat × Nat) := (l.take i).map fun t => (t.1 % k, t.2 % k)
theorem mOf_succ (l : List (Nat × Nat)) (k i : Nat) (h : i < l.length) : mOf l k (i + 1) = mOf l k i ++ [(l[i].1 % k, l[i].2 % k)] := by
  unfold mOf
  rw [List.take_succ_eq_append_getElem h, List.map_append]
  rfl
theorem mOf_lt (l : List (Nat × Nat)) (k i : Nat) (hk : 0 < k) : ∀ t ∈ mOf l k i, t.1 < k ∧ t.2 < k := by
  intro t ht
  obtain ⟨x, _, rfl⟩ := List.mem_map.1 ht
  exact ⟨Nat.mod_lt _ hk, Nat.mod_lt _ hk⟩
theorem mOf_length (l : List (Nat × Nat)) (k i : Nat) (h : i ≤ l.length) : (mOf l k i).length = i := by
  unfold mOf
  rw [List.length_map, List.length_take]
  omega

theorem ba_of {T : ByteArray} {S : B} (h : T.data.toList = S) : (⟨S.toArray⟩ : ByteArray) = T := by
  subst h
  cases T
  simp
theorem ba_append (a b : ByteArray) : (a ++ b).data.toList = a.data.toList ++ b.data.toList := by simp
theorem parse_text {kn : Nat} (hkn : kn < 65536) {bs : List B} {mm : List (Nat × Nat)} (HU : ∀ t ∈ mm, t.1 < kn + 1 ∧ t.2 < kn + 1) {T : ByteArray} (hT : T.data.toList = segs bs mm mm.length) (hz : (segs bs mm mm.length).length ≤ 37500) : parseRes ((kn : Int) + 1) T = (mm, 0, 0) := by
  have h := tells_text (kn + 1) (by omega) bs mm HU
  rw [← hT] at h hz
  have e := h.res (by omega) (by omega)
  have k1 : ((kn + 1 : Nat) : Int) = (kn : Int) + 1 := by omega
  rw [k1] at e
  rw [← ba_of (T := T) rfl]
  exact e
theorem seg_yes (bs : List ByteArray) (l : List (Nat × Nat)) (i : Nat) (h : i < l.length) (hb : i < bs.length) : seg (bs.map (·.data.toList)) l i = [35] ++ plainS bs[i].data.toList ++ [10, 10] ++ showL [l[i]] := by
  unfold seg
  rw [if_pos (by simpa using hb)]
  have e1 : (bs.map (·.data.toList)).getD i [] = bs[i].data.toList := by simp [List.getD, hb]
  have e2 : l.getD i (0, 0) = l[i] := by simp [List.getD, h]
  rw [e1, e2]
  simp
theorem seg_no (bs : List ByteArray) (l : List (Nat × Nat)) (i : Nat) (h : i < l.length) (hb : ¬ i < bs.length) : seg (bs.map (·.data.toList)) l i = showL [l[i]] := by
  unfold seg
  rw [if_neg (by simpa using hb)]
  have e2 : l.getD i (0, 0) = l[i] := by simp [List.getD, h]
  rw [e2]
  rfl

theorem drewN_add (W : World) (a b : Nat) : W.drewN (a + b) = (W.drewN a).drewN b := by simp [World.drewN, Nat.add_assoc]
theorem fin_length (xs : List Int) : (fin xs).length ≤ xs.length := by
  unfold fin cpt
  exact Nat.le_trans (compact_len _ _) (by rw [srt_length]; exact Nat.le_refl _)
/-- a row is read -/
theorem GR.look {w0 W : World} {base gb n : Nat} {L : Nat → List Int} (h : GR w0 base gb n L W) (i : Nat) (hi : i < n) :
    ∃ a c, W.cell? ⟨gb, i, none⟩ = some (.slice a (L i).length c) ∧ ∀ j (hj : j < (L i).length), ∃ g, a = some ⟨g, 0, none⟩ ∧ W.cell? ⟨g, j, none⟩ = some (.int .u32 ((L i)[j])) := by
  obtain ⟨_, _, vs, h3, h4, _⟩ := h
  have ho := (h4 i hi).1
  have hc := (cell_of_row W _ _ _ _ _ h3).trans (rowC_at n vs i hi)
  rcases ho.2 with ⟨hv, h0⟩ | ⟨g, cap, cur, hv, hb, hg, _⟩
  · exact ⟨none, 0, by rw [hc, hv, h0], fun j hj => by omega⟩
  · rw [hv] at ho
    refine ⟨_, _, by rw [hc, hv], fun j hj => ⟨g, rfl, ?_⟩⟩
    rw [ho.cellAt j (by omega)]
    simp [hj]
set_option maxRecDepth 100000 in
set_option maxHeartbeats 12800000 in
theorem edgesBack_walk (kn : Nat) (hkn : kn < 65536) (aT : Option Addr) (l : List (Nat × Nat)) (c : Nat) (aB : Option Addr) (bs : List ByteArray) (cb : Nat) (w : World) (hl : EdgIs w aT l) (hll : l.length ≤ 9223372036854775807) (hb : StrIs w aB bs) :
    Calls Try.prog 5 #[.int .u16 (kn : Int), .slice aT l.length c, .slice aB bs.length cb] w fun e w' => e = .returned (.bool true) ∧ Below w.heap.size w w' := by
  have HE := Lib.hid hl
  have HS := Lib.hid hb
  clear hl hb
  obtain ⟨B, hB⟩ : ∃ B, w.heap.size = B := ⟨_, rfl⟩
  rw [hB]
  have HB := Lib.hid hB
  clear hB
  have e1 : IntKind.i64.wrap ((kn : Int) + 1) = ((kn + 1 : Nat) : Int) := by rw [IntWalk.i64_in _ (by omega)]; omega
  have e2 : IntKind.i64.wrap (1 + (kn : Int)) = ((kn + 1 : Nat) : Int) := by rw [IntWalk.i64_in _ (by omega)]; omega
  go_enter Try.func5, Try.ntmps5
  go_upto_block 0 with fail
  obtain ⟨mm, hmm⟩ : ∃ q, mOf l (kn + 1) (min l.length 300) = q := ⟨_, rfl⟩
  have HMM := Lib.hid hmm
  have M0 : Hid (MS w B (mOf l (kn + 1) 0) (.slice none 0 0) w) := Lib.hid ⟨Below.refl _ _, by rw [HB.out]; exact Nat.le_refl _, ⟨by simp [mOf, edgeCells], .inl ⟨rfl, by simp [mOf]⟩⟩⟩
  have K1 : Hid (((kn + 1 : Nat) : Int) = (kn : Int) + 1) := Lib.hid (by omega)
  clear hmm e1 e2
  go_cut [8] from 26 to 55 (fun s8 wc => MS w B mm s8 wc)
  case first =>
    have w1 : IntKind.u32.wrap ((kn : Int) + 1) = (kn : Int) + 1 := by rw [IntKind.wrap_u32]; omega
    go_wp2_with fail
    go_loopw [8, 9] (fun vm vi wr => ∃ i : Nat, vi = .int .i64 (i : Int) ∧ i ≤ l.length ∧ i ≤ 300 ∧ MS w B (mOf l (kn + 1) i) vm wr) (fun _ vi _ => 300 - (intOf vi).toNat)
    case atStart => exact ⟨0, rfl, Nat.zero_le _, by decide, M0.out⟩
    case round =>
      obtain ⟨i, rfl, hi, h3, hM⟩ := hrel
      obtain ⟨va, cap, rfl⟩ := own_shape hM.2.2
      have HM := Lib.hid hM
      by_cases h1 : i < l.length
      · by_cases h2 : i < 300
        · obtain ⟨g, o, ha, hgl, hc0, hc1, u0, u1⟩ := HE.out i h1
          subst ha
          have e0 := (hM.1.cell (p := ⟨g, o + i * 2, none⟩) (by have := HB.out; simp; omega)).trans hc0
          have e1 := (hM.1.cell (p := ⟨g, o + i * 2 + 1, none⟩) (by have := HB.out; simp; omega)).trans hc1
          have GT := Lib.hid (mOf_succ l (kn + 1) i h1)
          have LM := Lib.hid (mOf_length l (kn + 1) i hi)
          obtain ⟨f, hf2⟩ : ∃ f, l[i].1 = f := ⟨_, rfl⟩
          obtain ⟨t, ht2⟩ : ∃ t, l[i].2 = t := ⟨_, rfl⟩
          rw [hf2] at e0 u0 GT
          rw [ht2] at e1 u1 GT
          have i1 : (i : Int) < (l.length : Int) := by omega
          have i2 : (i : Int) < 300 := by omega
          have k0 : ¬ ((kn : Int) + 1 = 0) := by omega
          have k2 : ((kn : Int) + 1 == 0) = false := beq_eq_false_iff_ne.2 k0
          have q0 : (f : Int).tmod ((kn : Int) + 1) = ((f % (kn + 1) : Nat) : Int) := by rw [Int.tmod_eq_emod_of_nonneg (by omega), ← K1.out]; exact (Int.natCast_emod f (kn + 1)).symm
          have q1 : (t : Int).tmod ((kn : Int) + 1) = ((t % (kn + 1) : Nat) : Int) := by rw [Int.tmod_eq_emod_of_nonneg (by omega), ← K1.out]; exact (Int.natCast_emod t (kn + 1)).symm
          obtain ⟨f', hf'⟩ : ∃ q, f % (kn + 1) = q := ⟨_, rfl⟩
          obtain ⟨t', ht'⟩ : ∃ q, t % (kn + 1) = q := ⟨_, rfl⟩
          rw [hf'] at q0 GT
          rw [ht'] at q1 GT
          clear hf2 ht2 hc0 hc1 hM hf' ht'
          go_upto_region 6 with fail
          have ka : Below wr.heap.size wr (wr.alloc (.cells #[.int .u32 (f' : Int), .int .u32 (t' : Int)] 37)).drew := ((Below.refl _ _).alloc (Nat.le_refl _) _).drew
          have MA := Lib.hid (HM.out.next ka)
          have RA : Hid ((wr.alloc (.cells #[.int .u32 (f' : Int), .int .u32 (t' : Int)] 37)).drew.heap[wr.heap.size]? = some (.cells (edgeCells [(f', t')]).toArray 37 (0, 0))) := Lib.hid (heap_alloc_new wr _)
          clear ka
          go_region_law (first
            | (refine MS.add MA.out (by rfl) _ _ (by rfl) (by rfl) wr.heap.size 1 1 [(f', t')] rfl (by rfl) RA.out (by rw [LM.out]; omega) (by decide) ?_; intro v2 w2 hM2))
          all_goals
            rw [← GT.out] at hM2
            have HM2 := Lib.hid hM2
            clear hM2
            go_wp2_with fail
            go_roundw
            case rel => exact ⟨i + 1, by go_num, by omega, by omega, HM2.out⟩
            case measure => simp [intOf]; omega
        · have E : Hid (MS w B mm (.slice va (mOf l (kn + 1) i).length cap) wr) := Lib.hid (by
            have e : min l.length 300 = i := by omega
            rw [← HMM.out, e]; exact hM)
          have i1 : (i : Int) < (l.length : Int) := by omega
          have i2 : ¬ (i : Int) < 300 := by omega
          clear hM
          go_wp2_with fail
          go_meet
          case rel => exact E.out
      · have E : Hid (MS w B mm (.slice va (mOf l (kn + 1) i).length cap) wr) := Lib.hid (by
          have e : min l.length 300 = i := by omega
          rw [← HMM.out, e]; exact hM)
        have i1 : ¬ (i : Int) < (l.length : Int) := by omega
        clear hM
        go_wp2_with fail
        go_meet
        case rel => exact E.out
  case rest =>
    obtain ⟨va, cap, rfl⟩ := own_shape hcut.2.2
    have HU : Hid (∀ t ∈ mm, t.1 < kn + 1 ∧ t.2 < kn + 1) := Lib.hid (by rw [← HMM.out]; exact mOf_lt l (kn + 1) _ (by omega))
    have HU4 : Hid (∀ t ∈ mm, t.1 < 4294967296 ∧ t.2 < 4294967296) := Lib.hid (fun t ht => by have := HU.out t ht; omega)
    have LM : Hid (mm.length ≤ 300) := Lib.hid (by rw [← HMM.out, mOf_length _ _ _ (by omega)]; omega)
    have M1 := Lib.hid hcut
    have SHW := Lib.hid (show_any wc va mm cap (hcut.edges HU4.out) (by have := LM.out; omega))
    obtain ⟨T, hT⟩ : ∃ T, (⟨(showL mm).toArray⟩ : ByteArray) = T := ⟨_, rfl⟩
    have PRS : Hid (parseRes ((kn : Int) + 1) T = (mm, 0, 0)) := Lib.hid (by
      rw [← hT, ← K1.out]
      exact (tells_show (kn + 1) (by omega) mm HU.out).res (by omega) (by have h1 := showL_len mm HU4.out; have h2 := LM.out; omega))
    rw [hT] at SHW
    clear hT hcut M0 HMM
    go_wp2_with fail
    refine SHW.out.mono ?_
    rintro e w2 ⟨rfl, k2⟩
    have M2 := Lib.hid (M1.out.next k2)
    clear k2 M1 SHW
    go_wp2_with fail
    refine (parse_is _ T mm 0 0 PRS.out w2).mono ?_
    rintro e w3 ⟨v3, rfl, own3, k3⟩
    have M3 := Lib.hid (M2.out.next k3)
    have SAM := Lib.hid (same_yes mm v3 (.slice va mm.length cap) w2.heap.size B w3 own3 M3.out.2.2)
    clear k3 M2 own3 PRS
    go_wp2_with fail
    refine SAM.out.mono ?_
    rintro e w4 ⟨rfl, q, rfl⟩
    have M4 : Hid (MS w B mm (.slice va mm.length cap) (w3.drewN q)) := Lib.hid (M3.out.next ⟨rfl, rfl, rfl, Nat.le_refl _, fun _ _ => rfl⟩)
    obtain ⟨w5, hw5⟩ : ∃ W, w3.drewN q = W := ⟨_, rfl⟩
    rw [hw5] at M4 ⊢
    clear hw5 M3 SAM
    go_upto_block 2 with fail
    have T0 : Hid ((⟨#[]⟩ : ByteArray).data.toList = segs (bs.map (·.data.toList)) mm 0) := Lib.hid rfl
    have SL : Hid (∀ i, i ≤ mm.length → (segs (bs.map (·.data.toList)) mm i).length ≤ 37500) := Lib.hid (fun i hi => by
      have h := segs_len (bs.map (·.data.toList)) mm (fun j => by
        by_cases hj : j < mm.length
        · have e : mm.getD j (0, 0) = mm[j] := by simp [List.getD, hj]
          rw [e]; exact HU4.out _ (List.getElem_mem hj)
        · have e : mm.getD j (0, 0) = (0, 0) := by simp [List.getD, hj]
          rw [e]; decide) i
      have := LM.out
      omega)
    obtain ⟨E0, hE0⟩ : ∃ E : ByteArray, (⟨#[]⟩ : ByteArray) = E := ⟨_, rfl⟩
    rw [hE0] at T0 ⊢
    clear hE0
    go_cut [13] from 76 to 102 (fun s13 wc => ∃ T : ByteArray, s13 = .string T ∧ T.data.toList = segs (bs.map (·.data.toList)) mm mm.length ∧ MS w B mm (.slice va mm.length cap) wc)
    case first =>
      go_wp2_with fail
      go_loopw [13, 14] (fun vt vi wr => ∃ (i : Nat) (T : ByteArray), vi = .int .i64 (i : Int) ∧ i ≤ mm.length ∧ vt = .string T ∧ T.data.toList = segs (bs.map (·.data.toList)) mm i ∧ MS w B mm (.slice va mm.length cap) wr) (fun _ vi _ => mm.length - (intOf vi).toNat)
      case atStart => exact ⟨0, E0, rfl, Nat.zero_le _, rfl, T0.out, M4.out⟩
      case round =>
        obtain ⟨i, T, rfl, hi, rfl, hT, hM⟩ := hrel
        have HT := Lib.hid hT
        have HM := Lib.hid hM
        have tz : T.size ≤ 37500 := by
          have h := SL.out i hi
          rw [← hT] at h
          simpa using h
        by_cases h1 : i < mm.length
        · obtain ⟨g, ha, hcap, hone⟩ := hM.one HU4.out i h1
          subst ha
          have i1 : (i : Int) < (mm.length : Int) := by omega
          have i3 : (i : Int) ≤ (i : Int) + 1 := by omega
          have i4 : (i : Int) + 1 ≤ (cap : Int) := by omega
          have i5 : IntKind.i64.wrap ((i : Int) + 1) = (i : Int) + 1 := IntWalk.i64_in _ (by have := LM.out; omega)
          have i6 : ¬ cap = i := by omega
          have HI := Lib.hid (show i < mm.length from h1)
          have SS := Lib.hid (segs_succ (bs.map (·.data.toList)) mm i)
          have SH1 : Hid (Calls Try.prog 19 #[.slice (some ⟨g, i * 2, none⟩) 1 (cap - i)] wr fun e w' => e = .returned (.string ⟨(showL [mm[i]]).toArray⟩) ∧ Below wr.heap.size wr w') := Lib.hid (show_any wr (some ⟨g, i * 2, none⟩) [mm[i]] (cap - i) hone (by simp))
          obtain ⟨E1, hE1⟩ : ∃ E : ByteArray, (⟨(showL [mm[i]]).toArray⟩ : ByteArray) = E := ⟨_, rfl⟩
          have HE1 : Hid (E1.data.toList = showL [mm[i]]) := Lib.hid (by rw [← hE1])
          have ez : E1.size ≤ 100 := by
            have h := showL_len [mm[i]] (fun t ht => by simp only [List.mem_singleton] at ht; rw [ht]; exact HU4.out _ (List.getElem_mem h1))
            have h2 : E1.size = (showL [mm[i]]).length := by rw [← hE1]; simp [ByteArray.size]
            simp only [List.length_cons, List.length_nil] at h
            omega
          rw [hE1] at SH1
          clear hE1
          by_cases hb : i < bs.length
          · obtain ⟨g2, o2, hab, hgl2, hcb, hsz⟩ := HS.out i hb
            subst hab
            have e0 := (hM.1.cell (p := ⟨g2, o2 + i, none⟩) (by have := HB.out; simp; omega)).trans hcb
            have SY := Lib.hid (seg_yes bs mm i h1 hb)
            obtain ⟨sb, hsb⟩ : ∃ q, bs[i] = q := ⟨_, rfl⟩
            rw [hsb] at e0 SY
            have PL := Lib.hid (fun W => plain_any sb W)
            have i2 : (i : Int) < (bs.length : Int) := by omega
            clear hT hM hcb hsb hone hsz
            go_wp2_with fail
            refine (PL.out _).mono ?_
            rintro e w6 ⟨r, rfl, hr, rfl⟩
            have HR := Lib.hid hr
            have rz : r.size ≤ 100 := by
              have h := plainS_len sb.data.toList
              rw [← hr] at h
              simpa using h
            have z1 : (⟨#[35]⟩ : ByteArray).size = 1 := rfl
            have z2 : (⟨#[10, 10]⟩ : ByteArray).size = 2 := rfl
            clear hr e0 PL
            go_wp2_with fail
            refine SH1.out.mono ?_
            rintro e w7 ⟨rfl, k7⟩
            have M7 := Lib.hid (HM.out.next k7)
            obtain ⟨T2, hT2⟩ : ∃ q, T ++ (⟨#[35]⟩ : ByteArray) ++ r ++ (⟨#[10, 10]⟩ : ByteArray) = q := ⟨_, rfl⟩
            rw [hT2]
            have t2 : T2.size ≤ 37700 := by
              rw [← hT2]
              simp only [ByteArray.size_append]
              omega
            have HT2 : Hid ((T2 ++ E1).data.toList = segs (bs.map (·.data.toList)) mm (i + 1)) := Lib.hid (by
              rw [SS.out, SY.out, ba_append, HE1.out, ← hT2]
              simp only [ba_append, HT.out, HR.out, List.append_assoc]
              rfl)
            clear hT2 k7
            go_wp2_with fail
            go_roundw
            case rel => exact ⟨i + 1, T2 ++ E1, by go_num, by omega, rfl, HT2.out, M7.out⟩
            case measure => simp [intOf]; omega
          · have SN := Lib.hid (seg_no bs mm i h1 hb)
            have i2 : ¬ (i : Int) < (bs.length : Int) := by omega
            clear hT hM hone hb
            go_wp2_with fail
            refine SH1.out.mono ?_
            rintro e w7 ⟨rfl, k7⟩
            have M7 := Lib.hid (HM.out.next k7)
            have HT2 : Hid ((T ++ E1).data.toList = segs (bs.map (·.data.toList)) mm (i + 1)) := Lib.hid (by
              rw [SS.out, SN.out, ba_append, HE1.out, HT.out]
              rfl)
            clear k7
            go_wp2_with fail
            go_roundw
            case rel => exact ⟨i + 1, T ++ E1, by go_num, by omega, rfl, HT2.out, M7.out⟩
            case measure => simp [intOf]; omega
        · have E : Hid (T.data.toList = segs (bs.map (·.data.toList)) mm mm.length) := Lib.hid (by
            have e : i = mm.length := by omega
            rw [← e]; exact hT)
          have i1 : ¬ (i : Int) < (mm.length : Int) := by omega
          clear hT hM
          go_wp2_with fail
          go_meet
          case rel => exact ⟨T, rfl, E.out, HM.out⟩
    case rest =>
      obtain ⟨T, rfl, hT, hM⟩ := hcut
      have M5 := Lib.hid hM
      have PRS : Hid (parseRes ((kn : Int) + 1) T = (mm, 0, 0)) := Lib.hid (by
        exact parse_text hkn HU.out hT (SL.out _ (Nat.le_refl _)))
      clear hT hM M4 T0 SL
      go_wp2_with fail
      refine (parse_is _ T mm 0 0 PRS.out _).mono ?_
      rintro e w6 ⟨v6, rfl, own6, k6⟩
      have M6 := Lib.hid (M5.out.next k6)
      have SAM := Lib.hid (same_yes mm v6 (.slice va mm.length cap) wc.heap.size B w6 own6 M6.out.2.2)
      clear k6 M5 own6 PRS
      go_wp2_with fail
      refine SAM.out.mono ?_
      rintro e w7 ⟨rfl, q, rfl⟩
      have M7 : Hid (MS w B mm (.slice va mm.length cap) (w6.drewN q)) := Lib.hid (M6.out.next ⟨rfl, rfl, rfl, Nat.le_refl _, fun _ _ => rfl⟩)
      obtain ⟨w8, hw8⟩ : ∃ W, w6.drewN q = W := ⟨_, rfl⟩
      rw [hw8] at M7 ⊢
      clear hw8 M6 SAM
      have l1 : IntKind.i64.wrap ((mm.length : Int) - 1) = (mm.length : Int) - 1 := IntWalk.i64_in _ (by have := LM.out; omega)
      go_upto_block 4 with fail
      have B0 : Hid (MS2 w B mm (.slice va mm.length cap) (backP mm mm.length) (.slice none 0 0) w8) := Lib.hid ⟨M7.out, by rw [backP_end]; exact ⟨rfl, .inl ⟨rfl, rfl⟩⟩, fun b hb => by cases hb⟩
      clear M7 l1
      go_cut [15] from 125 to 139 (fun s15 wc => MS2 w B mm (.slice va mm.length cap) (backL mm) s15 wc)
      case first =>
        go_wp2_with fail
        go_loopw [15, 16] (fun vb vi wr => ∃ j : Nat, vi = .int .i64 ((j : Int) - 1) ∧ j ≤ mm.length ∧ MS2 w B mm (.slice va mm.length cap) (backP mm j) vb wr) (fun _ vi _ => (intOf vi + 1).toNat)
        case atStart => exact ⟨mm.length, rfl, Nat.le_refl _, B0.out⟩
        case round =>
          obtain ⟨j, rfl, hj, hM⟩ := hrel
          obtain ⟨vk, capk, rfl⟩ := own_shape hM.2.1
          have HM := Lib.hid hM
          rcases Nat.eq_zero_or_pos j with rfl | hpos
          · have i1 : ¬ (0 : Int) ≤ ((0 : Nat) : Int) - 1 := by omega
            clear hM
            go_wp2_with fail
            go_meet
            case rel => exact HM.out
          · obtain ⟨i, rfl⟩ : ∃ i, j = i + 1 := ⟨j - 1, by omega⟩
            have ei : ((i + 1 : Nat) : Int) - 1 = (i : Int) := by omega
            rw [ei]
            have h1 : i < mm.length := by omega
            obtain ⟨g, ha, hcap, -⟩ := hM.1.one HU4.out i h1
            subst ha
            have hc := cell_row (g := g) (n := mm.length) (cap := cap) hM.1.2.2 rfl i h1
            have BS := Lib.hid (backP_step mm i h1)
            have BL : Hid ((backP mm (i + 1)).length ≤ 1099511627776) := Lib.hid (by have h1 := backP_length mm (i + 1); have h2 := LM.out; omega)
            obtain ⟨f, hf⟩ : ∃ q, mm[i].1 = q := ⟨_, rfl⟩
            obtain ⟨t, ht⟩ : ∃ q, mm[i].2 = q := ⟨_, rfl⟩
            have e0 := hc.1
            have e1 := hc.2
            rw [hf] at e0
            rw [ht] at e1
            have EE : Hid (mm[i] = (f, t)) := Lib.hid (by rw [← hf, ← ht])
            rw [EE.out] at BS
            have i1 : (i : Int) < (mm.length : Int) := by omega
            have i2 : (0 : Int) ≤ (i : Int) := by omega
            have i3 : IntKind.i64.wrap ((i : Int) - 1) = (i : Int) - 1 := IntWalk.i64_in _ (by have := LM.out; omega)
            clear hc hf ht hM ei EE
            go_upto_region 24 with fail
            have ka : Below wr.heap.size wr (wr.alloc (.cells #[.int .u32 (f : Int), .int .u32 (t : Int), .int .u32 (f : Int), .int .u32 (t : Int)] 37)).drew := ((Below.refl _ _).alloc (Nat.le_refl _) _).drew
            have MA := Lib.hid (HM.out.next ka)
            have RA : Hid ((wr.alloc (.cells #[.int .u32 (f : Int), .int .u32 (t : Int), .int .u32 (f : Int), .int .u32 (t : Int)] 37)).drew.heap[wr.heap.size]? = some (.cells (edgeCells [(f, t), (f, t)]).toArray 37 (0, 0))) := Lib.hid (heap_alloc_new wr _)
            clear ka
            go_region_law (first
              | (refine MS2.add MA.out (by rfl) _ _ (by rfl) (by rfl) wr.heap.size 2 2 [(f, t), (f, t)] rfl (by rfl) RA.out BL.out (by decide) ?_; intro v9 w9 hM9))
            all_goals
              rw [← BS.out] at hM9
              have HM9 := Lib.hid hM9
              clear hM9
              go_wp2_with fail
              go_roundw
              case rel => exact ⟨i, by go_num, by omega, HM9.out⟩
              case measure => simp [intOf]
      case rest =>
        obtain ⟨vk, capk, rfl⟩ := own_shape hcut.2.1
        have M9 := Lib.hid hcut
        have HUB : Hid (∀ t ∈ backL mm, t.1 < kn + 1 ∧ t.2 < kn + 1) := Lib.hid (fun t ht => HU.out t ((backL_mem mm t).1 ht))
        have BL : Hid ((backL mm).length ≤ 1099511627776) := Lib.hid (by have h1 := backP_length mm 0; have h2 := LM.out; rw [backP_zero] at h1; omega)
        have GA := group_any wc va mm cap (kn + 1) (by omega) (hcut.1.edges HU4.out) (by have := LM.out; omega) HU.out
        rw [K1.out] at GA
        have GA := Lib.hid GA
        clear hcut B0
        go_wp2_with fail
        refine GA.out.mono ?_
        rintro e w9 ⟨ga, rfl, RA⟩
        have M10 := Lib.hid (M9.out.next RA.1)
        have RA9 := Lib.hid RA
        have GB := group_any w9 vk (backL mm) capk (kn + 1) (by omega) (MS.edges ⟨M10.out.1.1, M10.out.1.2.1, M10.out.2.1⟩ (fun t ht => by have := HUB.out t ht; omega)) BL.out HUB.out
        rw [K1.out] at GB
        have GB := Lib.hid GB
        clear RA GA
        go_wp2_with fail
        refine GB.out.mono ?_
        rintro e w10 ⟨gb, rfl, RB⟩
        have ef : (fun v => fin (grp (backL mm) v)) = fun v => fin (grp mm v) := by funext v; exact fin_back mm v
        rw [ef] at RB
        have BF : Hid (Below B w w10) := Lib.hid (M10.out.1.1.trans (RB.1.mono M10.out.1.2.1))
        have RB2 := Lib.hid RB
        have RA2 := Lib.hid (RA9.out.next RA9.out.1.size RB.1)
        have RI : Hid (∀ i, ((fun v => fin (grp mm v)) i).Pairwise (· < ·)) := Lib.hid (fun i => fin_rises _)
        obtain ⟨F, hF⟩ : ∃ F, (fun v => fin (grp mm v)) = F := ⟨_, rfl⟩
        have FL : Hid (∀ i, ((fun v => fin (grp mm v)) i).length ≤ 300) := Lib.hid (fun i => Nat.le_trans (fin_length _) (Nat.le_trans (grp_length _ _) LM.out))
        rw [hF] at RB2 RA2 RI FL
        clear RB hF RA9 GB M10 M9 ef
        go_wp2_with fail
        go_loopw [21] (fun vi wr => ∃ i q : Nat, vi = .int .i64 (i : Int) ∧ i ≤ kn + 1 ∧ w10.drewN q = wr) (fun vi _ => kn + 1 - (intOf vi).toNat)
        case atStart => exact ⟨0, 0, rfl, Nat.zero_le _, rfl⟩
        case round =>
          obtain ⟨i, q, rfl, hi, rfl⟩ := hrel
          by_cases h1 : i < kn + 1
          · obtain ⟨a1, c1, ca, la⟩ := RA2.out.look i h1
            obtain ⟨a2, c2, cb2, lb⟩ := RB2.out.look i h1
            have LA := Lib.hid la
            have LB := Lib.hid lb
            have RI1 := Lib.hid (RI.out i)
            obtain ⟨Fi, hFi⟩ : ∃ q, F i = q := ⟨_, rfl⟩
            have LL : Hid (Fi.length ≤ 300) := Lib.hid (by rw [← hFi]; exact FL.out i)
            rw [hFi] at ca cb2 LA LB RI1
            have i1 : (i : Int) < (kn : Int) + 1 := by omega
            have CA : Hid (∀ q, (w10.drewN q).cell? ⟨ga, i, none⟩ = some (.slice a1 Fi.length c1)) := Lib.hid (fun _ => ca)
            have CB : Hid (∀ q, (w10.drewN q).cell? ⟨gb, i, none⟩ = some (.slice a2 Fi.length c2)) := Lib.hid (fun _ => cb2)
            have ca := CA.out q
            have cb2 := CB.out q
            clear la lb hFi
            go_wp2_with fail
            go_quiet (fail)
            clear ca cb2
            go_wp2_with fail
            go_loopw [22] (fun vj wr2 => ∃ j q2 : Nat, vj = .int .i64 (j : Int) ∧ j ≤ Fi.length ∧ w10.drewN q2 = wr2) (fun vj _ => Fi.length - (intOf vj).toNat)
            case atStart => exact ⟨0, q + nq, rfl, Nat.zero_le _, drewN_add _ _ _⟩
            case round =>
              obtain ⟨j, q2, rfl, hj, rfl⟩ := hrel
              have ca := CA.out q2
              have cb2 := CB.out q2
              by_cases h2 : j < Fi.length
              · obtain ⟨g1, ha1, x1⟩ := LA.out j h2
                obtain ⟨g2, ha2, x2⟩ := LB.out j h2
                subst ha1 ha2
                have j1 : (j : Int) < (Fi.length : Int) := by omega
                have j3 : IntKind.i64.wrap ((j : Int) + 1) = (j : Int) + 1 := IntWalk.i64_in _ (by have := LL.out; omega)
                have xa : w10.cell? ⟨g1, j, none⟩ = some (.int .u32 Fi[j]) := x1
                have xb : w10.cell? ⟨g2, j, none⟩ = some (.int .u32 Fi[j]) := x2
                obtain ⟨x, hx⟩ : ∃ x, Fi[j] = x := ⟨_, rfl⟩
                rw [hx] at xa xb
                have j8 : (0 : Int) ≤ (j : Int) := by omega
                by_cases hpos : 0 < j
                · obtain ⟨j', hj'⟩ : ∃ j', j = j' + 1 := ⟨j - 1, by omega⟩
                  obtain ⟨g3, ha3, x3⟩ := LA.out j' (by omega)
                  injection ha3 with ha3
                  injection ha3 with ha3
                  subst ha3
                  have xc : w10.cell? ⟨g1, j', none⟩ = some (.int .u32 Fi[j']) := x3
                  obtain ⟨y, hy⟩ : ∃ y, Fi[j'] = y := ⟨_, rfl⟩
                  rw [hy] at xc
                  have hlt : y < x := by rw [← hx, ← hy]; exact List.pairwise_iff_getElem.1 RI1.out j' j (by omega) h2 (by omega)
                  have j4 : IntKind.i64.wrap ((j : Int) - 1) = (j' : Int) := by rw [IntWalk.i64_in _ (by have := LL.out; omega)]; omega
                  have j5 : (j' : Int) < (Fi.length : Int) := by omega
                  have j6 : (0 : Int) < (j : Int) := by omega
                  have j7 : ¬ x ≤ y := by omega
                  have j9 : (0 : Int) ≤ (j' : Int) := by omega
                  have HJ := Lib.hid hj'
                  clear x1 x2 x3 hx hy hj' hlt
                  go_wp2_with fail
                  go_quiet (fail)
                  go_wp2_with fail
                  go_roundw
                  case rel => exact ⟨j + 1, q2 + nq, by go_num, by omega, by first | rfl | exact drewN_add _ _ _⟩
                  case measure => simp [intOf]; omega
                · have J2 : Hid (decide ((0 : Int) < (j : Int)) = false) := Lib.hid (decide_eq_false (by omega))
                  have HP := Lib.hid hpos
                  clear x1 x2 hx hpos
                  go_wp2_with fail
                  have j2 : decide ((0 : Int) < (j : Int)) = false := J2.out
                  have j2' : decide (0 < j) = false := decide_eq_false HP.out
                  go_quiet (fail)
                  go_wp2_with fail
                  go_roundw
                  case rel => exact ⟨j + 1, q2 + nq, by go_num, by omega, by first | rfl | exact drewN_add _ _ _⟩
                  case measure => simp [intOf]; omega
              · have j1 : ¬ (j : Int) < (Fi.length : Int) := by omega
                go_wp2_with fail
                go_roundw
                case rel => exact ⟨i + 1, q2, by go_num, by omega, rfl⟩
                case measure => simp [intOf]; omega
          · have i1 : ¬ (i : Int) < (kn : Int) + 1 := by omega
            have AW := Lib.hid (awake_any (w10.drewN q))
            have BW : Hid (Below B w (w10.drewN q)) := Lib.hid (BF.out.trans ⟨rfl, rfl, rfl, Nat.le_refl _, fun _ _ => rfl⟩)
            go_wp2_with fail
            refine AW.out.mono ?_
            rintro e w11 ⟨rfl, k11⟩
            have BE : Hid (Below B w w11) := Lib.hid (BW.out.trans (k11.mono (by have h1 := BW.out.size; have h2 := HB.out; omega)))
            clear k11
            go_wp2_with fail
            go_ret
            exact ⟨rfl, BE.out⟩
end Go.Proofs.Ythaicpbdlhkkkaa.edg
