/- list: numbers. -/
import Derived.Test.YtflnpcgnenhogaaDoorLsR
namespace Go.Proofs.YtflnpcgnenhogaaDoor.ls
open Go.RowKit Go.Proofs.YtflnpcgnenhogaaDoor.own Go.Proofs.YtflnpcgnenhogaaDoor.bit

theorem rd_eq (succ ref : List Nat) : runs succ ref = ((runs succ ref).1, (runs succ ref).2) := rfl
set_option maxRecDepth 100000 in
set_option maxHeartbeats 12800000 in
theorem numbers_any (p : Pr) (x : Nat) (w : World) (hG : GL w) (a : Option Addr) (succ : List Nat) (cap : Nat) (b : Option Addr) (ref : List Nat) (capb r : Nat) (hc : succ.length ≤ cap) (hcb : ref.length ≤ capb) (hm : MayN x succ ref r p) (hA : LV w a succ) (hB : LV w b ref) :
    Calls Tryd.prog 34 #[parV (p.win : Int) (p.itv : Int) (p.zet : Int), .int .i64 (x : Int), .slice a succ.length cap, .slice b ref.length capb, .int .i64 (r : Int)] w (NumsP w (nums x succ ref r p)) := by
  have hmf : ∀ (fn : Fn) (first cap : Array Value) (w : World), (Instr.makeFunc fn first cap).run Tryd.prog w = .ok (.func fn first cap) w := fun _ _ _ _ => rfl
  obtain ⟨⟨hp1, hp2, hp3⟩, hx, hsu, hre, hr1, hr2⟩ := hm
  have hsl := hsu.len
  have hrl := hre.len
  have HA := Lib.hid hA
  have HB := Lib.hid hB
  have HG := Lib.hid hG
  have HSU := Lib.hid hsu
  have HRE := Lib.hid hre
  obtain ⟨NN, hNN⟩ : ∃ NN, nums x succ ref r p = NN := ⟨_, rfl⟩
  have HNN := Lib.hid hNN
  rw [hNN]
  obtain ⟨win, itv, zet⟩ := p
  simp only at hp1 hp2 hp3 hr1
  unfold parV
  dsimp only
  have hG1 := hG.below ((Below.refl w.heap.size w).alloc (Nat.le_refl _) (.cells #[.int .i64 (win : Int), .int .i64 (itv : Int), .int .i64 (zet : Int)] 38))
  have g0 := hG1.g0
  have g1 := hG1.g1
  clear hG1 hA hB hG hsu hre hNN
  obtain ⟨n, hn⟩ : ∃ n, succ.length = n := ⟨_, rfl⟩
  have HN := Lib.hid hn
  rw [hn] at hc hsl ⊢
  clear hn
  go_enter Tryd.func34, Tryd.ntmps34
  go_upto_region 2 with fail
  generalize hW : World.alloc (World.alloc (World.alloc w _) _) _ = W1
  have H1 := Lib.hid (NS0.start hW)
  clear hW g0 g1
  obtain ⟨sz, hsz⟩ : ∃ k, w.heap.size = k := ⟨_, rfl⟩
  rw [hsz] at H1 ⊢
  clear hsz
  obtain ⟨ks, hks⟩ : ∃ ks, ks = [(sz, Obj.cells #[.int .i64 (win : Int), .int .i64 (itv : Int), .int .i64 (zet : Int)] 38 (0, 0))] := ⟨_, rfl⟩
  have HKS : Hid ((sz, Obj.cells #[.int .i64 (win : Int), .int .i64 (itv : Int), .int .i64 (zet : Int)] 38 (0, 0)) ∈ ks) := Lib.hid (by rw [hks]; exact List.mem_cons_self ..)
  rw [← hks] at H1
  clear hks
  by_cases hn0 : n = 0
  · -- no successors
    obtain ⟨v, cv, hP⟩ := H1.out.done
    have E : Hid ([(Cd.gam, n)] = NN) := Lib.hid (by
      have : succ = [] := List.eq_nil_of_length_eq_zero (by rw [HN.out]; exact hn0)
      rw [← HNN.out, ← HN.out]
      subst this
      rfl)
    rw [E.out] at hP
    have HP := Lib.hid hP
    have n0 : ((n : Int) == 0) = true := by rw [hn0]; rfl
    clear hP
    subst hn0
    go_wp2_with fail
    go_ret
    exact HP.out
  · have n0 : ((n : Int) == 0) = false := beq_eq_false_iff_ne.2 (by omega)
    have hsne : succ ≠ [] := fun e => hn0 (by rw [← HN.out, e]; rfl)
    have HSNE := Lib.hid hsne
    clear hsne
    have r1 := H1.out.row HKS.out
    have c0 : W1.cell? ⟨sz, 0, none⟩ = some (.int .i64 (win : Int)) := by rw [cell_of_row _ _ _ _ _ _ r1]; rfl
    clear r1
    go_upto_if 38 with fail
    clear c0
    go_cut [] from 38 to 43 (fun wc => NS0 w (sz + 1 + 1) (hdN succ r ⟨win, itv, zet⟩) ks wc)
    case first =>
      by_cases hw0 : 0 < win
      · have E : Hid ([(Cd.gam, n)] ++ [(.una, r)] = hdN succ r ⟨win, itv, zet⟩) := Lib.hid (by unfold hdN; rw [if_neg HSNE.out, if_pos hw0, ← HN.out]; rfl)
        have PU := Lib.hid (H1.out.put .una r (by omega) (by simp))
        rw [E.out] at PU
        have hG1 := HG.out.below H1.out.below
        have u0 := hG1.u0
        have u1 := hG1.u1
        have hw1 : (0 : Int) < (win : Int) := by omega
        unfold cdV at PU
        clear hG1
        go_wp2_with fail
        with_reducible refine PU.out.mono ?_
        rintro e w2 ⟨rfl, h2⟩
        have H2 := Lib.hid h2
        clear h2
        go_wp2_with fail
        go_meet
        case rel => exact H2.out
      · have E : Hid ([(Cd.gam, n)] = hdN succ r ⟨win, itv, zet⟩) := Lib.hid (by unfold hdN; rw [if_neg HSNE.out, if_neg hw0, ← HN.out])
        have hw1 : ¬ (0 : Int) < (win : Int) := by omega
        go_wp2_with fail
        go_meet
        case rel => rw [← E.out]; exact H1.out
    case rest =>
      have H2 := Lib.hid hcut
      generalize wc = W2 at H2 ⊢
      clear H1 hcut
      go_upto_region 8 with fail
      generalize hW : World.alloc (World.alloc (World.alloc W2 _) _) _ = W3
      have H3 := Lib.hid (H2.out.more hW)
      clear hW
      obtain ⟨rb, hrb⟩ : ∃ k, W2.heap.size + 1 = k := ⟨_, rfl⟩
      obtain ⟨fb, hfb⟩ : ∃ k, rb + 1 = k := ⟨_, rfl⟩
      rw [hrb, hfb] at H3 ⊢
      clear hrb hfb H2
      have EA := Lib.hid (H3.out.each a succ cap b ref capb (by rw [HN.out]; exact hc) hcb (by rw [HN.out]; omega) HA.out HB.out)
      rw [HN.out, eachF_runs HSU.out HRE.out] at EA
      have RO := Lib.hid (runs_ok succ ref)
      obtain ⟨Q, hQ⟩ : ∃ Q, runs succ ref = Q := ⟨_, rfl⟩
      obtain ⟨Fl, hF⟩ : ∃ Fl, leftOf succ ref = Fl := ⟨_, rfl⟩
      rw [hQ, hF] at EA
      rw [hQ] at RO
      have HQ := Lib.hid hQ
      have HF := Lib.hid hF
      clear hQ hF
      go_wp2_with fail
      with_reducible refine EA.out.mono ?_
      rintro e w4 ⟨rfl, h4⟩
      have H4 := Lib.hid h4
      clear h4 EA H3
      have RL := Lib.hid RO.out.len
      have RP := Lib.hid RO.out.pos
      have RA := Lib.hid RO.out.all
      go_upto_if 49 with fail
      go_cut [] from 15 to 75 (fun wc => NS w (sz + 1 + 1) fb rb (hdN succ r ⟨win, itv, zet⟩ ++ runN succ ref r) (Fl, Q) ks wc)
      case first => as_aux_lemma =>
        --F1
        by_cases hr0 : 0 < r
        · have hri : (0 : Int) < (r : Int) := by omega
          have RN : Hid (runN succ ref r = (Cd.gam, Q.1.length) :: (rnm 0 Q.1).map (fun v => (Cd.gam, v))) := Lib.hid (by unfold runN; rw [if_pos hr0, HQ.out])
          obtain ⟨q1, hq1⟩ : ∃ q1, Q.1.length = q1 := ⟨_, rfl⟩
          have HQ1 := Lib.hid hq1
          have hql : q1 ≤ 65536 := by rw [← hq1]; exact Nat.le_trans RL.out hrl
          have hdl : (hdN succ r ⟨win, itv, zet⟩).length ≤ 2 := by
            unfold hdN
            split
            · simp
            · split <;> simp
          have HDL := Lib.hid hdl
          have PU := Lib.hid (H4.out.put .gam q1 (by omega) (by omega))
          obtain ⟨g, cg, e1, e2, e3, e4⟩ := H4.out.runs
          simp only at e1 e2 e4
          rw [hq1] at e1 e2
          have hG4 := HG.out.below H4.out.ns0.below
          have g0 := hG4.g0
          have g1 := hG4.g1
          have E1 := Lib.hid e1
          have i1 : IntKind.i64.wrap (((q1 + 1 : Nat) : Int) - 1) = (q1 : Int) := by rw [IntWalk.i64_in _ (by omega)]; omega
          unfold cdV at PU
          clear hG4 e3 e4 hdl hq1
          go_wp2_with fail
          with_reducible refine PU.out.mono ?_
          rintro e w5 ⟨rfl, h5, h5r⟩
          have H5 := Lib.hid h5
          have e5 : w5.cell? ⟨rb, 0, none⟩ = some (.slice (some ⟨g, 0, none⟩) (q1 + 1) cg) := h5r.trans E1.out
          have E5 := Lib.hid e5
          have s1 : ¬ (cg : Int) < (q1 : Int) := by omega
          clear h5 h5r g0 g1 PU H4 e1
          go_wp2_with fail
          clear e5
          have SM := Lib.hid (fun i (h : i < Q.1.length) => sum_get Q.1 i h)
          go_loopw [62] (fun vi wr => ∃ i : Nat, vi = .int .i64 (i : Int) ∧ i ≤ q1 ∧ NS w (sz + 1 + 1) fb rb ((hdN succ r ⟨win, itv, zet⟩ ++ [(Cd.gam, q1)]) ++ (rnm 0 (Q.1.take i)).map (fun v => (Cd.gam, v))) (Fl, Q) ks wr ∧ wr.cell? ⟨rb, 0, none⟩ = some (.slice (some ⟨g, 0, none⟩) (q1 + 1) cg)) (fun vi _ => q1 - (intOf vi).toNat)
          case atStart => exact ⟨0, rfl, Nat.zero_le _, by simpa [rnm] using H5.out, E5.out⟩
          case round =>
            obtain ⟨i, rfl, hi, hS, he⟩ := hrel
            have HS := Lib.hid hS
            have HE := Lib.hid he
            clear hS he
            by_cases hlt : i < q1
            · obtain ⟨g', cg', e1, _, e3, e4⟩ := HS.out.runs
              simp only at e1 e4
              obtain ⟨rfl, rfl⟩ : g' = g ∧ cg' = cg := by
                have := e1.symm.trans HE.out
                rw [HQ1.out] at this
                injection this with this
                injection this with h1 _ h3
                injection h1 with h1
                injection h1 with h1
                exact ⟨h1, h3⟩
              have hiq : i < Q.1.length := by rw [HQ1.out]; exact hlt
              have ei := e4 i hiq
              obtain ⟨v, hv⟩ : ∃ v, Q.1[i] = v := ⟨_, rfl⟩
              rw [hv] at ei
              have hvb : v ≤ 65536 := by
                have h1 := SM.out i hiq
                have h2 := RA.out
                rw [hv] at h1
                omega
              have hv0 : min i 1 ≤ v := by
                rcases Nat.eq_zero_or_pos i with h | h
                · omega
                · have := RP.out i hiq h
                  rw [hv] at this; omega
              have TS : Hid ((rnm 0 (Q.1.take (i + 1))).map (fun v => (Cd.gam, v)) = (rnm 0 (Q.1.take i)).map (fun v => (Cd.gam, v)) ++ [(Cd.gam, v - min i 1)]) := Lib.hid (by
                rw [List.take_succ_eq_append_getElem hiq, rnm_snoc, List.map_append, hv, List.length_take, Nat.min_eq_left (Nat.le_of_lt hiq), Nat.zero_add]
                rfl)
              have hln : ((hdN succ r ⟨win, itv, zet⟩ ++ [(Cd.gam, q1)]) ++ (rnm 0 (Q.1.take i)).map (fun v => (Cd.gam, v))).length ≤ 1000000000 := by
                have := HDL.out
                rw [List.length_append, List.length_append, List.length_map, rnm_length, List.length_take, List.length_singleton]
                omega
              have PU := Lib.hid (HS.out.put .gam (v - min i 1) (by omega) hln)
              rw [List.append_assoc, ← TS.out] at PU
              have hG4 := HG.out.below HS.out.ns0.below
              have g0 := hG4.g0
              have g1 := hG4.g1
              have i1 : (i : Int) < (q1 : Int) := by omega
              have i2 : min (i : Int) 1 = ((min i 1 : Nat) : Int) := by omega
              obtain ⟨mi, hmi⟩ : ∃ mi, min i 1 = mi := ⟨_, rfl⟩
              rw [hmi] at i2 hv0 PU
              have i3 : (v : Int) - (mi : Int) = ((v - mi : Nat) : Int) := by omega
              unfold cdV at PU
              clear hG4 e1 e3 e4 hln hv hmi
              go_wp2_with fail
              with_reducible refine PU.out.mono ?_
              rintro e w7 ⟨rfl, h7, h7r⟩
              have H7 := Lib.hid (And.intro h7 (h7r.trans HE.out))
              clear h7 h7r PU g0 g1 ei
              go_wp2_with fail
              go_roundw
              case rel => exact ⟨i + 1, by go_num, by omega, by have h7 := H7.out.1; simp only [List.append_assoc] at h7 ⊢; exact h7, H7.out.2⟩
              case measure => simp [intOf]; omega
            · obtain rfl : i = q1 := by omega
              have i1 : ¬ (i : Int) < (i : Int) := by omega
              have FIN : Hid ((hdN succ r ⟨win, itv, zet⟩ ++ [(Cd.gam, i)]) ++ (rnm 0 (Q.1.take i)).map (fun v => (Cd.gam, v)) = hdN succ r ⟨win, itv, zet⟩ ++ runN succ ref r) := Lib.hid (by
                rw [RN.out, HQ1.out, List.take_of_length_le (by rw [HQ1.out]; exact Nat.le_refl _), List.append_assoc]
                rfl)
              go_wp2_with fail
              go_meet
              case rel => rw [← FIN.out]; exact HS.out
        · have hri : ¬ (0 : Int) < (r : Int) := by omega
          have RN : Hid (hdN succ r ⟨win, itv, zet⟩ = hdN succ r ⟨win, itv, zet⟩ ++ runN succ ref r) := Lib.hid (by unfold runN; rw [if_neg hr0, List.append_nil])
          go_wp2_with fail
          go_meet
          case rel => rw [← RN.out]; exact H4.out
      case rest =>
        have H6 := Lib.hid hcut
        generalize wc = W6 at H6 ⊢
        clear H4 hcut
        obtain ⟨L2, hL2⟩ : ∃ L2, hdN succ r ⟨win, itv, zet⟩ ++ runN succ ref r = L2 := ⟨_, rfl⟩
        have HL2 := Lib.hid hL2
        rw [hL2] at H6
        have L2l : Hid (L2.length ≤ 131080) := Lib.hid (by
          rw [← hL2, List.length_append]
          have h1 : (hdN succ r ⟨win, itv, zet⟩).length ≤ 2 := by
            unfold hdN
            split
            · simp
            · split <;> simp
          have h2 : (runN succ ref r).length ≤ 1 + 65536 := by
            unfold runN
            split
            · rw [List.length_cons, List.length_map, rnm_length, HQ.out]
              have := RL.out
              omega
            · simp
          omega)
        have FR : Hid (Ris Fl) := Lib.hid (by
          rw [← HF.out]
          exact ⟨HSU.out.1.sublist List.filter_sublist, fun v hv => HSU.out.2 v (List.mem_filter.1 hv).1⟩)
        have hfl := FR.out.len
        obtain ⟨af, cf, f1, f2, f3⟩ := H6.out.left (fun v hv => Nat.lt_of_lt_of_le (FR.out.2 v hv) (by decide)) (by show Fl.length ≤ _; omega)
        simp only at f1 f2 f3
        have RE : Hid (NN = L2 ++ restN x Fl ⟨win, itv, zet⟩) := Lib.hid (by
          rw [← HNN.out, ← hL2, ← HF.out]
          unfold nums tlN
          rw [if_neg HSNE.out, List.append_assoc])
        obtain ⟨m, hm⟩ : ∃ m, Fl.length = m := ⟨_, rfl⟩
        rw [hm] at f1 f2 hfl
        have HM := Lib.hid hm
        have F3 := Lib.hid f3
        clear hL2 hm f3
        by_cases hm0 : m = 0
        · have n1 : ((m : Int) == 0) = true := by rw [hm0]; rfl
          obtain ⟨v, cv, hP⟩ := H6.out.ns0.done
          have E : Hid (L2 = NN) := Lib.hid (by
            have : Fl = [] := List.eq_nil_of_length_eq_zero (by rw [HM.out]; exact hm0)
            rw [RE.out, this]
            unfold restN
            rw [if_pos rfl, List.append_nil])
          rw [E.out] at hP
          have HP := Lib.hid hP
          clear hP hm0
          go_wp2_with fail
          go_ret
          exact HP.out
        · have n1 : ((m : Int) == 0) = false := beq_eq_false_iff_ne.2 (by omega)
          have hFne : Fl ≠ [] := fun e => hm0 (by rw [← HM.out, e]; rfl)
          have HFNE := Lib.hid hFne
          clear hFne
          have r6 := H6.out.ns0.row HKS.out
          have c1 : W6.cell? ⟨sz, 1, none⟩ = some (.int .i64 (itv : Int)) := by rw [cell_of_row _ _ _ _ _ _ r6]; rfl
          have RW := Lib.hid (rows_any W6 af Fl cf itv (by rw [HM.out]; exact f2) (by omega) F3.out FR.out)
          rw [HM.out] at RW
          clear r6
          go_wp2_with fail
          with_reducible refine RW.out.mono ?_
          rintro e w7 ⟨v1, v2, rfl, h7⟩
          have RK := Lib.hid (rws_ok itv Fl FR.out)
          obtain ⟨P, hP⟩ : ∃ P, (rws itv Fl).1 = P := ⟨_, rfl⟩
          obtain ⟨R, hR⟩ : ∃ R, (rws itv Fl).2 = R := ⟨_, rfl⟩
          rw [hP, hR] at h7
          have hRb : ∀ v ∈ R, v < 65536 := fun v hv => FR.out.2 v (RK.out.sub.subset (hR ▸ hv))
          have hRl : R.length ≤ 65536 := by
            have := RK.out.sub.length_le
            rw [hR, HM.out] at this
            omega
          have hPl : P.length ≤ 65536 := by
            have h1 := RK.out.perm.length_eq
            rw [List.length_append, sumLen, hP, HM.out] at h1
            have h2 := RK.out.apart
            rw [hP] at h2
            have h3 := apart_len _ _ h2
            omega
          obtain ⟨a1, c1', a2, c2', rfl, rfl, hc2, ks2, kin, H7, KV⟩ := H6.out.rows h7 (fun v hv => Nat.lt_of_lt_of_le (hRb v hv) (by decide)) (by omega)
          have HKV := Lib.hid KV
          have HKS2 := Lib.hid (kin _ HKS.out)
          have HP := Lib.hid hP
          have HR := Lib.hid hR
          have HRB := Lib.hid hRb
          have H7 := Lib.hid H7
          clear KV kin h7 hP hR hRb H6 c1 RW f1 n1
          have RE2 : Hid (NN = L2 ++ ((if 0 < itv then [(Cd.gam, P.length)] else []) ++ (lnm x itv none P).map (fun v => (Cd.gam, v)) ++ (znm x none R).map (fun v => (Cd.zet zet, v)))) := Lib.hid (by
            rw [RE.out]
            unfold restN
            rw [if_neg HFNE.out, HP.out, HR.out])
          obtain ⟨np, hnp⟩ : ∃ np, P.length = np := ⟨_, rfl⟩
          obtain ⟨nr, hnr⟩ : ∃ nr, R.length = nr := ⟨_, rfl⟩
          rw [hnp] at hPl RE2 ⊢
          rw [hnr] at hRl hc2 ⊢
          have HNP := Lib.hid hnp
          have HNR := Lib.hid hnr
          have r7 := H7.out.ns0.row HKS2.out
          have c1 : w7.cell? ⟨sz, 1, none⟩ = some (.int .i64 (itv : Int)) := by rw [cell_of_row _ _ _ _ _ _ r7]; rfl
          clear hnp hnr r7
          go_upto_if 88 with fail
          clear c1
          go_cut [] from 88 to 94 (fun wc => NS w (sz + 1 + 1) fb rb (L2 ++ (if 0 < itv then [(Cd.gam, np)] else [])) (Fl, Q) ks2 wc)
          case first => as_aux_lemma =>
            --F2
            by_cases hi0 : 0 < itv
            · have hi1 : (0 : Int) < (itv : Int) := by omega
              have PU := Lib.hid (H7.out.put .gam np (by omega) (Nat.le_trans L2l.out (by decide)))
              have E : Hid (L2 ++ [(Cd.gam, np)] = L2 ++ (if 0 < itv then [(Cd.gam, np)] else [])) := Lib.hid (by rw [if_pos hi0])
              rw [E.out] at PU
              have hG4 := HG.out.below H7.out.ns0.below
              have g0 := hG4.g0
              have g1 := hG4.g1
              unfold cdV at PU
              clear hG4
              go_wp2_with fail
              with_reducible refine PU.out.mono ?_
              rintro e w8 ⟨rfl, h8, -⟩
              have H8 := Lib.hid h8
              clear h8
              go_wp2_with fail
              go_meet
              case rel => exact H8.out
            · have hi1 : ¬ (0 : Int) < (itv : Int) := by omega
              have E : Hid (L2 = L2 ++ (if 0 < itv then [(Cd.gam, np)] else [])) := Lib.hid (by rw [if_neg hi0, List.append_nil])
              go_wp2_with fail
              go_meet
              case rel => rw [← E.out]; exact H7.out
          case rest =>
            have H8 := Lib.hid hcut
            generalize wc = W8 at H8 ⊢
            clear H7 hcut
            obtain ⟨L3, hL3⟩ : ∃ L3, L2 ++ (if 0 < itv then [(Cd.gam, np)] else []) = L3 := ⟨_, rfl⟩
            have HL3 := Lib.hid hL3
            rw [hL3] at H8
            have L3l : Hid (L3.length ≤ 131081) := Lib.hid (by
              rw [← hL3, List.length_append]
              have := L2l.out
              split <;> simp <;> omega)
            clear hL3
            have AP := Lib.hid (show Apart itv none P from HP.out ▸ RK.out.apart)
            go_wp2_with fail
            go_loopw [19, 96] (fun ve vi wr => ∃ i : Nat, vi = .int .i64 (i : Int) ∧ i ≤ np ∧ ve = endV (lend none (P.take i)) ∧ NS w (sz + 1 + 1) fb rb (L3 ++ (lnm x itv none (P.take i)).map (fun v => (Cd.gam, v))) (Fl, Q) ks2 wr) (fun _ vi _ => np - (intOf vi).toNat)
            case atStart => exact ⟨0, rfl, Nat.zero_le _, rfl, by simpa [lnm] using H8.out⟩
            case round =>
              obtain ⟨i, rfl, hi, rfl, hS⟩ := hrel
              have HS := Lib.hid hS
              clear hS
              by_cases hlt : i < np
              · --A1
                have hip : i < P.length := by rw [HNP.out]; exact hlt
                obtain ⟨g, rfl, p0, p1⟩ := (HKV.out _ _ _ HS.out).1 i hip
                obtain ⟨b0, b1, b2, b3⟩ := Apart.get AP.out i hip
                obtain ⟨f, hf⟩ : ∃ f, P[i].1 = f := ⟨_, rfl⟩
                obtain ⟨n', hn'⟩ : ∃ n', P[i].2 = n' := ⟨_, rfl⟩
                rw [hf] at p0 b2 b3
                rw [hn'] at p1 b0 b1 b2
                have TK : Hid (P.take (i + 1) = P.take i ++ [(f, n')]) := Lib.hid (by rw [List.take_succ_eq_append_getElem hip, ← hf, ← hn'])
                have SN := Lib.hid (lnm_snoc x itv none (P.take i) f n')
                have LS := Lib.hid (lend_snoc none (P.take i) f n')
                rw [← TK.out] at SN LS
                have LL : Hid ((L3 ++ (lnm x itv none (P.take i)).map (fun v => (Cd.gam, v))).length ≤ 1000000) := Lib.hid (by
                  rw [List.length_append, List.length_map, lnm_length, List.length_take]
                  have := L3l.out
                  omega)
                obtain ⟨L4, hL4⟩ : ∃ L4, L3 ++ (lnm x itv none (P.take i)).map (fun v => (Cd.gam, v)) = L4 := ⟨_, rfl⟩
                rw [hL4] at HS LL
                have HL4 := Lib.hid hL4
                obtain ⟨o, ho⟩ : ∃ o, lend none (P.take i) = o := ⟨_, rfl⟩
                rw [ho] at b3 SN ⊢
                obtain ⟨z, hz, hzo⟩ : ∃ z : Int, endV o = .int .i64 z ∧ ((o = none ∧ z = -1) ∨ ∃ e : Nat, o = some e ∧ z = (e : Int)) := by
                  cases o with
                  | none => exact ⟨-1, rfl, .inl ⟨rfl, rfl⟩⟩
                  | some e => exact ⟨(e : Int), rfl, .inr ⟨e, rfl, rfl⟩⟩
                rw [hz]
                have HZO := Lib.hid hzo
                clear hz hzo
                have H9 := Lib.hid (HS.out.more ((Below.refl wr.heap.size wr).alloc (Nat.le_refl _) (.cells #[.int .i64 (f : Int), .int .i64 (n' : Int)] 126)) [(wr.heap.size, .cells #[.int .i64 (f : Int), .int .i64 (n' : Int)] 126 (0, 0))] (fun p hp => by
                  rcases List.mem_cons.1 hp with rfl | hp
                  · exact ⟨Nat.le_refl _, heap_alloc_new wr _⟩
                  · cases hp))
                have i1 : (i : Int) < (np : Int) := by omega
                have i0 : (0 : Int) ≤ (i : Int) := Int.natCast_nonneg i
                clear hf hn' hL4 ho hip
                go_upto_if 101 with fail
                clear p0 p1
                generalize hvb : wr.heap.size = vb at H9 ⊢
                generalize World.alloc wr _ = W9 at H9 ⊢
                clear hvb
                obtain ⟨ks3, hks3⟩ : ∃ ks3, [(vb, Obj.cells #[.int .i64 (f : Int), .int .i64 (n' : Int)] 126 (0, 0))] ++ ks2 = ks3 := ⟨_, rfl⟩
                have K1 : Hid ((vb, Obj.cells #[.int .i64 (f : Int), .int .i64 (n' : Int)] 126 (0, 0)) ∈ ks3) := Lib.hid (by rw [← hks3]; exact List.mem_append_left _ (List.mem_cons_self ..))
                have K2 : Hid (∀ p ∈ ks2, p ∈ ks3) := Lib.hid (fun p hp => by rw [← hks3]; exact List.mem_append_right _ hp)
                have K3 : Hid (∀ L W, NS w (sz + 1 + 1) fb rb L (Fl, Q) ks3 W → NS w (sz + 1 + 1) fb rb L (Fl, Q) ks2 W) := Lib.hid (fun L W h => h.fewer K2.out)
                rw [hks3] at H9
                clear hks3 HS
                obtain ⟨v0, hv0⟩ : ∃ v0 : Nat, frstN x o f = v0 := ⟨_, rfl⟩
                have V0 := Lib.hid hv0
                have hv0b : v0 ≤ 262144 := by
                  rw [← hv0]
                  cases o with
                  | none => exact zig_lt (by omega) hx
                  | some e => show f - e - 2 ≤ _; omega
                rw [hv0] at SN
                have B3 := Lib.hid b3
                clear hv0 b3
                go_cut [] from 100 to 119 (fun wc => NS w (sz + 1 + 1) fb rb (L4 ++ [(Cd.gam, v0)]) (Fl, Q) ks3 wc)
                case first => as_aux_lemma =>
                  --F3
                  have PU := Lib.hid (fun W h => NS.put (W := W) (ks := ks3) (L := L4) (s := (Fl, Q)) (w := w) (lb := sz + 1 + 1) (fb := fb) (rb := rb) h .gam v0 (by omega) (Nat.le_trans LL.out (by decide)))
                  have CF := Lib.hid (fun L W (h : NS w (sz + 1 + 1) fb rb L (Fl, Q) ks3 W) => h.ns0.row K1.out)
                  rcases HZO.out with ⟨rfl, rfl⟩ | ⟨e, rfl, rfl⟩
                  · --R26
                    have hz : (-1 : Int) < 0 := by decide
                    have ZG := Lib.hid (fun W => Zig_any ((f : Int) - (x : Int)) (by omega) (by omega) W)
                    have V1 : Hid (zig ((f : Int) - (x : Int)) = v0) := V0
                    rw [V1.out] at ZG
                    have w1 : IntKind.i64.wrap ((f : Int) - (x : Int)) = (f : Int) - (x : Int) := IntWalk.i64_in _ (by omega)
                    have hv1 : v0 < 9223372036854775807 := by omega
                    go_upto_region 26 with fail
                    have h9 := H9.out.next (W' := { W9 with drawn := W9.drawn + 1 }) ⟨rfl, rfl, rfl, Nat.le_refl _, fun _ _ => rfl⟩
                    generalize hW : ({ W9 with drawn := W9.drawn + 1 } : World) = W10 at h9
                    have r9 := CF.out _ _ h9
                    have c0 : W10.cell? ⟨vb, 0, none⟩ = some (.int .i64 (f : Int)) := by rw [cell_of_row _ _ _ _ _ _ r9]; rfl
                    have hG4 := HG.out.below h9.ns0.below
                    have g0 := hG4.g0
                    have g1 := hG4.g1
                    have H10 := Lib.hid h9
                    clear h9 r9 hG4
                    refine wp_region_still_tail 8 (by kernel_rfl) (by kernel_rfl) ?_
                    simp only [List.take_succ_cons, List.take_zero, List.drop_succ_cons, List.drop_zero]
                    rw [hW]
                    clear hW
                    repeat (first | still_step | still_call ((ZG.out _).mono (fun e w' h => ⟨h.1, h.2.symm⟩)))
                    refine wpStill_nil ?_
                    clear c0 g0 g1 w1 ZG
                    unfold cdV at PU
                    go_wp2_with fail
                    with_reducible refine (PU.out _ H10.out).mono ?_
                    rintro e w12 ⟨rfl, h12, -⟩
                    have H12 := Lib.hid h12
                    clear h12
                    go_wp2_with fail
                    go_meet
                    case rel => exact H12.out
                  · --R27
                    have hz : ¬ (e : Int) < 0 := by omega
                    have hef := B3.out e rfl
                    have V1 : f - e - 2 = v0 := V0.out
                    have w1 : (f : Int) - (e : Int) - 2 = (v0 : Int) := by omega
                    have W1' := Lib.hid w1
                    have r9 := CF.out _ _ H9.out
                    have c0 : W9.cell? ⟨vb, 0, none⟩ = some (.int .i64 (f : Int)) := by rw [cell_of_row _ _ _ _ _ _ r9]; rfl
                    have hG4 := HG.out.below H9.out.ns0.below
                    have g0 := hG4.g0
                    have g1 := hG4.g1
                    clear r9 hG4 V1
                    unfold cdV at PU
                    go_wp2_with fail
                    with_reducible refine (PU.out _ H9.out).mono ?_
                    rintro e w12 ⟨rfl, h12, -⟩
                    have H12 := Lib.hid h12
                    clear h12
                    go_wp2_with fail
                    go_meet
                    case rel => exact H12.out
                case rest =>
                  have H11 := Lib.hid hcut
                  generalize wc = W11 at H11 ⊢
                  clear hcut H9
                  have r1 := H11.out.ns0.row K1.out
                  have c1 : W11.cell? ⟨vb, 1, none⟩ = some (.int .i64 (n' : Int)) := by rw [cell_of_row _ _ _ _ _ _ r1]; rfl
                  have r2 := H11.out.ns0.row (K2.out _ HKS2.out)
                  have c2 : W11.cell? ⟨sz, 1, none⟩ = some (.int .i64 (itv : Int)) := by rw [cell_of_row _ _ _ _ _ _ r2]; rfl
                  have hG4 := HG.out.below H11.out.ns0.below
                  have g0 := hG4.g0
                  have g1 := hG4.g1
                  have PU := Lib.hid (H11.out.put .gam (n' - itv) (by omega) (by have := LL.out; rw [List.length_append, List.length_singleton]; omega))
                  have w1 : (n' : Int) - (itv : Int) = ((n' - itv : Nat) : Int) := by omega
                  have w2 : (f : Int) + (n' : Int) - 1 = ((f + n' - 1 : Nat) : Int) := by omega
                  unfold cdV at PU
                  clear r1 r2 hG4
                  go_wp2_with fail
                  with_reducible refine PU.out.mono ?_
                  rintro e w12 ⟨rfl, h12, -⟩
                  have r1 := h12.ns0.row K1.out
                  have c1' : w12.cell? ⟨vb, 1, none⟩ = some (.int .i64 (n' : Int)) := by rw [cell_of_row _ _ _ _ _ _ r1]; rfl
                  have c0' : w12.cell? ⟨vb, 0, none⟩ = some (.int .i64 (f : Int)) := by rw [cell_of_row _ _ _ _ _ _ r1]; rfl
                  have H12 := Lib.hid (K3.out _ _ h12)
                  clear h12 r1 c1 c2 g0 g1 PU
                  go_wp2_with fail
                  go_roundw
                  case rel =>
                    refine ⟨i + 1, by go_num, by omega, ?_, ?_⟩
                    · rw [LS.out, endV, ← w2]
                    · rw [SN.out, List.map_append, ← List.append_assoc, HL4.out]
                      have h12 := H12.out
                      rw [List.append_assoc] at h12
                      exact h12
                  case measure => simp [intOf]; omega
              · obtain rfl : i = np := by omega
                --B
                have PT : Hid (P.take i = P) := Lib.hid (List.take_of_length_le (by rw [HNP.out]; exact Nat.le_refl _))
                rw [PT.out] at HS ⊢
                have i1 : ¬ (i : Int) < (i : Int) := by omega
                have r2 := HS.out.ns0.row HKS2.out
                have c2 : wr.cell? ⟨sz, 2, none⟩ = some (.int .i64 (zet : Int)) := by rw [cell_of_row _ _ _ _ _ _ r2]; rfl
                have hzz : zet < 100 := by omega
                obtain ⟨L5, hL5⟩ : ∃ L5, L3 ++ (lnm x itv none P).map (fun v => (Cd.gam, v)) = L5 := ⟨_, rfl⟩
                rw [hL5] at HS
                have L5l : Hid (L5.length ≤ 300000) := Lib.hid (by
                  rw [← hL5, List.length_append, List.length_map, lnm_length, HNP.out]
                  have := L3l.out
                  omega)
                have HL5 := Lib.hid hL5
                have H12 := Lib.hid (HS.out.more ((Below.refl wr.heap.size wr).alloc (Nat.le_refl _) (.cells #[.int .u8 3, .int .u64 (zet : Int)] 85)) [(wr.heap.size, .cells #[.int .u8 3, .int .u64 (zet : Int)] 85 (0, 0))] (fun p hp => by
                  rcases List.mem_cons.1 hp with rfl | hp
                  · exact ⟨Nat.le_refl _, heap_alloc_new wr _⟩
                  · cases hp))
                clear r2 hL5
                go_upto_region 33 with fail
                generalize hvb : wr.heap.size = zb at H12 ⊢
                generalize World.alloc wr _ = W12 at H12 ⊢
                clear hvb c2 HS
                obtain ⟨ks3, hks3⟩ : ∃ ks3, [(zb, Obj.cells #[.int .u8 3, .int .u64 (zet : Int)] 85 (0, 0))] ++ ks2 = ks3 := ⟨_, rfl⟩
                have K1 : Hid ((zb, Obj.cells #[.int .u8 3, .int .u64 (zet : Int)] 85 (0, 0)) ∈ ks3) := Lib.hid (by rw [← hks3]; exact List.mem_append_left _ (List.mem_cons_self ..))
                have K2 : Hid (∀ p ∈ ks2, p ∈ ks3) := Lib.hid (fun p hp => by rw [← hks3]; exact List.mem_append_right _ hp)
                rw [hks3] at H12
                clear hks3
                go_wp2_with fail
                go_loopw [140] (fun vj wq => ∃ j : Nat, vj = .int .i64 (j : Int) ∧ j ≤ nr ∧ NS w (sz + 1 + 1) fb rb (L5 ++ (znm x none (R.take j)).map (fun v => (Cd.zet zet, v))) (Fl, Q) ks3 wq) (fun vj _ => nr - (intOf vj).toNat)
                case atStart => exact ⟨0, rfl, Nat.zero_le _, by simpa [znm] using H12.out⟩
                case round =>
                  obtain ⟨j, rfl, hj, hS⟩ := hrel
                  have HS := Lib.hid hS
                  clear hS H12
                  by_cases hlt : j < nr
                  · have hjr : j < R.length := by rw [HNR.out]; exact hlt
                    have LV2 := Lib.hid (HKV.out _ _ _ (HS.out.fewer K2.out)).2
                    obtain ⟨v, hv⟩ : ∃ v, R[j] = v := ⟨_, rfl⟩
                    have hvb : v < 65536 := by rw [← hv]; exact HRB.out _ (List.getElem_mem hjr)
                    obtain ⟨g, o, rfl, -, p0, -⟩ := LV2.out.2 j hjr
                    rw [hv] at p0
                    have SN := Lib.hid (znm_snoc x none (R.take j) v)
                    have TK : Hid (R.take (j + 1) = R.take j ++ [v]) := Lib.hid (by rw [List.take_succ_eq_append_getElem hjr, hv])
                    rw [← TK.out] at SN
                    obtain ⟨L6, hL6⟩ : ∃ L6, L5 ++ (znm x none (R.take j)).map (fun v => (Cd.zet zet, v)) = L6 := ⟨_, rfl⟩
                    have L6l : Hid (L6.length ≤ 400000) := Lib.hid (by
                      rw [← hL6, List.length_append, List.length_map, znm_length, List.length_take]
                      have := L5l.out
                      omega)
                    rw [hL6] at HS
                    have HL6 := Lib.hid hL6
                    have CF := Lib.hid (fun L W (h : NS w (sz + 1 + 1) fb rb L (Fl, Q) ks3 W) => h.ns0.row K1.out)
                    have j1 : (j : Int) < (nr : Int) := by omega
                    have j0 : (0 : Int) ≤ (j : Int) := Int.natCast_nonneg j
                    clear hv hL6
                    by_cases hj0 : j = 0
                    · --G1
                      obtain ⟨v0, hv0⟩ : ∃ v0, zig ((v : Int) - x) = v0 := ⟨_, rfl⟩
                      have hv0b : v0 ≤ 262144 := hv0 ▸ zig_lt hvb hx
                      have SN2 : Hid (znm x none (R.take (j + 1)) = znm x none (R.take j) ++ [v0]) := Lib.hid (by
                        rw [SN.out, ← hv0]
                        subst hj0
                        rfl)
                      have ZG := Lib.hid (fun W => Zig_any ((v : Int) - (x : Int)) (by omega) (by omega) W)
                      rw [hv0] at ZG
                      have PU := Lib.hid (fun W h => NS.put (W := W) (ks := ks3) (L := L6) (s := (Fl, Q)) (w := w) (lb := sz + 1 + 1) (fb := fb) (rb := rb) h (.zet zet) v0 (by omega) (Nat.le_trans L6l.out (by decide)))
                      have jz : ((j : Int) == 0) = true := by rw [hj0]; rfl
                      have hv1 : v0 < 9223372036854775807 := by omega
                      clear hv0 SN hj0
                      go_upto_region 36 with fail
                      have h9 := HS.out.next (W' := { wr with drawn := wr.drawn + 1 }) ⟨rfl, rfl, rfl, Nat.le_refl _, fun _ _ => rfl⟩
                      generalize hW : ({ wr with drawn := wr.drawn + 1 } : World) = W10 at h9
                      have r9 := CF.out _ _ h9
                      have c0 : W10.cell? ⟨zb, 0, none⟩ = some (.int .u8 3) := by rw [cell_of_row _ _ _ _ _ _ r9]; rfl
                      have c1 : W10.cell? ⟨zb, 1, none⟩ = some (.int .u64 (zet : Int)) := by rw [cell_of_row _ _ _ _ _ _ r9]; rfl
                      have H10 := Lib.hid h9
                      clear h9 r9
                      have w1 : IntKind.i64.wrap (v : Int) = (v : Int) := i64_nat v (by omega)
                      have w2 : IntKind.i64.wrap ((v : Int) - (x : Int)) = (v : Int) - (x : Int) := i64_diff v x hvb hx
                      refine wp_region_still_tail 8 (by kernel_rfl) (by kernel_rfl) ?_
                      simp only [List.take_succ_cons, List.take_zero, List.drop_succ_cons, List.drop_zero]
                      rw [hW]
                      clear hW
                      repeat (first | still_step | still_call ((ZG.out _).mono (fun e w' h => ⟨h.1, h.2.symm⟩)))
                      refine wpStill_nil ?_
                      clear c0 c1 w1 w2 ZG
                      unfold cdV at PU
                      go_wp2_with fail
                      with_reducible refine (PU.out _ H10.out).mono ?_
                      rintro e w12 ⟨rfl, h12, -⟩
                      have H13 := Lib.hid h12
                      clear h12
                      go_wp2_with fail
                      go_roundw
                      case rel =>
                        refine ⟨j + 1, by go_num, by omega, ?_⟩
                        rw [SN2.out, List.map_append, ← List.append_assoc, HL6.out]
                        exact H13.out
                      case measure => simp [intOf]; omega
                    · --G2
                      have hjm : j - 1 < R.length := by omega
                      obtain ⟨u, hu⟩ : ∃ u, R[j - 1] = u := ⟨_, rfl⟩
                      have huv : u < v := by
                        have h1 := (FR.out.1.sublist (show List.Sublist R Fl from HR.out ▸ RK.out.sub))
                        have h2 := List.pairwise_iff_getElem.1 h1 (j - 1) j hjm hjr (by omega)
                        rw [hu] at h2
                        have h3 : R[j] = v := by
                          have e : (R.take (j + 1))[j]? = (R.take j ++ [v])[j]? := by rw [TK.out]
                          rw [List.getElem?_take_of_lt (by omega), List.getElem?_append_right (by rw [List.length_take]; omega), List.length_take, Nat.min_eq_left (by omega), Nat.sub_self, List.getElem?_eq_getElem hjr] at e
                          simpa using e
                        omega
                      obtain ⟨g', o', he, -, p1, -⟩ := LV2.out.2 (j - 1) hjm
                      injection he with he
                      injection he with he1 he2
                      subst he1 he2
                      rw [hu] at p1
                      have SN2 : Hid (znm x none (R.take (j + 1)) = znm x none (R.take j) ++ [v - u - 1]) := Lib.hid (by
                        rw [SN.out]
                        have e : R.take j = R.take (j - 1) ++ [u] := by
                          have := List.take_succ_eq_append_getElem hjm
                          rw [hu, show j - 1 + 1 = j by omega] at this
                          exact this
                        rw [e, List.getLast?_concat]
                        rfl)
                      have PU := Lib.hid (fun W h => NS.put (W := W) (ks := ks3) (L := L6) (s := (Fl, Q)) (w := w) (lb := sz + 1 + 1) (fb := fb) (rb := rb) h (.zet zet) (v - u - 1) (by omega) (Nat.le_trans L6l.out (by decide)))
                      have jz : ((j : Int) == 0) = false := beq_eq_false_iff_ne.2 (by omega)
                      have LVF := Lib.hid (fun L W (h : NS w (sz + 1 + 1) fb rb L (Fl, Q) ks3 W) => (HKV.out _ _ _ (h.fewer K2.out)).2)
                      clear hu hjm hjr
                      go_upto_region 37 with fail
                      have h9 := HS.out.next (W' := { wr with drawn := wr.drawn + 1 }) ⟨rfl, rfl, rfl, Nat.le_refl _, fun _ _ => rfl⟩
                      have p2 : ({ wr with drawn := wr.drawn + 1 } : World).cell? ⟨g, o + (j - 1), none⟩ = some (.int .u32 (u : Int)) := p1
                      generalize hW : ({ wr with drawn := wr.drawn + 1 } : World) = W10 at h9 p2
                      have r9 := CF.out _ _ h9
                      have c0 : W10.cell? ⟨zb, 0, none⟩ = some (.int .u8 3) := by rw [cell_of_row _ _ _ _ _ _ r9]; rfl
                      have c1 : W10.cell? ⟨zb, 1, none⟩ = some (.int .u64 (zet : Int)) := by rw [cell_of_row _ _ _ _ _ _ r9]; rfl
                      have H10 := Lib.hid h9
                      obtain ⟨jj, hjj⟩ : ∃ jj, j - 1 = jj := ⟨_, rfl⟩
                      rw [hjj] at p2
                      have jm1 : IntKind.i64.wrap ((j : Int) - 1) = (jj : Int) := by rw [IntWalk.i64_in _ (by omega)]; omega
                      have jl : (jj : Int) < (nr : Int) := by omega
                      have jp : (0 : Int) ≤ (jj : Int) := Int.natCast_nonneg _
                      clear hjj
                      have q1 : IntKind.u32.wrap ((v : Int) - (u : Int)) = ((v - u : Nat) : Int) := by rw [IntKind.wrap_u32]; omega
                      obtain ⟨vu, hvu⟩ : ∃ vu, v - u = vu := ⟨_, rfl⟩
                      obtain ⟨v0, hv0⟩ : ∃ v0, v - u - 1 = v0 := ⟨_, rfl⟩
                      rw [hvu] at q1
                      have q2 : IntKind.u32.wrap ((vu : Int) - 1) = (v0 : Int) := by clear q1; rw [IntKind.wrap_u32]; omega
                      have hv063 : v0 ≤ 9223372036854775807 := by clear q1 q2; omega
                      have q3 : IntKind.i64.wrap (v0 : Int) = (v0 : Int) := i64_nat _ hv063
                      rw [hv0] at PU SN2
                      clear hvu hv0 hv063
                      clear h9 r9 p1 p0
                      refine wp_region_still_tail 11 (by kernel_rfl) (by kernel_rfl) ?_
                      simp only [List.take_succ_cons, List.take_zero, List.drop_succ_cons, List.drop_zero]
                      rw [hW]
                      clear hW
                      repeat still_step
                      refine wpStill_nil ?_
                      clear c0 c1 q1 q2 q3 jm1 p2
                      unfold cdV at PU
                      go_wp2_with fail
                      with_reducible refine (PU.out _ H10.out).mono ?_
                      rintro e w12 ⟨rfl, h12, -⟩
                      have H13 := Lib.hid h12
                      clear h12
                      go_wp2_with fail
                      go_roundw
                      case rel =>
                        refine ⟨j + 1, by go_num, by omega, ?_⟩
                        rw [SN2.out, List.map_append, ← List.append_assoc, HL6.out]
                        exact H13.out
                      case measure => simp [intOf]; omega
                  · obtain rfl : j = nr := by omega
                    --G3
                    have RT : Hid (R.take j = R) := Lib.hid (List.take_of_length_le (by rw [HNR.out]; exact Nat.le_refl _))
                    have FIN : Hid (L5 ++ (znm x none (R.take j)).map (fun v => (Cd.zet zet, v)) = NN) := Lib.hid (by
                      rw [RT.out, RE2.out, ← HL5.out, ← HL3.out]
                      simp only [List.append_assoc])
                    have hs := HS.out
                    rw [FIN.out] at hs
                    obtain ⟨vv, cv, hPP⟩ := hs.ns0.done
                    have HPP := Lib.hid hPP
                    have j1 : ¬ (j : Int) < (j : Int) := by omega
                    clear hs hPP
                    go_wp2_with fail
                    go_ret
                    exact HPP.out
end Go.Proofs.YtflnpcgnenhogaaDoor.ls
