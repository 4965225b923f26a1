/- Statement ArcNamed: the walk of the law: a cache of numbers and one of their names, asked for the same. -/
import Derived.BigQuiet
import Derived.BigRegion
import Derived.Deep.CutRange
import Derived.Deep.CutBlock
import Derived.Test.YthcdfdkhmlkneaaDoorArcN3
import Derived.Test.YthcdfdkhmlkneaaDoorArcFits
namespace Go.Proofs.YthcdfdkhmlkneaaDoor.arcN
open Go.RowKit Go.Proofs.YthcdfdkhmlkneaaDoor.own

def OpsIs (w : World) (aT : Option Addr) (n : Nat) (F : Nat → Int × Int × Int) : Prop :=
  ∀ j, j < n → ∃ b o, aT = some ⟨b, o, none⟩ ∧ b < w.heap.size ∧ w.cell? ⟨b, o + j * 3, none⟩ = some (.int .i64 (F j).1) ∧ w.cell? ⟨b, o + j * 3 + 1, none⟩ = some (.int .i64 (F j).2.1) ∧ w.cell? ⟨b, o + j * 3 + 2, none⟩ = some (.int .i64 (F j).2.2) ∧
    (Lit.int .i64 (F j).2.2).wf = true
theorem size_is (m : Int) : ∃ z : Nat, wrap64 (1 + (wrap64 (m.tmod 12 + 12)).tmod 12) = z ∧ 1 ≤ z ∧ z ≤ 12 := by
  have h1 : -12 < m.tmod 12 := Int.lt_tmod_of_pos m (by omega)
  have h2 : m.tmod 12 < 12 := Int.tmod_lt_of_pos m (by omega)
  generalize m.tmod 12 = r at h1 h2 ⊢
  rw [IntWalk.wrap64_in (r + 12) (by omega), Int.tmod_eq_emod_of_nonneg (by omega), IntWalk.wrap64_in _ (by omega)]
  exact ⟨(1 + (r + 12) % 12).toNat, by omega, by omega, by omega⟩

theorem gone_is (gn : Option Int) : ∃ z, arcI.goneV gn = .int .i64 z ∧ ∀ g, gn = some g → z = g := by
  cases gn with
  | none => exact ⟨0, rfl, fun g hg => by cases hg⟩
  | some g => exact ⟨g, rfl, fun g' hg => by injection hg⟩
theorem goneS_is (gn : Option (List UInt8)) : ∃ z : List UInt8, arcS.goneV gn = .string ⟨List.toArray z⟩ := by
  cases gn with
  | none => exact ⟨[], rfl⟩
  | some g => exact ⟨g, rfl⟩
theorem run_size (s : arcI.St) (kind key : Int) (hk : (Lit.int .i64 key).wf = true) (ok : arcI.Ok s) : (arcI.runS s kind key).1.size = s.size := by
  unfold arcI.runS
  split
  · exact (arcI.touchS_ok s key ok hk).size
  · split
    · unfold arcI.pinR; split <;> rfl
    · split
      · unfold arcI.unpinR; split
        · split <;> rfl
        · rfl
      · split
        · unfold arcI.dropR; split
          · split <;> rfl
          · rfl
        · rfl
/-- behind the switch -/
def AF (w : World) (cb db tb ub : Nat) (hit og : Bool) (z : Int) (gs : Option (List UInt8)) (s : arcI.St) (t : arcS.St) (N : Nat) (wc : World) : Prop :=
  ∃ x, Two w cb db s t N N x wc ∧ Mine x wc tb (.cells #[.bool hit, .bool og, .int .i64 z] 42 (0, 0)) ∧ Mine x wc ub (.cells #[.bool hit, .bool og, arcS.goneV gs] 31 (0, 0))

set_option maxRecDepth 100000 in
set_option maxHeartbeats 25600000 in
theorem names_walk (sz0 : Int) (aT : Option Addr) (n c : Nat) (hn : n ≤ 9223372036854775807) (F : Nat → Int × Int × Int) (w : World) (hops : OpsIs w aT n F) (htab : HasTab w) :
    Calls Tryd.prog 4 #[.int .i64 sz0, .slice aT n c] w fun e w' => e = .returned (.bool true) ∧ Below w.heap.size w w' := by
  have OPS := Lib.hid hops
  have TAB := Lib.hid htab
  obtain ⟨sz, hsz, s1, s2⟩ := size_is sz0
  clear hops htab
  go_enter Tryd.func4, Tryd.ntmps4
  go_wp2_with fail
  rw [hsz]
  clear hsz
  refine (arcI.New_any (fun _ => 100) 0 sz s1 (by omega) w).mono ?_
  rintro e w1 ⟨cb, x1, rfl, f1, h1, _⟩
  have F1 := Lib.hid (f1.mono CDI)
  have H1 := Lib.hid h1
  clear f1 h1
  go_wp2_with fail
  refine (arcS.New_any x1 10 sz s1 (by omega) w1).mono ?_
  rintro e w2 ⟨db, x2, rfl, f2, h2, _⟩
  have T2 : Hid (Two w cb db (arcI.newS sz) (arcS.newS sz) 0 0 x2 w2) := Lib.hid ⟨F1.out.trans (f2.mono CDS), H1.out.frame f2 (fun e he hh => by have := he.2; have := hh.1; omega), h2⟩
  clear f2 h2 F1 H1
  go_wp2_with fail
  refine (arcS.awake_any w2).mono ?_
  rintro e w3 ⟨rfl, hb3⟩
  have L0 : Hid (NRel w sz cb db 0 w3) := Lib.hid (by
    have T3 := T2.out.below hb3
    exact ⟨_, _, _, T3.fr, T3.ci, T3.cs, arcI.newS_ok sz (by omega), arcS.newS_ok sz (by omega), rfl, Rl.new sz, fun a => Nat.le_refl _⟩)
  clear hb3 T2
  go_wp2_with fail
  go_loopw [9] (fun i wr => ∃ j : Nat, i = .int .i64 j ∧ j ≤ n ∧ j ≤ 200 ∧ NRel w sz cb db j wr) (fun i _ => n - (intOf i).toNat)
  case atStart => exact ⟨0, rfl, by omega, by omega, L0.out⟩
  case round => as_aux_lemma =>
    obtain ⟨j, rfl, hj1, hj2, hL⟩ := hrel
    have LR := Lib.hid hL
    clear hL
    by_cases hgo : j < n ∧ j < 200
    · obtain ⟨hlt, hl3⟩ := hgo
      obtain ⟨b, o, rfl, hbw, e0, e1, e2, hwf⟩ := OPS.out j hlt
      obtain ⟨xr, s, t, fr, hci, hcs, oi, os, hsz, hrl, hpn⟩ := LR.out
      have eqb : wr.heap[b]? = w.heap[b]? := fr.old b hbw (by show ¬ (100 ≤ 16); omega)
      rw [← World.cell?_of_block (w := w) (w' := wr) eqb] at e0 e1 e2
      obtain ⟨kind, who, key, hF⟩ : ∃ a b c, F j = (a, b, c) := ⟨_, _, _, rfl⟩
      rw [hF] at e0 e1 e2 hwf
      have SO := Lib.hid (run_step hrl oi os hpn kind key hwf)
      have OI := Lib.hid oi
      have OS := Lib.hid os
      have RL := Lib.hid hrl
      have PN := Lib.hid hpn
      have T0 : Hid (Two w cb db s t (2 * j) (2 * j) xr wr) := Lib.hid ⟨fr, hci, hcs⟩
      clear hci hcs fr oi os hrl hpn eqb hF LR
      have HB := Lib.hid ((Below.refl wr.heap.size wr).alloc (Nat.le_refl _) (.cells #[.int .i64 kind, .int .i64 who, .int .i64 key] 40))
      have T1 := Lib.hid (T0.out.below HB.out)
      have X1 : Hid (Mine (paint xr wr.heap.size 8) (wr.alloc (.cells #[.int .i64 kind, .int .i64 who, .int .i64 key] 40)) wr.heap.size _) := Lib.hid (Mine.new _)
      clear HB T0
      go_upto_region 10 with fail
      generalize paint xr wr.heap.size 8 = x1 at T1 X1
      generalize wr.heap.size = xb at X1 ⊢
      clear e0 e1 e2
      generalize World.alloc wr _ = W1 at T1 X1 ⊢
      have a0 : W1.cell? ⟨xb, 0, none⟩ = some (.int .i64 kind) := by rw [cell_of_row W1 _ _ _ _ _ X1.out.1]; rfl
      have a1 : W1.cell? ⟨xb, 1, none⟩ = some (.int .i64 who) := by rw [cell_of_row W1 _ _ _ _ _ X1.out.1]; rfl
      have a2 : W1.cell? ⟨xb, 2, none⟩ = some (.int .i64 key) := by rw [cell_of_row W1 _ _ _ _ _ X1.out.1]; rfl
      have hl2 : (Lib.itoa key).length ≤ 21 := Lib.itoa_length_le key (wf_bounds hwf).1 (wf_bounds hwf).2
      go_wp2_with fail
      refine (itoa_any key hwf W1 W1 (NB.refl W1) (T1.out.ofNB TAB.out)).mono ?_
      rintro e W2 ⟨rfl, hb2⟩
      have T2 := Lib.hid (T1.out.below hb2)
      have X2 := Lib.hid (X1.out.below hb2)
      clear hb2 a0 a1 a2 T1 X1
      generalize paint x1 W1.heap.size 8 = x2 at T2 X2
      have a0 : W2.cell? ⟨xb, 0, none⟩ = some (.int .i64 kind) := by rw [cell_of_row W2 _ _ _ _ _ X2.out.1]; rfl
      have a1 : W2.cell? ⟨xb, 1, none⟩ = some (.int .i64 who) := by rw [cell_of_row W2 _ _ _ _ _ X2.out.1]; rfl
      have a2 : W2.cell? ⟨xb, 2, none⟩ = some (.int .i64 key) := by rw [cell_of_row W2 _ _ _ _ _ X2.out.1]; rfl
      go_wp2_with fail
      rw [name_eq]
      refine (arcI.run_any x2 0 cb s (2 * j) kind who key hwf W2 T2.out.ci OI.out (by omega) (by have := PN.out key; omega)).mono ?_
      rintro e W3 ⟨rfl, x3, f3, c3⟩
      have SIZE := Lib.hid ((run_size s kind key hwf OI.out).trans hsz)
      generalize arcI.runS s kind key = r at c3 SO SIZE ⊢
      obtain ⟨s', hit, gn, er⟩ := r
      have T3 : Hid (Two w cb db s' t (2 * j + 2) (2 * j) x3 W3) := Lib.hid (T2.out.turnI f3 c3)
      have X3 := Lib.hid (X2.out.turnI f3)
      clear f3 c3 a0 a1 a2 T2 X2
      obtain ⟨z, hz9, hzg⟩ := gone_is gn
      have HZ := Lib.hid hzg
      clear hzg
      dsimp only [arcI.touchedV]
      rw [hz9]
      clear hz9
      generalize hog : gn.isSome = og
      have HOG := Lib.hid hog
      clear hog
      have a0 : W3.cell? ⟨xb, 0, none⟩ = some (.int .i64 kind) := by rw [cell_of_row W3 _ _ _ _ _ X3.out.1]; rfl
      go_upto_region 12 with fail
      have HB := Lib.hid ((Below.refl W3.heap.size W3).alloc (Nat.le_refl _) (.cells #[.bool hit, .bool og, .int .i64 z] 42))
      have T4 := Lib.hid (T3.out.below HB.out)
      have X4 := Lib.hid (X3.out.below HB.out)
      have Y4 : Hid (Mine (paint x3 W3.heap.size 8) (W3.alloc (.cells #[.bool hit, .bool og, .int .i64 z] 42)) W3.heap.size _) := Lib.hid (Mine.new _)
      clear HB T3 X3 a0
      generalize paint x3 W3.heap.size 8 = x4 at T4 X4 Y4
      generalize W3.heap.size = tb at Y4 ⊢
      generalize World.alloc W3 _ = W4 at T4 X4 Y4 ⊢
      have a0 : W4.cell? ⟨xb, 0, none⟩ = some (.int .i64 kind) := by rw [cell_of_row W4 _ _ _ _ _ X4.out.1]; rfl
      have hxl : xb < W4.heap.size := lt_of_block X4.out.1
      go_upto_block 2 with fail
      have HB := Lib.hid ((Below.refl W4.heap.size W4).alloc (Nat.le_refl _) (.cells #[.bool false, .bool false, .string ⟨#[]⟩] 31))
      have T5 := Lib.hid (T4.out.below HB.out)
      have Y5 := Lib.hid (Y4.out.below HB.out)
      have Z5 : Hid (Mine (paint x4 W4.heap.size 8) (W4.alloc (.cells #[.bool false, .bool false, .string ⟨#[]⟩] 31)) W4.heap.size _) := Lib.hid (Mine.new _)
      have hne : Hid (tb ≠ W4.heap.size) := Lib.hid (by have := lt_of_block Y4.out.1; omega)
      clear HB T4 X4 Y4 a0 hxl
      generalize paint x4 W4.heap.size 8 = x5 at T5 Y5 Z5
      generalize W4.heap.size = ub at Z5 hne ⊢
      generalize World.alloc W4 _ = W5 at T5 Y5 Z5 ⊢
      have hkn := nm_len key hwf
      go_cut [15] from 85 to 107 (fun s15 wc => s15 = .int .i64 er ∧ AF w cb db tb ub hit og z (gn.map nm) s' (runT t kind (nm key)).1 (2 * j + 2) wc)
      case first => as_aux_lemma =>
        have hpk : t.pins (nm key) < 1099511627776 := by rw [RL.out.pins key]; have := PN.out key; omega
        by_cases h0 : kind = 0
        · have R : runT t kind (nm key) = arcS.touchS t (nm key) := by unfold runT; rw [if_pos h0]
          rw [R] at SO
          have R := Lib.hid R
          subst h0
          go_wp2_with fail
          refine (arcS.touch_any x5 10 db t (2 * j) (nm key) hkn W5 T5.out.cs OS.out (by omega)).mono ?_
          rintro e W6 ⟨rfl, x6, f6, c6⟩
          have T6 := Lib.hid (T5.out.turnS f6 c6)
          have Y6 := Lib.hid (Y5.out.turnS f6)
          have Z6 := Lib.hid (Z5.out.turnS f6)
          clear f6 c6 T5 Y5 Z5
          generalize arcS.touchS t (nm key) = q at SO T6 R ⊢
          obtain ⟨t', hit', gn', er'⟩ := q
          obtain rfl : hit' = hit := SO.out.hit
          obtain rfl : gn' = gn.map nm := SO.out.gone
          obtain rfl : er' = er := SO.out.er
          obtain ⟨zs, hzs⟩ := goneS_is (gn.map nm)
          have hos : (gn.map nm).isSome = og := by rw [← HOG.out]; cases gn <;> rfl
          have HZS := Lib.hid hzs
          dsimp only [arcS.touchedV]
          rw [hzs, hos]
          clear hzs hos
          have u0 : W6.cell? ⟨ub, 0, none⟩ = some (.bool false) := by rw [cell_of_row W6 _ _ _ _ _ Z6.out.1]; rfl
          have u1 : W6.cell? ⟨ub, 1, none⟩ = some (.bool false) := by rw [cell_of_row W6 _ _ _ _ _ Z6.out.1]; rfl
          have u2 : W6.cell? ⟨ub, 2, none⟩ = some (.string ⟨#[]⟩) := by rw [cell_of_row W6 _ _ _ _ _ Z6.out.1]; rfl
          have u3 : ∀ j, W6.frozen? ⟨ub, j, none⟩ = false := fun j => frozen_of_row W6 _ j _ _ Z6.out.1
          go_wp2_with fail
          go_meet
          case rel =>
            refine ⟨rfl, x6, ?_, Y6.out.set3 hne.out _ _ _, ?_, Z6.out.2⟩
            · rw [R.out]; exact T6.out.set3 Z6.out.2 _ _ _
            · rw [HZS.out]; exact arcI.set3 Z6.out.1 _ _ _
        · by_cases h1 : kind = 1
          · have R : runT t kind (nm key) = ((arcS.pinR t (nm key)).1, false, none, (arcS.pinR t (nm key)).2) := by unfold runT; rw [if_neg h0, if_pos h1]
            rw [R] at SO
            have R := Lib.hid R
            subst h1
            go_wp2_with fail
            refine (arcS.Pin_any x5 10 db t (2 * j) W5 (nm key) hkn T5.out.cs (by omega) hpk).mono ?_
            rintro e W6 ⟨rfl, x6, f6, c6⟩
            have T6 := Lib.hid (T5.out.turnS f6 (c6.mono (by omega : 2 * j + 1 ≤ 2 * j + 2)))
            have Y6 := Lib.hid (Y5.out.turnS f6)
            have Z6 := Lib.hid (Z5.out.turnS f6)
            clear f6 c6 T5 Y5 Z5
            generalize arcS.pinR t (nm key) = q at SO T6 R ⊢
            obtain ⟨t', er'⟩ := q
            have E1 : Hid (false = hit) := Lib.hid SO.out.hit
            have E2 : Hid (none = gn.map nm) := Lib.hid SO.out.gone
            obtain rfl : er' = er := SO.out.er
            go_wp2_with fail
            go_meet
            case rel =>
              refine ⟨rfl, x6, by rw [R.out]; exact T6.out, Y6.out, ?_⟩
              have e1 := E1.out
              have e2 := E2.out
              have e3 : gn = none := by cases gn with | none => rfl | some g => cases e2
              subst e3; subst e1
              have e4 : og = false := HOG.out.symm
              subst e4
              exact Z6.out
          · by_cases h2 : kind = 2
            · have R : runT t kind (nm key) = ((arcS.unpinR t (nm key)).1, false, none, (arcS.unpinR t (nm key)).2) := by unfold runT; rw [if_neg h0, if_neg h1, if_pos h2]
              rw [R] at SO
              have R := Lib.hid R
              subst h2
              go_wp2_with fail
              refine (arcS.Unpin_any x5 10 db t (2 * j) W5 (nm key) hkn T5.out.cs (by omega) hpk).mono ?_
              rintro e W6 ⟨rfl, x6, f6, c6⟩
              have T6 := Lib.hid (T5.out.turnS f6 (c6.mono (by omega : 2 * j + 1 ≤ 2 * j + 2)))
              have Y6 := Lib.hid (Y5.out.turnS f6)
              have Z6 := Lib.hid (Z5.out.turnS f6)
              clear f6 c6 T5 Y5 Z5
              generalize arcS.unpinR t (nm key) = q at SO T6 R ⊢
              obtain ⟨t', er'⟩ := q
              have E1 : Hid (false = hit) := Lib.hid SO.out.hit
              have E2 : Hid (none = gn.map nm) := Lib.hid SO.out.gone
              obtain rfl : er' = er := SO.out.er
              go_wp2_with fail
              go_meet
              case rel =>
                refine ⟨rfl, x6, by rw [R.out]; exact T6.out, Y6.out, ?_⟩
                have e1 := E1.out
                have e2 := E2.out
                have e3 : gn = none := by cases gn with | none => rfl | some g => cases e2
                subst e3; subst e1
                have e4 : og = false := HOG.out.symm
                subst e4
                exact Z6.out
            · by_cases h3 : kind = 3
              · have R : runT t kind (nm key) = ((arcS.dropR t (nm key)).1, false, none, (arcS.dropR t (nm key)).2) := by unfold runT; rw [if_neg h0, if_neg h1, if_neg h2, if_pos h3]
                rw [R] at SO
                have R := Lib.hid R
                subst h3
                go_wp2_with fail
                refine (arcS.Drop_any x5 10 db t (2 * j) W5 (nm key) hkn T5.out.cs OS.out hpk).mono ?_
                rintro e W6 ⟨rfl, x6, f6, c6⟩
                have T6 := Lib.hid (T5.out.turnS f6 (c6.mono (by omega : 2 * j ≤ 2 * j + 2)))
                have Y6 := Lib.hid (Y5.out.turnS f6)
                have Z6 := Lib.hid (Z5.out.turnS f6)
                clear f6 c6 T5 Y5 Z5
                generalize arcS.dropR t (nm key) = q at SO T6 R ⊢
                obtain ⟨t', er'⟩ := q
                have E1 : Hid (false = hit) := Lib.hid SO.out.hit
                have E2 : Hid (none = gn.map nm) := Lib.hid SO.out.gone
                obtain rfl : er' = er := SO.out.er
                go_wp2_with fail
                go_meet
                case rel =>
                  refine ⟨rfl, x6, by rw [R.out]; exact T6.out, Y6.out, ?_⟩
                  have e1 := E1.out
                  have e2 := E2.out
                  have e3 : gn = none := by cases gn with | none => rfl | some g => cases e2
                  subst e3; subst e1
                  have e4 : og = false := HOG.out.symm
                  subst e4
                  exact Z6.out
              · have R : runT t kind (nm key) = (t, false, none, 0) := by unfold runT; rw [if_neg h0, if_neg h1, if_neg h2, if_neg h3]
                rw [R] at SO
                have R := Lib.hid R
                have E1 : Hid (false = hit) := Lib.hid SO.out.hit
                have E2 : Hid (none = gn.map nm) := Lib.hid SO.out.gone
                obtain rfl : 0 = er := SO.out.er
                have T6 : Hid (Two w cb db s' t (2 * j + 2) (2 * j + 2) x5 W5) := Lib.hid ⟨T5.out.fr, T5.out.ci, T5.out.cs.mono (by omega)⟩
                have k0 : (kind == 0) = false := beq_eq_false_iff_ne.2 h0
                have k1 : (kind == 1) = false := beq_eq_false_iff_ne.2 h1
                have k2 : (kind == 2) = false := beq_eq_false_iff_ne.2 h2
                have k3 : (kind == 3) = false := beq_eq_false_iff_ne.2 h3
                clear h0 h1 h2 h3
                go_wp2_with fail
                go_meet
                case rel =>
                  refine ⟨rfl, x5, by rw [R.out]; exact T6.out, Y5.out, ?_⟩
                  have e1 := E1.out
                  have e2 := E2.out
                  have e3 : gn = none := by cases gn with | none => rfl | some g => cases e2
                  subst e3; subst e1
                  have e4 : og = false := HOG.out.symm
                  subst e4
                  exact Z5.out
      case rest => as_aux_lemma =>
        obtain ⟨rfl, x6, T6, Y6, Z6⟩ := hcut
        generalize wc = W6 at T6 Y6 Z6 ⊢
        generalize runT t kind (nm key) = q at SO T6
        have T6 := Lib.hid T6
        have Y6 := Lib.hid Y6
        have Z6 := Lib.hid Z6
        have hsml : er ≤ 16 := SO.out.small
        clear T5 Y5 Z5
        have a0 : W6.cell? ⟨tb, 0, none⟩ = some (.bool hit) := by rw [cell_of_row W6 _ _ _ _ _ Y6.out.1]; rfl
        have a1 : W6.cell? ⟨tb, 1, none⟩ = some (.bool og) := by rw [cell_of_row W6 _ _ _ _ _ Y6.out.1]; rfl
        have a2 : W6.cell? ⟨tb, 2, none⟩ = some (.int .i64 z) := by rw [cell_of_row W6 _ _ _ _ _ Y6.out.1]; rfl
        have u0 : W6.cell? ⟨ub, 0, none⟩ = some (.bool hit) := by rw [cell_of_row W6 _ _ _ _ _ Z6.out.1]; rfl
        have u1 : W6.cell? ⟨ub, 1, none⟩ = some (.bool og) := by rw [cell_of_row W6 _ _ _ _ _ Z6.out.1]; rfl
        rcases gn with _ | g
        · obtain rfl : false = og := HOG.out
          have u2 : W6.cell? ⟨ub, 2, none⟩ = some (.string ⟨#[]⟩) := by rw [cell_of_row W6 _ _ _ _ _ Z6.out.1]; rfl
          have R : Hid (NRel w sz cb db (j + 1) W6) := Lib.hid
            ⟨x6, s', q.1, T6.out.fr, T6.out.ci, T6.out.cs, SO.out.oki, SO.out.oks, SIZE.out, SO.out.rl, SO.out.pins⟩
          have htg : Hid (q.1.target = s'.target) := Lib.hid SO.out.rl.target
          cases hit
          all_goals
            go_wp2_with fail
            refine (arcI.Target_any x6 0 cb s' (2 * j + 2) W6 T6.out.ci).mono ?_
            rintro e W7 ⟨rfl, rfl⟩
            go_wp2_with fail
            refine (arcS.Target_any x6 10 db q.1 (2 * j + 2) W6 T6.out.cs).mono ?_
            rintro e W7 ⟨rfl, rfl⟩
            rw [htg.out]
            go_wp2_with fail
            go_roundw
            case rel => exact ⟨j + 1, by go_num, by omega, by omega, R.out⟩
            case measure => simp [intOf]; omega
        · obtain rfl : true = og := HOG.out
          obtain rfl : z = g := HZ.out g rfl
          have hwg : (Lit.int .i64 z).wf = true := SO.out.key z rfl
          have hl3 : (Lib.itoa z).length ≤ 21 := Lib.itoa_length_le z (wf_bounds hwg).1 (wf_bounds hwg).2
          have htg : Hid (q.1.target = s'.target) := Lib.hid SO.out.rl.target
          clear hl2 hkn
          go_wp2_with fail
          refine (itoa_any z hwg W6 W6 (NB.refl W6) (T6.out.ofNB TAB.out)).mono ?_
          rintro e W7 ⟨rfl, hb7⟩
          have T7 := Lib.hid (T6.out.below hb7)
          have Y7 := Lib.hid (Y6.out.below hb7)
          have Z7 := Lib.hid (Z6.out.below hb7)
          clear hb7 a0 a1 a2 u0 u1 T6 Y6 Z6
          generalize paint x6 W6.heap.size 8 = x7 at T7 Y7 Z7
          have a0 : W7.cell? ⟨tb, 0, none⟩ = some (.bool hit) := by rw [cell_of_row W7 _ _ _ _ _ Y7.out.1]; rfl
          have a1 : W7.cell? ⟨tb, 1, none⟩ = some (.bool true) := by rw [cell_of_row W7 _ _ _ _ _ Y7.out.1]; rfl
          have u0 : W7.cell? ⟨ub, 0, none⟩ = some (.bool hit) := by rw [cell_of_row W7 _ _ _ _ _ Z7.out.1]; rfl
          have u1 : W7.cell? ⟨ub, 1, none⟩ = some (.bool true) := by rw [cell_of_row W7 _ _ _ _ _ Z7.out.1]; rfl
          have u2 : W7.cell? ⟨ub, 2, none⟩ = some (.string ⟨List.toArray (nm z)⟩) := by rw [cell_of_row W7 _ _ _ _ _ Z7.out.1]; rfl
          have R : Hid (NRel w sz cb db (j + 1) W7) := Lib.hid
            ⟨x7, s', q.1, T7.out.fr, T7.out.ci, T7.out.cs, SO.out.oki, SO.out.oks, SIZE.out, SO.out.rl, SO.out.pins⟩
          go_upto_region 26 with fail
          rw [name_eq]
          cases hit
          all_goals
            go_wp2_with fail
            refine (arcI.Target_any x7 0 cb s' (2 * j + 2) W7 T7.out.ci).mono ?_
            rintro e W8 ⟨rfl, rfl⟩
            go_wp2_with fail
            refine (arcS.Target_any x7 10 db q.1 (2 * j + 2) W7 T7.out.cs).mono ?_
            rintro e W8 ⟨rfl, rfl⟩
            rw [htg.out]
            go_wp2_with fail
            go_roundw
            case rel => exact ⟨j + 1, by go_num, by omega, by omega, R.out⟩
            case measure => simp [intOf]; omega
    · obtain ⟨xr, s, t, fr, hci, hcs, oi, os, hsz, hrl, hpn⟩ := LR.out
      have T0 : Hid (Two w cb db s t (2 * j) (2 * j) xr wr) := Lib.hid ⟨fr, hci, hcs⟩
      have hkeys : Hid (∀ a, (a ∈ s.once ∨ a ∈ s.often ∨ a ∈ s.wonce ∨ a ∈ s.woften) → (Lit.int .i64 a).wf = true) := Lib.hid oi.keys
      have E1 : Hid (t.once.reverse = s.once.reverse.map nm) := Lib.hid (by rw [hrl.once, List.map_reverse])
      have E2 : Hid (t.often.reverse = s.often.reverse.map nm) := Lib.hid (by rw [hrl.often, List.map_reverse])
      have E3 : Hid (t.wonce.reverse = s.wonce.reverse.map nm) := Lib.hid (by rw [hrl.wonce, List.map_reverse])
      have E4 : Hid (t.woften.reverse = s.woften.reverse.map nm) := Lib.hid (by rw [hrl.woften, List.map_reverse])
      have i1 := oi.held
      have i2 := oi.first
      have i3 := oi.all
      have i4 := oi.size
      have j1 := os.held
      have j2 := os.first
      have j3 := os.all
      have j4 := os.size
      have L1 : Hid (s.once.length < 1048576 ∧ s.often.length < 1048576 ∧ s.wonce.length < 1048576 ∧ s.woften.length < 1048576) := Lib.hid ⟨by omega, by omega, by omega, by omega⟩
      have L2 : Hid (t.once.length < 1048576 ∧ t.often.length < 1048576 ∧ t.wonce.length < 1048576 ∧ t.woften.length < 1048576) := Lib.hid ⟨by omega, by omega, by omega, by omega⟩
      clear fr hci hcs oi os hrl hpn i1 i2 i3 i4 j1 j2 j3 j4 LR
      rcases (show ¬ j < n ∨ (j < n ∧ ¬ j < 200) by omega) with h | ⟨h, h'⟩
      all_goals
        clear hgo
        go_wp2_with fail
        refine (arcI.Lists_any xr 0 cb s (2 * j) wr T0.out.ci L1.out.1 L1.out.2.1 L1.out.2.2.1 L1.out.2.2.2).mono ?_
        rintro e W1 ⟨v1, v2, v3, v4, rfl, hb1, r1, r2, r3, r4⟩
        have T1 := Lib.hid (T0.out.below hb1)
        have R1 := Lib.hid r1
        have R2 := Lib.hid r2
        have R3 := Lib.hid r3
        have R4 := Lib.hid r4
        clear hb1 r1 r2 r3 r4
        generalize paint xr wr.heap.size 8 = x1 at T1
        go_wp2_with fail
        refine (arcS.Lists_any x1 10 db t (2 * j) W1 T1.out.cs L2.out.1 L2.out.2.1 L2.out.2.2.1 L2.out.2.2.2).mono ?_
        rintro e W2 ⟨y1, y2, y3, y4, rfl, hb2, q1, q2, q3, q4⟩
        have T2 := Lib.hid (T1.out.below hb2)
        have S1 := Lib.hid (R1.out.later hb2)
        have S2 := Lib.hid (R2.out.later hb2)
        have S3 := Lib.hid (R3.out.later hb2)
        have S4 := Lib.hid (R4.out.later hb2)
        rw [E1.out] at q1
        rw [E2.out] at q2
        rw [E3.out] at q3
        rw [E4.out] at q4
        have Q1 := Lib.hid q1
        have Q2 := Lib.hid q2
        have Q3 := Lib.hid q3
        have Q4 := Lib.hid q4
        clear hb2 q1 q2 q3 q4 R1 R2 R3 R4
        generalize paint x1 W1.heap.size 8 = x2 at T2
        go_wp2_with fail
        refine (named_any s.once.reverse (fun k hk => hkeys.out k (.inl (by simpa using hk))) _ _ v1 y1 W2 S1.out Q1.out (T2.out.ofNB TAB.out)).mono ?_
        rintro e W3 ⟨rfl, hb3⟩
        have T3 := Lib.hid (T2.out.below hb3)
        have S2 := Lib.hid (S2.out.later hb3)
        have S3 := Lib.hid (S3.out.later hb3)
        have S4 := Lib.hid (S4.out.later hb3)
        have Q2 := Lib.hid (Q2.out.later hb3)
        have Q3 := Lib.hid (Q3.out.later hb3)
        have Q4 := Lib.hid (Q4.out.later hb3)
        clear hb3
        generalize paint x2 W2.heap.size 8 = x3 at T3
        go_wp2_with fail
        refine (named_any s.often.reverse (fun k hk => hkeys.out k (.inr (.inl (by simpa using hk)))) _ _ v2 y2 W3 S2.out Q2.out (T3.out.ofNB TAB.out)).mono ?_
        rintro e W4 ⟨rfl, hb4⟩
        have T4 := Lib.hid (T3.out.below hb4)
        have S3 := Lib.hid (S3.out.later hb4)
        have S4 := Lib.hid (S4.out.later hb4)
        have Q3 := Lib.hid (Q3.out.later hb4)
        have Q4 := Lib.hid (Q4.out.later hb4)
        clear hb4
        generalize paint x3 W3.heap.size 8 = x4 at T4
        go_wp2_with fail
        refine (named_any s.wonce.reverse (fun k hk => hkeys.out k (.inr (.inr (.inl (by simpa using hk))))) _ _ v3 y3 W4 S3.out Q3.out (T4.out.ofNB TAB.out)).mono ?_
        rintro e W5 ⟨rfl, hb5⟩
        have T5 := Lib.hid (T4.out.below hb5)
        have S4 := Lib.hid (S4.out.later hb5)
        have Q4 := Lib.hid (Q4.out.later hb5)
        clear hb5
        generalize paint x4 W4.heap.size 8 = x5 at T5
        go_wp2_with fail
        refine (named_any s.woften.reverse (fun k hk => hkeys.out k (.inr (.inr (.inr (by simpa using hk))))) _ _ v4 y4 W5 S4.out Q4.out (T5.out.ofNB TAB.out)).mono ?_
        rintro e W6 ⟨rfl, hb6⟩
        have T6 := Lib.hid (T5.out.below hb6)
        clear hb6
        go_wp2_with fail
        go_ret
        exact ⟨rfl, T6.out.fr.below_allS8 (fun b _ hC => by have : 100 ≤ 16 := hC; omega)⟩
end Go.Proofs.YthcdfdkhmlkneaaDoor.arcN
