/- Statement ArcFits: the walk of the law: keys that all fit are missed once each. -/
import Derived.BigQuiet
import Derived.BigRegion
import Derived.Lib.ItoaLen
import Derived.Test.YthcdfdkhmlkneaaDoorEvE
import Derived.Test.YthcdfdkhmlkneaaDoorArcUdS
import Derived.Test.YthcdfdkhmlkneaaDoorArcW1S
namespace Go.Proofs.YthcdfdkhmlkneaaDoor.arcS
open Go.RowKit Go.Proofs.YthcdfdkhmlkneaaDoor.own

/-- what awake() answers, in whatever world -/
theorem awake_run : ev.isTrue (ev.callA Tryd.prog (ev.tabP Tryd.prog) (ev.codeQ Tryd.prog (ev.tabP Tryd.prog) 1000000) 6 [] ⟨.leaf, 1000⟩) = true := by kernel_rfl
theorem awake_any (w : World) : Calls Tryd.prog 6 #[] w fun e w' => e = .returned (.bool true) ∧ Below w.heap.size w w' :=
  ev.toldL (n := 1000000) (ev.tabP_ok (by kernel_rfl)) (by kernel_rfl) (ev.Laid.leaf w) awake_run

/-- numbers that came in, in memory -/
def IntsIs (w : World) (aT : Option Addr) (n : Nat) (F : Nat → Int) : Prop :=
  ∀ j, j < n → ∃ b o, aT = some ⟨b, o, none⟩ ∧ b < w.heap.size ∧ w.cell? ⟨b, o + j, none⟩ = some (.int .i64 (F j)) ∧ (Lit.int .i64 (F j)).wf = true

/-- the law's colours: 0 to 6 the cache's, 7 the map's, 8 the rest -/
def LC : Nat → Prop := fun e => e ≤ 8
theorem CD_LC : ∀ e, CD 0 e → LC e := fun e he => by have := he.2; show e ≤ 8; omega

def keyF (j : Nat) : K := [107, 101, 121, 32] ++ Lib.decDigits j

theorem dec_len (j : Nat) (h : j < 40) : (Lib.decDigits j).length ≤ 2 := by
  rw [Lib.decDigits]
  split
  · simp
  · rw [Lib.decDigits, dif_pos (by omega)]
    simp
theorem key_ok (j : Nat) (h : j < 40) : List.length (keyF j) ≤ maxLen := by
  have := dec_len j h
  simp only [keyF, List.length_append, List.length_cons, List.length_nil, maxLen]
  omega
theorem key_eq (j : Nat) : (({ data := #[107, 101, 121, 32] } : ByteArray) ++ { data := (Lib.decDigits j).toArray }) = ⟨List.toArray (keyF j)⟩ := by
  apply ByteArray.ext
  simp [keyF]

def FRel (w : World) (sz cb sb j : Nat) (wr : World) : Prop :=
  ∃ (xr : Nat → Nat) (s : St) (f : K → Nat), Fr (fun _ => 100) xr LC w wr ∧ CIs xr 0 wr cb s (2 * j) ∧ Fits s sz keyF f ∧ xr sb = 7 ∧ MapIs wr sb j f ∧ ∀ a, f a ≤ 1

theorem _root_.Go.Proofs.YthcdfdkhmlkneaaDoor.own.Fr.below_allS8 {x x' : Nat → Nat} {C : Nat → Prop} {w w' : World} (h : Fr x x' C w w') (hC : ∀ b, b < w.heap.size → ¬ C (x b)) : Below w.heap.size w w' :=
  ⟨h.os, h.tape, h.output, h.size, fun b hb => h.old b hb (hC b hb)⟩
def PM (sb N : Nat) (p : K → Nat) (x : Nat → Nat) (W wc : World) : Prop := ∃ xc, Fr x xc (fun e => e = 7) W wc ∧ MapIs wc sb N p ∧ xc sb = 7
theorem PM.of {sb N : Nat} {p : K → Nat} {x : Nat → Nat} {W wc : World} (hg : W.grownBy wc (some sb)) (hx : x sb = 7) (hlt : sb < W.heap.size) (hm : MapIs wc sb N p) : PM sb N p x W wc := by
  have kp : Keeps W wc (fun b => b = sb) := (Keeps.refl W _).grown hg (fun j hj => by injection hj with hj; exact .inl hj.symm)
  exact ⟨_, kp.fr (c := 7) rfl (fun b hb e => by rw [e]; exact hx), hm, by rw [paint_old hlt]; exact hx⟩
theorem size_is (m : Int) : ∃ z : Nat, wrap64 (1 + (wrap64 (m.tmod 40 + 40)).tmod 40) = z ∧ 1 ≤ z ∧ z ≤ 40 := by
  have h1 : -40 < m.tmod 40 := Int.lt_tmod_of_pos m (by omega)
  have h2 : m.tmod 40 < 40 := Int.tmod_lt_of_pos m (by omega)
  generalize m.tmod 40 = r at h1 h2 ⊢
  rw [IntWalk.wrap64_in (r + 40) (by omega), Int.tmod_eq_emod_of_nonneg (by omega), IntWalk.wrap64_in _ (by omega)]
  exact ⟨(1 + (r + 40) % 40).toNat, by omega, by omega, by omega⟩
theorem no_is (m : Int) (sz : Nat) (h1 : 1 ≤ sz) (h2 : sz ≤ 40) : ∃ z : Nat, (wrap64 (m.tmod sz + sz)).tmod sz = z ∧ z < sz := by
  have g1 : -(sz : Int) < m.tmod sz := Int.lt_tmod_of_pos m (by omega)
  have g2 : m.tmod sz < sz := Int.tmod_lt_of_pos m (by omega)
  generalize m.tmod sz = r at g1 g2 ⊢
  rw [IntWalk.wrap64_in (r + sz) (by omega), Int.tmod_eq_emod_of_nonneg (by omega)]
  have := Int.emod_nonneg (r + sz) (show (sz : Int) ≠ 0 by omega)
  have := Int.emod_lt_of_pos (r + sz) (show (0 : Int) < sz by omega)
  exact ⟨((r + sz) % sz).toNat, by omega, by omega⟩

set_option maxRecDepth 100000 in
set_option maxHeartbeats 25600000 in
theorem fits_walk (sz0 : Int) (aT : Option Addr) (n c : Nat) (hn : n ≤ 9223372036854775807) (F : Nat → Int) (w : World) (hin : IntsIs w aT n F) :
    Calls Tryd.prog 3 #[.int .i64 sz0, .slice aT n c] w fun e w' => e = .returned (.bool true) ∧ Below w.heap.size w w' := by
  have INS := Lib.hid hin
  have hmm := @run_makeMap Tryd.prog
  obtain ⟨sz, hsz, s1, s2⟩ := size_is sz0
  clear hin
  go_enter Tryd.func3, Tryd.ntmps3
  go_wp2_with fail
  rw [hsz]
  clear hsz
  refine (New_any (fun _ => 100) 0 sz s1 (by omega) w).mono ?_
  rintro e w1 ⟨cb, x1, rfl, f1, h1, _⟩
  have F1 := Lib.hid (f1.mono CD_LC)
  have H1 := Lib.hid h1
  clear f1 h1
  go_wp2_with fail
  refine (awake_any w1).mono ?_
  rintro e w2 ⟨rfl, hb2⟩
  have H2 := Lib.hid (H1.out.below hb2)
  have F2 := Lib.hid (F1.out.trans (Fr.of_below (x := x1) (C := LC) hb2 (c := 6) (show 6 ≤ 8 by omega)))
  clear hb2
  generalize hx2 : paint x1 w1.heap.size (0 + 6) = x2 at H2
  have F2 : Hid (Fr (fun _ => 100) x2 LC w w2) := by rw [← hx2]; exact F2
  clear hx2 H1 F1
  go_wp2_with fail
  have L0 : Hid (FRel w sz cb w2.heap.size 0 (w2.alloc (.map #[] 0))) := Lib.hid (by
    have hb3 : Below w2.heap.size w2 (w2.alloc (.map #[] 0)) := (Below.refl _ _).alloc (Nat.le_refl _) _
    have f3 : Fr x2 (paint x2 w2.heap.size 7) (fun e => e = 7) w2 (w2.alloc (.map #[] 0)) := Fr.of_below hb3 rfl
    exact ⟨_, newS sz, fun _ => 0, F2.out.trans (f3.mono (fun e he => by show e ≤ 8; omega)), H2.out.frame f3 (fun e he hh => by have := he.2; omega), Fits.new ⟨s1, by omega⟩ keyF, paint_new (Nat.le_refl _), MapIs.made w2, fun a => Nat.zero_le _⟩)
  generalize hpb : w2.heap.size = sb at L0 ⊢
  generalize World.alloc w2 _ = w3 at L0 ⊢
  clear hpb F2 H2
  go_loopw [8] (fun i wr => ∃ j : Nat, i = .int .i64 j ∧ j ≤ n ∧ j ≤ 500 ∧ FRel w sz cb sb j wr) (fun i _ => n - (intOf i).toNat)
  case atStart => exact ⟨0, rfl, by omega, by omega, L0.out⟩
  case round => as_aux_lemma =>
    obtain ⟨j, rfl, hj1, hj2, hL⟩ := hrel
    have LR := Lib.hid hL
    clear hL
    by_cases hlt : j < n
    · by_cases hl3 : j < 500
      · obtain ⟨b, o, rfl, hbw, e0, hwf⟩ := INS.out j hlt
        obtain ⟨xr, s, f, fr, hci, hfits, hxp, hmp, hf1⟩ := LR.out
        have eqb : wr.heap[b]? = w.heap[b]? := fr.old b hbw (by show ¬ (100 ≤ 8); omega)
        rw [← World.cell?_of_block (w := w) (w' := wr) eqb] at e0
        obtain ⟨m, hm⟩ : ∃ m, F j = m := ⟨_, rfl⟩
        rw [hm] at e0 hwf
        obtain ⟨z, hz, hzlt⟩ := no_is m sz s1 s2
        have HZ := Lib.hid hz
        have HCI := Lib.hid hci
        have HFR := Lib.hid fr
        have HFIT := Lib.hid hfits
        have HXP := Lib.hid hxp
        have HMP := Lib.hid hmp
        have HF1 := Lib.hid hf1
        clear hci fr hfits hxp hmp hf1 eqb hm LR hz
        go_wp2_with fail
        rw [HZ.out]
        refine (Tryd.strconv_Itoa_small z (by omega) wr).mono ?_
        rintro e w4 ⟨rfl, rfl⟩
        have hdl := dec_len z (by omega)
        go_wp2_with fail
        rw [key_eq z]
        have hok := key_ok z (by omega)
        obtain ⟨ht1, ht2⟩ := HFIT.out.touch hzlt hok
        refine (touch_any xr 0 cb s (2 * j) (keyF z) hok _ HCI.out HFIT.out.ok (by omega)).mono ?_
        rintro e w5 ⟨rfl, x5, f5, h5⟩
        generalize touchS s (keyF z) = r at ht1 ht2 h5 ⊢
        obtain ⟨t, hit, gn, er⟩ := r
        simp only [Prod.mk.injEq] at ht1
        obtain ⟨rfl, rfl, rfl⟩ := ht1
        dsimp only [touchedV, goneV, Option.isSome]
        have HC5 : Hid (CIs x5 0 w5 cb t (2 * j + 2)) := Lib.hid h5
        have HT5 : Hid (Fits t sz keyF (fun a => if a = keyF z then 1 else f a)) := Lib.hid ht2
        have HF5 := Lib.hid (HFR.out.trans (f5.mono CD_LC))
        have HX5 : Hid (x5 sb = 7) := Lib.hid (by rw [f5.col sb HMP.out.lt]; exact HXP.out)
        have HM5 := Lib.hid (HMP.out.frame (f5.old sb HMP.out.lt (by rw [HXP.out]; exact fun hh => by have := hh.2; omega)))
        clear h5 ht2 f5 HCI HFR HXP HMP HFIT e0
        go_upto_region 11 with fail
        generalize hhit : decide (0 < f (keyF z)) = hit
        have HBW := Lib.hid ((Below.refl w5.heap.size w5).alloc (Nat.le_refl _) (.cells #[.bool hit, .bool false, .string ⟨#[]⟩] 31))
        have HRT : Hid ((w5.alloc (.cells #[.bool hit, .bool false, .string ⟨#[]⟩] 31)).heap[w5.heap.size]? = some (.cells #[.bool hit, .bool false, .string ⟨#[]⟩] 31 (0, 0))) := Lib.hid (heap_alloc_new w5 _)
        have FA : Hid (Fr x5 (paint x5 w5.heap.size 8) (fun e => e = 8) w5 (w5.alloc (.cells #[.bool hit, .bool false, .string ⟨#[]⟩] 31))) := Lib.hid (Fr.of_below HBW.out rfl)
        have HX6 : Hid (paint x5 w5.heap.size 8 sb = 7) := Lib.hid (by rw [paint_old HM5.out.lt]; exact HX5.out)
        have HC6 := Lib.hid (HC5.out.frame FA.out (fun e he hh => by have := he.2; omega))
        have HF6 := Lib.hid (HF5.out.trans (FA.out.mono (D := LC) (fun e he => by show e ≤ 8; omega)))
        have HM6 := Lib.hid (HM5.out.frame (HBW.out.block sb HM5.out.lt))
        clear HBW FA HC5 HF5 HX5 HM5
        generalize paint x5 w5.heap.size 8 = x6 at HX6 HC6 HF6
        generalize w5.heap.size = tb at HRT ⊢
        generalize World.alloc w5 _ = W6 at HRT HC6 HF6 HM6 ⊢
        have a0 : W6.cell? ⟨tb, 0, none⟩ = some (.bool hit) := by rw [cell_of_row W6 _ _ _ _ _ HRT.out]; rfl
        have a1 : W6.cell? ⟨tb, 1, none⟩ = some (.bool false) := by rw [cell_of_row W6 _ _ _ _ _ HRT.out]; rfl
        have a2 : W6.cell? ⟨tb, 2, none⟩ = some (.string ⟨#[]⟩) := by rw [cell_of_row W6 _ _ _ _ _ HRT.out]; rfl
        have hl := HM6.out.look (k := keyF z) hok
        obtain ⟨w7, hrun, hm7, ht⟩ := HM6.out.store (k := keyF z) hok (v := 1) (WalkArith.wf_i64 (by omega)) (by simp only [maxLen]; omega)
        have hrun1 : (Instr.mapUpdate 28 (.map (some sb)) (.string ⟨List.toArray (keyF z)⟩) (.int .i64 1)).run Tryd.prog W6 = .ok () w7 := hrun
        have R : Hid (FRel w sz cb sb (j + 1) w7) := Lib.hid (by
          obtain ⟨x7, f7, m7, p7⟩ := PM.of ht.grown HX6.out HM6.out.lt hm7
          refine ⟨x7, t, upd f (keyF z) 1, HF6.out.trans (f7.mono (D := LC) (fun e he => by show e ≤ 8; omega)), HC6.out.frame f7 (fun e he hh => by have := he.2; omega), HT5.out, p7, m7, fun a => ?_⟩
          unfold upd
          split
          · exact Nat.le_refl 1
          · exact HF1.out a)
        have hf := HF1.out (keyF z)
        clear hrun hm7 ht HRT HC6 HF6 HM6 HX6 HT5 HF1 hdl
        obtain ⟨p, hp⟩ : ∃ p, f (keyF z) = p := ⟨_, rfl⟩
        rw [hp] at hl hhit hf
        have hp01 : p = 0 ∨ p = 1 := by omega
        clear hp hf
        rcases hp01 with rfl | rfl
        · have : hit = false := by rw [← hhit]; rfl
          subst this
          clear hhit
          go_wp2_with fail
          go_roundw
          case rel => exact ⟨j + 1, by go_num, by omega, by omega, R.out⟩
          case measure => simp [intOf]; omega
        · have : hit = true := by rw [← hhit]; rfl
          subst this
          clear hhit
          go_wp2_with fail
          go_roundw
          case rel => exact ⟨j + 1, by go_num, by omega, by omega, R.out⟩
          case measure => simp [intOf]; omega
      · go_wp2_with fail
        go_ret
        obtain ⟨xr, s, f, fr, _⟩ := LR.out
        exact ⟨rfl, fr.below_allS8 (fun b _ hC => by have : 100 ≤ 8 := hC; omega)⟩
    · go_wp2_with fail
      go_ret
      obtain ⟨xr, s, f, fr, _⟩ := LR.out
      exact ⟨rfl, fr.below_allS8 (fun b _ hC => by have : 100 ≤ 8 := hC; omega)⟩
end Go.Proofs.YthcdfdkhmlkneaaDoor.arcS
