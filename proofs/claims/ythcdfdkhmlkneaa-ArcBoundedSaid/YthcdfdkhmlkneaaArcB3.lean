/- Statement ArcBounded: the walk of the law. -/
import Derived.BigQuiet
import Derived.BigRegion
import Derived.Deep.CutRange
import Derived.Test.YthcdfdkhmlkneaaOwn2
import Derived.Test.YthcdfdkhmlkneaaArcB2
namespace Go.Proofs.Ythcdfdkhmlkneaa.arcI
open Go.RowKit Go.Proofs.Ythcdfdkhmlkneaa.own

def OpsIs (w : World) (aT : Option Addr) (n : Nat) (F : Nat → Int × Int × Int) : Prop :=
  ∀ j, j < n → ∃ b o, aT = some ⟨b, o, none⟩ ∧ b < w.heap.size ∧ w.cell? ⟨b, o + j * 3, none⟩ = some (.int .i64 (F j).1) ∧ w.cell? ⟨b, o + j * 3 + 1, none⟩ = some (.int .i64 (F j).2.1) ∧ w.cell? ⟨b, o + j * 3 + 2, none⟩ = some (.int .i64 (F j).2.2) ∧
    (Lit.int .i64 (F j).2.2).wf = true

/-- the law's colours: 0 to 6 the cache's, 7 the map's, 8 the rest -/
def LC : Nat → Prop := fun e => e ≤ 8
theorem CD_LC : ∀ e, CD 0 e → LC e := fun e he => by have := he.2; show e ≤ 8; omega

def LRel (w : World) (sz cb pb j : Nat) (wr : World) : Prop :=
  ∃ (xr : Nat → Nat) (s : St), Fr (fun _ => 100) xr LC w wr ∧ CIs xr 0 wr cb s (4 * j) ∧ Ok s ∧ s.size = sz ∧ xr pb = 7 ∧ MapIs wr pb (4 * j) s.pins ∧ (∀ a, s.pins a ≤ j)

/-- what stands while a round goes on -/
structure WS (w : World) (cb pb xb tb : Nat) (kind who key : Int) (hit og : Bool) (z : Int) (t : St) (N : Nat) (x : Nat → Nat) (wc : World) : Prop where
  fr : Fr (fun _ => 100) x LC w wc
  ci : CIs x 0 wc cb t N
  xp : x pb = 7
  mp : MapIs wc pb N t.pins
  rx : wc.heap[xb]? = some (.cells #[.int .i64 kind, .int .i64 who, .int .i64 key] 57 (0, 0))
  xx : x xb = 8
  rt : wc.heap[tb]? = some (.cells #[.bool hit, .bool og, .int .i64 z] 77 (0, 0))
  xt : x tb = 8

theorem WS.below8 {w : World} {cb pb xb tb : Nat} {kind who key : Int} {hit og : Bool} {z : Int} {t : St} {N : Nat} {x : Nat → Nat} {wc wd : World} (h : WS w cb pb xb tb kind who key hit og z t N x wc) (hb : Below wc.heap.size wc wd) :
    WS w cb pb xb tb kind who key hit og z t N (paint x wc.heap.size 8) wd := by
  have f : Fr x (paint x wc.heap.size 8) (fun e => e = 8) wc wd := Fr.of_below hb rfl
  have lp := h.mp.lt
  have lx := lt_of_block h.rx
  have lt := lt_of_block h.rt
  exact ⟨h.fr.trans (f.mono (fun e he => by show e ≤ 8; omega)), h.ci.frame f (fun e he hh => by have := he.2; omega), by rw [paint_old lp]; exact h.xp, h.mp.frame (hb.block pb lp),
    (hb.block xb lx).trans h.rx, by rw [paint_old lx]; exact h.xx, (hb.block tb lt).trans h.rt, by rw [paint_old lt]; exact h.xt⟩
theorem WS.drewN {w : World} {cb pb xb tb : Nat} {kind who key : Int} {hit og : Bool} {z : Int} {t : St} {N : Nat} {x : Nat → Nat} {wc : World} (h : WS w cb pb xb tb kind who key hit og z t N x wc) (m : Nat) :
    WS w cb pb xb tb kind who key hit og z t N x (wc.drewN m) := ⟨Fr.drewN h.fr m, h.ci, h.xp, h.mp, h.rx, h.xx, h.rt, h.xt⟩
theorem kept8 {x x' : Nat → Nat} {w w' : World} {b : Nat} {o : Obj} (hf : Fr x x' (CD 0) w w') (h : w.heap[b]? = some o) (hx : x b = 8) : w'.heap[b]? = some o ∧ x' b = 8 :=
  ⟨(hf.old b (lt_of_block h) (by rw [hx]; exact fun hh => by have := hh.2; omega)).trans h, by rw [hf.col b (lt_of_block h)]; exact hx⟩

def Drawn (wd wr : World) : Prop := ∃ m, wr = wd.drewN m
theorem Drawn.refl (w : World) : Drawn w w := ⟨0, rfl⟩
theorem Drawn.drewN {wd wr : World} (h : Drawn wd wr) (n : Nat) : Drawn wd (wr.drewN n) := by
  obtain ⟨m, rfl⟩ := h
  exact ⟨m + n, by unfold World.drewN; simp [Nat.add_assoc]⟩
theorem Drawn.drew {wd wr : World} (h : Drawn wd wr) : Drawn wd wr.drew := h.drewN 1
theorem Drawn.cell {wd wr : World} (h : Drawn wd wr) (a : Addr) : wr.cell? a = wd.cell? a := by
  obtain ⟨m, rfl⟩ := h
  rfl
theorem WS.drawn {w : World} {cb pb xb tb : Nat} {kind who key : Int} {hit og : Bool} {z : Int} {t : St} {N : Nat} {x : Nat → Nat} {wc wr : World} (h : WS w cb pb xb tb kind who key hit og z t N x wc) (hD : Drawn wc wr) :
    WS w cb pb xb tb kind who key hit og z t N x wr := by
  obtain ⟨m, rfl⟩ := hD
  exact h.drewN m

def PM (pb N : Nat) (p : K → Nat) (x : Nat → Nat) (W wc : World) : Prop := ∃ xc, Fr x xc (fun e => e = 7) W wc ∧ MapIs wc pb N p ∧ xc pb = 7
theorem PM.of {pb N : Nat} {p : K → Nat} {x : Nat → Nat} {W wc : World} (hg : W.grownBy wc (some pb)) (hx : x pb = 7) (hlt : pb < W.heap.size) (hm : MapIs wc pb N p) : PM pb N p x W wc := by
  have kp : Keeps W wc (fun b => b = pb) := (Keeps.refl W _).grown hg (fun j hj => by injection hj with hj; exact .inl hj.symm)
  exact ⟨_, kp.fr (c := 7) rfl (fun b hb e => by rw [e]; exact hx), hm, by rw [paint_old hlt]; exact hx⟩

theorem size_is (m : Int) : ∃ z : Nat, wrap64 (1 + (wrap64 (m.tmod 12 + 12)).tmod 12) = z ∧ 1 ≤ z ∧ z ≤ 12 := by
  have h1 : -12 < m.tmod 12 := Int.lt_tmod_of_pos m (by omega)
  have h2 : m.tmod 12 < 12 := Int.tmod_lt_of_pos m (by omega)
  generalize m.tmod 12 = r at h1 h2 ⊢
  rw [IntWalk.wrap64_in (r + 12) (by omega), Int.tmod_eq_emod_of_nonneg (by omega), IntWalk.wrap64_in _ (by omega)]
  exact ⟨(1 + (r + 12) % 12).toNat, by omega, by omega, by omega⟩

set_option maxRecDepth 100000 in
set_option maxHeartbeats 25600000 in
theorem bounded_walk (sz0 : Int) (aT : Option Addr) (n c : Nat) (hn : n ≤ 9223372036854775807) (F : Nat → Int × Int × Int) (w : World) (hops : OpsIs w aT n F) :
    Calls Try.prog 7 #[.int .i64 sz0, .slice aT n c] w fun e w' => e = .returned (.bool true) ∧ Below w.heap.size w w' := by
  have OPS := Lib.hid hops
  have hmm := @run_makeMap Try.prog
  obtain ⟨sz, hsz, s1, s2⟩ := size_is sz0
  clear hops
  go_enter Try.func7, Try.ntmps7
  go_wp2_with fail
  rw [hsz]
  have B0 := Lib.hid (Below.refl w.heap.size w)
  clear hsz
  refine (New_any (fun _ => 100) 0 sz s1 (by omega) w).mono ?_
  rintro e w1 ⟨cb, x1, rfl, f1, h1, _⟩
  have F1 := Lib.hid (f1.mono CD_LC)
  have H1 := Lib.hid h1
  clear f1 h1 B0
  go_wp2_with fail
  refine (awake_any w1).mono ?_
  rintro e w2 ⟨rfl, hb2⟩
  have H2 := Lib.hid (H1.out.below hb2)
  have F2 := Lib.hid (F1.out.trans (Fr.of_below (x := x1) (C := LC) hb2 (c := 6) (show 6 ≤ 8 by omega)))
  clear hb2
  generalize hx2 : paint x1 w1.heap.size (0 + 6) = x2 at H2
  have F2 : Hid (Fr (fun _ => 100) x2 LC w w2) := by rw [← hx2]; exact F2
  clear hx2 H1 F1
  go_wp2_with fail
  have L0 : Hid (LRel w sz cb w2.heap.size 0 (w2.alloc (.map #[] 0))) := Lib.hid (by
    have hb3 : Below w2.heap.size w2 (w2.alloc (.map #[] 0)) := (Below.refl _ _).alloc (Nat.le_refl _) _
    have f3 : Fr x2 (paint x2 w2.heap.size 7) (fun e => e = 7) w2 (w2.alloc (.map #[] 0)) := Fr.of_below hb3 rfl
    exact ⟨_, newS sz, F2.out.trans (f3.mono (fun e he => by show e ≤ 8; omega)), H2.out.frame f3 (fun e he hh => by have := he.2; omega), newS_ok sz (by omega), rfl, paint_new (Nat.le_refl _), MapIs.made w2, fun a => Nat.le_refl _⟩)
  generalize hpb : w2.heap.size = pb at L0 ⊢
  generalize World.alloc w2 _ = w3 at L0 ⊢
  clear hpb F2 H2
  go_loopw [8] (fun i wr => ∃ j : Nat, i = .int .i64 j ∧ j ≤ n ∧ j ≤ 300 ∧ LRel w sz cb pb j wr) (fun i _ => n - (intOf i).toNat)
  case atStart => exact ⟨0, rfl, by omega, by omega, L0.out⟩
  case round => as_aux_lemma =>
    obtain ⟨j, rfl, hj1, hj2, hL⟩ := hrel
    have LR := Lib.hid hL
    clear hL
    by_cases hlt : j < n
    · by_cases hl3 : j < 300
      · obtain ⟨b, o, rfl, hbw, e0, e1, e2, hwf⟩ := OPS.out j hlt
        obtain ⟨xr, s, fr, hci, ok, hsz, hxp, hmp, hpb⟩ := LR.out
        have eqb : wr.heap[b]? = w.heap[b]? := fr.old b hbw (by show ¬ (100 ≤ 8); omega)
        rw [← World.cell?_of_block (w := w) (w' := wr) eqb] at e0 e1 e2
        obtain ⟨kind, who, key, hF⟩ : ∃ a b c, F j = (a, b, c) := ⟨_, _, _, rfl⟩
        rw [hF] at e0 e1 e2 hwf
        have HCI := Lib.hid hci
        have HFR := Lib.hid fr
        have HOK := Lib.hid ok
        have HXP := Lib.hid hxp
        have HMP := Lib.hid hmp
        have HPB := Lib.hid hpb
        clear hci fr hxp hmp hpb eqb hF LR
        have HBW := Lib.hid ((Below.refl wr.heap.size wr).alloc (Nat.le_refl _) (.cells #[.int .i64 kind, .int .i64 who, .int .i64 key] 57))
        have FA : Hid (Fr xr (paint xr wr.heap.size 8) (fun e => e = 8) wr (wr.alloc (.cells #[.int .i64 kind, .int .i64 who, .int .i64 key] 57))) := Lib.hid (Fr.of_below HBW.out rfl)
        have HXB : Hid (paint xr wr.heap.size 8 wr.heap.size = 8) := Lib.hid (paint_new (Nat.le_refl _))
        have HRX : Hid ((wr.alloc (.cells #[.int .i64 kind, .int .i64 who, .int .i64 key] 57)).heap[wr.heap.size]? = some (.cells #[.int .i64 kind, .int .i64 who, .int .i64 key] 57 (0, 0))) := Lib.hid (heap_alloc_new wr _)
        have HC1 := Lib.hid (HCI.out.frame FA.out (fun e he hh => by have := he.2; omega))
        have HF1 := Lib.hid (HFR.out.trans (FA.out.mono (D := LC) (fun e he => by show e ≤ 8; omega)))
        have HX1 : Hid (paint xr wr.heap.size 8 pb = 7) := Lib.hid (by rw [paint_old HMP.out.lt]; exact HXP.out)
        have HM1 := Lib.hid (HMP.out.frame (FA.out.old pb HMP.out.lt (by rw [HXP.out]; omega)))
        go_wp2_with fail
        clear HBW FA HCI HFR HXP HMP
        generalize paint xr wr.heap.size 8 = x1 at HXB HC1 HF1 HX1
        generalize hxb : wr.heap.size = xb at HXB HRX ⊢
        clear e0 e1 e2
        generalize World.alloc wr _ = W1 at HRX HC1 HF1 HM1 ⊢
        clear hxb
        have a0 : W1.cell? ⟨xb, 0, none⟩ = some (.int .i64 kind) := by rw [cell_of_row W1 _ _ _ _ _ HRX.out]; rfl
        have a1 : W1.cell? ⟨xb, 1, none⟩ = some (.int .i64 who) := by rw [cell_of_row W1 _ _ _ _ _ HRX.out]; rfl
        have a2 : W1.cell? ⟨xb, 2, none⟩ = some (.int .i64 key) := by rw [cell_of_row W1 _ _ _ _ _ HRX.out]; rfl
        refine (Has_any _ 0 cb s _ W1 key hwf HC1.out).mono ?_
        rintro e w4 ⟨rfl, rfl⟩
        have HPK := Lib.hid (HPB.out key)
        have hpk : s.pins key ≤ 300 := Nat.le_trans HPK.out hj2
        generalize hheld : decide (key ∈ s.once ∨ key ∈ s.often) = held
        have HHELD := Lib.hid hheld
        clear hheld
        go_wp2_with fail
        refine (run_any x1 0 cb s (4 * j) kind who key hwf W1 HC1.out HOK.out (by omega) (by omega)).mono ?_
        rintro e w4 ⟨rfl, x4, hf4, hc4⟩
        have SO := Lib.hid (run_ok s kind key hwf HOK.out)
        generalize runS s kind key = r at hc4 SO ⊢
        obtain ⟨t, hit, gn, er⟩ := r
        have HC4 : Hid (CIs x4 0 w4 cb t (4 * j + 2)) := Lib.hid hc4
        have HF4 := Lib.hid (HF1.out.trans (hf4.mono CD_LC))
        have SO : Hid (StepOk s kind key t hit gn er) := SO
        obtain ⟨hr4, hx4⟩ := kept8 hf4 HRX.out HXB.out
        have HR4 := Lib.hid hr4
        have HX4 := Lib.hid hx4
        have HP4 : Hid (x4 pb = 7) := Lib.hid (by rw [hf4.col pb HM1.out.lt]; exact HX1.out)
        have HM4 := Lib.hid (HM1.out.frame (hf4.old pb HM1.out.lt (by rw [HX1.out]; exact fun hh => by have := hh.2; omega)))
        obtain ⟨z, hz9⟩ := gone_shape gn
        have HZ9 := Lib.hid hz9
        unfold touchedV
        rw [hz9]
        clear hf4 hc4 hr4 hx4 a0 a1 a2 HRX HXB HC1 HF1 HX1 HM1 hz9
        have a0 : w4.cell? ⟨xb, 0, none⟩ = some (.int .i64 kind) := by rw [cell_of_row w4 _ _ _ _ _ HR4.out]; rfl
        have a2 : w4.cell? ⟨xb, 2, none⟩ = some (.int .i64 key) := by rw [cell_of_row w4 _ _ _ _ _ HR4.out]; rfl
        generalize hog : gn.isSome = og
        have HOG := Lib.hid hog
        clear hog
        have HBW := Lib.hid ((Below.refl w4.heap.size w4).alloc (Nat.le_refl _) (.cells #[.bool hit, .bool og, .int .i64 z] 77))
        have HRT : Hid ((w4.alloc (.cells #[.bool hit, .bool og, .int .i64 z] 77)).heap[w4.heap.size]? = some (.cells #[.bool hit, .bool og, .int .i64 z] 77 (0, 0))) := Lib.hid (heap_alloc_new w4 _)
        have FA : Hid (Fr x4 (paint x4 w4.heap.size 8) (fun e => e = 8) w4 (w4.alloc (.cells #[.bool hit, .bool og, .int .i64 z] 77))) := Lib.hid (Fr.of_below HBW.out rfl)
        have HXT : Hid (paint x4 w4.heap.size 8 w4.heap.size = 8) := Lib.hid (paint_new (Nat.le_refl _))
        have HXX : Hid (paint x4 w4.heap.size 8 xb = 8) := Lib.hid (by rw [paint_old (lt_of_block HR4.out)]; exact HX4.out)
        have HXP : Hid (paint x4 w4.heap.size 8 pb = 7) := Lib.hid (by rw [paint_old HM4.out.lt]; exact HP4.out)
        have HR5 := Lib.hid ((HBW.out.block xb (lt_of_block HR4.out)).trans HR4.out)
        have HC5 := Lib.hid (HC4.out.frame FA.out (fun e he hh => by have := he.2; omega))
        have HF5 := Lib.hid (HF4.out.trans (FA.out.mono (D := LC) (fun e he => by show e ≤ 8; omega)))
        have HM5 := Lib.hid (HM4.out.frame (HBW.out.block pb HM4.out.lt))
        clear HBW FA HC4 HF4 HP4 HM4 HX4
        go_upto_region 12 with fail
        generalize paint x4 w4.heap.size 8 = x5 at HXT HXX HXP HC5 HF5
        generalize htb : w4.heap.size = tb at HXT HRT ⊢
        generalize World.alloc w4 _ = W5 at HRT HR5 HC5 HF5 HM5 ⊢
        clear htb a0 a2 HR4
        have a0 : W5.cell? ⟨xb, 0, none⟩ = some (.int .i64 kind) := by rw [cell_of_row W5 _ _ _ _ _ HR5.out]; rfl
        have a2 : W5.cell? ⟨xb, 2, none⟩ = some (.int .i64 key) := by rw [cell_of_row W5 _ _ _ _ _ HR5.out]; rfl
        go_cut [71] from 65 to 71 (fun s71 wc => s71 = .bool (decide (kind = 1 ∧ er = 0)) ∧ W5 = wc)
        case first => as_aux_lemma =>
          by_cases h1 : kind = 1
          · subst h1
            by_cases h2 : er = 0
            · subst h2
              go_wp2_with fail
              go_meet
              case rel => exact ⟨rfl, rfl⟩
            · have h2b : ((er : Int) == 0) = false := beq_eq_false_iff_ne.2 (by omega)
              have hd : decide ((1 : Int) = 1 ∧ er = 0) = false := decide_eq_false (fun h => h2 h.2)
              clear h2
              go_wp2_with fail
              go_meet
              case rel => exact ⟨congrArg Value.bool hd.symm, rfl⟩
          · have h1b : (kind == 1) = false := beq_eq_false_iff_ne.2 h1
            have hd : decide (kind = 1 ∧ er = 0) = false := decide_eq_false (fun h => h1 h.1)
            clear h1
            go_wp2_with fail
            go_meet
            case rel => exact ⟨congrArg Value.bool hd.symm, rfl⟩
        case rest => as_aux_lemma =>
          obtain ⟨rfl, rfl⟩ := hcut
          go_upto_if 71 with fail
          go_cut [] from 71 to 79 (fun wc => PM pb (4 * j + 1) (pinU1 s.pins kind key er) x5 W5 wc)
          case first => as_aux_lemma =>
            have hl := HM5.out.look (k := key) hwf
            obtain ⟨p, hp⟩ : ∃ p, s.pins key = p := ⟨_, rfl⟩
            rw [hp] at hl hpk
            by_cases h1 : kind = 1 ∧ er = 0
            · have hd : decide (kind = 1 ∧ er = 0) = true := decide_eq_true h1
              have hwf2 : (Lit.int .i64 ((p + 1 : Nat) : Int)).wf = true := WalkArith.wf_i64 (by omega)
              obtain ⟨w6, hrun, hm6, ht⟩ := HM5.out.store (k := key) hwf (v := p + 1) hwf2 (by simp only [maxLen]; omega)
              have hrun1 : (Instr.mapUpdate 74 (.map (some pb)) (.int .i64 key) (.int .i64 ((p : Int) + 1))).run Try.prog W5 = .ok () w6 := hrun
              have R : Hid (PM pb (4 * j + 1) (pinU1 s.pins kind key er) x5 W5 w6) := Lib.hid (by
                unfold pinU1; rw [if_pos h1, hp]
                exact PM.of ht.grown HXP.out HM5.out.lt hm6)
              rw [hd]
              clear h1 hp hrun hm6 ht hwf2 hd
              go_wp2_with fail
              go_meet
              case rel => exact R.out
            · have hd : decide (kind = 1 ∧ er = 0) = false := decide_eq_false h1
              have R : Hid (PM pb (4 * j + 1) (pinU1 s.pins kind key er) x5 W5 W5) := Lib.hid (by
                unfold pinU1; rw [if_neg h1]
                exact ⟨x5, Fr.refl _ _ _, HM5.out.mono (by omega), HXP.out⟩)
              rw [hd]
              clear h1 hp hd
              go_wp2_with fail
              go_meet
              case rel => exact R.out
          case rest => as_aux_lemma =>
            obtain ⟨x6, f6, m6, p6⟩ := hcut
            generalize wc = W6 at f6 m6 ⊢
            have HF6 := Lib.hid (HF5.out.trans (f6.mono (D := LC) (fun e he => by show e ≤ 8; omega)))
            have HC6 := Lib.hid (HC5.out.frame f6 (fun e he hh => by have := he.2; omega))
            have HM6 := Lib.hid m6
            have HR6 := Lib.hid ((f6.old xb (lt_of_block HR5.out) (by rw [HXX.out]; omega)).trans HR5.out)
            have HT6 := Lib.hid ((f6.old tb (lt_of_block HRT.out) (by rw [HXT.out]; omega)).trans HRT.out)
            have XX6 : Hid (x6 xb = 8) := Lib.hid (by rw [f6.col xb (lt_of_block HR5.out)]; exact HXX.out)
            have XT6 : Hid (x6 tb = 8) := Lib.hid (by rw [f6.col tb (lt_of_block HRT.out)]; exact HXT.out)
            have XP6 := Lib.hid p6
            clear f6 m6 p6 a0 a2 HF5 HC5 HM5 HR5 HRT HXX HXT HXP
            have a0 : W6.cell? ⟨xb, 0, none⟩ = some (.int .i64 kind) := by rw [cell_of_row W6 _ _ _ _ _ HR6.out]; rfl
            have a2 : W6.cell? ⟨xb, 2, none⟩ = some (.int .i64 key) := by rw [cell_of_row W6 _ _ _ _ _ HR6.out]; rfl
            go_upto_region 14 with fail
            go_cut [86] from 80 to 86 (fun s86 wc => s86 = .bool (decide (kind = 2 ∧ er = 0)) ∧ W6 = wc)
            case first => as_aux_lemma =>
              by_cases h1 : kind = 2
              · subst h1
                by_cases h2 : er = 0
                · subst h2
                  go_wp2_with fail
                  go_meet
                  case rel => exact ⟨rfl, rfl⟩
                · have h2b : ((er : Int) == 0) = false := beq_eq_false_iff_ne.2 (by omega)
                  have hd : decide ((2 : Int) = 2 ∧ er = 0) = false := decide_eq_false (fun h => h2 h.2)
                  clear h2
                  go_wp2_with fail
                  go_meet
                  case rel => exact ⟨congrArg Value.bool hd.symm, rfl⟩
              · have h1b : (kind == 2) = false := beq_eq_false_iff_ne.2 h1
                have hd : decide (kind = 2 ∧ er = 0) = false := decide_eq_false (fun h => h1 h.1)
                clear h1
                go_wp2_with fail
                go_meet
                case rel => exact ⟨congrArg Value.bool hd.symm, rfl⟩
            case rest => as_aux_lemma =>
              obtain ⟨rfl, rfl⟩ := hcut
              go_upto_if 86 with fail
              go_cut [] from 86 to 94 (fun wc => PM pb (4 * j + 2) t.pins x6 W6 wc)
              case first => as_aux_lemma =>
                have hl := HM6.out.look (k := key) hwf
                by_cases h1 : kind = 2 ∧ er = 0
                · have hd : decide (kind = 2 ∧ er = 0) = true := decide_eq_true h1
                  have hpp := SO.out.pos h1.1 h1.2
                  obtain ⟨p, hp⟩ : ∃ p, s.pins key = p + 1 := ⟨s.pins key - 1, by omega⟩
                  have hu : pinU1 s.pins kind key er = s.pins := by unfold pinU1; rw [if_neg (by omega)]
                  rw [hu, hp] at hl
                  have hl2 : (Instr.lookup 74 (.map (some pb)) (.int .i64 key) false).run Try.prog W6 = .ok (.int .i64 ((p : Int) + 1)) W6 := hl
                  have hwf2 : (Lit.int .i64 ((p : Nat) : Int)).wf = true := WalkArith.wf_i64 (by omega)
                  obtain ⟨w7, hrun, hm7, ht⟩ := HM6.out.store (k := key) hwf (v := p) hwf2 (by simp only [maxLen]; omega)
                  have hrun1 : (Instr.mapUpdate 74 (.map (some pb)) (.int .i64 key) (.int .i64 (p : Int))).run Try.prog W6 = .ok () w7 := hrun
                  have R : Hid (PM pb (4 * j + 2) t.pins x6 W6 w7) := Lib.hid (by
                    rw [SO.out.pins]
                    unfold pinU2
                    rw [if_pos h1, hu, hp]
                    rw [hu] at hm7
                    exact PM.of ht.grown XP6.out HM6.out.lt hm7)
                  have hpb : p ≤ 300 := by omega
                  rw [hd]
                  clear h1 hp hrun hm7 ht hwf2 hd hu hl hpp hpk
                  go_wp2_with fail
                  go_meet
                  case rel => exact R.out
                · have hd : decide (kind = 2 ∧ er = 0) = false := decide_eq_false h1
                  have R : Hid (PM pb (4 * j + 2) t.pins x6 W6 W6) := Lib.hid (by
                    rw [SO.out.pins]
                    unfold pinU2
                    rw [if_neg h1]
                    exact ⟨x6, Fr.refl _ _ _, HM6.out.mono (by omega), XP6.out⟩)
                  rw [hd]
                  clear h1 hd hl
                  go_wp2_with fail
                  go_meet
                  case rel => exact R.out
              case rest => as_aux_lemma =>
                obtain ⟨x7, f7, m7, p7⟩ := hcut
                generalize wc = W7 at f7 m7 ⊢
                have S7 : Hid (WS w cb pb xb tb kind who key hit og z t (4 * j + 2) x7 W7) := Lib.hid
                  ⟨HF6.out.trans (f7.mono (D := LC) (fun e he => by show e ≤ 8; omega)), HC6.out.frame f7 (fun e he hh => by have := he.2; omega), p7, m7,
                    (f7.old xb (lt_of_block HR6.out) (by rw [XX6.out]; omega)).trans HR6.out, by rw [f7.col xb (lt_of_block HR6.out)]; exact XX6.out,
                    (f7.old tb (lt_of_block HT6.out) (by rw [XT6.out]; omega)).trans HT6.out, by rw [f7.col tb (lt_of_block HT6.out)]; exact XT6.out⟩
                clear f7 m7 p7 a0 a2 HF6 HC6 HM6 HR6 HT6 XX6 XT6 XP6
                have OKT := SO.out.ok
                have q0 : t.size = sz := SO.out.size.trans hsz
                have q1 := OKT.held
                have q2 := OKT.first
                have q3 := OKT.all
                have q4 := OKT.target
                have OKT := Lib.hid OKT
                go_wp2_with fail
                refine (Lists_any _ 0 cb t _ W7 S7.out.ci (by omega) (by omega) (by omega) (by omega)).mono ?_
                rintro e W8 ⟨v1, v2, v3, v4, rfl, hb8, r1, r2, r3, r4⟩
                obtain ⟨l1, e1⟩ : ∃ l, l = t.once.reverse := ⟨_, rfl⟩
                obtain ⟨l2, e2⟩ : ∃ l, l = t.often.reverse := ⟨_, rfl⟩
                obtain ⟨l3, e3⟩ : ∃ l, l = t.wonce.reverse := ⟨_, rfl⟩
                obtain ⟨l4, e4⟩ : ∃ l, l = t.woften.reverse := ⟨_, rfl⟩
                rw [← e1] at r1
                rw [← e2] at r2
                rw [← e3] at r3
                rw [← e4] at r4
                have n1 : t.once.length = l1.length := by rw [e1, List.length_reverse]
                have n2 : t.often.length = l2.length := by rw [e2, List.length_reverse]
                have n3 : t.wonce.length = l3.length := by rw [e3, List.length_reverse]
                have n4 : t.woften.length = l4.length := by rw [e4, List.length_reverse]
                have ALL : Hid (allOf t = l1 ++ (l2 ++ (l3 ++ l4))) := Lib.hid (by rw [e1, e2, e3, e4]; rfl)
                rw [n1, n2] at q1
                rw [n1, n3] at q2
                rw [n1, n2, n3, n4] at q3
                rw [q0] at q1 q2 q3 q4
                obtain ⟨aT1, cT1, rfl, -, -⟩ := keys_open r1
                obtain ⟨aT2, cT2, rfl, -, -⟩ := keys_open r2
                obtain ⟨aT3, cT3, rfl, -, -⟩ := keys_open r3
                obtain ⟨aT4, cT4, rfl, -, -⟩ := keys_open r4
                have N1 := Lib.hid n1
                have N2 := Lib.hid n2
                have R1 := Lib.hid r1
                have R2 := Lib.hid r2
                have R3 := Lib.hid r3
                have R4 := Lib.hid r4
                have S8 := Lib.hid (S7.out.below8 hb8)
                generalize paint x7 W7.heap.size 8 = x8 at S8
                clear e1 e2 e3 e4 n1 n2 n3 n4 r1 r2 r3 r4 hb8 S7
                go_upto_region 17 with fail
                go_cut [144] from 102 to 144 (fun s144 wc => s144 = .bool false ∧ W8 = wc)
                case first => as_aux_lemma =>
                  have g1 : ¬ ((sz : Int) < (l1.length : Int) + (l2.length : Int)) := by omega
                  have g2 : ¬ ((sz : Int) < (l1.length : Int) + (l3.length : Int)) := by omega
                  have g3 : ¬ (2 * (sz : Int) < (l1.length : Int) + (l2.length : Int) + (l3.length : Int) + (l4.length : Int)) := by omega
                  have g4 : ¬ ((sz : Int) < (t.target : Int)) := by omega
                  have g5 : ¬ ((t.target : Int) < 0) := by omega
                  go_wp2_with fail
                  refine (Target_any _ 0 cb t _ W8 S8.out.ci).mono ?_
                  rintro e w9 ⟨rfl, rfl⟩
                  go_wp2_with fail
                  refine (Target_any _ 0 cb t _ _ S8.out.ci).mono ?_
                  rintro e w9 ⟨rfl, rfl⟩
                  go_wp2_with fail
                  go_meet
                  case rel => exact ⟨by simp [show ¬ ((t.target : Int) < 0) by omega, show ¬ sz < t.target by omega], rfl⟩
                case rest => as_aux_lemma =>
                  obtain ⟨rfl, rfl⟩ := hcut
                  obtain ⟨i0, hi, hz0, hz1, hz2⟩ := info_parts Try.infoK
                  have bA : Below W8.heap.size W8 (W8.alloc (.cells #[] 3)) := (Below.refl _ _).alloc (Nat.le_refl _) _
                  have oA : (W8.alloc (.cells #[] 3)).ownsRow W8.heap.size 3 1 (.slice (some ⟨W8.heap.size, 0, none⟩) 0 0) 0 [] :=
                    ⟨rfl, .inr ⟨W8.heap.size, 0, #[], rfl, Nat.le_refl _, heap_alloc_new W8 _, Nat.le_refl _, Nat.zero_le _, rfl, rfl⟩⟩
                  have dA : (W8.alloc (.cells #[] 3)).ownsRow W7.heap.size 3 1 (.slice aT1 l1.length cT1) l1.length (kvs l1) := own_below R1.out bA
                  have BA := Lib.hid bA
                  clear bA
                  go_wp2_with (at_builtin; refine wpList_append_row _ rfl _ _ 51 rfl W8.heap.size W7.heap.size 3 i0 _ 8 Try.underlying51 hi hz0 hz1 hz2 rfl _ 0 [] rfl oA _ l1.length (kvs l1) rfl dA (kvs_one l1) ?c1 ?c2 ?c3 ?_)
                  try case c1 => simp only [maxLen]; omega
                  try case c2 => omega
                  try case c3 => simp
                  intro va wa own1 hg1 _
                  have BB := Lib.hid (BA.out.grown hg1 (by simp) (fun k hk => (oA.lt k hk).1))
                  have own1 : wa.ownsRow W8.heap.size 3 1 va l1.length (kvs l1) := by simpa using own1
                  clear oA dA BA hg1
                  have d2 := own_below R2.out BB.out
                  have O2 := Lib.hid own1
                  go_wp2_with (at_builtin; refine wpList_append_row _ rfl _ _ 51 rfl W8.heap.size W7.heap.size 3 i0 _ 8 Try.underlying51 hi hz0 hz1 hz2 rfl _ l1.length (kvs l1) rfl own1 _ l2.length (kvs l2) rfl d2 (kvs_one l2) ?c1 ?c2 ?c3 ?_)
                  try case c1 => simp only [maxLen]; omega
                  try case c2 => omega
                  try case c3 => exact BB.out.size
                  intro vb wb own2 hg2 _
                  have own2 : wb.ownsRow W8.heap.size 3 1 vb (l1.length + l2.length) (kvs l1 ++ kvs l2) := by simpa using own2
                  have BC := Lib.hid (BB.out.grown hg2 BB.out.size (fun k hk => (O2.out.lt k hk).1))
                  clear d2 own1 hg2
                  have d3 := own_below R3.out BC.out
                  have O3 := Lib.hid own2
                  go_wp2_with (at_builtin; refine wpList_append_row _ rfl _ _ 51 rfl W8.heap.size W7.heap.size 3 i0 _ 8 Try.underlying51 hi hz0 hz1 hz2 rfl _ (l1.length + l2.length) (kvs l1 ++ kvs l2) rfl own2 _ l3.length (kvs l3) rfl d3 (kvs_one l3) ?c1 ?c2 ?c3 ?_)
                  try case c1 => simp only [maxLen]; omega
                  try case c2 => omega
                  try case c3 => exact BC.out.size
                  intro vc wcc own3 hg3 _
                  have own3 : wcc.ownsRow W8.heap.size 3 1 vc (l1.length + l2.length + l3.length) (kvs l1 ++ kvs l2 ++ kvs l3) := by simpa using own3
                  have BD := Lib.hid (BC.out.grown hg3 BC.out.size (fun k hk => (O3.out.lt k hk).1))
                  clear d3 own2 hg3
                  have d4 := own_below R4.out BD.out
                  have O4 := Lib.hid own3
                  go_wp2_with (at_builtin; refine wpList_append_row _ rfl _ _ 51 rfl W8.heap.size W7.heap.size 3 i0 _ 8 Try.underlying51 hi hz0 hz1 hz2 rfl _ (l1.length + l2.length + l3.length) (kvs l1 ++ kvs l2 ++ kvs l3) rfl own3 _ l4.length (kvs l4) rfl d4 (kvs_one l4) ?c1 ?c2 ?c3 ?_)
                  try case c1 => simp only [maxLen]; omega
                  try case c2 => omega
                  try case c3 => exact BD.out.size
                  intro vd wd own4 hg4 _
                  have own4 : wd.ownsRow W8.heap.size 3 1 vd (l1.length + l2.length + l3.length + l4.length) (kvs l1 ++ kvs l2 ++ kvs l3 ++ kvs l4) := by simpa using own4
                  have BE := Lib.hid (BD.out.grown hg4 BD.out.size (fun k hk => (O4.out.lt k hk).1))
                  clear d4 own3 hg4
                  have hlen : (allOf t).length = l1.length + l2.length + l3.length + l4.length := by rw [ALL.out]; simp [Nat.add_assoc]
                  have hkvs : kvs (allOf t) = kvs l1 ++ kvs l2 ++ kvs l3 ++ kvs l4 := by rw [ALL.out]; simp [kvs]
                  rw [← hlen, ← hkvs] at own4
                  have hisr : isRow wd W8.heap.size vd (allOf t) := own4
                  have S9 := Lib.hid (S8.out.below8 BE.out)
                  generalize paint x8 W8.heap.size 8 = x9 at S9
                  obtain ⟨all, hall⟩ : ∃ l, l = allOf t := ⟨_, rfl⟩
                  have DIFF : Hid (∀ a (ha : a < all.length) b (hb : b < a), (all[b] == all[a]) = false) := Lib.hid (by subst hall; exact fun a ha b hb => allOf_diff OKT.out ha hb)
                  have HELD : Hid (∀ a (ha : a < all.length), decide (all[a] ∈ t.once ∨ all[a] ∈ t.often) = decide (a < l1.length + l2.length)) := Lib.hid (by subst hall; intro a ha; rw [allOf_held OKT.out ha, N1.out, N2.out])
                  have KEYS : Hid (∀ a (ha : a < all.length), (Lit.int .i64 all[a]).wf = true) := Lib.hid (by subst hall; exact fun a ha => allOf_key OKT.out ha)
                  have hle : all.length ≤ 24 := by rw [hall, hlen]; omega
                  rw [← hall] at hisr
                  obtain ⟨aA, cA, rfl, -, HCA⟩ := keys_open hisr
                  clear own4 hlen hkvs hisr hall O2 O3 O4 BB BC BD BE R1 R2 R3 R4 S8 hi hz0 hz1 hz2 ALL
                  go_wp2_with fail
                  go_loopw [18] (fun i wr => ∃ k : Nat, i = .int .i64 k ∧ k ≤ all.length ∧ Drawn wd wr) (fun i _ => all.length - (intOf i).toNat)
                  case atStart => exact ⟨0, rfl, Nat.zero_le _, Drawn.refl _⟩
                  case round => as_aux_lemma =>
                    obtain ⟨k, rfl, hk, hD⟩ := hrel
                    have HD := Lib.hid hD
                    clear hD
                    by_cases hltk : k < all.length
                    · obtain ⟨gA, rfl, _, _, _⟩ := HCA.out k hltk
                      have CELLS : Hid (∀ q (hq : q < all.length), wd.cell? ⟨gA, q, none⟩ = some (.int .i64 all[q])) := Lib.hid (fun q hq => by
                        obtain ⟨g, e, _, _, c⟩ := HCA.out q hq
                        injection e with e
                        injection e with e
                        subst e
                        exact c)
                      go_wp2_with fail
                      go_loopw [19] (fun i wr => ∃ q : Nat, i = .int .i64 q ∧ q ≤ k ∧ Drawn wd wr) (fun i _ => k - (intOf i).toNat)
                      case atStart => exact ⟨0, rfl, Nat.zero_le _, HD.out⟩
                      case round => as_aux_lemma =>
                        obtain ⟨q, rfl, hq, hD⟩ := hrel
                        have ck : wr.cell? ⟨gA, k, none⟩ = some (.int .i64 all[k]) := by rw [hD.cell]; exact CELLS.out k hltk
                        have HD := Lib.hid hD
                        by_cases hql : q < k
                        · have cq : wr.cell? ⟨gA, q, none⟩ = some (.int .i64 all[q]) := by rw [hD.cell]; exact CELLS.out q (by omega)
                          have hd : (all[q] == all[k]) = false := DIFF.out k hltk q hql
                          clear hD
                          go_wp2_with fail
                          go_quiet (fail)
                          go_wp2_with fail
                          go_roundw
                          case rel => exact ⟨q + 1, by go_num, by omega, HD.out.drewN _⟩
                          case measure => simp [intOf]; omega
                        · have HQ : Hid (∀ W, Drawn wd W → Calls Try.prog 33 #[.pointer (some ⟨cb, 0, none⟩), .int .i64 all[k]] W fun e w' => e = .returned (.bool (decide (k < l1.length + l2.length))) ∧ ∃ n, w' = W.drewN n) :=
                            Lib.hid (fun W hW => (Has_any _ 0 cb t _ W all[k] (KEYS.out k hltk) (S9.out.drawn hW).ci).mono (fun e w' hh => ⟨by rw [hh.1, HELD.out k hltk], 0, hh.2.symm⟩))
                          have PQ : Hid (∀ W, Drawn wd W → Calls Try.prog 37 #[.pointer (some ⟨cb, 0, none⟩), .int .i64 all[k]] W fun e w' => e = .returned (.int .i64 (t.pins all[k])) ∧ ∃ n, w' = W.drewN n) :=
                            Lib.hid (fun W hW => (Pins_any _ 0 cb t _ W all[k] (KEYS.out k hltk) (S9.out.drawn hW).ci).mono (fun e w' hh => ⟨hh.1, 0, hh.2.symm⟩))
                          have hl1 : (Instr.lookup 74 (.map (some pb)) (.int .i64 all[k]) false).run Try.prog wr = .ok (.int .i64 (t.pins all[k])) wr := (S9.out.drawn hD).mp.look (KEYS.out k hltk)
                          have hl2 : ∀ m, (Instr.lookup 74 (.map (some pb)) (.int .i64 all[k]) false).run Try.prog (wr.drewN m) = .ok (.int .i64 (t.pins all[k])) (wr.drewN m) := fun m => (S9.out.drawn (hD.drewN m)).mp.look (KEYS.out k hltk)
                          have hl3 : (Instr.lookup 74 (.map (some pb)) (.int .i64 all[k]) false).run Try.prog wr.drew = .ok (.int .i64 (t.pins all[k])) wr.drew := (S9.out.drawn (hD.drewN 1)).mp.look (KEYS.out k hltk)
                          clear hD
                          obtain ⟨pk, hpke⟩ : ∃ p, t.pins all[k] = p := ⟨_, rfl⟩
                          rw [hpke] at hl1 hl2 hl3 PQ
                          clear hpke
                          by_cases hk2 : k < l1.length + l2.length
                          · rw [decide_eq_true hk2] at HQ
                            have hk3 : (k : Int) < (l1.length : Int) + (l2.length : Int) := by omega
                            go_wp2_with fail
                            go_quiet (first
                              | (go_at_call 33; refine Calls.quiet_of (HQ.out _ ?_); repeat (first | exact HD.out | refine Drawn.drewN ?_ _ | refine Drawn.drew ?_))
                              | (go_at_call 37; refine Calls.quiet_of (PQ.out _ ?_); repeat (first | exact HD.out | refine Drawn.drewN ?_ _ | refine Drawn.drew ?_)))
                            go_wp2_with fail
                            go_roundw
                            case rel => exact ⟨k + 1, by go_num, by omega, HD.out.drewN _⟩
                            case measure => simp [intOf]; omega
                          · rw [decide_eq_false hk2] at HQ
                            have hk3 : decide ((k : Int) < (l1.length : Int) + (l2.length : Int)) = false := decide_eq_false (by omega)
                            go_wp2_with fail
                            go_quiet (first
                              | (go_at_call 33; refine Calls.quiet_of (HQ.out _ ?_); repeat (first | exact HD.out | refine Drawn.drewN ?_ _ | refine Drawn.drew ?_))
                              | (go_at_call 37; refine Calls.quiet_of (PQ.out _ ?_); repeat (first | exact HD.out | refine Drawn.drewN ?_ _ | refine Drawn.drew ?_)))
                            go_wp2_with fail
                            go_roundw
                            case rel => exact ⟨k + 1, by go_num, by omega, HD.out.drewN _⟩
                            case measure => simp [intOf]; omega
                    · have SR := Lib.hid (S9.out.drawn HD.out)
                      clear HCA DIFF HELD KEYS
                      have a0 : wr.cell? ⟨xb, 0, none⟩ = some (.int .i64 kind) := by rw [cell_of_row wr _ _ _ _ _ SR.out.rx]; rfl
                      have a2 : wr.cell? ⟨xb, 2, none⟩ = some (.int .i64 key) := by rw [cell_of_row wr _ _ _ _ _ SR.out.rx]; rfl
                      have t0 : wr.cell? ⟨tb, 0, none⟩ = some (.bool hit) := by rw [cell_of_row wr _ _ _ _ _ SR.out.rt]; rfl
                      have t1 : wr.cell? ⟨tb, 1, none⟩ = some (.bool og) := by rw [cell_of_row wr _ _ _ _ _ SR.out.rt]; rfl
                      have t2 : wr.cell? ⟨tb, 2, none⟩ = some (.int .i64 z) := by rw [cell_of_row wr _ _ _ _ _ SR.out.rt]; rfl
                      go_upto_region 30 with fail
                      go_cut [238] from 203 to 238 (fun s238 wc => s238 = .bool false ∧ wr = wc)
                      case first => as_aux_lemma =>
                        have hl := SR.out.mp.look (k := key) hwf
                        have HPIN : Hid (0 < t.pins key → decide (key ∈ t.once ∨ key ∈ t.often) = true) := Lib.hid (fun h => decide_eq_true (OKT.out.pinned key h))
                        obtain ⟨pk, hpke⟩ : ∃ p, t.pins key = p := ⟨_, rfl⟩
                        rw [hpke] at hl HPIN
                        clear hpke
                        cases hgo : og with
                        | true =>
                          subst hgo
                          obtain ⟨g, hg⟩ := Option.isSome_iff_exists.1 HOG.out
                          have hzg : z = g := by have := HZ9.out; rw [hg] at this; exact ((Value.int.inj this).2).symm
                          obtain ⟨gg1, gg2, gg3, gg4⟩ := SO.out.gone g hg
                          have hgw := SO.out.goneKey g hg
                          rw [← hzg] at gg1 gg2 gg3 gg4 hgw
                          have hlz := SR.out.mp.look (k := z) hgw
                          rw [gg1] at hlz
                          have hze : (z == key) = false := beq_eq_false_iff_ne.2 gg2
                          have DZ : Hid (decide (z ∈ t.once ∨ z ∈ t.often) = false) := Lib.hid (decide_eq_false (by rintro (h | h); exact gg3 h; exact gg4 h))
                          clear hg hzg gg1 gg2 gg3 gg4
                          go_wp2_with fail
                          refine (Has_any _ 0 cb t _ wr z hgw SR.out.ci).mono ?_
                          rintro e w9 ⟨rfl, rfl⟩
                          rw [DZ.out]
                          by_cases hp0 : 0 < pk
                          · have hp1 : (0 : Int) < (pk : Int) := by omega
                            have HH := Lib.hid (HPIN.out hp0)
                            clear hp0
                            go_wp2_with fail
                            refine (Has_any _ 0 cb t _ _ key hwf SR.out.ci).mono ?_
                            rintro e w9 ⟨rfl, rfl⟩
                            rw [HH.out]
                            go_wp2_with fail
                            go_meet
                            case rel => exact ⟨rfl, rfl⟩
                          · have hp1 : pk = 0 := by omega
                            subst hp1
                            clear hp0
                            go_wp2_with fail
                            go_meet
                            case rel => exact ⟨rfl, rfl⟩
                        | false =>
                          subst hgo
                          by_cases hp0 : 0 < pk
                          · have hp1 : (0 : Int) < (pk : Int) := by omega
                            have HH := Lib.hid (HPIN.out hp0)
                            clear hp0
                            go_wp2_with fail
                            refine (Has_any _ 0 cb t _ _ key hwf SR.out.ci).mono ?_
                            rintro e w9 ⟨rfl, rfl⟩
                            rw [HH.out]
                            go_wp2_with fail
                            go_meet
                            case rel => exact ⟨rfl, rfl⟩
                          · have hp1 : pk = 0 := by omega
                            subst hp1
                            clear hp0
                            go_wp2_with fail
                            go_meet
                            case rel => exact ⟨rfl, rfl⟩
                      case rest => as_aux_lemma =>
                        obtain ⟨rfl, rfl⟩ := hcut
                        go_upto_region 32 with fail
                        go_cut [275] from 239 to 275 (fun s275 wc => s275 = .bool false ∧ ∃ xq, WS w cb pb xb tb kind who key hit og z t (4 * j + 2) xq wc)
                        case first => as_aux_lemma =>
                          by_cases h1 : kind = 0
                          · have K0 := Lib.hid (SO.out.k0 h1)
                            have K13 := Lib.hid (SO.out.k13 h1)
                            subst h1
                            by_cases h2 : er = 0
                            · have DH : Hid (decide (key ∈ t.once ∨ key ∈ t.often) = true) := Lib.hid (decide_eq_true (K0.out h2).1)
                              have hhit : hit = held := (K0.out h2).2.trans HHELD.out
                              subst hhit
                              subst h2
                              go_wp2_with fail
                              refine (Has_any _ 0 cb t _ _ key hwf SR.out.ci).mono ?_
                              rintro e w9 ⟨rfl, rfl⟩
                              rw [DH.out]
                              go_wp2_with fail
                              go_meet
                              case rel => exact ⟨by simp, x9, SR.out⟩
                            · obtain ⟨h3, h4, h5⟩ := K13.out h2
                              subst h3
                              have hheld : held = false := by rw [← HHELD.out]; exact decide_eq_false h4
                              subst hheld
                              have HN := Lib.hid h5
                              clear h2 h4 h5
                              go_wp2_with fail
                              refine (allPinned_any _ 0 cb t _ _ SR.out.ci OKT.out).mono ?_
                              rintro e w9 ⟨rfl, hb9⟩
                              rw [HN.out, hsz]
                              have S10 := Lib.hid (SR.out.below8 hb9)
                              clear hb9
                              go_wp2_with fail
                              go_meet
                              case rel => exact ⟨by simp, _, S10.out⟩
                          · have h1b : (kind == 0) = false := beq_eq_false_iff_ne.2 h1
                            clear h1
                            go_wp2_with fail
                            go_meet
                            case rel => exact ⟨rfl, x9, SR.out⟩
                        case rest => as_aux_lemma =>
                          obtain ⟨rfl, xq, SQ⟩ := hcut
                          have SQ := Lib.hid SQ
                          go_wp2_with fail
                          go_roundw
                          case rel => exact ⟨j + 1, by go_num, by omega, by omega, xq, t, SQ.out.fr, SQ.out.ci.mono (by omega), OKT.out, q0, SQ.out.xp, SQ.out.mp.mono (by omega), by rw [SO.out.pins]; exact step_bound HPB.out kind key er⟩
                          case measure => simp [intOf]; omega
      · go_wp2_with fail
        go_ret
        obtain ⟨xr, s, fr, _⟩ := LR.out
        exact ⟨rfl, fr.below_all (fun b _ hC => by have : (100 : Nat) ≤ 8 := hC; omega)⟩
    · go_wp2_with fail
      go_ret
      obtain ⟨xr, s, fr, _⟩ := LR.out
      exact ⟨rfl, fr.below_all (fun b _ hC => by have : (100 : Nat) ≤ 8 := hC; omega)⟩

end Go.Proofs.Ythcdfdkhmlkneaa.arcI
