/- Statement PoolPinned: the walk of the law. -/
import Derived.BigQuiet
import Derived.BigRegion
import Derived.Deep.CutRange
import Derived.Test.YtbgbomlmgkgkoaaPoH
import Derived.Test.YtbgbomlmgkgkoaaPoW
namespace Go.Proofs.Ytbgbomlmgkgkoaa.arcI
open Go.RowKit Go.Proofs.Ytbgbomlmgkgkoaa.own Go.Proofs.Ytbgbomlmgkgkoaa.dv Go.Proofs.Ytbgbomlmgkgkoaa.po

def POps (w : World) (aT : Option Addr) (n : Nat) (K M : Nat → Int) (T : Nat → ByteArray) : Prop :=
  ∀ j, j < n → ∃ b o, aT = some ⟨b, o, none⟩ ∧ b < w.heap.size ∧ w.cell? ⟨b, o + j * 6, none⟩ = some (.int .i64 (K j)) ∧ w.cell? ⟨b, o + j * 6 + 1, none⟩ = some (.int .i64 (M j)) ∧ w.cell? ⟨b, o + j * 6 + 3, none⟩ = some (.string (T j)) ∧ (T j).size ≤ 9223372036854775807

/-- the law's colours -/
def LP : Nat → Prop := fun e => e ≤ 50
theorem PC_LP : ∀ e, PC 0 20 e → LP e := fun e he => by
  show e ≤ 50
  rcases he with he | he
  · have := he.2; omega
  · have := he.2; omega

/-- what stands between two rounds -/
structure SR (w : World) (sb db eb pb fr j : Nat) (x : Nat → Nat) (s : Sp) (D : Dev) (wr : World) : Prop where
  ff : Fr (fun _ => 100) x LP w wr
  si : SIs x 0 20 wr sb db eb s D (20 * j)
  inv : PinInv s D fr
  ns : D.ns = 1
  xp : x pb = 40
  mp : MapIs wr pb j s.arc.pins

theorem SR.turn {w : World} {sb db eb pb fr j : Nat} {x x' : Nat → Nat} {s s' : Sp} {D D' : Dev} {wr wc : World} (h : SR w sb db eb pb fr j x s D wr) (hf : Fr x x' (PC 0 20) wr wc) {N : Nat} (hs : SIs x' 0 20 wc sb db eb s' D' N) (hN : N ≤ 20 * (j + 1)) (hi : PinInv s' D' fr) (hp : s'.arc.pins = s.arc.pins) (hns : D'.ns = D.ns) :
    SR w sb db eb pb fr (j + 1) x' s' D' wc := by
  have lp := h.mp.lt
  have np : ¬ PC 0 20 (x pb) := by rw [h.xp]; rintro (q | q); exact absurd q.2 (by omega); exact absurd q.2 (by omega)
  exact ⟨h.ff.trans (hf.mono PC_LP), hs.mono hN, hi, hns.trans h.ns, by rw [hf.col pb lp]; exact h.xp, by rw [hp]; exact (h.mp.frame (hf.old pb lp np)).mono (by omega)⟩

theorem SR.below {w : World} {sb db eb pb fr j : Nat} {x : Nat → Nat} {s : Sp} {D : Dev} {wr wc : World} (h : SR w sb db eb pb fr j x s D wr) (hb : Below wr.heap.size wr wc) : SR w sb db eb pb fr j (paint x wr.heap.size 45) s D wc := by
  have lp := h.mp.lt
  exact ⟨h.ff.trans (Fr.of_below hb (show 45 ≤ 50 by omega)), h.si.below hb (fun b hb => paint_old hb), h.inv, h.ns, by rw [paint_old lp]; exact h.xp, h.mp.frame (hb.block pb lp)⟩
theorem SR.next {w : World} {sb db eb pb fr j : Nat} {x : Nat → Nat} {s : Sp} {D : Dev} {wr : World} (h : SR w sb db eb pb fr j x s D wr) : SR w sb db eb pb fr (j + 1) x s D wr :=
  ⟨h.ff, h.si.mono (by omega), h.inv, h.ns, h.xp, h.mp.mono (by omega)⟩
theorem SIs.pins_le {x : Nat → Nat} {c0 d0 : Nat} {w : World} {sb db eb : Nat} {s : Sp} {D : Dev} {N : Nat} (h : SIs x c0 d0 w sb db eb s D N) {k : Int} {p : Pg} (hk : KOK k) (hp : s.pg k = some p) : p.pins ≤ N := by
  obtain ⟨⟨cb, pm, blk, t⟩, -⟩ := h
  exact t.b6 k p hk hp

theorem touch_13 {s : Sp} {D : Dev} (ok : SpOk s D) {no : Int} (hk : KOK no) (he : (touchS s.arc no).2.2.2 ≠ 0) : (touchS s.arc no).2.2.2 = 13 := ((touchS_ok s.arc no ok.arc hk).err he).1
theorem fetch_ns {s : Sp} {D : Dev} {no : Int} (whole : Bool) (ok : SpOk s D) (h0 : 0 ≤ no) (h1 : no < D.nb) (he : (touchS s.arc no).2.2.2 = 0) : (fetchS s D no whole).1.2.ns = D.ns := (fetch_ok s D no whole ok h0 h1 (fetch_err s D no whole he)).2.2.2.2.2.2.1
/-- the law's own map turned -/
theorem SR.pins {w : World} {sb db eb pb fr j : Nat} {x : Nat → Nat} {s : Sp} {D : Dev} {wr wc : World} {f : Int → Nat} (hff : Fr (fun _ => 100) x LP w wr) {N : Nat} (hs : SIs x 0 20 wr sb db eb s D N) (hN : N ≤ 20 * (j + 1)) (hi : PinInv s D fr) (hns : D.ns = 1) (hx : x pb = 40) (ht : wr.mapTurned wc pb) (hm : MapIs wc pb (j + 1) f) (hf : f = s.arc.pins) : SR w sb db eb pb fr (j + 1) x s D wc := by
  have f1 : Fr x x (fun e => e = 40) wr wc := Fr.same ht.grown.os ht.grown.tape ht.grown.output (mapTurned_size ht) (fun b hb hC => ht.grown.block b hb (fun e => hC (by rw [Option.some.inj e]; exact hx)))
  exact ⟨hff.trans (f1.mono (fun e he => by show e ≤ 50; omega)), (hs.mono hN).frame f1 (fun e he hc => by subst hc; rcases he with he | he; exact absurd he.1.2 (by omega); exact absurd he.2 (by omega)), hi, hns, hx, by rw [← hf]; exact hm⟩

theorem n_is (m : Int) : ∃ z : Nat, (wrap64 (m.tmod 24 + 24)).tmod 24 = z ∧ z < 24 := by
  have h1 : -24 < m.tmod 24 := Int.lt_tmod_of_pos m (by omega)
  have h2 : m.tmod 24 < 24 := Int.tmod_lt_of_pos m (by omega)
  generalize m.tmod 24 = r at h1 h2 ⊢
  rw [IntWalk.wrap64_in (r + 24) (by omega), Int.tmod_eq_emod_of_nonneg (by omega)]
  exact ⟨((r + 24) % 24).toNat, by omega, by omega⟩
theorem fr_is (m : Int) : ∃ z : Nat, wrap64 (1 + (wrap64 (m.tmod 6 + 6)).tmod 6) = z ∧ 1 ≤ z ∧ z ≤ 6 := by
  have h1 : -6 < m.tmod 6 := Int.lt_tmod_of_pos m (by omega)
  have h2 : m.tmod 6 < 6 := Int.tmod_lt_of_pos m (by omega)
  generalize m.tmod 6 = r at h1 h2 ⊢
  rw [IntWalk.wrap64_in (r + 6) (by omega), Int.tmod_eq_emod_of_nonneg (by omega), IntWalk.wrap64_in _ (by omega)]
  exact ⟨(1 + (r + 6) % 6).toNat, by omega, by omega, by omega⟩

/-- the law's space -/
theorem space_any (w : World) (ns n : Nat) (h1 : 1 ≤ n) (h2 : n ≤ 1024) (hns : 1 ≤ ns ∧ ns ≤ 8) :
    Calls Try.prog 9 #[.agg #[.int .i64 24, .int .i64 ns], .int .i64 n] w fun e w' => ∃ sb db eb x', e = .returned (.tuple #[.pointer (some ⟨sb, 0, none⟩), .pointer (some ⟨db, 0, none⟩), .int .i64 0]) ∧
      Fr (fun _ => 100) x' LP w w' ∧ SIs x' 0 20 w' sb db eb (newP n) (newD 24 ns) 0 ∧ Below w.heap.size w w' := by
  go_enter Try.func9, Try.ntmps9
  go_wp2_with fail
  have hb0 : Below w.heap.size w (w.alloc (.cells #[.int .i64 24, .int .i64 ns] 29)) := (Below.refl _ w).alloc (Nat.le_refl _) _
  have hf0 : Fr (fun _ => 100) (paint (fun _ => 100) w.heap.size 45) LP w (w.alloc (.cells #[.int .i64 24, .int .i64 ns] 29)) := Fr.of_below hb0 (show 45 ≤ 50 by omega)
  have hxg : paint (fun _ => 100) w.heap.size 45 w.heap.size = 45 := paint_new (Nat.le_refl _)
  have hgb := World.alloc_heap_new w (.cells #[.int .i64 24, .int .i64 ns] 29)
  have B0 := Lib.hid hb0
  have F0 := Lib.hid hf0
  have G0 := Lib.hid hgb
  clear hb0 hf0 hgb
  generalize World.alloc w _ = W0 at B0 F0 G0 ⊢
  generalize paint (fun _ => 100) w.heap.size 45 = x0 at F0 hxg
  have XG := Lib.hid hxg
  clear hxg
  refine (DNew_any x0 20 W0 24 ns (by omega) hns).mono ?_
  rintro e w1 ⟨db, x1, rfl, f1, d1, b1⟩
  have g1 : w1.heap[w.heap.size]? = _ := (b1.block _ (lt_of_block G0.out)).trans G0.out
  have B1 := Lib.hid (B0.out.trans (b1.mono B0.out.size))
  have F1 := Lib.hid (F0.out.trans (f1.mono (D := LP) (fun e he => by have := he.2; show e ≤ 50; omega)))
  have D1 := Lib.hid d1
  have G1 := Lib.hid g1
  have k0 : w1.cell? ⟨w.heap.size, 0, none⟩ = some (.int .i64 24) := by rw [cell_of_row w1 _ _ _ _ _ g1]; rfl
  clear f1 d1 b1 g1 B0 F0 G0
  go_wp2_with fail
  refine (ENew_any x1 30 w1 2 24 (by omega) (by omega)).mono ?_
  rintro e w2 ⟨eb, x2, rfl, f2, -, b2⟩
  have D2 := Lib.hid (D1.out.frame f2 (fun e he hc => by have a := he.2; have b := hc.1; omega))
  have F2 := Lib.hid (F1.out.trans (f2.mono (D := LP) (fun e he => by have := he.2; show e ≤ 50; omega)))
  have B2 := Lib.hid (B1.out.trans (b2.mono B1.out.size))
  clear f2 b2 B1 F1 D1 G1 k0
  go_wp2_with fail
  refine (PNew_any x2 0 db eb w2 n h1 h2).mono ?_
  rintro e w3 ⟨sb, cb, pm, x3, rfl, f3, t3, b3⟩
  have D3 := Lib.hid (D2.out.frame f3 (fun e he hc => by have a := he.1; have b := hc.1.2; omega))
  have F3 := Lib.hid (F2.out.trans (f3.mono (D := LP) (fun e he => by have := he.1.2; show e ≤ 50; omega)))
  have B3 := Lib.hid (B2.out.trans (b3.mono B2.out.size))
  have T3 := Lib.hid t3
  clear f3 b3 t3 B2 F2 D2
  go_wp2_with fail
  refine bodyPost_ret (v := .tuple #[.pointer (some ⟨sb, 0, none⟩), .pointer (some ⟨db, 0, none⟩), .int .i64 0]) (by simp [results, Try.f9, go_sem]) rfl ?_
  exact ⟨sb, db, eb, x3, rfl, F3.out, ⟨⟨cb, pm, _, T3.out⟩, D3.out⟩, B3.out⟩

set_option maxRecDepth 100000 in
set_option maxHeartbeats 25600000 in
theorem pinned_walk (f0 : Int) (aT : Option Addr) (n c : Nat) (hn : n ≤ 9223372036854775807) (K M : Nat → Int) (T : Nat → ByteArray) (w : World) (hops : POps w aT n K M T) :
    Calls Try.prog 3 #[.int .i64 f0, .slice aT n c] w fun e w' => e = .returned (.bool true) ∧ Below w.heap.size w w' := by
  have OPS := Lib.hid hops
  have hmm := @run_makeMap Try.prog
  obtain ⟨fr, hfr, s1, s2⟩ := fr_is f0
  clear hops
  go_enter Try.func3, Try.ntmps3
  go_wp2_with fail
  rw [hfr]
  clear hfr
  refine (space_any w 1 fr s1 (by omega) (by omega)).mono ?_
  rintro e w1 ⟨sb, db, eb, x1, rfl, f1, h1, -⟩
  have F1 := Lib.hid f1
  have H1 := Lib.hid h1
  clear f1 h1
  go_wp2_with fail
  refine (awake_any w1).mono ?_
  rintro e w2 ⟨rfl, hb2⟩
  have L0 : Hid (SR w sb db eb w2.heap.size fr 0 (paint (paint x1 w1.heap.size 45) w2.heap.size 40) (newP fr) (newD 24 1) (w2.alloc (.map #[] 0))) := Lib.hid (by
    have f2 : Fr x1 (paint x1 w1.heap.size 45) LP w1 w2 := Fr.of_below hb2 (show 45 ≤ 50 by omega)
    have h2 := H1.out.below hb2 (x' := paint x1 w1.heap.size 45) (fun b hb => paint_old hb)
    have hb3 : Below w2.heap.size w2 (w2.alloc (.map #[] 0)) := (Below.refl _ _).alloc (Nat.le_refl _) _
    have f3 : Fr (paint x1 w1.heap.size 45) (paint (paint x1 w1.heap.size 45) w2.heap.size 40) LP w2 (w2.alloc (.map #[] 0)) := Fr.of_below hb3 (show 40 ≤ 50 by omega)
    have h3 := h2.below hb3 (x' := paint (paint x1 w1.heap.size 45) w2.heap.size 40) (fun b hb => paint_old hb)
    have dk := newD_ok 24 1 (by omega) (by omega)
    have hc0 : ∀ k, cntTo (fun _ => 0) k = 0 := fun k => by
      induction k with
      | zero => rfl
      | succ k ih => show cntTo (fun _ => 0) k + _ = 0; rw [ih]; rfl
    exact ⟨(F1.out.trans f2).trans f3, h3, ⟨newP_ok fr s1 (by omega) _ dk rfl, rfl, rfl, (hc0 24).symm, Nat.le_refl _, Nat.zero_le _⟩, rfl, paint_new (Nat.le_refl _), MapIs.made w2⟩)
  clear F1 H1 hb2
  go_wp2_with fail
  generalize paint (paint x1 w1.heap.size 45) w2.heap.size 40 = xq at L0
  generalize newP fr = sq at L0
  generalize newD 24 1 = dq at L0
  generalize hpb : w2.heap.size = pb at L0 ⊢
  generalize World.alloc w2 _ = w3 at L0 ⊢
  clear hpb
  go_loopw [9] (fun i wr => ∃ j : Nat, i = .int .i64 j ∧ j ≤ n ∧ j ≤ 200 ∧ ∃ x s D, SR w sb db eb pb fr j x s D wr) (fun i _ => n - (intOf i).toNat)
  case atStart => exact ⟨0, rfl, by omega, by omega, xq, sq, dq, L0.out⟩
  case round => as_aux_lemma =>
    obtain ⟨j, rfl, hj1, hj2, x, s, D, hL⟩ := hrel
    have LR := Lib.hid hL
    clear hL
    by_cases hlt : j < n
    · by_cases hl3 : j < 200
      · obtain ⟨b, o, rfl, hbw, e0, e1, e3, hts⟩ := OPS.out j hlt
        have eqb : wr.heap[b]? = w.heap[b]? := LR.out.ff.old b hbw (by show ¬ (100 ≤ 50); omega)
        rw [← World.cell?_of_block (w := w) (w' := wr) eqb] at e0 e1 e3
        obtain ⟨no, hno, hno2⟩ := n_is (M j)
        obtain ⟨kk, hkk⟩ : ∃ kk, K j = kk := ⟨_, rfl⟩
        rw [hkk] at e0
        have hl3i : (j : Int) < 200 := by omega
        clear eqb hkk
        go_wp2_with fail
        clear hno
        go_loopw [11, 12] (fun sm k wq => ∃ q : Nat, k = .int .i64 q ∧ q ≤ 24 ∧ sm = .int .i64 (cntTo s.arc.pins q : Nat) ∧ wr = wq) (fun _ k _ => 24 - (intOf k).toNat)
        case atStart => exact ⟨0, rfl, by omega, rfl, rfl⟩
        case round => as_aux_lemma =>
          obtain ⟨q, rfl, hq, rfl, rfl⟩ := hrel
          have hcb : cntTo s.arc.pins q ≤ 24 := by have := LR.out.inv.ok.cnt_le q; have := LR.out.inv.held; omega
          by_cases hq2 : q < 24
          · have hl := LR.out.mp.look (k := (q : Int)) (WalkArith.wf_i64 (by omega))
            by_cases hp : 0 < s.arc.pins q
            · have E : Hid (cntTo s.arc.pins (q + 1) = cntTo s.arc.pins q + 1) := Lib.hid (by show cntTo s.arc.pins q + (if 0 < s.arc.pins q then 1 else 0) = _; rw [if_pos hp])
              obtain ⟨pv, hpv⟩ : ∃ pv, s.arc.pins q = pv := ⟨_, rfl⟩
              rw [hpv] at hl hp
              have hpd : (0 : Int) < (pv : Int) := by omega
              obtain ⟨cv, hcv⟩ : ∃ cv, cntTo s.arc.pins q = cv := ⟨_, rfl⟩
              rw [hcv] at hcb E ⊢
              clear hp hpv hcv
              go_wp2_with fail
              go_roundw
              case rel => exact ⟨q + 1, by go_num, by omega, by rw [E.out]; go_num, by trivial⟩
              case measure => simp [intOf]; omega
            · have E : Hid (cntTo s.arc.pins (q + 1) = cntTo s.arc.pins q) := Lib.hid (by show cntTo s.arc.pins q + (if 0 < s.arc.pins q then 1 else 0) = _; rw [if_neg hp]; rfl)
              have hz : s.arc.pins q = 0 := by omega
              rw [hz] at hl
              clear hp hz
              go_wp2_with fail
              go_roundw
              case rel => exact ⟨q + 1, by go_num, by omega, by rw [E.out], by trivial⟩
              case measure => simp [intOf]; omega
          · obtain rfl : q = 24 := by omega
            obtain ⟨cv, hcv⟩ : ∃ cv, cntTo s.arc.pins 24 = cv := ⟨_, rfl⟩
            have hln := LR.out.mp.look (k := (no : Int)) (WalkArith.wf_i64 (by omega))
            have RI := refuse_iff LR.out.inv (no : Int)
            rw [hcv] at RI hcb ⊢
            have RI := Lib.hid RI
            obtain ⟨pv, hpv⟩ : ∃ pv, s.arc.pins (no : Int) = pv := ⟨_, rfl⟩
            rw [hpv] at hln RI
            have HPV := Lib.hid hpv
            clear hcv hpv
            go_upto_region 17 with fail
            go_cut [74] from 66 to 74 (fun s74 wc => s74 = .bool (decide (cv = fr ∧ pv = 0)) ∧ wr = wc)
            case first => as_aux_lemma =>
              by_cases h1 : cv = fr
              · have h1b : (((cv : Nat) : Int) == ((fr : Nat) : Int)) = true := beq_iff_eq.2 (by omega)
                by_cases h2 : pv = 0
                · have HD : Hid (decide (cv = fr ∧ pv = 0) = true) := Lib.hid (decide_eq_true ⟨h1, h2⟩)
                  have h2b : (((pv : Nat) : Int) == 0) = true := beq_iff_eq.2 (by omega)
                  clear h1 h2
                  go_wp2_with fail
                  go_meet
                  case rel => exact ⟨congrArg Value.bool HD.out.symm, rfl⟩
                · have HD : Hid (decide (cv = fr ∧ pv = 0) = false) := Lib.hid (decide_eq_false (fun h => h2 h.2))
                  have h2b : (((pv : Nat) : Int) == 0) = false := beq_eq_false_iff_ne.2 (by omega)
                  clear h1 h2
                  go_wp2_with fail
                  go_meet
                  case rel => exact ⟨congrArg Value.bool HD.out.symm, rfl⟩
              · have HD : Hid (decide (cv = fr ∧ pv = 0) = false) := Lib.hid (decide_eq_false (fun h => h1 h.1))
                have h1b : (((cv : Nat) : Int) == ((fr : Nat) : Int)) = false := beq_eq_false_iff_ne.2 (by omega)
                clear h1
                go_wp2_with fail
                go_meet
                case rel => exact ⟨congrArg Value.bool HD.out.symm, rfl⟩
            case rest => as_aux_lemma =>
              obtain ⟨rfl, rfl⟩ := hcut
              obtain ⟨bt, hbt⟩ : ∃ bt, decide (cv = fr ∧ pv = 0) = bt := ⟨_, rfl⟩
              rw [hbt]
              have HBT := Lib.hid hbt
              clear hbt
              go_upto_if 74 with fail
              go_cut [13] from 74 to 74 (fun s13 wc => s13 = .int .i64 ((if cv = fr ∧ pv = 0 then 13 else 0 : Nat) : Int) ∧ wr = wc)
              case first => as_aux_lemma =>
                cases bt with
                | true =>
                  have HD : Hid ((if cv = fr ∧ pv = 0 then 13 else 0 : Nat) = 13) := Lib.hid (if_pos (of_decide_eq_true HBT.out))
                  go_wp2_with fail
                  go_meet
                  case rel => exact ⟨by rw [HD.out]; rfl, rfl⟩
                | false =>
                  have HD : Hid ((if cv = fr ∧ pv = 0 then 13 else 0 : Nat) = 0) := Lib.hid (if_neg (of_decide_eq_false HBT.out))
                  go_wp2_with fail
                  go_meet
                  case rel => exact ⟨by rw [HD.out]; rfl, rfl⟩
              case rest => as_aux_lemma =>
                obtain ⟨rfl, rfl⟩ := hcut
                rw [← RI.out]
                go_upto_block 4 with fail
                obtain ⟨er, her⟩ : ∃ er, (touchS s.arc (no : Int)).2.2.2 = er := ⟨_, rfl⟩
                have HER := Lib.hid her
                rw [her]
                clear her
                go_cut [7, 13] from 79 to 136 (fun s7 s13 wc => ∃ (ew : Nat) (x2 : Nat → Nat) (s2 : Sp) (D2 : Dev), s7 = .int .i64 (ew : Int) ∧ s13 = .int .i64 (ew : Int) ∧ SR w sb db eb pb fr (j + 1) x2 s2 D2 wc)
                case first => as_aux_lemma =>
                  have h24 : (no : Int) < 24 := by omega
                  have h0n : (0 : Int) ≤ (no : Int) := by omega
                  have hk : KOK (no : Int) := WalkArith.wf_i64 (by omega)
                  have hnb : (no : Int) < D.nb := by rw [LR.out.inv.nb]; exact h24
                  have hcd : (0 : Nat) + 9 < 20 ∨ 20 + 2 < 0 := .inl (by omega)
                  have HSZ : Hid (D.size = 512) := Lib.hid (by unfold Dev.size; rw [LR.out.ns])
                  have hdead := LR.out.inv.ok.dead
                  have HDD := Lib.hid hdead
                  clear hdead
                  by_cases k0 : kk = 0
                  · have b0 : (kk == 0) = true := beq_iff_eq.2 k0
                    clear k0
                    by_cases hz : er = 0
                    · subst hz
                      have I := LR.out.inv.read h0n h24 HER.out
                      have NS := Lib.hid (fetch_ns false LR.out.inv.ok h0n hnb HER.out)
                      have I := Lib.hid I
                      go_wp2_with fail
                      refine (SRead_any x 0 20 sb db eb s D (20 * j) wr no LR.out.si LR.out.inv.ok hcd h0n hnb (by omega) HER.out).mono ?_
                      rintro e w4 ⟨rfl, x4, f4, h4⟩
                      have S4 := Lib.hid (LR.out.turn f4 h4 (by omega) I.out.1 I.out.2 NS.out)
                      clear f4 h4
                      go_wp2_with fail
                      go_meet
                      case rel => exact ⟨0, x4, _, _, rfl, rfl, S4.out⟩
                    · have E13 := Lib.hid ((HER.out.symm.trans (touch_13 LR.out.inv.ok hk (by rw [HER.out]; exact hz))))
                      have HNE : Hid ((touchS s.arc (no : Int)).2.2.2 ≠ 0) := Lib.hid (by rw [HER.out]; exact hz)
                      clear hz
                      go_wp2_with fail
                      refine (Read_ref x 0 20 sb db eb s D (20 * j) wr no LR.out.si LR.out.inv.ok hcd h0n hnb (by omega) HNE.out).mono ?_
                      rintro e w4 ⟨rfl, x4, f4, h4⟩
                      have S4 := Lib.hid (LR.out.turn f4 h4 (by omega) LR.out.inv rfl rfl)
                      clear f4 h4
                      go_wp2_with fail
                      go_meet
                      case rel => exact ⟨13, x4, _, _, rfl, by rw [E13.out], S4.out⟩
                  · have b0 : (kk == 0) = false := beq_eq_false_iff_ne.2 k0
                    clear k0
                    by_cases k1 : kk = 1
                    · have b1 : (kk == 1) = true := beq_iff_eq.2 k1
                      clear k1
                      have HFS : Hid ((fillS (T j) 512).size = D.size) := Lib.hid (by rw [fillS_size, HSZ.out])
                      by_cases hz : er = 0
                      · subst hz
                        have I := Lib.hid (LR.out.inv.write h0n h24 HER.out HFS.out)
                        have NS := Lib.hid (fetch_ns true LR.out.inv.ok h0n hnb HER.out)
                        go_wp2_with fail
                        refine (Fill_any wr (T j) 512 hts (by omega)).mono ?_
                        rintro e w4 ⟨rfl, rfl⟩
                        go_wp2_with fail
                        refine (SWrite_any x 0 20 sb db eb s D (20 * j) wr no _ LR.out.si LR.out.inv.ok hcd h0n hnb (by omega) HFS.out HER.out).mono ?_
                        rintro e w4 ⟨rfl, x4, f4, h4⟩
                        have S4 := Lib.hid (LR.out.turn f4 h4 (by omega) I.out.1 I.out.2 NS.out)
                        clear f4 h4
                        go_wp2_with fail
                        go_meet
                        case rel => exact ⟨0, x4, _, _, rfl, rfl, S4.out⟩
                      · have E13 := Lib.hid ((HER.out.symm.trans (touch_13 LR.out.inv.ok hk (by rw [HER.out]; exact hz))))
                        have HNE : Hid ((touchS s.arc (no : Int)).2.2.2 ≠ 0) := Lib.hid (by rw [HER.out]; exact hz)
                        clear hz
                        go_wp2_with fail
                        refine (Fill_any wr (T j) 512 hts (by omega)).mono ?_
                        rintro e w4 ⟨rfl, rfl⟩
                        go_wp2_with fail
                        refine (Write_ref x 0 20 sb db eb s D (20 * j) wr no _ LR.out.si LR.out.inv.ok hcd h0n hnb (by omega) HFS.out HNE.out).mono ?_
                        rintro e w4 ⟨rfl, x4, f4, h4⟩
                        have S4 := Lib.hid (LR.out.turn f4 h4 (by omega) LR.out.inv rfl rfl)
                        clear f4 h4
                        go_wp2_with fail
                        go_meet
                        case rel => exact ⟨13, x4, _, _, rfl, by rw [E13.out], S4.out⟩
                    · have b1 : (kk == 1) = false := beq_eq_false_iff_ne.2 k1
                      clear k1
                      by_cases k2 : kk = 2
                      · have b2 : (kk == 2) = true := beq_iff_eq.2 k2
                        clear k2
                        by_cases hz : er = 0
                        · subst hz
                          have I := Lib.hid (LR.out.inv.read h0n h24 HER.out)
                          have NS := Lib.hid (fetch_ns false LR.out.inv.ok h0n hnb HER.out)
                          go_wp2_with fail
                          refine (SPin_any x 0 20 sb db eb s D (20 * j) wr no LR.out.si LR.out.inv.ok hcd h0n hnb (by omega) HER.out).mono ?_
                          rintro e w4 ⟨rfl, p, hp, x4, f4, h4⟩
                          have hpl : p.pins + 1 ≤ 20 * j + 9 := h4.pins_le hk (p := { p with pins := p.pins + 1 }) (updP_same _ _ _)
                          have hpp : p.pins = pv := by
                            have := I.out.1.ok.pins (no : Int) p hp
                            rw [this, I.out.2, HPV.out]
                          rw [hpp] at hpl
                          have lp := LR.out.mp.lt
                          have np : ¬ PC 0 20 (x pb) := by rw [LR.out.xp]; rintro (q | q); exact absurd q.2 (by omega); exact absurd q.2 (by omega)
                          have m4 : MapIs w4 pb j s.arc.pins := LR.out.mp.frame (f4.old pb lp np)
                          have hl4 := m4.look (k := (no : Int)) hk
                          rw [HPV.out] at hl4
                          obtain ⟨w5, hrun, hm5, ht5⟩ := m4.store (k := (no : Int)) hk (v := pv + 1) (WalkArith.wf_i64 (by omega)) (by simp only [maxLen]; omega)
                          have hrun1 : (Instr.mapUpdate 31 (.map (some pb)) (.int .i64 (no : Int)) (.int .i64 ((pv : Int) + 1))).run Try.prog w4 = .ok () w5 := hrun
                          have S5 : Hid (SR w sb db eb pb fr (j + 1) x4 (pinDone (fetchS s D no false).1.1 no p) (fetchS s D no false).1.2 w5) := Lib.hid (SR.pins (LR.out.ff.trans (f4.mono PC_LP)) h4 (by omega) (I.out.1.pin h0n h24 hp) (NS.out.trans LR.out.ns) (by rw [f4.col pb lp]; exact LR.out.xp) ht5 hm5 (by
                            funext a
                            show (if a = (no : Int) then pv + 1 else s.arc.pins a) = (if a = (no : Int) then (fetchS s D no false).1.1.arc.pins no + 1 else (fetchS s D no false).1.1.arc.pins a)
                            rw [I.out.2, HPV.out]))
                          have hpv5 : pv ≤ 20 * j + 9 := by omega
                          clear f4 h4 hp hpl hpp lp np m4 hrun hm5 ht5
                          go_wp2_with fail
                          go_meet
                          case rel => exact ⟨0, x4, _, _, rfl, rfl, S5.out⟩
                        · have E13 := Lib.hid ((HER.out.symm.trans (touch_13 LR.out.inv.ok hk (by rw [HER.out]; exact hz))))
                          have HNE : Hid ((touchS s.arc (no : Int)).2.2.2 ≠ 0) := Lib.hid (by rw [HER.out]; exact hz)
                          clear hz
                          go_wp2_with fail
                          refine (Pin_ref x 0 20 sb db eb s D (20 * j) wr no LR.out.si LR.out.inv.ok hcd h0n hnb (by omega) HNE.out).mono ?_
                          rintro e w4 ⟨rfl, x4, f4, h4⟩
                          have S4 := Lib.hid (LR.out.turn f4 h4 (by omega) LR.out.inv rfl rfl)
                          clear f4 h4
                          go_wp2_with fail
                          go_meet
                          case rel => exact ⟨13, x4, _, _, rfl, by rw [E13.out], S4.out⟩
                      · have b2 : (kk == 2) = false := beq_eq_false_iff_ne.2 k2
                        clear k2
                        have PG : Hid (pv = 0 → s.pg (no : Int) = none ∨ ∃ p, s.pg (no : Int) = some p ∧ p.pins = 0) := Lib.hid (fun h => by
                          rcases hp : s.pg (no : Int) with _ | p
                          · exact .inl rfl
                          · exact .inr ⟨p, rfl, by rw [LR.out.inv.ok.pins _ p hp, HPV.out]; exact h⟩)
                        have PS : Hid (0 < pv → ∃ p, s.pg (no : Int) = some p ∧ p.pins = pv) := Lib.hid (fun h => by
                          obtain ⟨p, hp⟩ := Option.isSome_iff_exists.1 ((LR.out.inv.ok.held (no : Int)).2 (LR.out.inv.ok.arc.pinned _ (by rw [HPV.out]; exact h)))
                          exact ⟨p, hp, by rw [LR.out.inv.ok.pins _ p hp, HPV.out]⟩)
                        by_cases k3 : kk = 3
                        · have b3 : (kk == 3) = true := beq_iff_eq.2 k3
                          clear k3
                          by_cases hz : pv = 0
                          · have P0 := Lib.hid (PG.out hz)
                            subst hz
                            go_wp2_with fail
                            refine (Unpin_no x 0 20 sb db eb s D (20 * j) wr no LR.out.si HDD.out hk P0.out).mono ?_
                            rintro e w4 ⟨rfl, rfl⟩
                            go_wp2_with fail
                            go_meet
                            case rel => exact ⟨16, x, s, D, rfl, rfl, LR.out.next⟩
                          · obtain ⟨p, hp, hpp⟩ := PS.out (by omega)
                            obtain ⟨q, rfl⟩ : ∃ q, pv = q + 1 := ⟨pv - 1, by omega⟩
                            have hpl := LR.out.si.pins_le hk hp
                            have hpz : 0 < p.pins := by omega
                            have I := Lib.hid (LR.out.inv.unpin h0n h24 hp hpz)
                            have HP := Lib.hid hp
                            have HPP := Lib.hid hpp
                            have hzb : (((q + 1 : Nat) : Int) == 0) = false := beq_eq_false_iff_ne.2 (by omega)
                            have hzb2 : ((q : Int) + 1 == 0) = false := beq_eq_false_iff_ne.2 (by omega)
                            obtain ⟨w5, hrun, hm5, ht5⟩ := LR.out.mp.store (k := (no : Int)) hk (v := q) (WalkArith.wf_i64 (by omega)) (by simp only [maxLen]; omega)
                            have xp := LR.out.xp
                            have f5 : Fr x x (fun e => e = 40) wr w5 := Fr.same ht5.grown.os ht5.grown.tape ht5.grown.output (mapTurned_size ht5) (fun b hb hC => ht5.grown.block b hb (fun e => hC (by rw [Option.some.inj e]; exact xp)))
                            have s5 := LR.out.si.frame f5 (fun e he hc => by subst hc; rcases he with he | he; exact absurd he.1.2 (by omega); exact absurd he.2 (by omega))
                            have F5 := Lib.hid f5
                            have S5 := Lib.hid s5
                            have M5 := Lib.hid hm5
                            have hq : q ≤ 20 * j := by omega
                            clear hp hpp hpl hpz hm5 ht5 f5 s5 hz xp
                            go_wp2_with fail
                            refine (Unpin_any2 x 0 20 sb db eb s D (20 * j) w5 no S5.out LR.out.inv.ok hcd hk HP.out (by rw [HPP.out]; omega) I.out.2 (by omega)).mono ?_
                            rintro e w6 ⟨rfl, x6, f6, h6⟩
                            have lp := M5.out.lt
                            have np : ¬ PC 0 20 (x pb) := by rw [LR.out.xp]; rintro (q | q); exact absurd q.2 (by omega); exact absurd q.2 (by omega)
                            have S6 : Hid (SR w sb db eb pb fr (j + 1) x6 (unpinDone s no p) D w6) := Lib.hid ⟨(LR.out.ff.trans (F5.out.mono (fun e he => by show e ≤ 50; omega))).trans (f6.mono PC_LP), h6.mono (by omega), I.out.1, LR.out.ns, by rw [f6.col pb lp]; exact LR.out.xp, by
                              have e : (unpinDone s no p).arc.pins = upd s.arc.pins (no : Int) q := by
                                funext a
                                show (if a = (no : Int) then s.arc.pins no - 1 else s.arc.pins a) = (if a = (no : Int) then q else s.arc.pins a)
                                rw [HPV.out]; rfl
                              rw [e]
                              exact M5.out.frame (f6.old pb lp np)⟩
                            clear f6 h6 lp np
                            go_wp2_with fail
                            go_meet
                            case rel => exact ⟨0, x6, _, D, rfl, rfl, S6.out⟩
                        · have b3 : (kk == 3) = false := beq_eq_false_iff_ne.2 k3
                          clear k3
                          by_cases hz : pv = 0
                          · have P0 := Lib.hid (PG.out hz)
                            subst hz
                            go_wp2_with fail
                            refine (Text_no x 0 20 sb db eb s D (20 * j) wr no LR.out.si HDD.out hk P0.out).mono ?_
                            rintro e w4 ⟨rfl, rfl⟩
                            go_wp2_with fail
                            go_meet
                            case rel => exact ⟨16, x, s, D, rfl, rfl, LR.out.next⟩
                          · obtain ⟨p, hp, hpp⟩ := PS.out (by omega)
                            have hzb : (((pv : Nat) : Int) == 0) = false := beq_eq_false_iff_ne.2 (by omega)
                            have HP := Lib.hid hp
                            have HPP := Lib.hid hpp
                            have hpos : 0 < pv := by omega
                            clear hp hpp hz
                            go_wp2_with fail
                            refine (Text_any x 0 20 sb db eb s D (20 * j) wr no LR.out.si HDD.out hk HP.out (by rw [HPP.out]; exact hpos)).mono ?_
                            rintro e w4 ⟨rfl, rfl⟩
                            go_wp2_with fail
                            go_meet
                            case rel => exact ⟨0, x, s, D, rfl, rfl, LR.out.next⟩
                case rest => as_aux_lemma =>
                  obtain ⟨ew, x2, s2, D2, rfl, rfl, hS⟩ := hcut
                  have S2 := Lib.hid hS
                  clear hS
                  go_wp2_with fail
                  refine (Stats_any x2 0 20 sb db eb s2 D2 _ wc S2.out.si).mono ?_
                  rintro e w5 ⟨rfl, hb5⟩
                  have B5 := Lib.hid hb5
                  clear hb5
                  have q1 := S2.out.inv.held
                  have q2 := S2.out.inv.le
                  have q3 := S2.out.inv.most
                  have q4 : s2.pinned ≤ s2.cnt := by rw [S2.out.inv.cnt]; exact S2.out.inv.ok.cnt_le 24
                  have d1 : decide ((fr : Int) < (s2.cnt : Int)) = false := decide_eq_false (by omega)
                  have d2 : decide ((s2.cnt : Int) < (s2.pinned : Int)) = false := decide_eq_false (by omega)
                  have d3 : decide ((fr : Int) < (s2.most : Int)) = false := decide_eq_false (by omega)
                  have d4 : decide ((s2.most : Int) < (s2.pinned : Int)) = false := decide_eq_false (by omega)
                  unfold statsV
                  go_wp2_with fail
                  go_roundw
                  case rel => exact ⟨j + 1, by go_num, by omega, by omega, _, s2, D2, S2.out.below (B5.out.alloc B5.out.size _)⟩
                  case measure => simp [intOf]; omega
      · go_wp2_with fail
        go_ret
        exact ⟨rfl, LR.out.ff.below_all (fun b _ hC => by have : (100 : Nat) ≤ 50 := hC; omega)⟩
    · go_wp2_with fail
      go_ret
      exact ⟨rfl, LR.out.ff.below_all (fun b _ hC => by have : (100 : Nat) ≤ 50 := hC; omega)⟩

end Go.Proofs.Ytbgbomlmgkgkoaa.arcI
