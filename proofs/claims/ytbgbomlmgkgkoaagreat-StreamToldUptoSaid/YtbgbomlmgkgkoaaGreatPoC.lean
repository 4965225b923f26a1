/- pool: the contract of fetch. -/
import Derived.Test.YtbgbomlmgkgkoaaGreatPoB
import Derived.Deep.CutBlock
namespace Go.Proofs.YtbgbomlmgkgkoaaGreat.arcI
open Go.RowKit Go.Proofs.YtbgbomlmgkgkoaaGreat.own Go.Proofs.YtbgbomlmgkgkoaaGreat.dv Go.Proofs.YtbgbomlmgkgkoaaGreat.po

theorem pg_look {x : Nat → Nat} {c0 : Nat} {w : World} {sb db eb cb pm : Nat} {blk : Int → Nat} {s : Sp} {N : Nat} (h : TI x c0 w sb db eb cb pm blk s N) {k : Int} (hk : KOK k) {p : Pg} (hp : s.pg k = some p) :
    (Instr.lookup 112 (.map (some pm)) (.int .i64 k) false).run Tryz.prog w = .ok (.pointer (some ⟨blk k, 0, none⟩)) w := by
  rw [h.vm.look hk (t := 112) (e := 113) Tryz.underlying112 (z := .pointer none) (by kernel_rfl)]
  unfold pgF; rw [hp]; rfl

/-- what a fetch is asked to do with the page -/
def Doing (x : Nat → Nat) (c0 d0 : Nat) (w : World) (sb db eb cb pm : Nat) (s1 : Sp) (D1 : Dev) (N : Nat) (no : Int) (k : Nat) (caps : List Value) (R : World → Prop) : Prop :=
  ∀ x1 w1 blk1, Fr x x1 (PD c0 d0) w w1 → TI x1 c0 w1 sb db eb cb pm blk1 s1 (N + 8) → DIs x1 d0 w1 db D1 (N + 8) →
    Calls Tryz.prog k (.pointer (some ⟨blk1 no, 0, none⟩) :: caps).toArray w1 fun e w2 => e = .returned (.tuple #[]) ∧ R w2

set_option maxRecDepth 100000 in
set_option maxHeartbeats 1600000 in
theorem fetch_refused (x : Nat → Nat) (c0 d0 sb db eb cb pm : Nat) (blk : Int → Nat) (s : Sp) (D : Dev) (N : Nat) (w : World) (no : Int) (whole : Bool) (dv : Value) (h : TI x c0 w sb db eb cb pm blk s N) (hd : DIs x d0 w db D N) (ok : SpOk s D)
    (hcd : c0 + 9 < d0 ∨ d0 + 2 < c0) (h0 : 0 ≤ no) (h1 : no < D.nb) (hN : N + 8 < 1099511627776) (he : (touchS s.arc no).2.2.2 ≠ 0) :
    Calls Tryz.prog 96 #[.pointer (some ⟨sb, 0, none⟩), .int .i64 no, .bool whole, dv] w fun e w' => e = .returned (.int .i64 13) ∧ ∃ x', Fr x x' (PD c0 d0) w w' ∧ TI x' c0 w' sb db eb cb pm blk s (N + 8) ∧ DIs x' d0 w' db D (N + 8) := by
  have hb := ok.dev.blocks
  have hk : KOK no := WalkArith.wf_i64 (by omega)
  have T := touchS_ok s.arc no ok.arc hk
  obtain ⟨e13, et, eh, eg, -, -⟩ := T.err he
  obtain ⟨s0, -, s2, s3, -, s5, s6, s7, -, -, -, s11, sf⟩ := h.cells
  have hlb : decide (no < 0) = false := decide_eq_false (by omega)
  have hub : decide (((D.nb : Nat) : Int) ≤ no) = false := decide_eq_false (by omega)
  have H := Lib.hid h
  have HD := Lib.hid hd
  have OK := Lib.hid ok
  have E13 := Lib.hid e13
  have ET := Lib.hid et
  have EH := Lib.hid eh
  have EG := Lib.hid eg
  have HK := Lib.hid hk
  clear h hd ok he T e13 et eh eg hk
  go_enter Tryz.func96, Tryz.ntmps96
  go_wp2_with fail
  refine (Blocks_any x d0 db D N _ HD.out).mono ?_
  rintro e w1 ⟨rfl, rfl⟩
  go_wp2_with fail
  refine (touch_any x c0 cb s.arc N no HK.out _ H.out.ci OK.out.arc (by omega)).mono ?_
  rintro e w1 ⟨rfl, x1, f1, c1⟩
  rw [EH.out, EG.out, E13.out]
  rw [ET.out] at c1
  have T1 := Lib.hid (H.out.arc f1 c1 (by omega) rfl)
  have D1 := Lib.hid (HD.out.frame f1 (fun e he hc => by have := hc.1; have := hc.2; have := he.1; have := he.2; omega))
  have F1 := Lib.hid f1
  clear f1 c1
  unfold touchedV
  dsimp only [goneV, Option.isSome]
  go_wp2_with fail
  go_ret
  have A := T1.out.alloc9 (d0 := d0) (.cells #[.bool false, .bool false, .int .i64 0] 224)
  exact ⟨rfl, _, (F1.out.mono (CD_PD c0 d0)).trans A.1, A.2.mono (by omega), (D1.out.below ((Below.refl _ w1).alloc (Nat.le_refl _) _) (fun b hb => paint_old hb)).mono (by omega)⟩

theorem no_PD {c0 d0 : Nat} (hcd : c0 + 9 < d0 ∨ d0 + 2 < c0) : (∀ e, DC d0 e → ¬ TC c0 e) ∧ ∀ e, TC c0 e → ¬ DC d0 e :=
  ⟨fun e h1 h2 => by have a := h1.1; have b := h1.2; have c := h2.1.1; have d := h2.1.2; omega, fun e h2 h1 => by have a := h1.1; have b := h1.2; have c := h2.1.1; have d := h2.1.2; omega⟩

set_option maxRecDepth 100000 in
set_option maxHeartbeats 1600000 in
theorem fetch_hit (x : Nat → Nat) (c0 d0 sb db eb cb pm : Nat) (blk : Int → Nat) (s : Sp) (D : Dev) (N : Nat) (w : World) (no : Int) (whole : Bool) (k : Nat) (hek : ∀ args w, (callFunc k args).run Tryz.prog w = .ok (.enter k args) w) (caps : List Value) (R : World → Prop) (h : TI x c0 w sb db eb cb pm blk s N) (hd : DIs x d0 w db D N) (ok : SpOk s D)
    (hcd : c0 + 9 < d0 ∨ d0 + 2 < c0) (h0 : 0 ≤ no) (h1 : no < D.nb) (hN : N + 8 < 1099511627776) (he : (touchS s.arc no).2.2.2 = 0) (hh : (touchS s.arc no).2.1 = true)
    (hdo : Doing x c0 d0 w sb db eb cb pm (fetchS s D no whole).1.1 (fetchS s D no whole).1.2 N no k caps R) :
    Calls Tryz.prog 96 #[.pointer (some ⟨sb, 0, none⟩), .int .i64 no, .bool whole, .func (.func k) #[] caps.toArray] w fun e w' => e = .returned (.int .i64 0) ∧ R w' := by
  have hb := ok.dev.blocks
  have hk : KOK no := WalkArith.wf_i64 (by omega)
  have T := touchS_ok s.arc no ok.arc hk
  have FE : fetchS s D no whole = (({ s with arc := (touchS s.arc no).1, hits := s.hits + 1 }, D), 0) := by unfold fetchS; rw [if_pos he, if_pos hh]
  rw [FE] at hdo
  have hg := touch_hit_none s.arc no hh
  obtain ⟨p, hp⟩ := Option.isSome_iff_exists.1 ((ok.held no).2 ((T.found he).1 hh))
  obtain ⟨s0, -, s2, s3, -, s5, s6, s7, -, -, -, s11, sf⟩ := h.cells
  have hlb : decide (no < 0) = false := decide_eq_false (by omega)
  have hub : decide (((D.nb : Nat) : Int) ≤ no) = false := decide_eq_false (by omega)
  have hsz := T.size
  have H := Lib.hid h
  have HD := Lib.hid hd
  have OK := Lib.hid ok
  have E13 := Lib.hid he
  have EH := Lib.hid hh
  have EG := Lib.hid hg
  have HK := Lib.hid hk
  have HP := Lib.hid hp
  have DO := Lib.hid hdo
  have hb1 := h.b1
  clear h hd ok he T hh hg hk hp hdo FE
  go_enter Tryz.func96, Tryz.ntmps96
  go_wp2_with fail
  refine (Blocks_any x d0 db D N _ HD.out).mono ?_
  rintro e w1 ⟨rfl, rfl⟩
  go_wp2_with fail
  refine (touch_any x c0 cb s.arc N no HK.out _ H.out.ci OK.out.arc (by omega)).mono ?_
  rintro e w1 ⟨rfl, x1, f1, c1⟩
  rw [EH.out, EG.out, E13.out]
  obtain ⟨np1, np2⟩ := no_PD hcd
  have t1 := H.out.arc f1 c1 (by omega) hsz
  have d1 := HD.out.frame f1 (fun e he hc => np1 e he (CD_TC c0 e hc))
  have B := t1.setAt 5 (.int .i64 ((s.hits + 1 : Nat) : Int)) { s with arc := (touchS s.arc no).1, hits := s.hits + 1 } (N + 8) (by omega) rfl rfl rfl rfl (by show s.hits + 1 ≤ N + 8; omega) (by have := t1.b2; exact Nat.le_trans this (by omega)) (by have := t1.b3; exact Nat.le_trans this (by omega)) (by have := t1.b4; exact Nat.le_trans this (by omega)) (by have := t1.b5; exact Nat.le_trans this (by omega))
  have e : (((s.hits + 1 : Nat)) : Int) = (s.hits : Int) + 1 := by omega
  rw [e] at B
  clear e
  have A := B.2.alloc9 (d0 := d0) (.cells #[.bool true, .bool false, .int .i64 0] 224)
  have d2 := d1.frame B.1 (fun e he hc => np1 e he hc)
  have d3 := (d2.below ((Below.refl _ (w1.setCell ⟨sb, 5, none⟩ (.int .i64 ((s.hits : Int) + 1)))).alloc (Nat.le_refl _) (.cells #[.bool true, .bool false, .int .i64 0] 224)) (x' := paint x1 (w1.setCell ⟨sb, 5, none⟩ (.int .i64 ((s.hits : Int) + 1))).heap.size (c0 + 9)) (fun b hb => paint_old hb)).mono (show N ≤ N + 8 by omega)
  have F3 := Lib.hid (((f1.mono (CD_PD c0 d0)).trans (B.1.mono (TC_PD c0 d0))).trans A.1)
  have T3 := Lib.hid A.2
  have D3 := Lib.hid d3
  have hl := pg_look A.2 HK.out HP.out
  have hsl : sb < w1.heap.size := lt_of_block t1.h0
  have u5 : w1.cell? ⟨sb, 5, none⟩ = some (.int .i64 s.hits) := by obtain ⟨-, -, -, -, -, a, -⟩ := t1.cells; exact a
  have u3 : w1.cell? ⟨sb, 3, none⟩ = some (.map (some pm)) := by obtain ⟨-, -, -, a, -⟩ := t1.cells; exact a
  have uf := t1.cells.2.2.2.2.2.2.2.2.2.2.2.2
  clear f1 c1 t1 d1 A d2 B d3 s0 s2 s3 s5 s6 s7 s11 sf
  unfold touchedV
  dsimp only [goneV, Option.isSome]
  go_wp2_with fail
  refine (DO.out _ _ blk F3.out T3.out D3.out).mono ?_
  rintro e w4 ⟨rfl, hr⟩
  have HR := Lib.hid hr
  clear hr
  go_wp2_with fail
  go_ret
  exact ⟨rfl, HR.out⟩

set_option maxRecDepth 100000 in
set_option maxHeartbeats 6400000 in
theorem fetch_miss (x : Nat → Nat) (c0 d0 sb db eb cb pm : Nat) (blk : Int → Nat) (s : Sp) (D : Dev) (N : Nat) (w : World) (no : Int) (whole : Bool) (k : Nat) (hek : ∀ args w, (callFunc k args).run Tryz.prog w = .ok (.enter k args) w) (caps : List Value) (R : World → Prop) (h : TI x c0 w sb db eb cb pm blk s N) (hd : DIs x d0 w db D N) (ok : SpOk s D)
    (hcd : c0 + 9 < d0 ∨ d0 + 2 < c0) (h0 : 0 ≤ no) (h1 : no < D.nb) (hN : N + 8 < 1099511627776) (he : (touchS s.arc no).2.2.2 = 0) (hh : (touchS s.arc no).2.1 = false)
    (hdo : Doing x c0 d0 w sb db eb cb pm (fetchS s D no whole).1.1 (fetchS s D no whole).1.2 N no k caps R) :
    Calls Tryz.prog 96 #[.pointer (some ⟨sb, 0, none⟩), .int .i64 no, .bool whole, .func (.func k) #[] caps.toArray] w fun e w' => e = .returned (.int .i64 0) ∧ R w' := by
  have hb := ok.dev.blocks
  have hk : KOK no := WalkArith.wf_i64 (by omega)
  have T := touchS_ok s.arc no ok.arc hk
  have FE : fetchS s D no whole = (missS s D (touchS s.arc no).1 no whole (touchS s.arc no).2.2.1, 0) := by unfold fetchS; rw [if_pos he, hh, if_neg (by simp)]
  rw [FE] at hdo
  have hpn : s.pg no = none := by
    rcases hp : s.pg no with _ | p
    · rfl
    · have := (T.found he).2 ((ok.held no).1 (by rw [hp]; rfl))
      rw [hh] at this; cases this
  have GD := gone_dev s D (touchS s.arc no).1 (touchS s.arc no).2.2.1 ok no hpn
  have GK := touch_gone s.arc no ok.arc
  have GF := touch_from s.arc no ok.arc
  obtain ⟨s0, -, s2, s3, -, s5, s6, s7, -, -, -, s11, sf⟩ := h.cells
  have hlb : decide (no < 0) = false := decide_eq_false (by omega)
  have hub : decide (((D.nb : Nat) : Int) ≤ no) = false := decide_eq_false (by omega)
  have hsz := T.size
  have hb1 := h.b2
  have H := Lib.hid h
  have HD := Lib.hid hd
  have OK := Lib.hid ok
  have E13 := Lib.hid he
  have EH := Lib.hid hh
  have HK := Lib.hid hk
  have DO := Lib.hid hdo
  obtain ⟨np1, np2⟩ := no_PD hcd
  clear h hd ok he T hh hk hdo FE
  go_enter Tryz.func96, Tryz.ntmps96
  go_wp2_with fail
  refine (Blocks_any x d0 db D N _ HD.out).mono ?_
  rintro e w1 ⟨rfl, rfl⟩
  go_wp2_with fail
  refine (touch_any x c0 cb s.arc N no HK.out _ H.out.ci OK.out.arc (by omega)).mono ?_
  rintro e w1 ⟨rfl, x1, f1, c1⟩
  rw [EH.out, E13.out]
  generalize (touchS s.arc no).2.2.1 = gn at GD GK GF DO ⊢
  generalize (touchS s.arc no).1 = t at hsz c1 GD DO
  have t1 := H.out.arc f1 c1 (by omega) hsz
  have d1 := HD.out.frame f1 (fun e he hc => np1 e he (CD_TC c0 e hc))
  have B := t1.setAt 6 (.int .i64 ((s.misses + 1 : Nat) : Int)) { s with arc := t, misses := s.misses + 1 } (N + 2) (by omega) rfl rfl rfl rfl (by have := t1.b1; exact this) (by show s.misses + 1 ≤ N + 2; omega) (by have := t1.b3; exact this) (by have := t1.b4; exact this) (by have := t1.b5; exact this)
  have e : (((s.misses + 1 : Nat)) : Int) = (s.misses : Int) + 1 := by omega
  rw [e] at B
  clear e
  obtain ⟨z, hz⟩ := gone_shape gn
  obtain ⟨bo, hbo⟩ : ∃ b, gn.isSome = b := ⟨_, rfl⟩
  have A := B.2.alloc9 (d0 := d0) (.cells #[.bool false, .bool bo, .int .i64 z] 224)
  have d2 := d1.frame B.1 (fun e he hc => np1 e he hc)
  have d3 := (d2.below ((Below.refl _ (w1.setCell ⟨sb, 6, none⟩ (.int .i64 ((s.misses : Int) + 1)))).alloc (Nat.le_refl _) (.cells #[.bool false, .bool bo, .int .i64 z] 224)) (x' := paint x1 (w1.setCell ⟨sb, 6, none⟩ (.int .i64 ((s.misses : Int) + 1))).heap.size (c0 + 9)) (fun b hb => paint_old hb)).mono (show N ≤ N + 2 by omega)
  have hsl : sb < w1.heap.size := lt_of_block t1.h0
  have u6 : w1.cell? ⟨sb, 6, none⟩ = some (.int .i64 s.misses) := by obtain ⟨-, -, -, -, -, -, a, -⟩ := t1.cells; exact a
  have uf := t1.cells.2.2.2.2.2.2.2.2.2.2.2.2
  have ZG := Lib.hid hz
  have hsz2 : (w1.setCell ⟨sb, 6, none⟩ (.int .i64 ((s.misses : Int) + 1))).heap.size = w1.heap.size := by simp
  have htb := World.alloc_heap_new (w1.setCell ⟨sb, 6, none⟩ (.int .i64 ((s.misses : Int) + 1))) (.cells #[.bool false, .bool bo, .int .i64 z] 224)
  rw [hsz2] at htb
  have F3 := Lib.hid (((f1.mono (CD_PD c0 d0)).trans (B.1.mono (TC_PD c0 d0))).trans A.1)
  have T3 := Lib.hid A.2
  have D3 := Lib.hid d3
  have HTB := Lib.hid htb
  have hxt : Hid (paint x1 (w1.setCell ⟨sb, 6, none⟩ (.int .i64 ((s.misses : Int) + 1))).heap.size (c0 + 9) w1.heap.size = c0 + 9) := Lib.hid (paint_new (by rw [hsz2]; exact Nat.le_refl _))
  clear f1 c1 t1 d1 A d2 B d3 s0 s2 s3 s5 s6 s7 s11 sf htb
  unfold touchedV
  rw [hz, hbo]
  have HBO := Lib.hid hbo
  clear hz hbo
  go_upto_region 11 with fail
  generalize (World.alloc _ _) = W3 at F3 T3 D3 HTB ⊢
  generalize paint x1 _ (c0 + 9) = x3 at F3 T3 D3 hxt
  clear hsl u6 uf hsz2
  have k1 : W3.cell? ⟨w1.heap.size, 1, none⟩ = some (.bool bo) := by rw [cell_of_row W3 _ _ _ _ _ HTB.out]; rfl
  go_upto_if 66 with fail
  go_cut [] from 11 to 87 (fun wc => ∃ x2, Fr x x2 (PD c0 d0) w wc ∧ TI x2 c0 wc sb db eb cb pm blk (goneS s D t gn).1 (N + 6) ∧ DIs x2 d0 wc db (goneS s D t gn).2 (N + 6))
  case first =>
    rcases gn with _ | g
    · obtain rfl : bo = false := HBO.out.symm
      go_wp2_with fail
      go_meet
      case rel => exact ⟨x3, F3.out, T3.out.mono (by omega), D3.out.mono (by omega)⟩
    · obtain rfl : bo = true := HBO.out.symm
      obtain rfl : z = g := ((Value.int.inj ZG.out).2).symm
      have hgk : KOK z := GK z rfl
      obtain ⟨p, hp⟩ := Option.isSome_iff_exists.1 ((OK.out.held z).2 (GF z rfl))
      have GS := Lib.hid (goneS_some (D := D) t hp)
      have HGK := Lib.hid hgk
      have HP := Lib.hid hp
      clear hgk hp
      go_wp2_with fail
      refine wp_region_still_tail 6 (by kernel_rfl) (by kernel_rfl) ?_
      simp only [List.take_succ_cons, List.take_zero, List.drop_succ_cons, List.drop_zero]
      have F4 : Hid (Fr x x3 (PD c0 d0) w ({ W3 with drawn := W3.drawn + 1 } : World)) := Lib.hid (Fr.drewN F3.out 1)
      have T4 : Hid (TI x3 c0 ({ W3 with drawn := W3.drawn + 1 } : World) sb db eb cb pm blk { s with arc := t, misses := s.misses + 1 } (N + 2)) := Lib.hid (T3.out.drewN 1)
      have D4 : Hid (DIs x3 d0 ({ W3 with drawn := W3.drawn + 1 } : World) db D (N + 2)) := Lib.hid (D3.out.drewN 1)
      have B4 : Hid (({ W3 with drawn := W3.drawn + 1 } : World).heap[w1.heap.size]? = some (.cells #[.bool false, .bool true, .int .i64 z] 224 (0, 0))) := Lib.hid HTB.out
      clear F3 T3 D3 HTB k1
      generalize ({ W3 with drawn := W3.drawn + 1 } : World) = W4 at F4 T4 D4 B4 ⊢
      have k2 : W4.cell? ⟨w1.heap.size, 2, none⟩ = some (.int .i64 z) := by rw [cell_of_row W4 _ _ _ _ _ B4.out]; rfl
      have k3 : W4.cell? ⟨sb, 3, none⟩ = some (.map (some pm)) := by obtain ⟨-, -, -, a, -⟩ := T4.out.cells; exact a
      have kl := pg_look T4.out HGK.out HP.out
      repeat still_step
      refine wpStill_nil ?_
      go_wp2_with fail
      refine wp_region_still_tail 6 (by kernel_rfl) (by kernel_rfl) ?_
      simp only [List.take_succ_cons, List.take_zero, List.drop_succ_cons, List.drop_zero]
      have F5 : Hid (Fr x x3 (PD c0 d0) w ({ W4 with drawn := W4.drawn + 1 } : World)) := Lib.hid (Fr.drewN F4.out 1)
      have T5 : Hid (TI x3 c0 ({ W4 with drawn := W4.drawn + 1 } : World) sb db eb cb pm blk { s with arc := t, misses := s.misses + 1 } (N + 2)) := Lib.hid (T4.out.drewN 1)
      have D5 : Hid (DIs x3 d0 ({ W4 with drawn := W4.drawn + 1 } : World) db D (N + 2)) := Lib.hid (D4.out.drewN 1)
      have B5 : Hid (({ W4 with drawn := W4.drawn + 1 } : World).heap[w1.heap.size]? = some (.cells #[.bool false, .bool true, .int .i64 z] 224 (0, 0))) := Lib.hid B4.out
      clear F4 T4 D4 B4 k2 k3 kl
      generalize ({ W4 with drawn := W4.drawn + 1 } : World) = W5 at F5 T5 D5 B5 ⊢
      have k2 : W5.cell? ⟨w1.heap.size, 2, none⟩ = some (.int .i64 z) := by rw [cell_of_row W5 _ _ _ _ _ B5.out]; rfl
      have k3 : W5.cell? ⟨sb, 3, none⟩ = some (.map (some pm)) := by obtain ⟨-, -, -, a, -⟩ := T5.out.cells; exact a
      obtain ⟨W6, hdel, fd, hsz6, hold6, t6⟩ := T5.out.del HGK.out (t := 112) (e := 113) Tryz.underlying112 0
      have hpg6 : (({ s with arc := t, misses := s.misses + 1 } : Sp).pg z).isSome = true := by show (s.pg z).isSome = true; rw [HP.out]; rfl
      rw [hpg6, if_pos rfl] at t6
      have hpm : w1.heap.size ≠ pm := fun e => by have a := T5.out.xp; rw [← e, hxt.out] at a; omega
      have b6 : W6.heap[w1.heap.size]? = some (.cells #[.bool false, .bool true, .int .i64 z] 224 (0, 0)) := (hold6 _ (lt_of_block B5.out) hpm).trans B5.out
      obtain ⟨g1, g2⟩ := T5.out.pgs z p HGK.out HP.out
      have hpm2 : blk z ≠ pm := fun e => by have a := T5.out.xp; rw [← e, g2] at a; omega
      have g6 : W6.heap[blk z]? = some (.cells (pgCells p) 143 (0, 0)) := (hold6 _ (lt_of_block g1) hpm2).trans g1
      have NP : Hid (∀ j q, KOK j → (updP s.pg z none) j = some q → blk j ≠ blk z) := Lib.hid (fun j q hj hq e => by
        by_cases hjz : j = z
        · subst hjz; rw [updP_same] at hq; cases hq
        · rw [updP_other _ _ hjz] at hq
          exact hjz (T5.out.inj j z hj HGK.out (by show (s.pg j).isSome = true; rw [hq]; rfl) (by show (s.pg z).isSome = true; rw [HP.out]; rfl) e))
      have d6 := D5.out.frame fd (fun e he hc => np1 e he hc)
      have F6 := Lib.hid (F5.out.trans (fd.mono (TC_PD c0 d0)))
      have T6 := Lib.hid t6
      have D6 := Lib.hid d6
      have G6 := Lib.hid g6
      have G2 := Lib.hid g2
      clear fd hsz6 hold6 t6 hpg6 hpm g1 g2 hpm2 d6 F5 T5 D5 B5 g6
      repeat still_step
      refine wpStill_nil ?_
      have m2 : W6.cell? ⟨w1.heap.size, 2, none⟩ = some (.int .i64 z) := by rw [cell_of_row W6 _ _ _ _ _ b6]; rfl
      have m0 : W6.cell? ⟨blk z, 0, none⟩ = some (.string p.text) := by rw [cell_of_row W6 _ _ _ _ _ G6.out]; rfl
      have m1 : W6.cell? ⟨blk z, 1, none⟩ = some (.bool p.dirty) := by rw [cell_of_row W6 _ _ _ _ _ G6.out]; rfl
      clear k2 k3 b6
      go_wp2_with fail
      cases hd : p.dirty with
      | false =>
        rw [hd] at m1
        refine (write_clean sb (blk z) z W6 m1).mono ?_
        rintro e w7 ⟨rfl, rfl⟩
        have ES : Hid (goneS s D t (some z) = ({ s with arc := t, misses := s.misses + 1, pg := updP s.pg z none, cnt := s.cnt - 1 }, D)) := Lib.hid (by rw [GS.out, hd]; rfl)
        clear hd m0 m1 m2 hdel
        go_wp2_with fail
        go_meet
        case rel => exact ⟨x3, F6.out, by rw [ES.out]; exact T6.out.mono (by omega), by rw [ES.out]; exact D6.out.mono (by omega)⟩
      | true =>
        rw [hd] at m1
        obtain ⟨z0, -, -, -, -, -, -, z7, -, -, -, -, zf⟩ := T6.out.cells
        have hw : s.written ≤ N + 2 := T6.out.b3
        refine (write_dirty x3 d0 sb db (blk z) D (N + 2) s.written p.text z W6 D6.out OK.out.dev OK.out.up (OK.out.key z p HP.out).1 (OK.out.key z p HP.out).2 (OK.out.text z p HP.out) (by omega) z0 z7 zf (by omega) m0 m1 (fun j => frozen_of_row W6 _ j _ _ G6.out) (by rw [T6.out.xs]; exact np2 _ ⟨⟨by omega, by omega⟩, by omega⟩) (by rw [G2.out]; exact np2 _ ⟨⟨by omega, by omega⟩, by omega⟩)).mono ?_
        rintro e w7 ⟨rfl, x7, W7, f7, d7, rfl⟩
        have ES : Hid (goneS s D t (some z) = ({ s with arc := t, misses := s.misses + 1, pg := updP s.pg z none, cnt := s.cnt - 1, written := s.written + 1 }, D.write z p.text)) := Lib.hid (by rw [GS.out, hd]; rfl)
        have t7 := T6.out.frame f7 (fun e he hc => np1 e hc he)
        have C := t7.setAt 7 (.int .i64 ((s.written + 1 : Nat) : Int)) { s with arc := t, misses := s.misses + 1, pg := updP s.pg z none, cnt := s.cnt - 1, written := s.written + 1 } (N + 6) (by omega) rfl rfl rfl rfl (by have := t7.b1; exact Nat.le_trans this (by omega)) (by have := t7.b2; exact Nat.le_trans this (by omega)) (by show s.written + 1 ≤ N + 6; omega) (by have := t7.b4; exact Nat.le_trans this (by omega)) (by have := t7.b5; exact Nat.le_trans this (by omega))
        have E7 := C.2.other (b := blk z) (grownBy_setCell_at _ (blk z) 1 (.bool false)) (by simp) (by rw [f7.col _ (lt_of_block G6.out)]; exact G2.out) (fun j q hj hq => NP.out j q hj hq)
        have d8 := ((d7.frame C.1 (fun e he hc => np1 e he hc)).frame E7.1 (fun e he hc => np1 e he hc)).mono (show N + 2 + 2 ≤ N + 6 by omega)
        have F8 := Lib.hid (((F6.out.trans (f7.mono (DC_PD c0 d0))).trans (C.1.mono (TC_PD c0 d0))).trans (E7.1.mono (TC_PD c0 d0)))
        have T8 := Lib.hid E7.2
        have D8 := Lib.hid d8
        clear hd m0 m1 m2 hdel z0 z7 zf f7 d7 t7 C E7 d8
        go_wp2_with fail
        go_meet
        case rel => exact ⟨x7, F8.out, by rw [ES.out]; exact T8.out, by rw [ES.out]; exact D8.out⟩
  case rest =>
    obtain ⟨x4, f4, t4, d4⟩ := hcut
    unfold missS at DO
    dsimp only at DO
    have NF : Hid ((goneS s D t gn).2.Ok ∧ (goneS s D t gn).2.down = false ∧ (goneS s D t gn).2.nb = D.nb ∧ (goneS s D t gn).1.pg no = none) := Lib.hid GD
    clear GD GK GF
    generalize goneS s D t gn = r at t4 d4 DO NF
    obtain ⟨sx, Dx⟩ := r
    obtain ⟨nf1, nf2, nf3, nf4⟩ := NF.out
    dsimp only at t4 d4 DO nf1 nf2 nf3 nf4
    have h1x : no < Dx.nb := by rw [nf3]; exact h1
    have pz : wc.heap.size = wc.heap.size := rfl
    have A := t4.alloc9 (d0 := d0) (.cells #[.string ⟨#[]⟩, .bool false, .int .i64 0] 143)
    have d5 := d4.below ((Below.refl _ wc).alloc (Nat.le_refl _) (.cells #[.string ⟨#[]⟩, .bool false, .int .i64 0] 143)) (x' := paint x4 wc.heap.size (c0 + 9)) (fun b hb => paint_old hb)
    have xb5 : paint x4 wc.heap.size (c0 + 9) wc.heap.size = c0 + 9 := paint_new (Nat.le_refl _)
    have hb5 := World.alloc_heap_new wc (.cells #[.string ⟨#[]⟩, .bool false, .int .i64 0] 143)
    have hnw : ∀ j q, KOK j → sx.pg j = some q → blk j ≠ wc.heap.size := fun j q hj hq e => by
      have := lt_of_block (t4.pgs j q hj hq).1
      omega
    have NW := Lib.hid hnw
    have F5 := Lib.hid (f4.trans A.1)
    have T5 := Lib.hid A.2
    have D5 := Lib.hid d5
    have NF1 := Lib.hid nf1
    have NF2 := Lib.hid nf2
    have NF4 := Lib.hid nf4
    have XB5 := Lib.hid xb5
    have HB5 := Lib.hid hb5
    clear f4 t4 d4 A d5 hnw nf1 nf2 nf3 nf4 NF xb5 hb5 F3 T3 D3 HTB hxt k1 ZG HBO pz
    cases whole with
    | true =>
      go_upto_region 22 with fail
      obtain ⟨w8, hup, f8, -, -, t8⟩ := T5.out.add HK.out (t := 112) (e := 113) Tryz.underlying112 (p := ⟨⟨#[]⟩, false, 0⟩) HB5.out XB5.out NF4.out (fun j q hj hq => NW.out j q hj hq) (by simp only [maxLen]; omega) (Nat.zero_le _)
      have q3 : (World.alloc wc (.cells #[.string ⟨#[]⟩, .bool false, .int .i64 0] 143)).cell? ⟨sb, 3, none⟩ = some (.map (some pm)) := by obtain ⟨-, -, -, a, -⟩ := T5.out.cells; exact a
      have dd := DO.out _ _ _ (F5.out.trans (f8.mono (TC_PD c0 d0))) (t8.mono (show N + 6 + 1 ≤ N + 8 by omega)) ((D5.out.frame f8 (fun e he hc => np1 e he hc)).mono (show N + 6 ≤ N + 8 by omega))
      rw [if_pos rfl] at dd
      have DD := Lib.hid dd
      clear f8 t8 dd DO F5 T5 D5 HB5
      go_wp2_with fail
      refine DD.out.mono ?_
      rintro e w9 ⟨rfl, hr⟩
      have HR := Lib.hid hr
      clear hr
      go_wp2_with fail
      go_ret
      exact ⟨rfl, HR.out⟩
    | false =>
      have q0 : (World.alloc wc (.cells #[.string ⟨#[]⟩, .bool false, .int .i64 0] 143)).cell? ⟨sb, 0, none⟩ = some (.pointer (some ⟨db, 0, none⟩)) := by obtain ⟨a, -⟩ := T5.out.cells; exact a
      go_wp2_with fail
      refine (Read_any _ d0 db Dx (N + 6) _ no D5.out NF1.out NF2.out h0 h1x (by omega)).mono ?_
      rintro e w6 ⟨rfl, x6, f6, d6⟩
      have t6 := T5.out.frame f6 (fun e he hc => np1 e hc he)
      have lpb : wc.heap.size < (World.alloc wc (.cells #[.string ⟨#[]⟩, .bool false, .int .i64 0] 143)).heap.size := lt_of_block HB5.out
      have hb6 : w6.heap[wc.heap.size]? = some (.cells #[.string ⟨#[]⟩, .bool false, .int .i64 0] 143 (0, 0)) := (f6.old _ lpb (by rw [XB5.out]; exact np2 _ ⟨⟨by omega, by omega⟩, by omega⟩)).trans HB5.out
      have xb6 : x6 wc.heap.size = c0 + 9 := (f6.col _ lpb).trans XB5.out
      have E7 := t6.other (b := wc.heap.size) (grownBy_setCell_at w6 wc.heap.size 0 (.string (Dx.now no))) (by simp) xb6 (fun j q hj hq => NW.out j q hj hq)
      have hb7 : (w6.setCell ⟨wc.heap.size, 0, none⟩ (.string (Dx.now no))).heap[wc.heap.size]? = some (.cells (pgCells ⟨Dx.now no, false, 0⟩) 143 (0, 0)) := by rw [heap_setCell_same w6 _ 0 _ _ _ hb6]; rfl
      have d7 := d6.frame E7.1 (fun e he hc => np1 e he hc)
      obtain ⟨w8, hup, f8, -, -, t8⟩ := E7.2.add HK.out (t := 112) (e := 113) Tryz.underlying112 (p := ⟨Dx.now no, false, 0⟩) hb7 xb6 NF4.out (fun j q hj hq => NW.out j q hj hq) (by simp only [maxLen]; omega) (Nat.zero_le _)
      have p0 : w6.cell? ⟨wc.heap.size, 0, none⟩ = some (.string ⟨#[]⟩) := by rw [cell_of_row w6 _ _ _ _ _ hb6]; rfl
      have pf : ∀ j, w6.frozen? ⟨wc.heap.size, j, none⟩ = false := fun j => frozen_of_row w6 _ j _ _ hb6
      have q3 : w6.cell? ⟨sb, 3, none⟩ = some (.map (some pm)) := by obtain ⟨-, -, -, a, -⟩ := t6.cells; exact a
      have dd := DO.out _ _ _ (((F5.out.trans (f6.mono (DC_PD c0 d0))).trans (E7.1.mono (TC_PD c0 d0))).trans (f8.mono (TC_PD c0 d0))) (t8.mono (show N + 6 + 1 ≤ N + 8 by omega)) ((d7.frame f8 (fun e he hc => np1 e he hc)).mono (show N + 6 + 1 ≤ N + 8 by omega))
      rw [if_pos rfl] at dd
      have hne : wc.heap.size ≠ sb := fun e => by have a := t6.xs; rw [← e, xb6] at a; omega
      have DD := Lib.hid dd
      clear f6 d6 t6 lpb hb6 xb6 E7 hb7 d7 f8 t8 dd DO F5 T5 D5 HB5 q0
      go_wp2_with fail
      refine DD.out.mono ?_
      rintro e w9 ⟨rfl, hr⟩
      have HR := Lib.hid hr
      clear hr
      go_wp2_with fail
      go_ret
      exact ⟨rfl, HR.out⟩

end Go.Proofs.YtbgbomlmgkgkoaaGreat.arcI
