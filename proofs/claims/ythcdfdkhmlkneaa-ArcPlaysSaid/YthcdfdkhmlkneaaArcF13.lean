/- Statement ArcPlays: the walk of the law. -/
import Derived.BigQuiet
import Derived.BigRegion
import Derived.Deep.CutRange
import Derived.Deep.CutBlock
import Derived.Deep.RegionHeld3
import Derived.Test.YthcdfdkhmlkneaaArcF12
namespace Go.Proofs.Ythcdfdkhmlkneaa.arcI
open Go.RowKit Go.Proofs.Ythcdfdkhmlkneaa.own

theorem New_bad (n : Int) (h : n < 1 ∨ 4096 < n) (w : World) :
    Calls Try.prog 19 #[.int .i64 n] w fun e w' => e = .returned (.tuple #[.pointer none, .int .i64 1]) ∧ w = w' := by
  go_enter Try.func19, Try.ntmps19
  by_cases h1 : n < 1
  · go_wp2_with fail
    go_ret2
    exact ⟨rfl, rfl⟩
  · have h2 : 4096 < n := by omega
    go_wp2_with fail
    go_ret2
    exact ⟨rfl, rfl⟩
theorem rNew_bad (n : Int) (h : n < 1 ∨ 4096 < n) (w : World) :
    Calls Try.prog 20 #[.int .i64 n] w fun e w' => e = .returned (.tuple #[.pointer none, .int .i64 1]) ∧ w = w' := by
  go_enter Try.func20, Try.ntmps20
  by_cases h1 : n < 1
  · go_wp2_with fail
    go_ret2
    exact ⟨rfl, rfl⟩
  · have h2 : 4096 < n := by omega
    go_wp2_with fail
    go_ret2
    exact ⟨rfl, rfl⟩

def OpsIs (w : World) (aT : Option Addr) (n : Nat) (F : Nat → Int × Int × Int) : Prop :=
  ∀ j, j < n → ∃ b o, aT = some ⟨b, o, none⟩ ∧ b < w.heap.size ∧ w.cell? ⟨b, o + j * 3, none⟩ = some (.int .i64 (F j).1) ∧ w.cell? ⟨b, o + j * 3 + 1, none⟩ = some (.int .i64 (F j).2.1) ∧ w.cell? ⟨b, o + j * 3 + 2, none⟩ = some (.int .i64 (F j).2.2) ∧
    (Lit.int .i64 (F j).2.2).wf = true

/-- a pair of caches, or none -/
def Pair (x : Nat → Nat) (w : World) (c0 N j : Nat) (pc pm : Value) : Prop :=
  (pc = .pointer none ∧ pm = .pointer none) ∨ ∃ cb mb s, pc = .pointer (some ⟨cb, 0, none⟩) ∧ pm = .pointer (some ⟨mb, 0, none⟩) ∧ CIs x c0 w cb s N ∧ MIs x (c0 + 10) w mb s N ∧ Ok s ∧ ∀ a, s.pins a ≤ j
theorem Pair.frame {x x' : Nat → Nat} {C : Nat → Prop} {w w' : World} {c0 N j : Nat} {pc pm : Value} (h : Pair x w c0 N j pc pm) (hf : Fr x x' C w w') (hC : ∀ e, c0 ≤ e → e < c0 + 20 → ¬ C e) : Pair x' w' c0 N j pc pm := by
  rcases h with h | ⟨cb, mb, s, h1, h2, h3, h4, h5, h6⟩
  · exact .inl h
  · exact .inr ⟨cb, mb, s, h1, h2, h3.frame hf (fun e he => hC e he.1 (by have := he.2; omega)), h4.frame hf (fun e he => hC e (by have := he.1; omega) (by have := he.2; omega)), h5, h6⟩
theorem Pair.mono {x : Nat → Nat} {w : World} {c0 N j N' j' : Nat} {pc pm : Value} (h : Pair x w c0 N j pc pm) (hN : N ≤ N') (hj : j ≤ j') : Pair x w c0 N' j' pc pm := by
  rcases h with h | ⟨cb, mb, s, h1, h2, h3, h4, h5, h6⟩
  · exact .inl h
  · exact .inr ⟨cb, mb, s, h1, h2, h3.mono hN, h4.mono hN, h5, fun a => Nat.le_trans (h6 a) hj⟩

def PLC : Nat → Prop := fun e => e ≤ 60
def updV (p : Nat → Value) (k : Nat) (v : Value) : Nat → Value := fun i => if i = k then v else p i
theorem arr2 (pc : Nat → Value) {k : Nat} (hk : k < 2) (v : Value) : (#[pc 0, pc 1] : Array Value).setIfInBounds k v = #[updV pc k v 0, updV pc k v 1] := by
  have h : k = 0 ∨ k = 1 := by omega
  rcases h with rfl | rfl <;> simp [updV]
/-- what stands in the law: the two pairs, the two arrays of pointers -/
structure LP (w : World) (ca ma : Nat) (pc pm : Nat → Value) (N j : Nat) (x : Nat → Nat) (wr : World) : Prop where
  fr : Fr (fun _ => 100) x PLC w wr
  rc : wr.heap[ca]? = some (.cells #[pc 0, pc 1] 48 (0, 0))
  xc : x ca = 50
  rm : wr.heap[ma]? = some (.cells #[pm 0, pm 1] 50 (0, 0))
  xm : x ma = 50
  p : ∀ k, k < 2 → Pair x wr (20 * k) N j (pc k) (pm k)
  ne : ca ≠ ma
section
variable {w wr w' : World} {ca ma : Nat} {pc pm : Nat → Value} {N j N' j' : Nat} {x x' : Nat → Nat}
theorem LP.below (h : LP w ca ma pc pm N j x wr) (hb : Below wr.heap.size wr w') : LP w ca ma pc pm N j (paint x wr.heap.size 50) w' := by
  have f : Fr x (paint x wr.heap.size 50) (fun e => e = 50) wr w' := Fr.of_below hb rfl
  have lc := lt_of_block h.rc
  have lm := lt_of_block h.rm
  exact ⟨h.fr.trans (f.mono (fun e he => by show e ≤ 60; omega)), (hb.block ca lc).trans h.rc, by rw [paint_old lc]; exact h.xc, (hb.block ma lm).trans h.rm, by rw [paint_old lm]; exact h.xm,
    fun k hk => (h.p k hk).frame f (fun e h1 h2 hC => by omega), h.ne⟩
theorem LP.drewN (h : LP w ca ma pc pm N j x wr) (m : Nat) : LP w ca ma pc pm N j x (wr.drewN m) := ⟨Fr.drewN h.fr m, h.rc, h.xc, h.rm, h.xm, h.p, h.ne⟩
theorem LP.older (h : LP w ca ma pc pm N j x wr) (hN : N ≤ N') (hj : j ≤ j') : LP w ca ma pc pm N' j' x wr := ⟨h.fr, h.rc, h.xc, h.rm, h.xm, fun k hk => (h.p k hk).mono hN hj, h.ne⟩
theorem LP.turn (h : LP w ca ma pc pm N j x wr) {k : Nat} (hk : k < 2) (hf : Fr x x' (fun e => 20 * k ≤ e ∧ e < 20 * k + 20) wr w') (hp : Pair x' w' (20 * k) N' j' (pc k) (pm k)) (hN : N ≤ N') (hj : j ≤ j') : LP w ca ma pc pm N' j' x' w' := by
  have lc := lt_of_block h.rc
  have lm := lt_of_block h.rm
  refine ⟨h.fr.trans (hf.mono (fun e he => by show e ≤ 60; omega)), (hf.old ca lc (by rw [h.xc]; omega)).trans h.rc, by rw [hf.col ca lc]; exact h.xc, (hf.old ma lm (by rw [h.xm]; omega)).trans h.rm, by rw [hf.col ma lm]; exact h.xm, fun i hi => ?_, h.ne⟩
  by_cases e : i = k
  · subst e; exact hp
  · exact ((h.p i hi).frame hf (fun e h1 h2 hC => by omega)).mono hN hj
theorem LP.put (h : LP w ca ma pc pm N j x wr) {k : Nat} (hk : k < 2) {vc vm : Value} (hp : Pair x wr (20 * k) N j vc vm) : LP w ca ma (updV pc k vc) (updV pm k vm) N j x ((wr.setCell ⟨ca, k, none⟩ vc).setCell ⟨ma, k, none⟩ vm) := by
  have f : Fr x x (fun e => e = 50) wr ((wr.setCell ⟨ca, k, none⟩ vc).setCell ⟨ma, k, none⟩ vm) := Fr.same rfl rfl rfl (by simp) (fun b hb hC => by
    rw [Below.heap_setCell _ _ _ _ (show b ≠ ma from fun e => hC (by rw [e]; exact h.xm)), Below.heap_setCell _ _ _ _ (show b ≠ ca from fun e => hC (by rw [e]; exact h.xc))])
  refine ⟨h.fr.trans (f.mono (fun e he => by show e ≤ 60; omega)), ?_, h.xc, ?_, h.xm, fun i hi => ?_, h.ne⟩
  · rw [Below.heap_setCell _ _ _ _ h.ne, heap_setCell_same wr ca k _ _ _ h.rc, arr2 pc hk]
  · rw [heap_setCell_same _ ma k _ _ _ ((Below.heap_setCell _ _ _ _ (Ne.symm h.ne)).trans h.rm), arr2 pm hk]
  · unfold updV
    by_cases e : i = k
    · subst e
      rw [if_pos rfl, if_pos rfl]
      exact hp.frame f (fun e h1 h2 hC => by omega)
    · rw [if_neg e, if_neg e]
      exact (h.p i hi).frame f (fun e h1 h2 hC => by omega)
theorem LP.cells (h : LP w ca ma pc pm N j x wr) {k : Nat} (hk : k < 2) : wr.cell? ⟨ca, k, none⟩ = some (pc k) ∧ wr.cell? ⟨ma, k, none⟩ = some (pm k) ∧ (∀ j, wr.frozen? ⟨ca, j, none⟩ = false) ∧ ∀ j, wr.frozen? ⟨ma, j, none⟩ = false := by
  refine ⟨?_, ?_, fun j => frozen_of_row wr _ j _ _ h.rc, fun j => frozen_of_row wr _ j _ _ h.rm⟩
  · rw [cell_of_row wr _ _ _ _ _ h.rc]
    match k, hk with
    | 0, _ => rfl
    | 1, _ => rfl
  · rw [cell_of_row wr _ _ _ _ _ h.rm]
    match k, hk with
    | 0, _ => rfl
    | 1, _ => rfl
end

set_option maxRecDepth 100000 in
set_option maxHeartbeats 25600000 in
theorem plays_walk (z0 z1 : Int) (aT : Option Addr) (n c : Nat) (hn : n ≤ 9223372036854775807) (F : Nat → Int × Int × Int) (w : World) (hops : OpsIs w aT n F) :
    Calls Try.prog 5 #[.int .i64 z0, .int .i64 z1, .slice aT n c] w fun e w' => e = .returned (.bool true) ∧ Below w.heap.size w w' := by
  have OPS := Lib.hid hops
  clear hops
  have L0 : Hid (LP w w.heap.size (w.heap.size + 1) (fun _ => .pointer none) (fun _ => .pointer none) 0 0 (paint (fun _ => 100) w.heap.size 50) ((w.alloc (.cells #[.pointer none, .pointer none] 48)).alloc (.cells #[.pointer none, .pointer none] 50))) := Lib.hid (by
    have hb : Below w.heap.size w ((w.alloc (.cells #[.pointer none, .pointer none] 48)).alloc (.cells #[.pointer none, .pointer none] 50)) := ((Below.refl _ _).alloc (Nat.le_refl _) _).alloc (by simp) _
    have hs : (w.alloc (.cells #[.pointer none, .pointer none] 48)).heap.size = w.heap.size + 1 := by simp
    refine ⟨Fr.of_below hb (show 50 ≤ 60 by omega), ?_, paint_new (Nat.le_refl _), ?_, paint_new (by omega), fun k _ => .inl ⟨rfl, rfl⟩, by omega⟩
    · rw [Below.heap_alloc _ _ _ (by rw [hs]; omega)]
      exact heap_alloc_new w _
    · have e := heap_alloc_new (w.alloc (.cells #[.pointer none, .pointer none] 48)) (.cells #[.pointer none, .pointer none] 50)
      rw [hs] at e
      exact e)
  go_enter Try.func5, Try.ntmps5
  go_upto_region 3 with fail
  obtain ⟨ca, hca⟩ : ∃ ca, w.heap.size = ca := ⟨_, rfl⟩
  rw [hca] at L0 ⊢
  obtain ⟨ma, hma⟩ : ∃ ma, ca + 1 = ma := ⟨_, rfl⟩
  rw [hma] at L0 ⊢
  generalize World.alloc _ _ = W0 at L0 ⊢
  clear hma hca
  go_wp2_with fail
  go_loopw [9] (fun i wr => ∃ k : Nat, i = .int .i64 k ∧ k ≤ 2 ∧ ∃ pc pm x, LP w ca ma pc pm 0 0 x wr ∧ ∀ q, k ≤ q → pc q = .pointer none ∧ pm q = .pointer none) (fun i _ => 2 - (intOf i).toNat)
  case atStart => exact ⟨0, rfl, by omega, _, _, _, L0.out, fun q _ => ⟨rfl, rfl⟩⟩
  case round =>
    obtain ⟨k, rfl, hk, pc, pm, xr, hL, hnil⟩ := hrel
    have LR := Lib.hid hL
    have NIL := Lib.hid hnil
    clear hL hnil
    by_cases hk2 : k < 2
    · obtain ⟨zk, hzk⟩ : ∃ z, (if k = 0 then z0 else z1) = z := ⟨_, rfl⟩
      have hcell : (wr.alloc (.cells #[.int .i64 z0, .int .i64 z1] 3)).cell? ⟨wr.heap.size, k, none⟩ = some (.int .i64 zk) := by
        rw [cell_of_row _ _ _ _ _ _ (heap_alloc_new wr _), ← hzk]
        have h : k = 0 ∨ k = 1 := by omega
        rcases h with rfl | rfl <;> rfl
      have HB : Hid (Below wr.heap.size wr (wr.alloc (.cells #[.int .i64 z0, .int .i64 z1] 3))) := Lib.hid ((Below.refl _ _).alloc (Nat.le_refl _) _)
      have L1 := Lib.hid (LR.out.below HB.out)
      clear hzk LR
      go_upto_region 7 with fail
      generalize paint xr wr.heap.size 50 = x1 at L1
      generalize World.alloc wr _ = W1 at L1 ⊢
      clear HB hcell
      by_cases hin : 1 ≤ zk ∧ zk ≤ 4096
      · obtain ⟨m, rfl⟩ : ∃ m : Nat, zk = m := ⟨zk.toNat, by omega⟩
        have h1 : 1 ≤ m := by omega
        have h2 : m ≤ 4096 := by omega
        go_wp2_with fail
        refine (New_any x1 (20 * k) m h1 h2 W1).mono ?_
        rintro e w2 ⟨cb, x2, rfl, f2, c2, -⟩
        have L2 : Hid (LP w ca ma pc pm 0 0 x2 w2) := Lib.hid (L1.out.turn hk2 (f2.mono (fun e he => ⟨he.1, by have := he.2; omega⟩)) (.inl (NIL.out k (Nat.le_refl _))) (Nat.le_refl _) (Nat.le_refl _))
        have C2 := Lib.hid c2
        clear f2 c2 L1
        go_wp2_with fail
        refine (rNew_any x2 (20 * k + 10) m h1 h2 w2).mono ?_
        rintro e w3 ⟨mb, x3, rfl, f3, m3, -⟩
        have L3 : Hid (LP w ca ma pc pm 0 0 x3 w3) := Lib.hid (L2.out.turn hk2 (f3.mono (fun e he => ⟨by have := he.1; omega, by have := he.2; omega⟩)) (.inl (NIL.out k (Nat.le_refl _))) (Nat.le_refl _) (Nat.le_refl _))
        have P3 : Hid (Pair x3 w3 (20 * k) 0 0 (.pointer (some ⟨cb, 0, none⟩)) (.pointer (some ⟨mb, 0, none⟩))) := Lib.hid (.inr ⟨cb, mb, newS m, rfl, rfl, C2.out.frame f3 (fun e he hC => by have := he.2; have := hC.1; omega), m3, newS_ok m ⟨h1, h2⟩, fun a => Nat.le_refl _⟩)
        have L4 := Lib.hid (L3.out.put hk2 P3.out)
        obtain ⟨k1, k2, k3, k4⟩ := L3.out.cells hk2
        have hne : ca ≠ ma := L3.out.ne
        have hne2 : ma ≠ ca := Ne.symm hne
        clear f3 m3 L2 C2 L3 P3
        go_wp2_with fail
        go_roundw
        case rel => exact ⟨k + 1, by go_num, by omega, _, _, x3, L4.out, fun q hq => by unfold updV; rw [if_neg (by omega), if_neg (by omega)]; exact NIL.out q (by omega)⟩
        case measure => simp [intOf]; omega
      · have hbad : zk < 1 ∨ 4096 < zk := by omega
        have L4 := Lib.hid (L1.out.put hk2 (vc := .pointer none) (vm := .pointer none) (.inl ⟨rfl, rfl⟩))
        obtain ⟨k1, k2, k3, k4⟩ := L1.out.cells hk2
        have hne : ca ≠ ma := L1.out.ne
        have hne2 : ma ≠ ca := Ne.symm hne
        go_wp2_with fail
        refine (New_bad zk hbad W1).mono ?_
        rintro e w2 ⟨rfl, rfl⟩
        go_wp2_with fail
        refine (rNew_bad zk hbad W1).mono ?_
        rintro e w2 ⟨rfl, rfl⟩
        clear L1
        go_wp2_with fail
        go_roundw
        case rel => exact ⟨k + 1, by go_num, by omega, _, _, x1, L4.out, fun q hq => by unfold updV; rw [if_neg (by omega), if_neg (by omega)]; exact NIL.out q (by omega)⟩
        case measure => simp [intOf]; omega
    · go_wp2_with fail
      go_loopw [15] (fun i wr => ∃ j : Nat, i = .int .i64 j ∧ j ≤ n ∧ j ≤ 300 ∧ ∃ x, LP w ca ma pc pm (2 * j) j x wr) (fun i _ => n - (intOf i).toNat)
      case atStart => exact ⟨0, rfl, by omega, by omega, xr, LR.out⟩
      case round =>
        obtain ⟨j, rfl, hj1, hj2, xq, hL⟩ := hrel
        have LQ := Lib.hid hL
        clear hL LR NIL
        by_cases hin : j < n ∧ j < 300
        · obtain ⟨hlt, hl3⟩ := hin
          obtain ⟨b, o, rfl, hbw, e0, e1, e2, hwf⟩ := OPS.out j hlt
          obtain ⟨kind, who, key, hF⟩ : ∃ a b c, F j = (a, b, c) := ⟨_, _, _, rfl⟩
          rw [hF] at e0 e1 e2 hwf
          have OPC : Hid (∀ x9 w9, Fr (fun _ => 100) x9 PLC w w9 → w9.cell? ⟨b, o + j * 3, none⟩ = some (.int .i64 kind) ∧ w9.cell? ⟨b, o + j * 3 + 1, none⟩ = some (.int .i64 who) ∧ w9.cell? ⟨b, o + j * 3 + 2, none⟩ = some (.int .i64 key)) := Lib.hid (fun x9 w9 hf => by
            have eqb : w9.heap[b]? = w.heap[b]? := hf.old b hbw (by show ¬ (100 ≤ 60); omega)
            rw [World.cell?_of_block (w := w) (w' := w9) eqb, World.cell?_of_block (w := w) (w' := w9) eqb, World.cell?_of_block (w := w) (w' := w9) eqb]
            exact ⟨e0, e1, e2⟩)
          obtain ⟨e0, e1, e2⟩ := OPC.out xq wr LQ.out.fr
          clear hF
          go_upto_if 68 with fail
          go_cut [16] from 59 to 68 (fun s16 wc => ∃ k : Nat, k < 2 ∧ s16 = .int .i64 k ∧ wr = wc)
          case first => as_aux_lemma =>
            by_cases h0 : who = 0
            · subst h0
              go_wp2_with fail
              go_meet
              case rel => exact ⟨0, by omega, rfl, rfl⟩
            · have h0b : (who != 0) = true := by simpa using h0
              go_wp2_with fail
              go_meet
              case rel => exact ⟨1, by omega, rfl, rfl⟩
          case rest => as_aux_lemma =>
            obtain ⟨k, hk, rfl, rfl⟩ := hcut
            obtain ⟨k1, k2, -, -⟩ := LQ.out.cells hk
            rcases LQ.out.p k hk with ⟨p1, p2⟩ | ⟨cb, mb, s, p1, p2, hc, hm, ok, hpb⟩
            · rw [p1] at k1
              rw [p2] at k2
              go_wp2_with fail
              go_quiet (fail)
              go_wp2_with fail
              go_roundw
              case rel => exact ⟨j + 1, by go_num, by omega, by omega, xq, (LQ.out.drewN _).older (by omega) (by omega)⟩
              case measure => simp [intOf]; omega
            · rw [p1] at k1
              rw [p2] at k2
              have SEP : Hid (∀ e, CC (20 * k) e → ¬ DE (20 * k + 10) e) := Lib.hid (fun e he h2 => by have := he.2; have := h2.1; omega)
              have RUN := Lib.hid (run_ok s kind key hwf ok)
              have OK := Lib.hid ok
              have HC : Hid (CIs xq (20 * k) wr.drew cb s (2 * j)) := Lib.hid hc
              have HM : Hid (MIs xq (20 * k + 10) wr.drew mb s (2 * j)) := Lib.hid hm
              have PB : Hid (∀ a, (runS s kind key).1.pins a ≤ j + 1) := Lib.hid (by rw [RUN.out.pins]; exact step_bound hpb kind key _)
              have hpk : s.pins key ≤ 300 := Nat.le_trans (hpb key) hj2
              have P1 := Lib.hid p1
              have P2 := Lib.hid p2
              clear hc hm ok hpb p1 p2
              go_upto_region 19 with fail
              go_cut [96] from 69 to 96 (fun s96 wc => s96 = .bool false ∧ ∃ x9, LP w ca ma pc pm (2 * (j + 1)) (j + 1) x9 wc)
              case first => as_aux_lemma =>
                have SW : Hid (∀ N' j' x9 w9, LP w ca ma pc pm N' j' x9 w9 → w9.cell? ⟨ca, k, none⟩ = some (.pointer (some ⟨cb, 0, none⟩)) ∧ w9.cell? ⟨ma, k, none⟩ = some (.pointer (some ⟨mb, 0, none⟩)) ∧ w9.cell? ⟨b, o + j * 3, none⟩ = some (.int .i64 kind) ∧ w9.cell? ⟨b, o + j * 3 + 1, none⟩ = some (.int .i64 who) ∧ w9.cell? ⟨b, o + j * 3 + 2, none⟩ = some (.int .i64 key)) := Lib.hid (fun N' j' x9 w9 h9 => by
                  have q1 := (h9.cells hk).1
                  have q2 := (h9.cells hk).2.1
                  rw [P1.out] at q1
                  rw [P2.out] at q2
                  exact ⟨q1, q2, OPC.out x9 w9 h9.fr⟩)
                have S0 := Lib.hid (SW.out _ _ _ _ (LQ.out.drewN 1))
                have ik0 : (0 : Int) ≤ (k : Int) := by omega
                have ik1 : (k : Int) < 2 := by omega
                have ij0 : (0 : Int) ≤ (j : Int) := by omega
                have ij1 : (j : Int) < (n : Int) := by omega
                go_wp2_with fail
                go_region_held3 (fun w' => w'.cell? ⟨ca, k, none⟩ = some (.pointer (some ⟨cb, 0, none⟩)) ∧ w'.cell? ⟨ma, k, none⟩ = some (.pointer (some ⟨mb, 0, none⟩)) ∧ w'.cell? ⟨b, o + j * 3, none⟩ = some (.int .i64 kind) ∧ w'.cell? ⟨b, o + j * 3 + 1, none⟩ = some (.int .i64 who) ∧ w'.cell? ⟨b, o + j * 3 + 2, none⟩ = some (.int .i64 key))
                  (first | exact S0.out | exact S4.out | exact S5.out)
                  (first
                    | (go_at_call 21; refine (does_any xq (20 * k) (20 * k + 10) cb mb s (2 * j) kind who key hwf _ HC.out HM.out SEP.out OK.out (by omega) (by omega)).mono ?_; rintro e w4 ⟨rfl, x4, hf4, hc4, hm4⟩; have L4 : Hid (LP w ca ma pc pm (2 * (j + 1)) (j + 1) x4 w4) := Lib.hid ((LQ.out.drewN 1).turn hk (hf4.mono (fun e he => by rcases he with he | he; exact ⟨he.1, by have := he.2; omega⟩; exact ⟨by have := he.1; omega, by have := he.2; omega⟩)) (.inr ⟨cb, mb, _, P1.out, P2.out, hc4, hm4, RUN.out.ok, PB.out⟩) (by omega) (by omega)); have HC4 := Lib.hid hc4; have HM4 := Lib.hid hm4; have S4 := Lib.hid (SW.out _ _ _ _ L4.out); clear hf4 hc4 hm4)
                    | (go_at_call 22; refine (told_any x4 (20 * k) (20 * k + 10) cb mb _ _ _ HC4.out HM4.out RUN.out.ok).mono ?_; rintro e w5 ⟨rfl, hb5⟩; have L5 := Lib.hid (L4.out.below hb5); have S5 := Lib.hid (SW.out _ _ _ _ L5.out); clear hb5))
                all_goals
                  go_wp2_with fail
                  go_meet
                  case rel => exact ⟨rfl, _, L5.out⟩
              case rest => as_aux_lemma =>
                obtain ⟨rfl, x9, h9⟩ := hcut
                have L9 := Lib.hid h9
                clear h9
                go_wp2_with fail
                go_roundw
                case rel => exact ⟨j + 1, by go_num, by omega, by omega, x9, L9.out⟩
                case measure => simp [intOf]; omega
        · have FIN : Hid (Below w.heap.size w wr) := Lib.hid (LQ.out.fr.below_all (fun b _ hC => by have : (100 : Nat) ≤ 60 := hC; omega))
          obtain ⟨k1, k2, -, -⟩ := LQ.out.cells (k := 1) (by omega)
          have hge : ¬ j < n ∨ (j < n ∧ ¬ j < 300) := by omega
          rcases LQ.out.p 1 (by omega) with ⟨p1, p2⟩ | ⟨cb, mb, s, p1, p2, hc, hm, ok, hpb⟩
          · rw [p1] at k1
            rw [p2] at k2
            rcases hge with hge | ⟨hg2, hge⟩
            all_goals
              go_wp2_with fail
              go_ret
              exact ⟨rfl, FIN.out⟩
          · rw [p1] at k1
            rw [p2] at k2
            have HC := Lib.hid hc
            have HM := Lib.hid hm
            have OK := Lib.hid ok
            clear hc hm ok p1 p2
            rcases hge with hge | ⟨hg2, hge⟩
            all_goals
              go_wp2_with fail
              refine (told_any _ _ _ cb mb s _ _ HC.out HM.out OK.out).mono ?_
              rintro e w5 ⟨rfl, hb5⟩
              go_wp2_with fail
              go_ret
              exact ⟨rfl, below_trans FIN.out hb5 FIN.out.size⟩
end Go.Proofs.Ythcdfdkhmlkneaa.arcI
