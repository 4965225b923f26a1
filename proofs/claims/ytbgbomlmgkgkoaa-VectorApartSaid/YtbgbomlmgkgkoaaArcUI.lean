/- The contracts of a cache's Pins, Target, Pin, Unpin, Lists, New. -/
import Derived.BigQuiet
import Derived.BigRegion
import Derived.Deep.RegionWith
import Derived.Test.YtbgbomlmgkgkoaaArcT2I
namespace Go.Proofs.Ytbgbomlmgkgkoaa.arcI
open Go.RowKit Go.Proofs.Ytbgbomlmgkgkoaa.own

theorem grown_trans {w w1 w2 : World} {row : Option Nat} (h : w.grownBy w1 row) (k : w1.grownBy w2 row) : w.grownBy w2 row :=
  ⟨k.os.trans h.os, k.tape.trans h.tape, k.output.trans h.output, Nat.le_trans h.size k.size, fun b hb hne => (k.block b (Nat.lt_of_lt_of_le hb h.size) hne).trans (h.block b hb hne)⟩

theorem cache_pins {x : Nat → Nat} {c0 : Nat} {w : World} {cb : Nat} {s : St} {N : Nat} (h : CIs x c0 w cb s N) :
    ∃ pm, w.cell? ⟨cb, 10, none⟩ = some (.map (some pm)) ∧ MapIs w pm N s.pins ∧ cb ≠ pm ∧ ∀ w' N' f, N ≤ N' → w.grownBy w' (some pm) → MapIs w' pm N' f → Turned x c0 w w' cb { s with pins := f } N' := by
  obtain ⟨a1, m1, a2, m2, a3, m3, a4, m4, pm, h0, hx, q1, q2, q3, q4, hp, hm⟩ := h
  refine ⟨pm, by rw [cell_of_row w cb _ _ _ _ h0]; rfl, hm, by rintro rfl; omega, fun w' N' f hN hg hm' => ?_⟩
  have kp : Keeps w w' (fun b => b = pm) := (Keeps.refl w _).grown hg (fun j hj => by injection hj with hj; exact .inl hj.symm)
  have hf : Fr x (paint x w.heap.size (c0 + 5)) (fun e => e = c0 + 5) w w' := kp.fr rfl (fun b hb e => by rw [e]; exact hp)
  have hlt := lt_of_block h0
  refine ⟨_, hf.mono (fun e he => by subst he; exact ⟨by omega, Nat.le_refl _⟩), a1, m1, a2, m2, a3, m3, a4, m4, pm, ?_, ?_, (q1.frame hf (by omega)).mono hN, (q2.frame hf (by omega)).mono hN, (q3.frame hf (by omega)).mono hN, (q4.frame hf (by omega)).mono hN, ?_, hm'⟩
  · rw [hf.old cb hlt (by rw [hx]; omega)]; exact h0
  · rw [hf.col cb hlt]; exact hx
  · rw [hf.col pm hm.lt]; exact hp

def pinR (s : St) (k : K) : St × Nat := if k ∈ s.once ∨ k ∈ s.often then (pinS s k, 0) else (s, 6)
def unpinR (s : St) (k : K) : St × Nat := if k ∈ s.once ∨ k ∈ s.often then (if s.pins k = 0 then (s, 16) else (unpinS s k, 0)) else (s, 6)

set_option maxHeartbeats 1600000 in
theorem Pin_any (x : Nat → Nat) (c0 cb : Nat) (s : St) (N : Nat) (w : World) (k : K) (hok : ((Lit.int .i64 k).wf = true)) (h : CIs x c0 w cb s N) (hN : N < 1099511627776) (hp : s.pins k < 1099511627776) :
    Calls Try.prog 52 #[.pointer (some ⟨cb, 0, none⟩), (Value.int .i64 k)] w fun e w' => e = .returned (.int .i64 (pinR s k).2) ∧ Turned x c0 w w' cb (pinR s k).1 (N + 1) := by
  have H := Lib.hid h
  obtain ⟨pm, hc, hm, _, hT⟩ := cache_pins h
  by_cases hk : k ∈ s.once ∨ k ∈ s.often
  · have R : Hid (pinR s k = (pinS s k, 0)) := Lib.hid (by unfold pinR; rw [if_pos hk])
    have d1 : Hid (decide (k ∈ s.once ∨ k ∈ s.often) = true) := Lib.hid (decide_eq_true hk)
    have hl := hm.look (k := k) hok
    have hwf : (Lit.int .i64 ((s.pins k + 1 : Nat) : Int)).wf = true := WalkArith.wf_i64 (by omega)
    obtain ⟨w1, hrun, hm1, ht⟩ := hm.store (k := k) hok (v := s.pins k + 1) hwf (by simp only [maxLen]; omega)
    have TT := Lib.hid (hT w1 (N + 1) _ (by omega) ht.grown hm1)
    obtain ⟨p, hpe⟩ : ∃ p, p = s.pins k := ⟨_, rfl⟩
    have hrun1 : (Instr.mapUpdate 31 (.map (some pm)) (Value.int .i64 k) (.int .i64 ((p : Int) + 1))).run Try.prog w = .ok () w1 := by rw [hpe]; exact hrun
    rw [← hpe] at hl hp
    clear h hm hk hT hrun hm1 ht hwf hpe
    go_enter Try.func52, Try.ntmps52
    go_wp2_with fail
    refine (Has_any x c0 cb s N w k hok H.out).mono ?_
    rintro e w' ⟨rfl, rfl⟩
    rw [d1.out]
    go_wp2_with fail
    go_ret
    exact ⟨by rw [R.out]; rfl, by rw [R.out]; exact TT.out⟩
  · have R : Hid (pinR s k = (s, 6)) := Lib.hid (by unfold pinR; rw [if_neg hk])
    have d1 : Hid (decide (k ∈ s.once ∨ k ∈ s.often) = false) := Lib.hid (decide_eq_false hk)
    clear h hm hk hT
    go_enter Try.func52, Try.ntmps52
    go_wp2_with fail
    refine (Has_any x c0 cb s N w k hok H.out).mono ?_
    rintro e w' ⟨rfl, rfl⟩
    rw [d1.out]
    go_wp2_with fail
    go_ret
    exact ⟨by rw [R.out]; rfl, by rw [R.out]; exact ⟨x, Fr.refl _ _ _, H.out.mono (by omega)⟩⟩

set_option maxRecDepth 10000 in
set_option maxHeartbeats 1600000 in
theorem Unpin_any (x : Nat → Nat) (c0 cb : Nat) (s : St) (N : Nat) (w : World) (k : K) (hok : ((Lit.int .i64 k).wf = true)) (h : CIs x c0 w cb s N) (hN : N < 1099511627776) (hp : s.pins k < 1099511627776) :
    Calls Try.prog 54 #[.pointer (some ⟨cb, 0, none⟩), (Value.int .i64 k)] w fun e w' => e = .returned (.int .i64 (unpinR s k).2) ∧ Turned x c0 w w' cb (unpinR s k).1 (N + 1) := by
  have H := Lib.hid h
  obtain ⟨pm, hc, hm, hcp, hT⟩ := cache_pins h
  by_cases hk : k ∈ s.once ∨ k ∈ s.often
  · have d1 : Hid (decide (k ∈ s.once ∨ k ∈ s.often) = true) := Lib.hid (decide_eq_true hk)
    have hl := hm.look (k := k) hok
    by_cases hz : s.pins k = 0
    · have R : Hid (unpinR s k = (s, 16)) := Lib.hid (by unfold unpinR; rw [if_pos hk, if_pos hz])
      rw [hz] at hl
      clear h hm hk hT hz
      go_enter Try.func54, Try.ntmps54
      go_wp2_with fail
      refine (Has_any x c0 cb s N w k hok H.out).mono ?_
      rintro e w' ⟨rfl, rfl⟩
      rw [d1.out]
      go_wp2_with fail
      go_ret
      exact ⟨by rw [R.out]; rfl, by rw [R.out]; exact ⟨x, Fr.refl _ _ _, H.out.mono (by omega)⟩⟩
    · have R : Hid (unpinR s k = (unpinS s k, 0)) := Lib.hid (by unfold unpinR; rw [if_pos hk, if_neg hz])
      obtain ⟨p, hpe⟩ : ∃ p, s.pins k = p + 1 := ⟨s.pins k - 1, by omega⟩
      have hwf : (Lit.int .i64 ((p : Nat) : Int)).wf = true := WalkArith.wf_i64 (by omega)
      obtain ⟨w1, hrun, hm1, ht⟩ := hm.store (k := k) hok (v := p) hwf (by simp only [maxLen]; omega)
      have hrun1 : (Instr.mapUpdate 31 (.map (some pm)) (Value.int .i64 k) (.int .i64 (p : Int))).run Try.prog w = .ok () w1 := hrun
      have hg1 := ht.grown
      have hc1 : w1.cell? ⟨cb, 10, none⟩ = some (.map (some pm)) := by
        obtain ⟨a1, m1, a2, m2, a3, m3, a4, m4, pm', h0, _⟩ := H.out
        have e1 : w1.heap[cb]? = w.heap[cb]? := hg1.block cb (lt_of_block h0) (by simp; exact hcp)
        have h1 := e1.trans h0
        rw [cell_of_row w cb _ _ _ _ h0] at hc
        rw [cell_of_row w1 cb _ _ _ _ h1]; exact hc
      have hl1 := hm1.look (k := k) hok
      rw [upd_same] at hl1
      have hpins : (unpinS s k).pins = upd s.pins k p := by
        funext a
        show (if a = k then s.pins k - 1 else s.pins a) = (if a = k then p else s.pins a)
        rw [hpe]; rfl
      have hl2 : (Instr.lookup 31 (.map (some pm)) (Value.int .i64 k) false).run Try.prog w = .ok (.int .i64 ((p : Int) + 1)) w := by rw [hl, hpe]; rfl
      have hpq : ((p : Int) + 1 == 0) = false := beq_eq_false_iff_ne.2 (by omega)
      rw [hpe] at hp
      clear hl
      by_cases hp0 : p = 0
      · obtain ⟨w2, hrun2, hm2, ht2⟩ := hm1.drop (k := k) hok 0
        have TT : Hid (Turned x c0 w w2 cb (unpinS s k) (N + 1)) := Lib.hid (by
          have := hT w2 (N + 1) _ (by omega) (grown_trans hg1 ht2.grown) hm2
          have e : upd (upd s.pins k p) k 0 = (unpinS s k).pins := by
            rw [hpins, hp0]
            funext a
            by_cases ha : a = k
            · subst ha; rw [upd_same, upd_same]
            · rw [upd_other _ _ ha]
          rw [e] at this
          exact this)
        subst hp0
        have hl3 : (Instr.lookup 31 (.map (some pm)) (Value.int .i64 k) false).run Try.prog w = .ok (.int .i64 1) w := hl2
        have hl4 : (Instr.lookup 31 (.map (some pm)) (Value.int .i64 k) false).run Try.prog w1 = .ok (.int .i64 0) w1 := hl1
        have hrun3 : (Instr.mapUpdate 31 (.map (some pm)) (Value.int .i64 k) (.int .i64 0)).run Try.prog w = .ok () w1 := hrun
        clear hl2 hl1 hrun1 hpq
        have HM1 := Lib.hid hm1
        have TK := Lib.hid (fun w2 (hm2 : MapIs w2 pm (N + 1) (upd (upd s.pins k 0) k 0)) (ht2 : w1.mapTurned w2 pm) => hT w2 (N + 1) _ (by omega) (grown_trans hg1 ht2.grown) hm2)
        have HP := Lib.hid hpins
        clear h hm hk hT hz hrun hm1 ht hwf hpe hg1 hrun2 hm2 ht2 TT hpins
        go_enter Try.func54, Try.ntmps54
        go_wp2_with fail
        refine (Has_any x c0 cb s N w k hok H.out).mono ?_
        rintro e w' ⟨rfl, rfl⟩
        rw [d1.out]
        go_wp2_with (at_delete; refine wpList_delete_map rfl _ _ rfl pm (N + 1) _ k hok rfl rfl HM1.out ?_)
        intro w3 hm3 ht3
        have HM3 := Lib.hid hm3
        have HT3 := Lib.hid ht3
        clear hm3 ht3
        go_wp2_with fail
        go_ret
        refine ⟨by rw [R.out]; rfl, ?_⟩
        rw [R.out]
        have := TK.out w3 HM3.out HT3.out
        have e : upd (upd s.pins k 0) k 0 = (unpinS s k).pins := by
          rw [HP.out]
          funext a
          by_cases ha : a = k
          · subst ha; rw [upd_same, upd_same]
          · rw [upd_other _ _ ha]
        rw [e] at this
        exact this
      · have TT : Hid (Turned x c0 w w1 cb (unpinS s k) (N + 1)) := Lib.hid (by
          have := hT w1 (N + 1) _ (by omega) hg1 hm1
          rw [← hpins] at this
          exact this)
        have hpb : ((p : Int) == 0) = false := beq_eq_false_iff_ne.2 (by omega)
        clear h hm hk hT hz hrun hm1 ht hwf hpe hg1 hpins
        go_enter Try.func54, Try.ntmps54
        go_wp2_with fail
        refine (Has_any x c0 cb s N w k hok H.out).mono ?_
        rintro e w' ⟨rfl, rfl⟩
        rw [d1.out]
        go_wp2_with fail
        go_ret
        exact ⟨by rw [R.out]; rfl, by rw [R.out]; exact TT.out⟩
  · have R : Hid (unpinR s k = (s, 6)) := Lib.hid (by unfold unpinR; rw [if_neg hk])
    have d1 : Hid (decide (k ∈ s.once ∨ k ∈ s.often) = false) := Lib.hid (decide_eq_false hk)
    clear h hm hk hT
    go_enter Try.func54, Try.ntmps54
    go_wp2_with fail
    refine (Has_any x c0 cb s N w k hok H.out).mono ?_
    rintro e w' ⟨rfl, rfl⟩
    rw [d1.out]
    go_wp2_with fail
    go_ret
    exact ⟨by rw [R.out]; rfl, by rw [R.out]; exact ⟨x, Fr.refl _ _ _, H.out.mono (by omega)⟩⟩

def isRow (w : World) (base : Nat) (v : Value) (keys : List K) : Prop := w.ownsRow base 3 1 v keys.length (kvs keys)
theorem isRow.later {w w' : World} {base : Nat} {v : Value} {keys : List K} (h : isRow w base v keys) (hb : Below w.heap.size w w') : isRow w' base v keys := own_below h hb
theorem below_trans {B B' : Nat} {w w1 w2 : World} (h : Below B w w1) (k : Below B' w1 w2) (hB' : B ≤ B') : Below B w w2 :=
  ⟨k.os.trans h.os, k.tape.trans h.tape, k.output.trans h.output, Nat.le_trans h.size k.size, fun b hb => (k.block b (by omega)).trans (h.block b hb)⟩

def ListPost (w : World) (s : St) (e : Ending) (w' : World) : Prop :=
  ∃ v1 v2 v3 v4, e = .returned (.tuple #[v1, v2, v3, v4]) ∧ Below w.heap.size w w' ∧ isRow w' w.heap.size v1 s.once.reverse ∧ isRow w' w.heap.size v2 s.often.reverse ∧ isRow w' w.heap.size v3 s.wonce.reverse ∧ isRow w' w.heap.size v4 s.woften.reverse

theorem CIs.below {x : Nat → Nat} {c0 : Nat} {w w' : World} {cb : Nat} {s : St} {N : Nat} (h : CIs x c0 w cb s N) (hb : Below w.heap.size w w') : CIs (paint x w.heap.size (c0 + 6)) c0 w' cb s N :=
  h.temp (Fr.of_below hb rfl)

def newS (n : Nat) : St := ⟨n, [], [], [], [], 0, fun _ => 0⟩
theorem newS_ok (n : Nat) (h : 1 ≤ n ∧ n ≤ 4096) : Ok (newS n) :=
  ⟨h, Nat.zero_le _, Nat.zero_le _, Nat.zero_le _, Nat.zero_le _, fun a => by show 0 + 0 + 0 + 0 ≤ 1; omega, fun a ha => by simp [newS] at ha, fun a ha => absurd ha (by show ¬ (0 < 0); omega)⟩

set_option maxHeartbeats 1600000 in
theorem New_any (x : Nat → Nat) (c0 : Nat) (n : Nat) (h1 : 1 ≤ n) (h2 : n ≤ 4096) (w : World) :
    Calls Try.prog 92 #[.int .i64 n] w fun e w' => ∃ cb x', e = .returned (.tuple #[.pointer (some ⟨cb, 0, none⟩), .int .i64 0]) ∧ Fr x x' (CD c0) w w' ∧ CIs x' c0 w' cb (newS n) 0 ∧ Below w.heap.size w w' := by
  have hmm := @run_makeMap Try.prog
  go_enter Try.func92, Try.ntmps92
  go_wp2_with fail
  go_ret2
  have hs1 : (w.alloc (.map #[] 0)).heap.size = w.heap.size + 1 := by simp
  have hmap : MapIs ((w.alloc (.map #[] 0)).alloc (.cells (cacheCells n (.slice none 0 0) (.map none) (.slice none 0 0) (.map none) (.slice none 0 0) (.map none) (.slice none 0 0) (.map none) 0 w.heap.size) 184)) w.heap.size 0 (fun _ => 0) :=
    (MapIs.made w).frame (Below.heap_alloc _ _ _ (by rw [hs1]; omega))
  have hcell := heap_alloc_new (w.alloc (.map #[] 0)) (.cells (cacheCells n (.slice none 0 0) (.map none) (.slice none 0 0) (.map none) (.slice none 0 0) (.map none) (.slice none 0 0) (.map none) 0 w.heap.size) 184)
  rw [hs1] at hcell
  refine ⟨w.heap.size + 1, fun b => if b < w.heap.size then x b else if b = w.heap.size then c0 + 5 else c0, rfl, ⟨rfl, rfl, rfl, by simp; omega, fun b hb => if_pos hb, fun b h1 _ => ?_, fun b hb _ => ?_⟩, ?_, ((Below.refl _ _).alloc (Nat.le_refl _) _).alloc (by rw [hs1]; omega) _⟩
  · show CD c0 (if b < w.heap.size then x b else if b = w.heap.size then c0 + 5 else c0)
    rw [if_neg (by omega)]
    split
    · exact ⟨by omega, Nat.le_refl _⟩
    · exact ⟨Nat.le_refl _, by omega⟩
  · rw [Below.heap_alloc _ _ _ (by rw [hs1]; omega), Below.heap_alloc _ _ _ hb]
  · refine ⟨_, _, _, _, _, _, _, _, w.heap.size, hcell, ?_, QP.nil _ _ _ _, QP.nil _ _ _ _, QP.nil _ _ _ _, QP.nil _ _ _ _, ?_, hmap⟩
    · show (if w.heap.size + 1 < w.heap.size then x (w.heap.size + 1) else if w.heap.size + 1 = w.heap.size then c0 + 5 else c0) = c0
      rw [if_neg (by omega), if_neg (by omega)]
    · show (if w.heap.size < w.heap.size then x w.heap.size else if w.heap.size = w.heap.size then c0 + 5 else c0) = c0 + 5
      rw [if_neg (by omega), if_pos rfl]

end Go.Proofs.Ytbgbomlmgkgkoaa.arcI
