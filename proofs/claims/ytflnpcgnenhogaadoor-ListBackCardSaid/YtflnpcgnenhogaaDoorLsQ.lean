/- list: two lists gone through at once. (Printed by wip/geneach.py.) -/
import Derived.Test.YtflnpcgnenhogaaDoorLsP
namespace Go.Proofs.YtflnpcgnenhogaaDoor.ls
open Go.RowKit Go.Proofs.YtflnpcgnenhogaaDoor.own Go.Proofs.YtflnpcgnenhogaaDoor.bit

/-- a list that is only read, in a block whose colour is none of C -/
def LVx (x : Nat → Nat) (C : Nat → Prop) (w : World) (a : Option Addr) (l : List Nat) : Prop :=
  l.length ≤ 4611686018427387903 ∧ ∀ i (h : i < l.length), ∃ g o, a = some ⟨g, o, none⟩ ∧ g < w.heap.size ∧ w.cell? ⟨g, o + i, none⟩ = some (.int .u32 (l[i] : Int)) ∧ l[i] < 4294967296 ∧ ¬ C (x g)
theorem LVx.lv {x : Nat → Nat} {C : Nat → Prop} {w : World} {a : Option Addr} {l : List Nat} (h : LVx x C w a l) : LV w a l :=
  ⟨h.1, fun i hi => by obtain ⟨g, o, h1, h2, h3, h4, _⟩ := h.2 i hi; exact ⟨g, o, h1, h2, h3, h4⟩⟩
theorem LVx.frame {x x' : Nat → Nat} {C : Nat → Prop} {w w' : World} {a : Option Addr} {l : List Nat} (h : LVx x C w a l) (hf : Fr x x' C w w') : LVx x' C w' a l :=
  ⟨h.1, fun i hi => by
    obtain ⟨g, o, h1, h2, h3, h4, h5⟩ := h.2 i hi
    refine ⟨g, o, h1, Nat.lt_of_lt_of_le h2 hf.size, ?_, h4, by rw [hf.col g h2]; exact h5⟩
    rw [World.cell?_of_block (w := w) (hf.old g h2 h5)]
    exact h3⟩
/-- a slice without its first element -/
theorem LVx.tail {x : Nat → Nat} {C : Nat → Prop} {w : World} {g o a0 : Nat} {r : List Nat} (cap : Nat) (hc : r.length + 1 ≤ cap) (h : LVx x C w (some ⟨g, o, none⟩) (a0 :: r)) : LVx x C w (if cap = 1 then some ⟨g, o, none⟩ else some ⟨g, o + 1, none⟩) r := by
  refine ⟨by have := h.1; simp at this; omega, fun i hi => ?_⟩
  rw [if_neg (by omega)]
  obtain ⟨g', o', e, h2, h3, h4, h5⟩ := h.2 (i + 1) (by simp; omega)
  injection e with e; injection e with e1 e2
  subst e1 e2
  refine ⟨g, o + 1, rfl, h2, ?_, by simpa using h4, h5⟩
  rw [Nat.add_assoc, Nat.add_comm 1 i, h3]
  simp
theorem LVx.head {x : Nat → Nat} {C : Nat → Prop} {w : World} {a : Option Addr} {a0 : Nat} {r : List Nat} (h : LVx x C w a (a0 :: r)) : ∃ g o, a = some ⟨g, o, none⟩ ∧ w.cell? ⟨g, o, none⟩ = some (.int .u32 (a0 : Int)) := by
  obtain ⟨g, o, e, h2, h3, h4, h5⟩ := h.2 0 (by simp)
  exact ⟨g, o, e, by simpa using h3⟩
/-- on the way through two lists -/
structure ES (x : Nat → Nat) (cf cr : Nat) (w : World) (fb rb : Nat) (S : List Nat × (List Nat × Nat)) (a : Option Addr) (l : List Nat) (b : Option Addr) (m : List Nat) (W : World) : Prop where
  ex : ∃ x' s, Fr x x' (fun e => e = cf ∨ e = cr) w W ∧ LVx x' (fun e => e = cf ∨ e = cr) W a l ∧ LVx x' (fun e => e = cf ∨ e = cr) W b m ∧ MSt x' cf cr W fb rb s ∧ eachF l m s = S ∧ s.1.length + l.length + m.length ≤ 131072 ∧ s.2.1.length + l.length + m.length ≤ 131072 ∧ s.2.2 + l.length + m.length ≤ 131073
theorem ES.drewN {x : Nat → Nat} {cf cr : Nat} {w W : World} {fb rb : Nat} {S : List Nat × (List Nat × Nat)} {a b : Option Addr} {l m : List Nat} (h : ES x cf cr w fb rb S a l b m W) (n : Nat) : ES x cf cr w fb rb S a l b m (W.drewN n) := by
  obtain ⟨x', s, hf, h1, h2, ⟨h3, h4⟩, h5⟩ := h
  have k : Fr x' x' (fun _ => False) W (W.drewN n) := Fr.same rfl rfl rfl rfl (fun _ _ _ => rfl)
  have k2 : Fr x' x' (fun e => e = cf ∨ e = cr) W (W.drewN n) := k.mono (fun _ h => h.elim)
  exact ⟨x', s, hf.trans k2, h1.frame k2, h2.frame k2, ⟨h3.frame k id, h4.frame k id⟩, h5⟩
theorem ES.headA {x : Nat → Nat} {cf cr : Nat} {w W : World} {fb rb : Nat} {S : List Nat × (List Nat × Nat)} {a b : Option Addr} {a0 : Nat} {r m : List Nat} (h : ES x cf cr w fb rb S a (a0 :: r) b m W) : ∃ g o, a = some ⟨g, o, none⟩ ∧ W.cell? ⟨g, o, none⟩ = some (.int .u32 (a0 : Int)) := by
  obtain ⟨x', s, _, h1, _⟩ := h.ex
  exact h1.head
theorem ES.headB {x : Nat → Nat} {cf cr : Nat} {w W : World} {fb rb : Nat} {S : List Nat × (List Nat × Nat)} {a b : Option Addr} {b0 : Nat} {l t : List Nat} (h : ES x cf cr w fb rb S a l b (b0 :: t) W) : ∃ g o, b = some ⟨g, o, none⟩ ∧ W.cell? ⟨g, o, none⟩ = some (.int .u32 (b0 : Int)) := by
  obtain ⟨x', s, _, _, h2, _⟩ := h.ex
  exact h2.head
theorem meet_len (s : List Nat × (List Nat × Nat)) (v : Nat) (o p : Bool) : (meetF s v o p).1.length ≤ s.1.length + 1 ∧ (meetF s v o p).2.1.length ≤ s.2.1.length + 1 ∧ (meetF s v o p).2.2 ≤ s.2.2 + 1 := by
  unfold meetF rst
  cases p
  · simp
  · simp only [if_true]
    split <;> simp
/-- an element is met; what follows stands -/
theorem ES.meet {x : Nat → Nat} {cf cr : Nat} (hfr : cf ≠ cr) {w W : World} {fb rb : Nat} {S : List Nat × (List Nat × Nat)} {a b a' b' : Option Addr} {l m l' m' : List Nat} (h : ES x cf cr w fb rb S a l b m W) (v : Nat) (own other : Bool)
    (hE : ∀ s, eachF l m s = eachF l' m' (meetF s v own other)) (hl : l'.length + m'.length + 1 ≤ l.length + m.length) (hA : ∀ x' W', LVx x' (fun e => e = cf ∨ e = cr) W' a l → LVx x' (fun e => e = cf ∨ e = cr) W' a' l') (hB : ∀ x' W', LVx x' (fun e => e = cf ∨ e = cr) W' b m → LVx x' (fun e => e = cf ∨ e = cr) W' b' m') :
    Calls Tryd.prog 56 #[.int .u32 (v : Int), .bool own, .bool other, .pointer (some ⟨fb, 0, none⟩), .pointer (some ⟨rb, 0, none⟩)] W fun e w' => e = .returned (.tuple #[]) ∧ ES x cf cr w fb rb S a' l' b' m' w' := by
  obtain ⟨x', s, hf, h1, h2, h3, h4, h5, h6, h7⟩ := h.ex
  refine (meet_any x' cf cr hfr W fb rb s v own other (by omega) (by omega) (by omega) h3).mono ?_
  rintro e w' ⟨rfl, x2, f2, hM⟩
  have ml := meet_len s v own other
  exact ⟨rfl, x2, meetF s v own other, hf.trans f2, hA _ _ (h1.frame f2), hB _ _ (h2.frame f2), hM, by rw [← hE]; exact h4, by omega, by omega, by omega⟩
theorem each_less (a b : Nat) (r t : List Nat) (s : List Nat × (List Nat × Nat)) (h : a < b) : eachF (a :: r) (b :: t) s = eachF r (b :: t) (meetF s a true false) := by rw [eachF, if_pos h]
theorem each_more (a b : Nat) (r t : List Nat) (s : List Nat × (List Nat × Nat)) (h : b < a) : eachF (a :: r) (b :: t) s = eachF (a :: r) t (meetF s b false true) := by rw [eachF, if_neg (by omega), if_pos h]
theorem each_same (a : Nat) (r t : List Nat) (s : List Nat × (List Nat × Nat)) : eachF (a :: r) (a :: t) s = eachF r t (meetF s a true true) := by rw [eachF, if_neg (by omega), if_neg (by omega)]
theorem each_a (a : Nat) (r : List Nat) (s : List Nat × (List Nat × Nat)) : eachF (a :: r) [] s = eachF r [] (meetF s a true false) := by rw [eachF]
theorem each_b (b : Nat) (t : List Nat) (s : List Nat × (List Nat × Nat)) : eachF [] (b :: t) s = eachF [] t (meetF s b false true) := by rw [eachF]
theorem each_nil (s : List Nat × (List Nat × Nat)) : eachF [] [] s = s := by rw [eachF]

set_option maxRecDepth 100000 in
set_option maxHeartbeats 6400000 in
theorem each_any (x : Nat → Nat) (cf cr : Nat) (hfr : cf ≠ cr) (w : World) (fb rb : Nat) (a : Option Addr) (l : List Nat) (cap : Nat) (b : Option Addr) (m : List Nat) (capb : Nat) (hc : l.length ≤ cap) (hcb : m.length ≤ capb) (hl : l.length + m.length ≤ 131072)
    (hA : LVx x (fun e => e = cf ∨ e = cr) w a l) (hB : LVx x (fun e => e = cf ∨ e = cr) w b m) (h : MSt x cf cr w fb rb ([], ([], 0))) :
    Calls Tryd.prog 55 #[.slice a l.length cap, .slice b m.length capb, .func (.func 56) #[] #[.pointer (some ⟨fb, 0, none⟩), .pointer (some ⟨rb, 0, none⟩)]] w fun e w' =>
      e = .returned (.tuple #[]) ∧ ∃ x', Fr x x' (fun e => e = cf ∨ e = cr) w w' ∧ MSt x' cf cr w' fb rb (eachF l m ([], ([], 0))) := by
  obtain ⟨S, hS⟩ : ∃ S, eachF l m ([], ([], 0)) = S := ⟨_, rfl⟩
  have E0 := Lib.hid (ES.mk (S := S) ⟨x, ([], ([], 0)), Fr.refl _ _ _, hA, hB, h, hS, by simpa using hl, by simpa using hl, by simp; omega⟩)
  have HFR := Lib.hid hfr
  rw [hS]
  clear hS hA hB h hfr
  go_enter Tryd.func55, Tryd.ntmps55
  go_wp2_with fail
  go_loopw [0, 1] (fun va vb wr => ∃ (a' : Option Addr) (l' : List Nat) (cap' : Nat) (b' : Option Addr) (m' : List Nat) (capb' : Nat), va = .slice a' l'.length cap' ∧ vb = .slice b' m'.length capb' ∧ l'.length ≤ cap' ∧ m'.length ≤ capb' ∧ l'.length + m'.length ≤ 131072 ∧ ES x cf cr w fb rb S a' l' b' m' wr)
    (fun va vb _ => sliceLen va + sliceLen vb)
  case atStart => exact ⟨a, l, cap, b, m, capb, rfl, rfl, hc, hcb, hl, E0.out⟩
  case round =>
    clear E0
    obtain ⟨a', l', cap', b', m', capb', rfl, rfl, hc1, hc2, hlm, hE⟩ := hrel
    cases l' with
    | nil =>
      cases m' with
      | nil =>
        have HE := Lib.hid hE
        clear hE
        simp only [List.length_nil]
        go_wp2_with fail
        go_end0
        obtain ⟨x', s, hf, _, _, h3, h4, _⟩ := HE.out.ex
        rw [each_nil] at h4
        exact ⟨rfl, x', hf, h4 ▸ h3⟩
      | cons b0 t =>
        obtain ⟨g2, o2, rfl, cb⟩ := hE.headB
        have ME := Lib.hid (fun q => (hE.drewN q).meet HFR.out b0 false true (fun s => each_b b0 t s) (by simp <;> omega) (fun _ _ h => h) (fun _ _ h => h.tail capb' hc2))
        have ME0 := Lib.hid (hE.meet HFR.out b0 false true (fun s => each_b b0 t s) (by simp <;> omega) (fun _ _ h => h) (fun _ _ h => h.tail capb' hc2))
        obtain ⟨M, hM⟩ : ∃ M, (b0 :: t).length = M := ⟨_, rfl⟩
        have HMr : Hid (M = t.length + 1) := Lib.hid (by rw [← hM]; simp)
        rw [hM] at hc2 hlm ⊢
        have HMM := Lib.hid hM
        have m1 : ((M : Int) == 0) = false := beq_eq_false_iff_ne.2 (by have := HMr.out; omega)
        have m2 : decide ((0 : Int) < (M : Int)) = true := decide_eq_true (by have := HMr.out; omega)
        have m6 : decide (0 < M) = true := decide_eq_true (by have := HMr.out; omega)
        have m3 : (0 : Int) < (M : Int) := by have := HMr.out; omega
        have m4 : ¬ (M : Int) < 1 := by omega
        have m5 : ¬ (capb' : Int) < (M : Int) := by omega
        clear hM
        simp only [List.length_nil]
        clear hE
        go_upto_region 1 with fail
        go_quiet (fail)
        go_upto_region 2 with fail
        go_quiet (fail)
        go_wp2_with fail
        with_reducible refine (ME.out _).mono ?_
        rintro e w5 ⟨rfl, h5⟩
        have H5 := Lib.hid h5
        clear h5 ME ME0
        go_wp2_with fail
        go_roundw
        case rel =>
          skip
          have hm := HMr.out
          exact ⟨_, [], cap', _, t, capb' - 1, rfl, by rw [hm, Nat.add_sub_cancel]; try (split <;> rfl), hc1, by omega, by (try simp only [List.length_nil]); (try simp only [List.length_nil] at hlm); omega, H5.out⟩
        case measure =>
          skip
          have hm := HMr.out
          simp [sliceLen]; try omega
    | cons a0 r =>
      cases m' with
      | nil =>
        obtain ⟨g, o, rfl, ca⟩ := hE.headA
        have ME := Lib.hid (fun q => (hE.drewN q).meet HFR.out a0 true false (fun s => each_a a0 r s) (by simp <;> omega) (fun _ _ h => h.tail cap' hc1) (fun _ _ h => h))
        have ME0 := Lib.hid (hE.meet HFR.out a0 true false (fun s => each_a a0 r s) (by simp <;> omega) (fun _ _ h => h.tail cap' hc1) (fun _ _ h => h))
        obtain ⟨N, hN⟩ : ∃ N, (a0 :: r).length = N := ⟨_, rfl⟩
        have HNr : Hid (N = r.length + 1) := Lib.hid (by rw [← hN]; simp)
        rw [hN] at hc1 hlm ⊢
        have HNN := Lib.hid hN
        have n1 : ((N : Int) == 0) = false := beq_eq_false_iff_ne.2 (by have := HNr.out; omega)
        have n2 : decide ((0 : Int) < (N : Int)) = true := decide_eq_true (by have := HNr.out; omega)
        have n6 : decide (0 < N) = true := decide_eq_true (by have := HNr.out; omega)
        have n3 : (0 : Int) < (N : Int) := by have := HNr.out; omega
        have n4 : ¬ (N : Int) < 1 := by omega
        have n5 : ¬ (cap' : Int) < (N : Int) := by omega
        clear hN
        simp only [List.length_nil]
        clear hE
        go_upto_region 1 with fail
        go_quiet (fail)
        go_upto_region 2 with fail
        go_quiet (fail)
        go_wp2_with fail
        with_reducible refine (ME.out _).mono ?_
        rintro e w5 ⟨rfl, h5⟩
        have H5 := Lib.hid h5
        clear h5 ME ME0
        go_wp2_with fail
        go_roundw
        case rel =>
          have hn := HNr.out
          skip
          exact ⟨_, r, cap' - 1, _, [], capb', by rw [hn, Nat.add_sub_cancel]; try (split <;> rfl), rfl, by omega, hc2, by (try simp only [List.length_nil]); (try simp only [List.length_nil] at hlm); omega, H5.out⟩
        case measure =>
          have hn := HNr.out
          skip
          simp [sliceLen]; try omega
      | cons b0 t =>
        rcases Nat.lt_trichotomy a0 b0 with hab | hab | hab
        · --less
          obtain ⟨g, o, rfl, ca⟩ := hE.headA
          obtain ⟨g2, o2, rfl, cb⟩ := hE.headB
          have ME := Lib.hid (fun q => (hE.drewN q).meet HFR.out a0 true false (fun s => each_less a0 b0 r t s hab) (by simp <;> omega) (fun _ _ h => h.tail cap' hc1) (fun _ _ h => h))
          have ME0 := Lib.hid (hE.meet HFR.out a0 true false (fun s => each_less a0 b0 r t s hab) (by simp <;> omega) (fun _ _ h => h.tail cap' hc1) (fun _ _ h => h))
          obtain ⟨N, hN⟩ : ∃ N, (a0 :: r).length = N := ⟨_, rfl⟩
          have HNr : Hid (N = r.length + 1) := Lib.hid (by rw [← hN]; simp)
          rw [hN] at hc1 hlm ⊢
          have HNN := Lib.hid hN
          have n1 : ((N : Int) == 0) = false := beq_eq_false_iff_ne.2 (by have := HNr.out; omega)
          have n2 : decide ((0 : Int) < (N : Int)) = true := decide_eq_true (by have := HNr.out; omega)
          have n6 : decide (0 < N) = true := decide_eq_true (by have := HNr.out; omega)
          have n3 : (0 : Int) < (N : Int) := by have := HNr.out; omega
          have n4 : ¬ (N : Int) < 1 := by omega
          have n5 : ¬ (cap' : Int) < (N : Int) := by omega
          clear hN
          obtain ⟨M, hM⟩ : ∃ M, (b0 :: t).length = M := ⟨_, rfl⟩
          have HMr : Hid (M = t.length + 1) := Lib.hid (by rw [← hM]; simp)
          rw [hM] at hc2 hlm ⊢
          have HMM := Lib.hid hM
          have m1 : ((M : Int) == 0) = false := beq_eq_false_iff_ne.2 (by have := HMr.out; omega)
          have m2 : decide ((0 : Int) < (M : Int)) = true := decide_eq_true (by have := HMr.out; omega)
          have m6 : decide (0 < M) = true := decide_eq_true (by have := HMr.out; omega)
          have m3 : (0 : Int) < (M : Int) := by have := HMr.out; omega
          have m4 : ¬ (M : Int) < 1 := by omega
          have m5 : ¬ (capb' : Int) < (M : Int) := by omega
          clear hM
          have v1 : decide ((a0 : Int) ≤ (b0 : Int)) = true := decide_eq_true (by omega)
          have v2 : decide ((b0 : Int) ≤ (a0 : Int)) = false := decide_eq_false (by omega)
          have v3 : decide (a0 ≤ b0) = true := decide_eq_true (by omega)
          have v4 : decide (b0 ≤ a0) = false := decide_eq_false (by omega)
          clear hE
          go_upto_region 1 with fail
          go_quiet (fail)
          go_upto_region 2 with fail
          go_quiet (fail)
          go_wp2_with fail
          with_reducible refine (ME.out _).mono ?_
          rintro e w5 ⟨rfl, h5⟩
          have H5 := Lib.hid h5
          clear h5 ME ME0
          go_wp2_with fail
          go_roundw
          case rel =>
            have hn := HNr.out
            have hm := HMr.out
            exact ⟨_, r, cap' - 1, _, (b0 :: t), capb', by rw [hn, Nat.add_sub_cancel]; try (split <;> rfl), by rw [HMM.out], by omega, by rw [HMM.out]; exact hc2, by (try rw [HNN.out]); (try rw [HMM.out]); (try simp only [List.length_nil]); (try simp only [List.length_nil] at hlm); omega, H5.out⟩
          case measure =>
            have hn := HNr.out
            have hm := HMr.out
            simp [sliceLen]; try omega
        · --same
          subst hab
          obtain ⟨g, o, rfl, ca⟩ := hE.headA
          obtain ⟨g2, o2, rfl, cb⟩ := hE.headB
          have ME := Lib.hid (fun q => (hE.drewN q).meet HFR.out a0 true true (fun s => each_same a0 r t s) (by simp <;> omega) (fun _ _ h => h.tail cap' hc1) (fun _ _ h => h.tail capb' hc2))
          have ME0 := Lib.hid (hE.meet HFR.out a0 true true (fun s => each_same a0 r t s) (by simp <;> omega) (fun _ _ h => h.tail cap' hc1) (fun _ _ h => h.tail capb' hc2))
          obtain ⟨N, hN⟩ : ∃ N, (a0 :: r).length = N := ⟨_, rfl⟩
          have HNr : Hid (N = r.length + 1) := Lib.hid (by rw [← hN]; simp)
          rw [hN] at hc1 hlm ⊢
          have HNN := Lib.hid hN
          have n1 : ((N : Int) == 0) = false := beq_eq_false_iff_ne.2 (by have := HNr.out; omega)
          have n2 : decide ((0 : Int) < (N : Int)) = true := decide_eq_true (by have := HNr.out; omega)
          have n6 : decide (0 < N) = true := decide_eq_true (by have := HNr.out; omega)
          have n3 : (0 : Int) < (N : Int) := by have := HNr.out; omega
          have n4 : ¬ (N : Int) < 1 := by omega
          have n5 : ¬ (cap' : Int) < (N : Int) := by omega
          clear hN
          obtain ⟨M, hM⟩ : ∃ M, (a0 :: t).length = M := ⟨_, rfl⟩
          have HMr : Hid (M = t.length + 1) := Lib.hid (by rw [← hM]; simp)
          rw [hM] at hc2 hlm ⊢
          have HMM := Lib.hid hM
          have m1 : ((M : Int) == 0) = false := beq_eq_false_iff_ne.2 (by have := HMr.out; omega)
          have m2 : decide ((0 : Int) < (M : Int)) = true := decide_eq_true (by have := HMr.out; omega)
          have m6 : decide (0 < M) = true := decide_eq_true (by have := HMr.out; omega)
          have m3 : (0 : Int) < (M : Int) := by have := HMr.out; omega
          have m4 : ¬ (M : Int) < 1 := by omega
          have m5 : ¬ (capb' : Int) < (M : Int) := by omega
          clear hM
          have v1 : decide ((a0 : Int) ≤ (a0 : Int)) = true := decide_eq_true (by omega)
          have v2 : decide ((a0 : Int) ≤ (a0 : Int)) = true := decide_eq_true (by omega)
          have v3 : decide (a0 ≤ a0) = true := decide_eq_true (by omega)
          have v4 : decide (a0 ≤ a0) = true := decide_eq_true (by omega)
          clear hE
          go_upto_region 1 with fail
          go_quiet (fail)
          go_upto_region 2 with fail
          go_quiet (fail)
          go_wp2_with fail
          with_reducible refine (ME.out _).mono ?_
          rintro e w5 ⟨rfl, h5⟩
          have H5 := Lib.hid h5
          clear h5 ME ME0
          go_wp2_with fail
          go_roundw
          case rel =>
            have hn := HNr.out
            have hm := HMr.out
            exact ⟨_, r, cap' - 1, _, t, capb' - 1, by rw [hn, Nat.add_sub_cancel]; try (split <;> rfl), by rw [hm, Nat.add_sub_cancel]; try (split <;> rfl), by omega, by omega, by (try simp only [List.length_nil]); (try simp only [List.length_nil] at hlm); omega, H5.out⟩
          case measure =>
            have hn := HNr.out
            have hm := HMr.out
            simp [sliceLen]; try omega
        · --more
          obtain ⟨g, o, rfl, ca⟩ := hE.headA
          obtain ⟨g2, o2, rfl, cb⟩ := hE.headB
          have ME := Lib.hid (fun q => (hE.drewN q).meet HFR.out b0 false true (fun s => each_more a0 b0 r t s hab) (by simp <;> omega) (fun _ _ h => h) (fun _ _ h => h.tail capb' hc2))
          have ME0 := Lib.hid (hE.meet HFR.out b0 false true (fun s => each_more a0 b0 r t s hab) (by simp <;> omega) (fun _ _ h => h) (fun _ _ h => h.tail capb' hc2))
          obtain ⟨N, hN⟩ : ∃ N, (a0 :: r).length = N := ⟨_, rfl⟩
          have HNr : Hid (N = r.length + 1) := Lib.hid (by rw [← hN]; simp)
          rw [hN] at hc1 hlm ⊢
          have HNN := Lib.hid hN
          have n1 : ((N : Int) == 0) = false := beq_eq_false_iff_ne.2 (by have := HNr.out; omega)
          have n2 : decide ((0 : Int) < (N : Int)) = true := decide_eq_true (by have := HNr.out; omega)
          have n6 : decide (0 < N) = true := decide_eq_true (by have := HNr.out; omega)
          have n3 : (0 : Int) < (N : Int) := by have := HNr.out; omega
          have n4 : ¬ (N : Int) < 1 := by omega
          have n5 : ¬ (cap' : Int) < (N : Int) := by omega
          clear hN
          obtain ⟨M, hM⟩ : ∃ M, (b0 :: t).length = M := ⟨_, rfl⟩
          have HMr : Hid (M = t.length + 1) := Lib.hid (by rw [← hM]; simp)
          rw [hM] at hc2 hlm ⊢
          have HMM := Lib.hid hM
          have m1 : ((M : Int) == 0) = false := beq_eq_false_iff_ne.2 (by have := HMr.out; omega)
          have m2 : decide ((0 : Int) < (M : Int)) = true := decide_eq_true (by have := HMr.out; omega)
          have m6 : decide (0 < M) = true := decide_eq_true (by have := HMr.out; omega)
          have m3 : (0 : Int) < (M : Int) := by have := HMr.out; omega
          have m4 : ¬ (M : Int) < 1 := by omega
          have m5 : ¬ (capb' : Int) < (M : Int) := by omega
          clear hM
          have v1 : decide ((a0 : Int) ≤ (b0 : Int)) = false := decide_eq_false (by omega)
          have v2 : decide ((b0 : Int) ≤ (a0 : Int)) = true := decide_eq_true (by omega)
          have v3 : decide (a0 ≤ b0) = false := decide_eq_false (by omega)
          have v4 : decide (b0 ≤ a0) = true := decide_eq_true (by omega)
          clear hE
          go_upto_region 1 with fail
          go_quiet (fail)
          go_upto_region 2 with fail
          go_quiet (fail)
          go_wp2_with fail
          with_reducible refine (ME.out _).mono ?_
          rintro e w5 ⟨rfl, h5⟩
          have H5 := Lib.hid h5
          clear h5 ME ME0
          go_wp2_with fail
          go_roundw
          case rel =>
            have hn := HNr.out
            have hm := HMr.out
            exact ⟨_, (a0 :: r), cap', _, t, capb' - 1, by rw [HNN.out], by rw [hm, Nat.add_sub_cancel]; try (split <;> rfl), by rw [HNN.out]; exact hc1, by omega, by (try rw [HNN.out]); (try rw [HMM.out]); (try simp only [List.length_nil]); (try simp only [List.length_nil] at hlm); omega, H5.out⟩
          case measure =>
            have hn := HNr.out
            have hm := HMr.out
            simp [sliceLen]; try omega
end Go.Proofs.YtflnpcgnenhogaaDoor.ls
