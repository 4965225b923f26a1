/- Own lemmas, laid together. -/
import Derived.Test.YtflnpcgnenhogaaGreatDoorDk26
import Derived.Laws.OwnMore
namespace Go.Proofs.YtflnpcgnenhogaaGreatDoor.ls
open Go.RowKit Go.Proofs.YtflnpcgnenhogaaGreatDoor.own Go.Proofs.YtflnpcgnenhogaaGreatDoor.bit

def intV (l : List Nat) : List Value := l.map fun (n : Nat) => Value.int .i64 (n : Int)
theorem intV_append (a b : List Nat) : intV (a ++ b) = intV a ++ intV b := List.map_append ..
theorem intV_set (l : List Nat) (j v : Nat) : (intV l).set j (.int .i64 (v : Int)) = intV (l.set j v) := by unfold intV; rw [List.map_set]
theorem and1 (n : Nat) (h : n < 9223372036854775808) : bits .and .i64 (n : Int) 1 = ((n % 2 : Nat) : Int) := by
 have h1 := (bits_nat .i64 63 (by decide) wraps_i64_63 n 1 (by omega) (by decide)).1
 rw [show n &&& 1 = n % 2 from Nat.and_two_pow_sub_one_eq_mod n 1] at h1
 exact h1
/-- a cell of the row is written -/
theorem VR.stored {x : Nat → Nat} {c : Nat} {e T : TypeId} {w : World} {vb n : Nat} {xs : List Value} (h : VR x c e T 1 w vb n xs) (j : Nat) (hj : j < n) (u : Value) :
  ∃ g cap, w.heap[vb]? = some (.cells #[.slice (some ⟨g, 0, none⟩) n cap] T (0, 0)) ∧ w.cell? ⟨g, j, none⟩ = xs[j]? ∧ (∀ i, w.frozen? ⟨g, i, none⟩ = false) ∧ Fr x x (fun e => e = c) w (w.setCell ⟨g, j, none⟩ u) ∧ VR x c e T 1 (w.setCell ⟨g, j, none⟩ u) vb n (xs.set j u) := by
 obtain ⟨v, h0, hx, ho, hg⟩ := h
 rcases ho.2 with ⟨_, h2⟩ | ⟨g, cap, cur, rfl, hb, hcell, r⟩
 ·omega
 ·have hgg := hg g rfl
  have st := ho.stored j u
  refine ⟨g, cap, h0, ho.cellAt j (by omega), fun i => ho.frozenAt i, Fr.same rfl rfl rfl (by simp) (fun b _ hd => Below.heap_setCell w ⟨g, j, none⟩ u b (fun e => hd (by rw [e]; exact hgg.1))), _, (Below.heap_setCell w ⟨g, j, none⟩ u vb (fun e => hgg.2 e.symm)).trans h0, hx, st.1, hg⟩

/-- what the two lists' closure holds -/
def MSt (x : Nat → Nat) (cf cr : Nat) (w : World) (fb rb : Nat) (s : List Nat × (List Nat × Nat)) : Prop :=
 VR x cf 77 34 1 w fb s.1.length (u32V s.1) ∧ VR x cr 3 83 1 w rb (s.2.1.length + 1) (intV (s.2.1 ++ [s.2.2]))
/-- the last run is one longer -/
def incR (x : Nat → Nat) (cr : Nat) (w : World) (rb : Nat) (I : List Nat) (n : Nat) : Prop := VR x cr 3 83 1 w rb (I.length + 1) (intV (I ++ [n]))
theorem incR.inc {x : Nat → Nat} {cr : Nat} {w : World} {rb : Nat} {I : List Nat} {n : Nat} (h : incR x cr w rb I n) :
  ∃ g cap, w.heap[rb]? = some (.cells #[.slice (some ⟨g, 0, none⟩) (I.length + 1) cap] 83 (0, 0)) ∧ w.cell? ⟨g, I.length, none⟩ = some (.int .i64 (n : Int)) ∧ (∀ i, w.frozen? ⟨g, i, none⟩ = false) ∧
   Fr x x (fun e => e = cr) w (w.setCell ⟨g, I.length, none⟩ (.int .i64 ((n + 1 : Nat) : Int))) ∧ incR x cr (w.setCell ⟨g, I.length, none⟩ (.int .i64 ((n + 1 : Nat) : Int))) rb I (n + 1) := by
 obtain ⟨g, cap, h1, h2, h3, h4, h5⟩ := VR.stored h I.length (Nat.lt_succ_self _) (.int .i64 ((n + 1 : Nat) : Int))
 refine ⟨g, cap, h1, ?_, h3, h4, ?_⟩
 ·rw [h2]
  unfold intV
  simp
 ·rw [intV_set] at h5
  have e : (I ++ [n]).set I.length (n + 1) = I ++ [n + 1] := by rw [List.set_append]; simp
  rw [e] at h5
  exact h5

set_option maxRecDepth 100000 in
set_option maxHeartbeats 3200000 in
theorem meet_any (x : Nat → Nat) (cf cr : Nat) (hfr : cf ≠ cr) (w : World) (fb rb : Nat) (s : List Nat × (List Nat × Nat)) (v : Nat) (own other : Bool) (hf : s.1.length ≤ 1000000) (hi : s.2.1.length ≤ 1000000) (hn : s.2.2 ≤ 1000000) (h : MSt x cf cr w fb rb s) :
  Calls Tryz.prog 121 #[.int .u32 (v : Int), .bool own, .bool other, .pointer (some ⟨fb, 0, none⟩), .pointer (some ⟨rb, 0, none⟩)] w fun e w' => e = .returned (.tuple #[]) ∧ ∃ x', Fr x x' (fun e => e = cf ∨ e = cr) w w' ∧ MSt x' cf cr w' fb rb (meetF s v own other) := by
 obtain ⟨F, I, n⟩ := s
 obtain ⟨hF, hR⟩ := h
 simp only at hF hR hf hi hn
 cases other
 · -- an element of the first alone
  obtain ⟨j0, hj, hj0, hj1, hj2⟩ := info_parts Tryz.infoU32
  have HR := Lib.hid hR
  obtain ⟨vw, g0, gx, go, gg⟩ := hF
  have G0 := Lib.hid g0
  have GG := Lib.hid (And.intro gx gg)
  have c0 : w.cell? ⟨fb, 0, none⟩ = some vw := by rw [cell_of_row w fb _ _ _ _ g0]; rfl
  obtain ⟨s1, d1, hvw⟩ := own_shape go
  have OW2 := Lib.hid (go.alloc (.cells #[.int .u32 (v : Int)] 77))
  have C1 : Hid (∀ j u, ([Value.int .u32 (v : Int)] : List Value)[j]? = some u → (w.alloc (.cells #[.int .u32 (v : Int)] 77)).cell? ((⟨w.heap.size, 0, none⟩ : Addr).add j) = some u) := Lib.hid (fun j u hu => by
   rw [Addr.add_lit, cell_of_row _ _ _ _ _ _ (heap_alloc_new _ _), Nat.zero_add]; simpa using hu)
  have C3 : Hid (F.length + 1 ≤ maxLen) := Lib.hid (by simp only [maxLen]; omega)
  have C4 : Hid ((F.length + 1) * 4 ≤ 140737488355328) := Lib.hid (by omega)
  clear g0 gx go gg hR
  subst hvw
  go_enter Tryz.func121, Tryz.ntmps121
  go_wp2_with (at_builtin; refine wpList_append_at _ rfl _ _ 34 rfl 0 77 j0 _ 1 4 Tryz.underlying34 hj hj0 hj1 hj2 rfl (by decide) _ F.length _ rfl OW2.out ⟨w.heap.size, 0, none⟩ 1 1 [.int .u32 (v : Int)] rfl rfl C1.out (u32_one [v]) C3.out C4.out (Nat.zero_le _) (by decide) ?_)
  intro v2 w2 hown hg hw
  obtain ⟨r2, R⟩ := VR.grown (T := 34) G0.out GG.out.1 GG.out.2 ((Below.refl _ _).alloc (Nat.le_refl _) _) hown hg (by simpa using hw)
  have R := Lib.hid R
  have c2 : w2.cell? ⟨fb, 0, none⟩ = some (.slice s1 F.length d1) := by rw [cell_of_row w2 fb _ _ _ _ r2]; rfl
  have f2 : ∀ j, w2.frozen? ⟨fb, j, none⟩ = false := fun j => frozen_of_row w2 fb j _ _ r2
  obtain ⟨a2, k2, rfl⟩ := own_shape hown
  clear r2 hown hg hw C1 C3 C4 OW2
  go_wp2_with fail
  refine bodyPost_ret (results_none rfl _ _ _) rfl ?_
  obtain ⟨x2, f3, v3⟩ := R.out
  refine ⟨rfl, x2, f3.mono (fun c hc => .inl hc), ?_, HR.out.frame f3 (fun e => hfr e.symm)⟩
  show VR x2 cf _ _ 1 _ fb (F ++ [v]).length (u32V (F ++ [v]))
  rw [u32V_append, List.length_append]
  exact v3
 ·have HF := Lib.hid hF
  obtain ⟨pb, hpb⟩ : ∃ pb, ((I.length + 1) % 2 == 1) = pb := ⟨_, rfl⟩
  have RS : Hid (rst (I, n) own = if own != pb then (I ++ [n], 1) else (I, n + 1)) := Lib.hid (by unfold rst; simp only; rw [hpb])
  have A1 := and1 (I.length + 1) (by omega)
  have A2 : ((((I.length + 1) % 2 : Nat) : Int) == 1) = pb := by
   rw [← hpb]
   rcases Nat.mod_two_eq_zero_or_one (I.length + 1) with h | h <;> rw [h] <;> rfl
  have hRi : incR x cr w rb I n := hR
  obtain ⟨m, hm⟩ : ∃ m, I.length + 1 = m := ⟨_, rfl⟩
  have hm2 : m ≤ 1000001 := by omega
  obtain ⟨g, cap, h1, h2, h3, h4, h5⟩ := hRi.inc
  rw [hm] at h1 A1 A2
  obtain ⟨r2, hr2⟩ : ∃ r2, m % 2 = r2 := ⟨_, rfl⟩
  rw [hr2] at A1 A2
  have HM := Lib.hid hm
  have c0 : w.cell? ⟨rb, 0, none⟩ = some (.slice (some ⟨g, 0, none⟩) m cap) := by rw [cell_of_row w rb _ _ _ _ h1]; rfl
  have HRI := Lib.hid hR
  clear hpb hr2 hm hF hR
  by_cases hneq : (own != pb) = true
  · -- a run more
   have RS2 := RS.out
   rw [if_pos hneq] at RS2
   have RS3 := Lib.hid RS2
   have hq : (own == pb) = false := by cases own <;> cases pb <;> simp_all
   obtain ⟨j0, hj, hj0, hj1, hj2⟩ := info_parts Tryz.infoInt
   obtain ⟨vw, g0, gx, go, gg⟩ := HRI.out
   rw [HM.out] at go
   have hvw : vw = .slice (some ⟨g, 0, none⟩) m cap := by
    have e := g0.symm.trans h1
    simpa using e
   subst hvw
   have G0 := Lib.hid g0
   have GG := Lib.hid (And.intro gx gg)
   have OW2 := Lib.hid (go.alloc (.cells #[.int .i64 0] 3))
   have C1 : Hid (∀ j u, ([Value.int .i64 0] : List Value)[j]? = some u → (w.alloc (.cells #[.int .i64 0] 3)).cell? ((⟨w.heap.size, 0, none⟩ : Addr).add j) = some u) := Lib.hid (fun j u hu => by
    rw [Addr.add_lit, cell_of_row _ _ _ _ _ _ (heap_alloc_new _ _), Nat.zero_add]; simpa using hu)
   have C2 : Hid (∀ u ∈ ([Value.int .i64 0] : List Value), u.oneCell' = true) := Lib.hid (fun u hu => by simp at hu; subst hu; rfl)
   have C3 : Hid (m + 1 ≤ maxLen) := Lib.hid (by simp only [maxLen]; omega)
   have C4 : Hid ((m + 1) * 8 ≤ 140737488355328) := Lib.hid (by omega)
   clear g0 gx go gg h1 h2 h3 h4 h5 RS2 RS
   go_enter Tryz.func121, Tryz.ntmps121
   go_wp2_with (at_builtin; refine wpList_append_at _ rfl _ _ 83 rfl 0 3 j0 _ 1 8 Tryz.underlying83 hj hj0 hj1 hj2 rfl (by decide) _ m _ rfl OW2.out ⟨w.heap.size, 0, none⟩ 1 1 [.int .i64 0] rfl rfl C1.out C2.out C3.out C4.out (Nat.zero_le _) (by decide) ?_)
   intro v2 w2 hown hg hw
   obtain ⟨r3, R⟩ := VR.grown (T := 83) G0.out GG.out.1 GG.out.2 ((Below.refl _ _).alloc (Nat.le_refl _) _) hown hg (by simpa using hw)
   have R := Lib.hid R
   have c2 : w2.cell? ⟨rb, 0, none⟩ = some (.slice (some ⟨g, 0, none⟩) m cap) := by rw [cell_of_row w2 rb _ _ _ _ r3]; rfl
   have f2 : ∀ j, w2.frozen? ⟨rb, j, none⟩ = false := fun j => frozen_of_row w2 rb j _ _ r3
   obtain ⟨a2, k2, rfl⟩ := own_shape hown
   clear r3 hown hg hw C1 C2 C3 C4 OW2 c0 A1 A2
   go_upto_region 4 with fail
   generalize w2.setCell ⟨rb, 0, none⟩ (.slice a2 (m + 1) k2) = w3 at R ⊢
   clear c2 f2
   obtain ⟨x2, f3, v3⟩ := R.out
   have v4 : incR x2 cr w3 rb (I ++ [n]) 0 := by
    show VR x2 cr _ _ 1 w3 rb ((I ++ [n]).length + 1) (intV ((I ++ [n]) ++ [0]))
    rw [intV_append, List.length_append, List.length_singleton, HM.out]
    exact v3
   obtain ⟨g', cap', h1, h2, h3, h4, h5⟩ := v4.inc
   have el : (I ++ [n]).length = m := by rw [List.length_append, List.length_singleton]; exact HM.out
   rw [el] at h1 h2 h4 h5
   have e0 : w3.cell? ⟨rb, 0, none⟩ = some (.slice (some ⟨g', 0, none⟩) (m + 1) cap') := by rw [cell_of_row w3 rb _ _ _ _ h1]; rfl
   have HH := Lib.hid (And.intro h4 h5)
   have F3 := Lib.hid f3
   have HFF := Lib.hid (HF.out.frame f3 hfr |>.frame h4 hfr)
   have i1 : IntKind.i64.wrap (((m + 1 : Nat) : Int) - 1) = (m : Int) := by rw [IntWalk.i64_in _ (by omega)]; omega
   have i2 : (m : Int) < ((m + 1 : Nat) : Int) := by omega
   have i3 : (0 : Int) ≤ (m : Int) := by omega
   clear v3 v4 f3 h1 h4 h5 R
   go_wp2_with fail
   go_end0
   refine ⟨rfl, x2, (F3.out.mono (fun c hc => .inr hc)).trans (HH.out.1.mono (fun c hc => .inr hc)), ?_⟩
   show MSt x2 cf cr _ fb rb (F, rst (I, n) own)
   rw [RS3.out]
   refine ⟨HFF.out, ?_⟩
   have := HH.out.2
   unfold incR at this
   rw [el] at this
   show VR x2 cr _ _ 1 _ rb ((I ++ [n]).length + 1) (intV ((I ++ [n]) ++ [1]))
   rw [el]
   exact this
  ·have hq : (own == pb) = true := by cases own <;> cases pb <;> simp_all
   have RS2 := RS.out
   rw [if_neg hneq] at RS2
   have RS3 := Lib.hid RS2
   have HH := Lib.hid (And.intro h4 h5)
   have HFF := Lib.hid (HF.out.frame h4 hfr)
   obtain ⟨k, hk⟩ : ∃ k, I.length = k := ⟨_, rfl⟩
   rw [hk] at h2 HM
   have HK := Lib.hid hk
   have i1 : IntKind.i64.wrap ((m : Int) - 1) = (k : Int) := by have := HM.out; rw [IntWalk.i64_in _ (by omega)]; omega
   have i2 : (k : Int) < (m : Int) := by have := HM.out; omega
   have i3 : (0 : Int) ≤ (k : Int) := by omega
   clear h1 h4 h5 RS RS2 hneq hk
   go_enter Tryz.func121, Tryz.ntmps121
   go_wp2_with fail
   go_end0
   refine ⟨rfl, x, ?_, ?_⟩
   ·rw [← HK.out]; exact HH.out.1.mono (fun c hc => .inr hc)
   ·show MSt x cf cr _ fb rb (F, rst (I, n) own)
    rw [RS3.out, ← HK.out]
    exact ⟨HFF.out, HH.out.2⟩
end Go.Proofs.YtflnpcgnenhogaaGreatDoor.ls
namespace Go.Proofs.YtflnpcgnenhogaaGreatDoor.ls
open Go.RowKit Go.Proofs.YtflnpcgnenhogaaGreatDoor.own Go.Proofs.YtflnpcgnenhogaaGreatDoor.bit

/-- a list that is only read, in a block whose colour is none of C -/
def LVx (x : Nat → Nat) (C : Nat → Prop) (w : World) (a : Option Addr) (l : List Nat) : Prop :=
 l.length ≤ 4611686018427387903 ∧ ∀ i (h : i < l.length), ∃ g o, a = some ⟨g, o, none⟩ ∧ g < w.heap.size ∧ w.cell? ⟨g, o + i, none⟩ = some (.int .u32 (l[i] : Int)) ∧ l[i] < 4294967296 ∧ ¬ C (x g)
theorem LVx.frame {x x' : Nat → Nat} {C : Nat → Prop} {w w' : World} {a : Option Addr} {l : List Nat} (h : LVx x C w a l) (hf : Fr x x' C w w') : LVx x' C w' a l :=
 ⟨h.1, fun i hi => by
  obtain ⟨g, o, h1, h2, h3, h4, h5⟩ := h.2 i hi
  refine ⟨g, o, h1, Nat.lt_of_lt_of_le h2 hf.size, ?_, h4, by rw [hf.col g h2]; exact h5⟩
  rw [World.cell?_of_block (w := w) (hf.old g h2 h5)]
  exact h3⟩
/-- a slice without its first element -/
theorem LVx.tail {x : Nat → Nat} {C : Nat → Prop} {w : World} {g o a0 : Nat} {r : List Nat} (cap : Nat) (hc : r.length + 1 ≤ cap) (h : LVx x C w (some ⟨g, o, none⟩) (a0 :: r)) : LVx x C w (if cap = 1 then some ⟨g, o, none⟩ else some ⟨g, o + 1, none⟩) r := by
 refine ⟨by have := h.1; simp at this; omega, fun i hi => ?_⟩
 rw [if_neg (by omega)]
 obtain ⟨g', o', e, h2, h3, h4, h5⟩ := h.2 (i + 1) (by simp; omega)
 injection e with e; injection e with e1 e2
 subst e1 e2
 refine ⟨g, o + 1, rfl, h2, ?_, by simpa using h4, h5⟩
 rw [Nat.add_assoc, Nat.add_comm 1 i, h3]
 simp
theorem LVx.head {x : Nat → Nat} {C : Nat → Prop} {w : World} {a : Option Addr} {a0 : Nat} {r : List Nat} (h : LVx x C w a (a0 :: r)) : ∃ g o, a = some ⟨g, o, none⟩ ∧ w.cell? ⟨g, o, none⟩ = some (.int .u32 (a0 : Int)) := by
 obtain ⟨g, o, e, h2, h3, h4, h5⟩ := h.2 0 (by simp)
 exact ⟨g, o, e, by simpa using h3⟩
/-- on the way through two lists -/
structure ES (x : Nat → Nat) (cf cr : Nat) (w : World) (fb rb : Nat) (S : List Nat × (List Nat × Nat)) (a : Option Addr) (l : List Nat) (b : Option Addr) (m : List Nat) (W : World) : Prop where
 ex : ∃ x' s, Fr x x' (fun e => e = cf ∨ e = cr) w W ∧ LVx x' (fun e => e = cf ∨ e = cr) W a l ∧ LVx x' (fun e => e = cf ∨ e = cr) W b m ∧ MSt x' cf cr W fb rb s ∧ eachF l m s = S ∧ s.1.length + l.length + m.length ≤ 131072 ∧ s.2.1.length + l.length + m.length ≤ 131072 ∧ s.2.2 + l.length + m.length ≤ 131073
theorem ES.drewN {x : Nat → Nat} {cf cr : Nat} {w W : World} {fb rb : Nat} {S : List Nat × (List Nat × Nat)} {a b : Option Addr} {l m : List Nat} (h : ES x cf cr w fb rb S a l b m W) (n : Nat) : ES x cf cr w fb rb S a l b m (W.drewN n) := by
 obtain ⟨x', s, hf, h1, h2, ⟨h3, h4⟩, h5⟩ := h
 have k : Fr x' x' (fun _ => False) W (W.drewN n) := Fr.same rfl rfl rfl rfl (fun _ _ _ => rfl)
 have k2 : Fr x' x' (fun e => e = cf ∨ e = cr) W (W.drewN n) := k.mono (fun _ h => h.elim)
 exact ⟨x', s, hf.trans k2, h1.frame k2, h2.frame k2, ⟨h3.frame k id, h4.frame k id⟩, h5⟩
theorem ES.headA {x : Nat → Nat} {cf cr : Nat} {w W : World} {fb rb : Nat} {S : List Nat × (List Nat × Nat)} {a b : Option Addr} {a0 : Nat} {r m : List Nat} (h : ES x cf cr w fb rb S a (a0 :: r) b m W) : ∃ g o, a = some ⟨g, o, none⟩ ∧ W.cell? ⟨g, o, none⟩ = some (.int .u32 (a0 : Int)) := by
 obtain ⟨x', s, _, h1, _⟩ := h.ex
 exact h1.head
theorem ES.headB {x : Nat → Nat} {cf cr : Nat} {w W : World} {fb rb : Nat} {S : List Nat × (List Nat × Nat)} {a b : Option Addr} {b0 : Nat} {l t : List Nat} (h : ES x cf cr w fb rb S a l b (b0 :: t) W) : ∃ g o, b = some ⟨g, o, none⟩ ∧ W.cell? ⟨g, o, none⟩ = some (.int .u32 (b0 : Int)) := by
 obtain ⟨x', s, _, _, h2, _⟩ := h.ex
 exact h2.head
theorem meet_len (s : List Nat × (List Nat × Nat)) (v : Nat) (o p : Bool) : (meetF s v o p).1.length ≤ s.1.length + 1 ∧ (meetF s v o p).2.1.length ≤ s.2.1.length + 1 ∧ (meetF s v o p).2.2 ≤ s.2.2 + 1 := by
 unfold meetF rst
 cases p
 ·simp
 ·simp only [if_true]
  split <;> simp
/-- an element is met; what follows stands -/
theorem ES.meet {x : Nat → Nat} {cf cr : Nat} (hfr : cf ≠ cr) {w W : World} {fb rb : Nat} {S : List Nat × (List Nat × Nat)} {a b a' b' : Option Addr} {l m l' m' : List Nat} (h : ES x cf cr w fb rb S a l b m W) (v : Nat) (own other : Bool)
  (hE : ∀ s, eachF l m s = eachF l' m' (meetF s v own other)) (hl : l'.length + m'.length + 1 ≤ l.length + m.length) (hA : ∀ x' W', LVx x' (fun e => e = cf ∨ e = cr) W' a l → LVx x' (fun e => e = cf ∨ e = cr) W' a' l') (hB : ∀ x' W', LVx x' (fun e => e = cf ∨ e = cr) W' b m → LVx x' (fun e => e = cf ∨ e = cr) W' b' m') :
  Calls Tryz.prog 121 #[.int .u32 (v : Int), .bool own, .bool other, .pointer (some ⟨fb, 0, none⟩), .pointer (some ⟨rb, 0, none⟩)] W fun e w' => e = .returned (.tuple #[]) ∧ ES x cf cr w fb rb S a' l' b' m' w' := by
 obtain ⟨x', s, hf, h1, h2, h3, h4, h5, h6, h7⟩ := h.ex
 refine (meet_any x' cf cr hfr W fb rb s v own other (by omega) (by omega) (by omega) h3).mono ?_
 rintro e w' ⟨rfl, x2, f2, hM⟩
 have ml := meet_len s v own other
 exact ⟨rfl, x2, meetF s v own other, hf.trans f2, hA _ _ (h1.frame f2), hB _ _ (h2.frame f2), hM, by rw [← hE]; exact h4, by omega, by omega, by omega⟩
theorem each_less (a b : Nat) (r t : List Nat) (s : List Nat × (List Nat × Nat)) (h : a < b) : eachF (a :: r) (b :: t) s = eachF r (b :: t) (meetF s a true false) := by rw [eachF, if_pos h]
theorem each_more (a b : Nat) (r t : List Nat) (s : List Nat × (List Nat × Nat)) (h : b < a) : eachF (a :: r) (b :: t) s = eachF (a :: r) t (meetF s b false true) := by rw [eachF, if_neg (by omega), if_pos h]
theorem each_same (a : Nat) (r t : List Nat) (s : List Nat × (List Nat × Nat)) : eachF (a :: r) (a :: t) s = eachF r t (meetF s a true true) := by rw [eachF, if_neg (by omega), if_neg (by omega)]
theorem each_a (a : Nat) (r : List Nat) (s : List Nat × (List Nat × Nat)) : eachF (a :: r) [] s = eachF r [] (meetF s a true false) := by rw [eachF]
theorem each_b (b : Nat) (t : List Nat) (s : List Nat × (List Nat × Nat)) : eachF [] (b :: t) s = eachF [] t (meetF s b false true) := by rw [eachF]
theorem each_nil (s : List Nat × (List Nat × Nat)) : eachF [] [] s = s := by rw [eachF]

set_option maxRecDepth 100000 in
set_option maxHeartbeats 6400000 in
theorem each_any (x : Nat → Nat) (cf cr : Nat) (hfr : cf ≠ cr) (w : World) (fb rb : Nat) (a : Option Addr) (l : List Nat) (cap : Nat) (b : Option Addr) (m : List Nat) (capb : Nat) (hc : l.length ≤ cap) (hcb : m.length ≤ capb) (hl : l.length + m.length ≤ 131072)
  (hA : LVx x (fun e => e = cf ∨ e = cr) w a l) (hB : LVx x (fun e => e = cf ∨ e = cr) w b m) (h : MSt x cf cr w fb rb ([], ([], 0))) :
  Calls Tryz.prog 120 #[.slice a l.length cap, .slice b m.length capb, .func (.func 121) #[] #[.pointer (some ⟨fb, 0, none⟩), .pointer (some ⟨rb, 0, none⟩)]] w fun e w' =>
   e = .returned (.tuple #[]) ∧ ∃ x', Fr x x' (fun e => e = cf ∨ e = cr) w w' ∧ MSt x' cf cr w' fb rb (eachF l m ([], ([], 0))) := by
 obtain ⟨S, hS⟩ : ∃ S, eachF l m ([], ([], 0)) = S := ⟨_, rfl⟩
 have E0 := Lib.hid (ES.mk (S := S) ⟨x, ([], ([], 0)), Fr.refl _ _ _, hA, hB, h, hS, by simpa using hl, by simpa using hl, by simp; omega⟩)
 have HFR := Lib.hid hfr
 rw [hS]
 clear hS hA hB h hfr
 go_enter Tryz.func120, Tryz.ntmps120
 go_wp2_with fail
 go_loopw [0, 1] (fun va vb wr => ∃ (a' : Option Addr) (l' : List Nat) (cap' : Nat) (b' : Option Addr) (m' : List Nat) (capb' : Nat), va = .slice a' l'.length cap' ∧ vb = .slice b' m'.length capb' ∧ l'.length ≤ cap' ∧ m'.length ≤ capb' ∧ l'.length + m'.length ≤ 131072 ∧ ES x cf cr w fb rb S a' l' b' m' wr)
  (fun va vb _ => sliceLen va + sliceLen vb)
 case atStart => exact ⟨a, l, cap, b, m, capb, rfl, rfl, hc, hcb, hl, E0.out⟩
 case round =>
  clear E0
  obtain ⟨a', l', cap', b', m', capb', rfl, rfl, hc1, hc2, hlm, hE⟩ := hrel
  cases l' with
  | nil =>
   cases m' with
   | nil =>
    have HE := Lib.hid hE
    clear hE
    simp only [List.length_nil]
    go_wp2_with fail
    go_end0
    obtain ⟨x', s, hf, _, _, h3, h4, _⟩ := HE.out.ex
    rw [each_nil] at h4
    exact ⟨rfl, x', hf, h4 ▸ h3⟩
   | cons b0 t =>
    obtain ⟨g2, o2, rfl, cb⟩ := hE.headB
    have ME := Lib.hid (fun q => (hE.drewN q).meet HFR.out b0 false true (fun s => each_b b0 t s) (by simp <;> omega) (fun _ _ h => h) (fun _ _ h => h.tail capb' hc2))
    have ME0 := Lib.hid (hE.meet HFR.out b0 false true (fun s => each_b b0 t s) (by simp <;> omega) (fun _ _ h => h) (fun _ _ h => h.tail capb' hc2))
    obtain ⟨M, hM⟩ : ∃ M, (b0 :: t).length = M := ⟨_, rfl⟩
    have HMr : Hid (M = t.length + 1) := Lib.hid (by rw [← hM]; simp)
    rw [hM] at hc2 hlm ⊢
    have HMM := Lib.hid hM
    have m1 : ((M : Int) == 0) = false := beq_eq_false_iff_ne.2 (by have := HMr.out; omega)
    have m2 : decide ((0 : Int) < (M : Int)) = true := decide_eq_true (by have := HMr.out; omega)
    have m6 : decide (0 < M) = true := decide_eq_true (by have := HMr.out; omega)
    have m3 : (0 : Int) < (M : Int) := by have := HMr.out; omega
    have m4 : ¬ (M : Int) < 1 := by omega
    have m5 : ¬ (capb' : Int) < (M : Int) := by omega
    clear hM
    simp only [List.length_nil]
    clear hE
    go_upto_region 1 with fail
    go_quiet (fail)
    go_upto_region 2 with fail
    go_quiet (fail)
    go_wp2_with fail
    with_reducible refine (ME.out _).mono ?_
    rintro e w5 ⟨rfl, h5⟩
    have H5 := Lib.hid h5
    clear h5 ME ME0
    go_wp2_with fail
    go_roundw
    case rel =>
     skip
     have hm := HMr.out
     exact ⟨_, [], cap', _, t, capb' - 1, rfl, by rw [hm, Nat.add_sub_cancel]; try (split <;> rfl), hc1, by omega, by (try simp only [List.length_nil]); (try simp only [List.length_nil] at hlm); omega, H5.out⟩
    case measure =>
     skip
     have hm := HMr.out
     simp [sliceLen]; try omega
  | cons a0 r =>
   cases m' with
   | nil =>
    obtain ⟨g, o, rfl, ca⟩ := hE.headA
    have ME := Lib.hid (fun q => (hE.drewN q).meet HFR.out a0 true false (fun s => each_a a0 r s) (by simp <;> omega) (fun _ _ h => h.tail cap' hc1) (fun _ _ h => h))
    have ME0 := Lib.hid (hE.meet HFR.out a0 true false (fun s => each_a a0 r s) (by simp <;> omega) (fun _ _ h => h.tail cap' hc1) (fun _ _ h => h))
    obtain ⟨N, hN⟩ : ∃ N, (a0 :: r).length = N := ⟨_, rfl⟩
    have HNr : Hid (N = r.length + 1) := Lib.hid (by rw [← hN]; simp)
    rw [hN] at hc1 hlm ⊢
    have HNN := Lib.hid hN
    have n1 : ((N : Int) == 0) = false := beq_eq_false_iff_ne.2 (by have := HNr.out; omega)
    have n2 : decide ((0 : Int) < (N : Int)) = true := decide_eq_true (by have := HNr.out; omega)
    have n6 : decide (0 < N) = true := decide_eq_true (by have := HNr.out; omega)
    have n3 : (0 : Int) < (N : Int) := by have := HNr.out; omega
    have n4 : ¬ (N : Int) < 1 := by omega
    have n5 : ¬ (cap' : Int) < (N : Int) := by omega
    clear hN
    simp only [List.length_nil]
    clear hE
    go_upto_region 1 with fail
    go_quiet (fail)
    go_upto_region 2 with fail
    go_quiet (fail)
    go_wp2_with fail
    with_reducible refine (ME.out _).mono ?_
    rintro e w5 ⟨rfl, h5⟩
    have H5 := Lib.hid h5
    clear h5 ME ME0
    go_wp2_with fail
    go_roundw
    case rel =>
     have hn := HNr.out
     skip
     exact ⟨_, r, cap' - 1, _, [], capb', by rw [hn, Nat.add_sub_cancel]; try (split <;> rfl), rfl, by omega, hc2, by (try simp only [List.length_nil]); (try simp only [List.length_nil] at hlm); omega, H5.out⟩
    case measure =>
     have hn := HNr.out
     skip
     simp [sliceLen]; try omega
   | cons b0 t =>
    rcases Nat.lt_trichotomy a0 b0 with hab | hab | hab
    · --less
     obtain ⟨g, o, rfl, ca⟩ := hE.headA
     obtain ⟨g2, o2, rfl, cb⟩ := hE.headB
     have ME := Lib.hid (fun q => (hE.drewN q).meet HFR.out a0 true false (fun s => each_less a0 b0 r t s hab) (by simp <;> omega) (fun _ _ h => h.tail cap' hc1) (fun _ _ h => h))
     have ME0 := Lib.hid (hE.meet HFR.out a0 true false (fun s => each_less a0 b0 r t s hab) (by simp <;> omega) (fun _ _ h => h.tail cap' hc1) (fun _ _ h => h))
     obtain ⟨N, hN⟩ : ∃ N, (a0 :: r).length = N := ⟨_, rfl⟩
     have HNr : Hid (N = r.length + 1) := Lib.hid (by rw [← hN]; simp)
     rw [hN] at hc1 hlm ⊢
     have HNN := Lib.hid hN
     have n1 : ((N : Int) == 0) = false := beq_eq_false_iff_ne.2 (by have := HNr.out; omega)
     have n2 : decide ((0 : Int) < (N : Int)) = true := decide_eq_true (by have := HNr.out; omega)
     have n6 : decide (0 < N) = true := decide_eq_true (by have := HNr.out; omega)
     have n3 : (0 : Int) < (N : Int) := by have := HNr.out; omega
     have n4 : ¬ (N : Int) < 1 := by omega
     have n5 : ¬ (cap' : Int) < (N : Int) := by omega
     clear hN
     obtain ⟨M, hM⟩ : ∃ M, (b0 :: t).length = M := ⟨_, rfl⟩
     have HMr : Hid (M = t.length + 1) := Lib.hid (by rw [← hM]; simp)
     rw [hM] at hc2 hlm ⊢
     have HMM := Lib.hid hM
     have m1 : ((M : Int) == 0) = false := beq_eq_false_iff_ne.2 (by have := HMr.out; omega)
     have m2 : decide ((0 : Int) < (M : Int)) = true := decide_eq_true (by have := HMr.out; omega)
     have m6 : decide (0 < M) = true := decide_eq_true (by have := HMr.out; omega)
     have m3 : (0 : Int) < (M : Int) := by have := HMr.out; omega
     have m4 : ¬ (M : Int) < 1 := by omega
     have m5 : ¬ (capb' : Int) < (M : Int) := by omega
     clear hM
     have v1 : decide ((a0 : Int) ≤ (b0 : Int)) = true := decide_eq_true (by omega)
     have v2 : decide ((b0 : Int) ≤ (a0 : Int)) = false := decide_eq_false (by omega)
     have v3 : decide (a0 ≤ b0) = true := decide_eq_true (by omega)
     have v4 : decide (b0 ≤ a0) = false := decide_eq_false (by omega)
     clear hE
     go_upto_region 1 with fail
     go_quiet (fail)
     go_upto_region 2 with fail
     go_quiet (fail)
     go_wp2_with fail
     with_reducible refine (ME.out _).mono ?_
     rintro e w5 ⟨rfl, h5⟩
     have H5 := Lib.hid h5
     clear h5 ME ME0
     go_wp2_with fail
     go_roundw
     case rel =>
      have hn := HNr.out
      have hm := HMr.out
      exact ⟨_, r, cap' - 1, _, (b0 :: t), capb', by rw [hn, Nat.add_sub_cancel]; try (split <;> rfl), by rw [HMM.out], by omega, by rw [HMM.out]; exact hc2, by (try rw [HNN.out]); (try rw [HMM.out]); (try simp only [List.length_nil]); (try simp only [List.length_nil] at hlm); omega, H5.out⟩
     case measure =>
      have hn := HNr.out
      have hm := HMr.out
      simp [sliceLen]; try omega
    · --same
     subst hab
     obtain ⟨g, o, rfl, ca⟩ := hE.headA
     obtain ⟨g2, o2, rfl, cb⟩ := hE.headB
     have ME := Lib.hid (fun q => (hE.drewN q).meet HFR.out a0 true true (fun s => each_same a0 r t s) (by simp <;> omega) (fun _ _ h => h.tail cap' hc1) (fun _ _ h => h.tail capb' hc2))
     have ME0 := Lib.hid (hE.meet HFR.out a0 true true (fun s => each_same a0 r t s) (by simp <;> omega) (fun _ _ h => h.tail cap' hc1) (fun _ _ h => h.tail capb' hc2))
     obtain ⟨N, hN⟩ : ∃ N, (a0 :: r).length = N := ⟨_, rfl⟩
     have HNr : Hid (N = r.length + 1) := Lib.hid (by rw [← hN]; simp)
     rw [hN] at hc1 hlm ⊢
     have HNN := Lib.hid hN
     have n1 : ((N : Int) == 0) = false := beq_eq_false_iff_ne.2 (by have := HNr.out; omega)
     have n2 : decide ((0 : Int) < (N : Int)) = true := decide_eq_true (by have := HNr.out; omega)
     have n6 : decide (0 < N) = true := decide_eq_true (by have := HNr.out; omega)
     have n3 : (0 : Int) < (N : Int) := by have := HNr.out; omega
     have n4 : ¬ (N : Int) < 1 := by omega
     have n5 : ¬ (cap' : Int) < (N : Int) := by omega
     clear hN
     obtain ⟨M, hM⟩ : ∃ M, (a0 :: t).length = M := ⟨_, rfl⟩
     have HMr : Hid (M = t.length + 1) := Lib.hid (by rw [← hM]; simp)
     rw [hM] at hc2 hlm ⊢
     have HMM := Lib.hid hM
     have m1 : ((M : Int) == 0) = false := beq_eq_false_iff_ne.2 (by have := HMr.out; omega)
     have m2 : decide ((0 : Int) < (M : Int)) = true := decide_eq_true (by have := HMr.out; omega)
     have m6 : decide (0 < M) = true := decide_eq_true (by have := HMr.out; omega)
     have m3 : (0 : Int) < (M : Int) := by have := HMr.out; omega
     have m4 : ¬ (M : Int) < 1 := by omega
     have m5 : ¬ (capb' : Int) < (M : Int) := by omega
     clear hM
     have v1 : decide ((a0 : Int) ≤ (a0 : Int)) = true := decide_eq_true (by omega)
     have v2 : decide ((a0 : Int) ≤ (a0 : Int)) = true := decide_eq_true (by omega)
     have v3 : decide (a0 ≤ a0) = true := decide_eq_true (by omega)
     have v4 : decide (a0 ≤ a0) = true := decide_eq_true (by omega)
     clear hE
     go_upto_region 1 with fail
     go_quiet (fail)
     go_upto_region 2 with fail
     go_quiet (fail)
     go_wp2_with fail
     with_reducible refine (ME.out _).mono ?_
     rintro e w5 ⟨rfl, h5⟩
     have H5 := Lib.hid h5
     clear h5 ME ME0
     go_wp2_with fail
     go_roundw
     case rel =>
      have hn := HNr.out
      have hm := HMr.out
      exact ⟨_, r, cap' - 1, _, t, capb' - 1, by rw [hn, Nat.add_sub_cancel]; try (split <;> rfl), by rw [hm, Nat.add_sub_cancel]; try (split <;> rfl), by omega, by omega, by (try simp only [List.length_nil]); (try simp only [List.length_nil] at hlm); omega, H5.out⟩
     case measure =>
      have hn := HNr.out
      have hm := HMr.out
      simp [sliceLen]; try omega
    · --more
     obtain ⟨g, o, rfl, ca⟩ := hE.headA
     obtain ⟨g2, o2, rfl, cb⟩ := hE.headB
     have ME := Lib.hid (fun q => (hE.drewN q).meet HFR.out b0 false true (fun s => each_more a0 b0 r t s hab) (by simp <;> omega) (fun _ _ h => h) (fun _ _ h => h.tail capb' hc2))
     have ME0 := Lib.hid (hE.meet HFR.out b0 false true (fun s => each_more a0 b0 r t s hab) (by simp <;> omega) (fun _ _ h => h) (fun _ _ h => h.tail capb' hc2))
     obtain ⟨N, hN⟩ : ∃ N, (a0 :: r).length = N := ⟨_, rfl⟩
     have HNr : Hid (N = r.length + 1) := Lib.hid (by rw [← hN]; simp)
     rw [hN] at hc1 hlm ⊢
     have HNN := Lib.hid hN
     have n1 : ((N : Int) == 0) = false := beq_eq_false_iff_ne.2 (by have := HNr.out; omega)
     have n2 : decide ((0 : Int) < (N : Int)) = true := decide_eq_true (by have := HNr.out; omega)
     have n6 : decide (0 < N) = true := decide_eq_true (by have := HNr.out; omega)
     have n3 : (0 : Int) < (N : Int) := by have := HNr.out; omega
     have n4 : ¬ (N : Int) < 1 := by omega
     have n5 : ¬ (cap' : Int) < (N : Int) := by omega
     clear hN
     obtain ⟨M, hM⟩ : ∃ M, (b0 :: t).length = M := ⟨_, rfl⟩
     have HMr : Hid (M = t.length + 1) := Lib.hid (by rw [← hM]; simp)
     rw [hM] at hc2 hlm ⊢
     have HMM := Lib.hid hM
     have m1 : ((M : Int) == 0) = false := beq_eq_false_iff_ne.2 (by have := HMr.out; omega)
     have m2 : decide ((0 : Int) < (M : Int)) = true := decide_eq_true (by have := HMr.out; omega)
     have m6 : decide (0 < M) = true := decide_eq_true (by have := HMr.out; omega)
     have m3 : (0 : Int) < (M : Int) := by have := HMr.out; omega
     have m4 : ¬ (M : Int) < 1 := by omega
     have m5 : ¬ (capb' : Int) < (M : Int) := by omega
     clear hM
     have v1 : decide ((a0 : Int) ≤ (b0 : Int)) = false := decide_eq_false (by omega)
     have v2 : decide ((b0 : Int) ≤ (a0 : Int)) = true := decide_eq_true (by omega)
     have v3 : decide (a0 ≤ b0) = false := decide_eq_false (by omega)
     have v4 : decide (b0 ≤ a0) = true := decide_eq_true (by omega)
     clear hE
     go_upto_region 1 with fail
     go_quiet (fail)
     go_upto_region 2 with fail
     go_quiet (fail)
     go_wp2_with fail
     with_reducible refine (ME.out _).mono ?_
     rintro e w5 ⟨rfl, h5⟩
     have H5 := Lib.hid h5
     clear h5 ME ME0
     go_wp2_with fail
     go_roundw
     case rel =>
      have hn := HNr.out
      have hm := HMr.out
      exact ⟨_, (a0 :: r), cap', _, t, capb' - 1, by rw [HNN.out], by rw [hm, Nat.add_sub_cancel]; try (split <;> rfl), by rw [HNN.out]; exact hc1, by omega, by (try rw [HNN.out]); (try rw [HMM.out]); (try simp only [List.length_nil]); (try simp only [List.length_nil] at hlm); omega, H5.out⟩
     case measure =>
      have hn := HNr.out
      have hm := HMr.out
      simp [sliceLen]; try omega
end Go.Proofs.YtflnpcgnenhogaaGreatDoor.ls
namespace Go.Proofs.YtflnpcgnenhogaaGreatDoor.ls
open Go.RowKit Go.Proofs.YtflnpcgnenhogaaGreatDoor.own Go.Proofs.YtflnpcgnenhogaaGreatDoor.bit

/-- the package's two codes lie where they were laid -/
structure GL (w : World) : Prop where
 g0 : w.cell? ⟨0, 0, none⟩ = some (.int .u8 1)
 g1 : w.cell? ⟨0, 1, none⟩ = some (.int .u64 0)
 u0 : w.cell? ⟨1, 0, none⟩ = some (.int .u8 0)
 u1 : w.cell? ⟨1, 1, none⟩ = some (.int .u64 0)
theorem GL.below {w W : World} (h : GL w) (k : Below w.heap.size w W) : GL W :=
 ⟨(k.cell (World.block_lt_of_cell? _ _ h.g0)).trans h.g0, (k.cell (World.block_lt_of_cell? _ _ h.g1)).trans h.g1, (k.cell (World.block_lt_of_cell? _ _ h.u0)).trans h.u0, (k.cell (World.block_lt_of_cell? _ _ h.u1)).trans h.u1⟩

/-- the numbers so far, and rows beside them, made since w -/
def NS0 (w : World) (lb : Nat) (L : List (Cd × Nat)) (ks : List (Nat × Obj)) (W : World) : Prop :=
 ∃ x, Fr (fun _ => 100) x (fun c => c < 50) w W ∧ VR x 1 175 172 3 W lb L.length (nmV L) ∧ ∀ p ∈ ks, x p.1 = 49 ∧ W.heap[p.1]? = some p.2
/-- and the runs, what is left -/
def NS (w : World) (lb fb rb : Nat) (L : List (Cd × Nat)) (s : List Nat × (List Nat × Nat)) (ks : List (Nat × Obj)) (W : World) : Prop :=
 ∃ x, Fr (fun _ => 100) x (fun c => c < 50) w W ∧ VR x 1 175 172 3 W lb L.length (nmV L) ∧ MSt x 2 3 W fb rb s ∧ ∀ p ∈ ks, x p.1 = 49 ∧ W.heap[p.1]? = some p.2
theorem fr_below {x : Nat → Nat} {w W : World} (hf : Fr (fun _ => 100) x (fun c => c < 50) w W) : Below w.heap.size w W :=
 ⟨hf.os, hf.tape, hf.output, hf.size, fun b hb => hf.old b hb (by show ¬ (100 : Nat) < 50; decide)⟩
theorem NS.ns0 {w W : World} {lb fb rb : Nat} {L : List (Cd × Nat)} {s : List Nat × (List Nat × Nat)} {ks : List (Nat × Obj)} (h : NS w lb fb rb L s ks W) : NS0 w lb L ks W := by
 obtain ⟨x, h1, h2, _, h4⟩ := h
 exact ⟨x, h1, h2, h4⟩
theorem NS0.below {w W : World} {lb : Nat} {L : List (Cd × Nat)} {ks : List (Nat × Obj)} (h : NS0 w lb L ks W) : Below w.heap.size w W := by
 obtain ⟨x, hf, _⟩ := h
 exact fr_below hf
theorem NS0.row {w W : World} {lb : Nat} {L : List (Cd × Nat)} {ks : List (Nat × Obj)} (h : NS0 w lb L ks W) {b : Nat} {o : Obj} (hm : (b, o) ∈ ks) : W.heap[b]? = some o := by
 obtain ⟨x, _, _, hk⟩ := h
 exact (hk _ hm).2
/-- the answer: the row of numbers -/
def NumsP (w : World) (L : List (Cd × Nat)) (e : Ending) (w' : World) : Prop := ∃ v, e = .returned v ∧ w'.ownsRow w.heap.size 175 3 v L.length (nmV L) ∧ Below w.heap.size w w'
theorem NS0.done {w W : World} {lb : Nat} {L : List (Cd × Nat)} {ks : List (Nat × Obj)} (h : NS0 w lb L ks W) : ∃ v, W.cell? ⟨lb, 0, none⟩ = some v ∧ NumsP w L (.returned v) W := by
 obtain ⟨x, hf, ⟨v, h0, hx, ho, hg⟩, _⟩ := h
 refine ⟨v, by rw [cell_of_row _ _ _ _ _ _ h0]; rfl, v, rfl, own_rebase ho (fun g e => ?_), fr_below hf⟩
 rcases Nat.lt_or_ge g w.heap.size with h1 | h1
 ·have := hf.col g h1
  have h2 := (hg g e).1
  omega
 ·exact h1
theorem NS0.put {w W : World} {lb : Nat} {L : List (Cd × Nat)} {ks : List (Nat × Obj)} (h : NS0 w lb L ks W) (k : Cd) (v : Nat) (hv : v < 9223372036854775808) (hl : L.length ≤ 1000000000) :
  Calls Tryz.prog 119 #[cdV k, .int .i64 (v : Int), .pointer (some ⟨lb, 0, none⟩)] W fun e w' => e = .returned (.tuple #[]) ∧ NS0 w lb (L ++ [(k, v)]) ks w' := by
 obtain ⟨x, hf, hv1, hk⟩ := h
 refine (put_any x 1 W lb L k v hv hl hv1).mono ?_
 rintro e w' ⟨rfl, x', f2, h2⟩
 refine ⟨rfl, x', hf.trans (f2.mono (fun c hc => by show c < 50; omega)), by rw [List.length_append]; exact h2, fun p hp => ?_⟩
 obtain ⟨h3, h4⟩ := hk p hp
 exact ⟨(f2.col _ (lt_of_block h4)).trans h3, (f2.old _ (lt_of_block h4) (by show ¬ x p.1 = 1; rw [h3]; decide)).trans h4⟩
theorem NS.put {w W : World} {lb fb rb : Nat} {L : List (Cd × Nat)} {s : List Nat × (List Nat × Nat)} {ks : List (Nat × Obj)} (h : NS w lb fb rb L s ks W) (k : Cd) (v : Nat) (hv : v < 9223372036854775808) (hl : L.length ≤ 1000000000) :
  Calls Tryz.prog 119 #[cdV k, .int .i64 (v : Int), .pointer (some ⟨lb, 0, none⟩)] W fun e w' => e = .returned (.tuple #[]) ∧ NS w lb fb rb (L ++ [(k, v)]) s ks w' ∧ w'.cell? ⟨rb, 0, none⟩ = W.cell? ⟨rb, 0, none⟩ := by
 obtain ⟨x, hf, hv1, ⟨hm1, hm2⟩, hk⟩ := h
 refine (put_any x 1 W lb L k v hv hl hv1).mono ?_
 rintro e w' ⟨rfl, x', f2, h2⟩
 have hrow : w'.cell? ⟨rb, 0, none⟩ = W.cell? ⟨rb, 0, none⟩ := by
  obtain ⟨v0, h0, hx0, _⟩ := hm2
  exact World.cell?_of_block (f2.old rb (lt_of_block h0) (by show ¬ x rb = 1; rw [hx0]; decide))
 refine ⟨rfl, ⟨x', hf.trans (f2.mono (fun c hc => by show c < 50; omega)), by rw [List.length_append]; exact h2, ⟨hm1.frame f2 (by decide), hm2.frame f2 (by decide)⟩, fun p hp => ?_⟩, hrow⟩
 obtain ⟨h3, h4⟩ := hk p hp
 exact ⟨(f2.col _ (lt_of_block h4)).trans h3, (f2.old _ (lt_of_block h4) (by show ¬ x p.1 = 1; rw [h3]; decide)).trans h4⟩
/-- a call that only makes new memory -/
theorem NS.next {w W W' : World} {lb fb rb : Nat} {L : List (Cd × Nat)} {s : List Nat × (List Nat × Nat)} {ks : List (Nat × Obj)} (h : NS w lb fb rb L s ks W) (k : Below W.heap.size W W') : NS w lb fb rb L s ks W' := by
 obtain ⟨x, hf, hv1, ⟨hm1, hm2⟩, hk⟩ := h
 have f2 : Fr x (paint x W.heap.size 49) (fun e => e = 49) W W' := Fr.of_below k rfl
 refine ⟨_, hf.trans (f2.mono (fun c hc => by show c < 50; omega)), hv1.frame f2 (by decide), ⟨hm1.frame f2 (by decide), hm2.frame f2 (by decide)⟩, fun p hp => ?_⟩
 obtain ⟨h3, h4⟩ := hk p hp
 exact ⟨(f2.col _ (lt_of_block h4)).trans h3, (k.block _ (lt_of_block h4)).trans h4⟩
/-- rows that are new -/
theorem NS.more {w W W' : World} {lb fb rb : Nat} {L : List (Cd × Nat)} {s : List Nat × (List Nat × Nat)} {ks : List (Nat × Obj)} (h : NS w lb fb rb L s ks W) (k : Below W.heap.size W W') (js : List (Nat × Obj)) (hj : ∀ p ∈ js, W.heap.size ≤ p.1 ∧ W'.heap[p.1]? = some p.2) : NS w lb fb rb L s (js ++ ks) W' := by
 obtain ⟨x, hf, hv1, ⟨hm1, hm2⟩, hk⟩ := h
 have f2 : Fr x (paint x W.heap.size 49) (fun e => e = 49) W W' := Fr.of_below k rfl
 refine ⟨_, hf.trans (f2.mono (fun c hc => by show c < 50; omega)), hv1.frame f2 (by decide), ⟨hm1.frame f2 (by decide), hm2.frame f2 (by decide)⟩, fun p hp => ?_⟩
 rcases List.mem_append.1 hp with hp | hp
 ·obtain ⟨h1, h2⟩ := hj p hp
  exact ⟨paint_new h1, h2⟩
 ·obtain ⟨h3, h4⟩ := hk p hp
  exact ⟨(paint_old (lt_of_block h4)).trans h3, (k.block _ (lt_of_block h4)).trans h4⟩
theorem NS.fewer {w W : World} {lb fb rb : Nat} {L : List (Cd × Nat)} {s : List Nat × (List Nat × Nat)} {ks js : List (Nat × Obj)} (h : NS w lb fb rb L s ks W) (hj : ∀ p ∈ js, p ∈ ks) : NS w lb fb rb L s js W := by
 obtain ⟨x, h1, h2, h3, hk⟩ := h
 exact ⟨x, h1, h2, h3, fun p hp => hk p (hj p hp)⟩
def endV : Option Nat → Value
 | none => .int .i64 (-1)
 | some e => .int .i64 (e : Int)
/-- the beginning: the first number -/
theorem NS0.start {w W : World} {pv : Array Value} {n : Nat} (hW : ((w.alloc (.cells pv 42)).alloc (.cells #[.int .u8 1, .int .u64 0, .int .u64 (n : Int)] 175)).alloc (.cells #[.slice (some ⟨w.heap.size + 1, 0, none⟩) 1 1] 172) = W) :
  NS0 w (w.heap.size + 1 + 1) [(.gam, n)] [(w.heap.size, .cells pv 42 (0, 0))] W := by
 obtain ⟨r1, r2, r3, kb⟩ := rows3 hW
 refine ⟨fun b => if b < w.heap.size then 100 else if b = w.heap.size then 49 else 1, ⟨kb.os, kb.tape, kb.output, kb.size, fun b hb => if_pos hb, fun b h1 _ => ?_, fun b hb _ => kb.block b hb⟩, ⟨_, r3, ?_, ⟨rfl, .inr ⟨w.heap.size + 1, 1, _, rfl, Nat.zero_le _, r2, Nat.le_refl _, by decide, rfl, rfl⟩⟩, fun g hg => ?_⟩, fun p hp => ?_⟩
 ·show (if b < w.heap.size then 100 else if b = w.heap.size then 49 else 1) < 50
  rw [if_neg (by omega)]
  split <;> decide
 ·show (if w.heap.size + 1 + 1 < w.heap.size then 100 else if w.heap.size + 1 + 1 = w.heap.size then 49 else 1) = 1
  rw [if_neg (by omega), if_neg (by omega)]
 ·have : g = w.heap.size + 1 := by
   have h2 : some (w.heap.size + 1) = some g := hg
   injection h2 with h2; exact h2.symm
  subst this
  refine ⟨?_, by omega⟩
  show (if w.heap.size + 1 < w.heap.size then 100 else if w.heap.size + 1 = w.heap.size then 49 else 1) = 1
  rw [if_neg (by omega), if_neg (by omega)]
 ·rcases List.mem_cons.1 hp with rfl | hp
  ·refine ⟨?_, r1⟩
   show (if w.heap.size < w.heap.size then 100 else if w.heap.size = w.heap.size then 49 else 1) = 49
   rw [if_neg (by omega), if_pos rfl]
  ·cases hp
/-- the runs and what is left begin -/
theorem NS0.more {w W W' : World} {lb : Nat} {L : List (Cd × Nat)} {ks : List (Nat × Obj)} (h : NS0 w lb L ks W) (hW : ((W.alloc (.cells #[.int .i64 0] 3)).alloc (.cells #[.slice (some ⟨W.heap.size, 0, none⟩) 1 1] 83)).alloc (.cells #[.slice none 0 0] 34) = W') :
  NS w lb (W.heap.size + 1 + 1) (W.heap.size + 1) L ([], ([], 0)) ks W' := by
 obtain ⟨x, hf, hv1, hk⟩ := h
 obtain ⟨r1, r2, r3, kb⟩ := rows3 hW
 have f2 : Fr x (fun b => if b < W.heap.size then x b else if b = W.heap.size + 1 + 1 then 2 else 3) (fun e => e = 2 ∨ e = 3) W W' := ⟨kb.os, kb.tape, kb.output, kb.size, fun b hb => if_pos hb, fun b h1 _ => by
  show (if b < W.heap.size then x b else if b = W.heap.size + 1 + 1 then 2 else 3) = 2 ∨ (if b < W.heap.size then x b else if b = W.heap.size + 1 + 1 then 2 else 3) = 3
  rw [if_neg (by omega)]
  split
  ·exact .inl rfl
  ·exact .inr rfl, fun b hb _ => kb.block b hb⟩
 refine ⟨_, hf.trans (f2.mono (fun c hc => by show c < 50; omega)), hv1.frame f2 (by omega), ⟨⟨_, r3, ?_, World.ownsRow_nil _ _ _ _, fun g hg => by cases hg⟩, ⟨_, r2, ?_, ⟨rfl, .inr ⟨W.heap.size, 1, _, rfl, Nat.zero_le _, r1, Nat.le_refl _, by decide, rfl, rfl⟩⟩, fun g hg => ?_⟩⟩, fun p hp => ?_⟩
 ·show (if W.heap.size + 1 + 1 < W.heap.size then _ else if W.heap.size + 1 + 1 = W.heap.size + 1 + 1 then 2 else 3) = 2
  rw [if_neg (by omega), if_pos rfl]
 ·show (if W.heap.size + 1 < W.heap.size then _ else if W.heap.size + 1 = W.heap.size + 1 + 1 then 2 else 3) = 3
  rw [if_neg (by omega), if_neg (by omega)]
 ·have : g = W.heap.size := by
   have h2 : some (W.heap.size) = some g := hg
   injection h2 with h2; exact h2.symm
  subst this
  refine ⟨?_, by omega⟩
  show (if W.heap.size < W.heap.size then _ else if W.heap.size = W.heap.size + 1 + 1 then 2 else 3) = 3
  rw [if_neg (by omega), if_neg (by omega)]
 ·obtain ⟨h3, h4⟩ := hk p hp
  exact ⟨(f2.col _ (lt_of_block h4)).trans h3, (kb.block _ (lt_of_block h4)).trans h4⟩
/-- the two lists are met -/
theorem NS.each {w W : World} {lb fb rb : Nat} {L : List (Cd × Nat)} {ks : List (Nat × Obj)} (h : NS w lb fb rb L ([], ([], 0)) ks W) (a : Option Addr) (l : List Nat) (cap : Nat) (b : Option Addr) (m : List Nat) (capb : Nat) (hc : l.length ≤ cap) (hcb : m.length ≤ capb) (hl : l.length + m.length ≤ 131072) (hA : LV w a l) (hB : LV w b m) :
  Calls Tryz.prog 120 #[.slice a l.length cap, .slice b m.length capb, .func (.func 121) #[] #[.pointer (some ⟨fb, 0, none⟩), .pointer (some ⟨rb, 0, none⟩)]] W fun e w' =>
   e = .returned (.tuple #[]) ∧ NS w lb fb rb L (eachF l m ([], ([], 0))) ks w' := by
 obtain ⟨x, hf, hv1, hM, hk⟩ := h
 have lvx : ∀ (a : Option Addr) (l : List Nat), LV w a l → LVx x (fun e => e = 2 ∨ e = 3) W a l := fun a l h => ⟨h.1, fun i hi => by
  obtain ⟨g, o, h1, h2, h3, h4⟩ := h.2 i hi
  refine ⟨g, o, h1, Nat.lt_of_lt_of_le h2 hf.size, ((fr_below hf).cell (p := ⟨g, o + i, none⟩) h2).trans h3, h4, ?_⟩
  show ¬ (x g = 2 ∨ x g = 3)
  rw [hf.col g h2]
  decide⟩
 refine (each_any x 2 3 (by decide) W fb rb a l cap b m capb hc hcb hl (lvx a l hA) (lvx b m hB) hM).mono ?_
 rintro e w' ⟨rfl, x', f2, h2⟩
 refine ⟨rfl, x', hf.trans (f2.mono (fun c hc => by show c < 50; omega)), hv1.frame f2 (by decide), h2, fun p hp => ?_⟩
 obtain ⟨h3, h4⟩ := hk p hp
 exact ⟨(f2.col _ (lt_of_block h4)).trans h3, (f2.old _ (lt_of_block h4) (by show ¬ (x p.1 = 2 ∨ x p.1 = 3); rw [h3]; decide)).trans h4⟩
/-- the runs, and what is left, as they lie -/
theorem NS.runs {w W : World} {lb fb rb : Nat} {L : List (Cd × Nat)} {s : List Nat × (List Nat × Nat)} {ks : List (Nat × Obj)} (h : NS w lb fb rb L s ks W) :
  ∃ g cap, W.cell? ⟨rb, 0, none⟩ = some (.slice (some ⟨g, 0, none⟩) (s.2.1.length + 1) cap) ∧ s.2.1.length + 1 ≤ cap ∧ g < W.heap.size ∧ ∀ j (hj : j < s.2.1.length), W.cell? ⟨g, j, none⟩ = some (.int .i64 (s.2.1[j] : Int)) := by
 obtain ⟨x, _, _, ⟨_, ⟨v, h0, _, ho, _⟩⟩, _⟩ := h
 have c0 : W.cell? ⟨rb, 0, none⟩ = some v := by rw [cell_of_row _ _ _ _ _ _ h0]; rfl
 rcases ho.2 with ⟨_, h2⟩ | ⟨g, cap, cur, rfl, _, hcell, hn, _⟩
 ·omega
 ·refine ⟨g, cap, c0, hn, lt_of_block hcell, fun j hj => ?_⟩
  rw [ho.cellAt j (by omega)]
  unfold intV
  rw [List.getElem?_map, List.getElem?_append_left hj, List.getElem?_eq_getElem hj]
  rfl
theorem NS.left {w W : World} {lb fb rb : Nat} {L : List (Cd × Nat)} {s : List Nat × (List Nat × Nat)} {ks : List (Nat × Obj)} (h : NS w lb fb rb L s ks W) (hs : ∀ v ∈ s.1, v < 4294967296) (hz : s.1.length ≤ 1000000) :
  ∃ a cap, W.cell? ⟨fb, 0, none⟩ = some (.slice a s.1.length cap) ∧ s.1.length ≤ cap ∧ LV W a s.1 := by
 obtain ⟨x, _, _, ⟨⟨v, h0, _, ho, _⟩, _⟩, _⟩ := h
 have c0 : W.cell? ⟨fb, 0, none⟩ = some v := by rw [cell_of_row _ _ _ _ _ _ h0]; rfl
 rcases ho.2 with ⟨rfl, h2⟩ | ⟨g, cap, cur, rfl, _, hcell, hn, _⟩
 ·refine ⟨none, 0, by rw [h2]; exact c0, by omega, by omega, fun i hi => by omega⟩
 ·refine ⟨_, cap, c0, hn, by omega, fun i hi => ⟨g, 0, rfl, lt_of_block hcell, ?_, hs _ (List.getElem_mem hi)⟩⟩
  rw [Nat.zero_add, ho.cellAt i (by omega)]
  unfold u32V
  rw [List.getElem?_map, List.getElem?_eq_getElem hi]
  rfl
theorem rnm_snoc : ∀ (i : Nat) (I : List Nat) (n : Nat), rnm i (I ++ [n]) = rnm i I ++ [n - min (i + I.length) 1]
 | i, [], n => by simp [rnm]
 | i, m :: I, n => by
  show (m - min i 1) :: rnm (i + 1) (I ++ [n]) = _
  rw [rnm_snoc (i + 1) I n]
  show _ = (m - min i 1) :: rnm (i + 1) I ++ [n - min (i + (I.length + 1)) 1]
  rw [show i + 1 + I.length = i + (I.length + 1) by omega]
  rfl
theorem sum_get : ∀ (l : List Nat) (i : Nat) (h : i < l.length), l[i] ≤ sum l
 | [], i, h => by simp at h
 | n :: l, 0, _ => by show n ≤ n + sum l; omega
 | n :: l, i + 1, h => by
  have := sum_get l i (by simpa using h)
  show l[i]'(by simpa using h) ≤ n + sum l
  omega
theorem rnm_length : ∀ (i : Nat) (I : List Nat), (rnm i I).length = I.length
 | _, [] => rfl
 | i, _ :: I => by rw [rnm, List.length_cons, rnm_length (i + 1) I, List.length_cons]
/-- where rows end -/
def lend : Option Nat → List (Nat × Nat) → Option Nat
 | e, [] => e
 | _, (f, n) :: r => lend (some (f + n - 1)) r
theorem lend_snoc : ∀ (e : Option Nat) (l : List (Nat × Nat)) (f n : Nat), lend e (l ++ [(f, n)]) = some (f + n - 1)
 | _, [], _, _ => rfl
 | _, (a, b) :: l, f, n => lend_snoc (some (a + b - 1)) l f n
theorem lnm_cons (x itv : Nat) (e : Option Nat) (f n : Nat) (r : List (Nat × Nat)) : lnm x itv e ((f, n) :: r) = (match e with | none => zig ((f : Int) - x) | some e => f - e - 2) :: (n - itv) :: lnm x itv (some (f + n - 1)) r := by cases e <;> rfl
def frstN (x : Nat) (o : Option Nat) (f : Nat) : Nat :=
 match o with
 | none => zig ((f : Int) - x)
 | some e => f - e - 2
def resN (x : Nat) (o : Option Nat) (v : Nat) : Nat :=
 match o with
 | none => zig ((v : Int) - x)
 | some u => v - u - 1
theorem lnm_snoc (x itv : Nat) : ∀ (e : Option Nat) (l : List (Nat × Nat)) (f n : Nat), lnm x itv e (l ++ [(f, n)]) = lnm x itv e l ++ [frstN x (lend e l) f, n - itv]
 | e, [], f, n => by
  rw [List.nil_append, lnm_cons]
  have h0 : ∀ e : Option Nat, lnm x itv e [] = [] := fun e => by cases e <;> rfl
  rw [h0, h0]
  rfl
 | e, (a, b) :: l, f, n => by
  rw [List.cons_append, lnm_cons, lnm_cons, lnm_snoc x itv (some (a + b - 1)) l f n]
  rfl
theorem lnm_length (x itv : Nat) : ∀ (e : Option Nat) (l : List (Nat × Nat)), (lnm x itv e l).length = 2 * l.length
 | none, [] => rfl
 | some _, [] => rfl
 | e, (a, b) :: l => by
  rw [lnm_cons, List.length_cons, List.length_cons, lnm_length x itv (some (a + b - 1)) l, List.length_cons]
  omega
theorem Apart.get {itv : Nat} : ∀ {e : Option Nat} {l : List (Nat × Nat)} (_ : Apart itv e l) (i : Nat) (hi : i < l.length), itv ≤ l[i].2 ∧ 0 < l[i].2 ∧ l[i].1 + l[i].2 ≤ 65536 ∧ ∀ e', lend e (l.take i) = some e' → e' + 2 ≤ l[i].1
 | none, (f, n) :: r, h, 0, _ => ⟨h.1, h.2.1, h.2.2.1, fun e' he => by cases he⟩
 | some e, (f, n) :: r, h, 0, _ => ⟨h.2.1, h.2.2.1, h.2.2.2.1, fun e' he => by cases he; exact h.1⟩
 | none, (f, n) :: r, h, i + 1, hi => Apart.get (l := r) h.2.2.2 i (by simpa using hi)
 | some e, (f, n) :: r, h, i + 1, hi => Apart.get (l := r) h.2.2.2.2 i (by simpa using hi)
theorem znm_snoc (x : Nat) : ∀ (e : Option Nat) (l : List Nat) (v : Nat), znm x e (l ++ [v]) = znm x e l ++ [resN x (match l.getLast? with | some u => some u | none => e) v]
 | none, [], v => rfl
 | some e, [], v => rfl
 | none, a :: l, v => by
  show zig ((a : Int) - x) :: znm x (some a) (l ++ [v]) = zig ((a : Int) - x) :: znm x (some a) l ++ _
  rw [znm_snoc x (some a) l v, List.getLast?_cons]
  cases l.getLast? <;> rfl
 | some e, a :: l, v => by
  show (a - e - 1) :: znm x (some a) (l ++ [v]) = (a - e - 1) :: znm x (some a) l ++ _
  rw [znm_snoc x (some a) l v, List.getLast?_cons]
  cases l.getLast? <;> rfl
theorem znm_length (x : Nat) : ∀ (e : Option Nat) (l : List Nat), (znm x e l).length = l.length
 | none, [] => rfl
 | some _, [] => rfl
 | none, a :: l => by show (znm x (some a) l).length + 1 = _; rw [znm_length x (some a) l]; rfl
 | some e, a :: l => by show (znm x (some a) l).length + 1 = _; rw [znm_length x (some a) l]; rfl

theorem apart_len {itv : Nat} : ∀ (e : Option Nat) (l : List (Nat × Nat)), Apart itv e l → l.length ≤ sum (l.map (·.2))
 | _, [], _ => Nat.zero_le _
 | none, (f, n) :: r, h => by
  have := apart_len _ r h.2.2.2
  have h2 := h.2.1
  show r.length + 1 ≤ n + sum (r.map (·.2))
  omega
 | some e, (f, n) :: r, h => by
  have := apart_len _ r h.2.2.2.2
  have h2 := h.2.2.1
  show r.length + 1 ≤ n + sum (r.map (·.2))
  omega
theorem i64_diff (v x : Nat) (h1 : v < 65536) (h2 : x < 65536) : IntKind.i64.wrap ((v : Int) - (x : Int)) = (v : Int) - (x : Int) := IntWalk.i64_in _ (by omega)
/-- pairs of numbers that are only read -/
def PV (W : World) (a : Option Addr) (L : List (Nat × Nat)) : Prop := ∀ i (h : i < L.length), ∃ g, a = some ⟨g, 0, none⟩ ∧ W.cell? ⟨g, i * 2, none⟩ = some (.int .i64 (L[i].1 : Int)) ∧ W.cell? ⟨g, i * 2 + 1, none⟩ = some (.int .i64 (L[i].2 : Int))
theorem prV_get : ∀ (L : List (Nat × Nat)) (i : Nat) (h : i < L.length), (prV L)[i * 2]? = some (.int .i64 (L[i].1 : Int)) ∧ (prV L)[i * 2 + 1]? = some (.int .i64 (L[i].2 : Int))
 | q :: L, 0, _ => ⟨rfl, rfl⟩
 | q :: L, i + 1, h => by
  have := prV_get L i (by simpa using h)
  have e : prV (q :: L) = .int .i64 (q.1 : Int) :: .int .i64 (q.2 : Int) :: prV L := rfl
  rw [e, show (i + 1) * 2 = i * 2 + 1 + 1 by omega, List.getElem?_cons_succ, List.getElem?_cons_succ, List.getElem?_cons_succ, List.getElem?_cons_succ]
  exact this
/-- the rows that rows made stand from now on -/
theorem NS.rows {w W W' : World} {lb fb rb : Nat} {L : List (Cd × Nat)} {s : List Nat × (List Nat × Nat)} {ks : List (Nat × Obj)} (h : NS w lb fb rb L s ks W) {P : List (Nat × Nat)} {R : List Nat} {v1 v2 : Value} (k : RW2 W P v1 R v2 W') (hR : ∀ v ∈ R, v < 4294967296) (hz : R.length ≤ 1000000) :
  ∃ a1 c1 a2 c2, v1 = .slice a1 P.length c1 ∧ v2 = .slice a2 R.length c2 ∧ R.length ≤ c2 ∧ ∃ ks', (∀ p ∈ ks, p ∈ ks') ∧ NS w lb fb rb L s ks' W' ∧ ∀ L' s' W2, NS w lb fb rb L' s' ks' W2 → PV W2 a1 P ∧ LV W2 a2 R := by
 obtain ⟨kb, o1, o2, _⟩ := k
 have key1 : ∃ (a1 : Option Addr) (c1 : Nat) (js : List (Nat × Obj)), v1 = .slice a1 P.length c1 ∧ (∀ p ∈ js, W.heap.size ≤ p.1 ∧ W'.heap[p.1]? = some p.2) ∧ ∀ W2, (∀ p ∈ js, W2.heap[p.1]? = some p.2) → PV W2 a1 P := by
  rcases o1.2 with ⟨rfl, h0⟩ | ⟨g, cap, cur, rfl, hb, hcell, hn, hcm, hcs, htake⟩
  ·exact ⟨none, 0, [], by rw [h0], (fun p hp => by cases hp), fun W2 _ i hi => by omega⟩
  ·refine ⟨_, cap, [(g, .cells cur 204 (0, 0))], rfl, fun p hp => ?_, fun W2 h2 i hi => ⟨g, rfl, ?_⟩⟩
   ·rcases List.mem_cons.1 hp with rfl | hp
    ·exact ⟨hb, hcell⟩
    ·cases hp
   ·have hr := h2 _ (List.mem_cons_self ..)
    have hg := prV_get P i hi
    rw [← htake] at hg
    rw [cell_of_row _ _ _ _ _ _ hr, cell_of_row _ _ _ _ _ _ hr, ← Array.getElem?_toList, ← Array.getElem?_toList]
    rw [List.getElem?_take_of_lt (by omega), List.getElem?_take_of_lt (by omega)] at hg
    exact hg
 have key2 : ∃ (a2 : Option Addr) (c2 : Nat) (js : List (Nat × Obj)), v2 = .slice a2 R.length c2 ∧ R.length ≤ c2 ∧ (∀ p ∈ js, W.heap.size ≤ p.1 ∧ W'.heap[p.1]? = some p.2) ∧ ∀ W2, (∀ p ∈ js, W2.heap[p.1]? = some p.2) → LV W2 a2 R := by
  rcases o2.2 with ⟨rfl, h0⟩ | ⟨g, cap, cur, rfl, hb, hcell, hn, hcm, hcs, htake⟩
  ·exact ⟨none, 0, [], by rw [h0], by omega, (fun p hp => by cases hp), fun W2 _ => ⟨by omega, fun i hi => by omega⟩⟩
  ·refine ⟨_, cap, [(g, .cells cur 77 (0, 0))], rfl, hn, fun p hp => ?_, fun W2 h2 => ⟨by omega, fun i hi => ?_⟩⟩
   ·rcases List.mem_cons.1 hp with rfl | hp
    ·exact ⟨hb, hcell⟩
    ·cases hp
   ·have hr := h2 _ (List.mem_cons_self ..)
    refine ⟨g, 0, rfl, lt_of_block hr, ?_, hR _ (List.getElem_mem hi)⟩
    have hg : (u32V R)[i]? = some (.int .u32 (R[i] : Int)) := by unfold u32V; rw [List.getElem?_map, List.getElem?_eq_getElem hi]; rfl
    rw [← htake, List.getElem?_take_of_lt (by omega)] at hg
    rw [Nat.zero_add, cell_of_row _ _ _ _ _ _ hr, ← Array.getElem?_toList]
    exact hg
 obtain ⟨a1, c1, j1, e1, q1, p1⟩ := key1
 obtain ⟨a2, c2, j2, e2, l2, q2, p2⟩ := key2
 refine ⟨a1, c1, a2, c2, e1, e2, l2, (j1 ++ j2) ++ ks, fun p hp => List.mem_append_right _ hp, h.more kb (j1 ++ j2) (fun p hp => ?_), fun L' s' W2 hS => ?_⟩
 ·rcases List.mem_append.1 hp with hp | hp
  ·exact q1 p hp
  ·exact q2 p hp
 ·exact ⟨p1 W2 (fun p hp => hS.ns0.row (List.mem_append_left _ (List.mem_append_left _ hp))), p2 W2 (fun p hp => hS.ns0.row (List.mem_append_left _ (List.mem_append_right _ hp)))⟩
end Go.Proofs.YtflnpcgnenhogaaGreatDoor.ls
namespace Go.Proofs.YtflnpcgnenhogaaGreatDoor.ls
open Go.RowKit Go.Proofs.YtflnpcgnenhogaaGreatDoor.own Go.Proofs.YtflnpcgnenhogaaGreatDoor.bit

set_option maxRecDepth 100000 in
set_option maxHeartbeats 12800000 in
theorem numbers_any (p : Pr) (x : Nat) (w : World) (hG : GL w) (a : Option Addr) (succ : List Nat) (cap : Nat) (b : Option Addr) (ref : List Nat) (capb r : Nat) (hc : succ.length ≤ cap) (hcb : ref.length ≤ capb) (hm : MayN x succ ref r p) (hA : LV w a succ) (hB : LV w b ref) :
  Calls Tryz.prog 95 #[parV (p.win : Int) (p.itv : Int) (p.zet : Int), .int .i64 (x : Int), .slice a succ.length cap, .slice b ref.length capb, .int .i64 (r : Int)] w (NumsP w (nums x succ ref r p)) := by
 have hmf : ∀ (fn : Fn) (first cap : Array Value) (w : World), (Instr.makeFunc fn first cap).run Tryz.prog w = .ok (.func fn first cap) w := fun _ _ _ _ => rfl
 obtain ⟨⟨hp1, hp2, hp3⟩, hx, hsu, hre, hr1, hr2⟩ := hm
 have hsl := hsu.len
 have hrl := hre.len
 have HA := Lib.hid hA
 have HB := Lib.hid hB
 have HG := Lib.hid hG
 have HSU := Lib.hid hsu
 have HRE := Lib.hid hre
 obtain ⟨NN, hNN⟩ : ∃ NN, nums x succ ref r p = NN := ⟨_, rfl⟩
 have HNN := Lib.hid hNN
 rw [hNN]
 obtain ⟨win, itv, zet⟩ := p
 simp only at hp1 hp2 hp3 hr1
 unfold parV
 dsimp only
 have hG1 := hG.below ((Below.refl w.heap.size w).alloc (Nat.le_refl _) (.cells #[.int .i64 (win : Int), .int .i64 (itv : Int), .int .i64 (zet : Int)] 42))
 have g0 := hG1.g0
 have g1 := hG1.g1
 clear hG1 hA hB hG hsu hre hNN
 obtain ⟨n, hn⟩ : ∃ n, succ.length = n := ⟨_, rfl⟩
 have HN := Lib.hid hn
 rw [hn] at hc hsl ⊢
 clear hn
 go_enter Tryz.func95, Tryz.ntmps95
 go_upto_region 2 with fail
 generalize hW : World.alloc (World.alloc (World.alloc w _) _) _ = W1
 have H1 := Lib.hid (NS0.start hW)
 clear hW g0 g1
 obtain ⟨sz, hsz⟩ : ∃ k, w.heap.size = k := ⟨_, rfl⟩
 rw [hsz] at H1 ⊢
 clear hsz
 obtain ⟨ks, hks⟩ : ∃ ks, ks = [(sz, Obj.cells #[.int .i64 (win : Int), .int .i64 (itv : Int), .int .i64 (zet : Int)] 42 (0, 0))] := ⟨_, rfl⟩
 have HKS : Hid ((sz, Obj.cells #[.int .i64 (win : Int), .int .i64 (itv : Int), .int .i64 (zet : Int)] 42 (0, 0)) ∈ ks) := Lib.hid (by rw [hks]; exact List.mem_cons_self ..)
 rw [← hks] at H1
 clear hks
 by_cases hn0 : n = 0
 · -- no successors
  obtain ⟨v, cv, hP⟩ := H1.out.done
  have E : Hid ([(Cd.gam, n)] = NN) := Lib.hid (by
   have : succ = [] := List.eq_nil_of_length_eq_zero (by rw [HN.out]; exact hn0)
   rw [← HNN.out, ← HN.out]
   subst this
   rfl)
  rw [E.out] at hP
  have HP := Lib.hid hP
  have n0 : ((n : Int) == 0) = true := by rw [hn0]; rfl
  clear hP
  subst hn0
  go_wp2_with fail
  go_ret
  exact HP.out
 ·have n0 : ((n : Int) == 0) = false := beq_eq_false_iff_ne.2 (by omega)
  have hsne : succ ≠ [] := fun e => hn0 (by rw [← HN.out, e]; rfl)
  have HSNE := Lib.hid hsne
  clear hsne
  have r1 := H1.out.row HKS.out
  have c0 : W1.cell? ⟨sz, 0, none⟩ = some (.int .i64 (win : Int)) := by rw [cell_of_row _ _ _ _ _ _ r1]; rfl
  clear r1
  go_upto_if 38 with fail
  clear c0
  go_cut [] from 38 to 43 (fun wc => NS0 w (sz + 1 + 1) (hdN succ r ⟨win, itv, zet⟩) ks wc)
  case first =>
   by_cases hw0 : 0 < win
   ·have E : Hid ([(Cd.gam, n)] ++ [(.una, r)] = hdN succ r ⟨win, itv, zet⟩) := Lib.hid (by unfold hdN; rw [if_neg HSNE.out, if_pos hw0, ← HN.out]; rfl)
    have PU := Lib.hid (H1.out.put .una r (by omega) (by simp))
    rw [E.out] at PU
    have hG1 := HG.out.below H1.out.below
    have u0 := hG1.u0
    have u1 := hG1.u1
    have hw1 : (0 : Int) < (win : Int) := by omega
    unfold cdV at PU
    clear hG1
    go_wp2_with fail
    with_reducible refine PU.out.mono ?_
    rintro e w2 ⟨rfl, h2⟩
    have H2 := Lib.hid h2
    clear h2
    go_wp2_with fail
    go_meet
    case rel => exact H2.out
   ·have E : Hid ([(Cd.gam, n)] = hdN succ r ⟨win, itv, zet⟩) := Lib.hid (by unfold hdN; rw [if_neg HSNE.out, if_neg hw0, ← HN.out])
    have hw1 : ¬ (0 : Int) < (win : Int) := by omega
    go_wp2_with fail
    go_meet
    case rel => rw [← E.out]; exact H1.out
  case rest =>
   have H2 := Lib.hid hcut
   generalize wc = W2 at H2 ⊢
   clear H1 hcut
   go_upto_region 8 with fail
   generalize hW : World.alloc (World.alloc (World.alloc W2 _) _) _ = W3
   have H3 := Lib.hid (H2.out.more hW)
   clear hW
   obtain ⟨rb, hrb⟩ : ∃ k, W2.heap.size + 1 = k := ⟨_, rfl⟩
   obtain ⟨fb, hfb⟩ : ∃ k, rb + 1 = k := ⟨_, rfl⟩
   rw [hrb, hfb] at H3 ⊢
   clear hrb hfb H2
   have EA := Lib.hid (H3.out.each a succ cap b ref capb (by rw [HN.out]; exact hc) hcb (by rw [HN.out]; omega) HA.out HB.out)
   rw [HN.out, eachF_runs HSU.out HRE.out] at EA
   have RO := Lib.hid (runs_ok succ ref)
   obtain ⟨Q, hQ⟩ : ∃ Q, runs succ ref = Q := ⟨_, rfl⟩
   obtain ⟨Fl, hF⟩ : ∃ Fl, leftOf succ ref = Fl := ⟨_, rfl⟩
   rw [hQ, hF] at EA
   rw [hQ] at RO
   have HQ := Lib.hid hQ
   have HF := Lib.hid hF
   clear hQ hF
   go_wp2_with fail
   with_reducible refine EA.out.mono ?_
   rintro e w4 ⟨rfl, h4⟩
   have H4 := Lib.hid h4
   clear h4 EA H3
   have RL := Lib.hid RO.out.len
   have RP := Lib.hid RO.out.pos
   have RA := Lib.hid RO.out.all
   go_upto_if 49 with fail
   go_cut [] from 15 to 75 (fun wc => NS w (sz + 1 + 1) fb rb (hdN succ r ⟨win, itv, zet⟩ ++ runN succ ref r) (Fl, Q) ks wc)
   case first => as_aux_lemma =>
    --F1
    by_cases hr0 : 0 < r
    ·have hri : (0 : Int) < (r : Int) := by omega
     have RN : Hid (runN succ ref r = (Cd.gam, Q.1.length) :: (rnm 0 Q.1).map (fun v => (Cd.gam, v))) := Lib.hid (by unfold runN; rw [if_pos hr0, HQ.out])
     obtain ⟨q1, hq1⟩ : ∃ q1, Q.1.length = q1 := ⟨_, rfl⟩
     have HQ1 := Lib.hid hq1
     have hql : q1 ≤ 65536 := by rw [← hq1]; exact Nat.le_trans RL.out hrl
     have hdl : (hdN succ r ⟨win, itv, zet⟩).length ≤ 2 := by
      unfold hdN
      split
      ·simp
      ·split <;> simp
     have HDL := Lib.hid hdl
     have PU := Lib.hid (H4.out.put .gam q1 (by omega) (by omega))
     obtain ⟨g, cg, e1, e2, e3, e4⟩ := H4.out.runs
     simp only at e1 e2 e4
     rw [hq1] at e1 e2
     have hG4 := HG.out.below H4.out.ns0.below
     have g0 := hG4.g0
     have g1 := hG4.g1
     have E1 := Lib.hid e1
     have i1 : IntKind.i64.wrap (((q1 + 1 : Nat) : Int) - 1) = (q1 : Int) := by rw [IntWalk.i64_in _ (by omega)]; omega
     unfold cdV at PU
     clear hG4 e3 e4 hdl hq1
     go_wp2_with fail
     with_reducible refine PU.out.mono ?_
     rintro e w5 ⟨rfl, h5, h5r⟩
     have H5 := Lib.hid h5
     have e5 : w5.cell? ⟨rb, 0, none⟩ = some (.slice (some ⟨g, 0, none⟩) (q1 + 1) cg) := h5r.trans E1.out
     have E5 := Lib.hid e5
     have s1 : ¬ (cg : Int) < (q1 : Int) := by omega
     clear h5 h5r g0 g1 PU H4 e1
     go_wp2_with fail
     clear e5
     have SM := Lib.hid (fun i (h : i < Q.1.length) => sum_get Q.1 i h)
     go_loopw [62] (fun vi wr => ∃ i : Nat, vi = .int .i64 (i : Int) ∧ i ≤ q1 ∧ NS w (sz + 1 + 1) fb rb ((hdN succ r ⟨win, itv, zet⟩ ++ [(Cd.gam, q1)]) ++ (rnm 0 (Q.1.take i)).map (fun v => (Cd.gam, v))) (Fl, Q) ks wr ∧ wr.cell? ⟨rb, 0, none⟩ = some (.slice (some ⟨g, 0, none⟩) (q1 + 1) cg)) (fun vi _ => q1 - (intOf vi).toNat)
     case atStart => exact ⟨0, rfl, Nat.zero_le _, by simpa [rnm] using H5.out, E5.out⟩
     case round =>
      obtain ⟨i, rfl, hi, hS, he⟩ := hrel
      have HS := Lib.hid hS
      have HE := Lib.hid he
      clear hS he
      by_cases hlt : i < q1
      ·obtain ⟨g', cg', e1, _, e3, e4⟩ := HS.out.runs
       simp only at e1 e4
       obtain ⟨rfl, rfl⟩ : g' = g ∧ cg' = cg := by
        have := e1.symm.trans HE.out
        rw [HQ1.out] at this
        injection this with this
        injection this with h1 _ h3
        injection h1 with h1
        injection h1 with h1
        exact ⟨h1, h3⟩
       have hiq : i < Q.1.length := by rw [HQ1.out]; exact hlt
       have ei := e4 i hiq
       obtain ⟨v, hv⟩ : ∃ v, Q.1[i] = v := ⟨_, rfl⟩
       rw [hv] at ei
       have hvb : v ≤ 65536 := by
        have h1 := SM.out i hiq
        have h2 := RA.out
        rw [hv] at h1
        omega
       have hv0 : min i 1 ≤ v := by
        rcases Nat.eq_zero_or_pos i with h | h
        ·omega
        ·have := RP.out i hiq h
         rw [hv] at this; omega
       have TS : Hid ((rnm 0 (Q.1.take (i + 1))).map (fun v => (Cd.gam, v)) = (rnm 0 (Q.1.take i)).map (fun v => (Cd.gam, v)) ++ [(Cd.gam, v - min i 1)]) := Lib.hid (by
        rw [List.take_succ_eq_append_getElem hiq, rnm_snoc, List.map_append, hv, List.length_take, Nat.min_eq_left (Nat.le_of_lt hiq), Nat.zero_add]
        rfl)
       have hln : ((hdN succ r ⟨win, itv, zet⟩ ++ [(Cd.gam, q1)]) ++ (rnm 0 (Q.1.take i)).map (fun v => (Cd.gam, v))).length ≤ 1000000000 := by
        have := HDL.out
        rw [List.length_append, List.length_append, List.length_map, rnm_length, List.length_take, List.length_singleton]
        omega
       have PU := Lib.hid (HS.out.put .gam (v - min i 1) (by omega) hln)
       rw [List.append_assoc, ← TS.out] at PU
       have hG4 := HG.out.below HS.out.ns0.below
       have g0 := hG4.g0
       have g1 := hG4.g1
       have i1 : (i : Int) < (q1 : Int) := by omega
       have i2 : min (i : Int) 1 = ((min i 1 : Nat) : Int) := by omega
       obtain ⟨mi, hmi⟩ : ∃ mi, min i 1 = mi := ⟨_, rfl⟩
       rw [hmi] at i2 hv0 PU
       have i3 : (v : Int) - (mi : Int) = ((v - mi : Nat) : Int) := by omega
       unfold cdV at PU
       clear hG4 e1 e3 e4 hln hv hmi
       go_wp2_with fail
       with_reducible refine PU.out.mono ?_
       rintro e w7 ⟨rfl, h7, h7r⟩
       have H7 := Lib.hid (And.intro h7 (h7r.trans HE.out))
       clear h7 h7r PU g0 g1 ei
       go_wp2_with fail
       go_roundw
       case rel => exact ⟨i + 1, by go_num, by omega, by have h7 := H7.out.1; simp only [List.append_assoc] at h7 ⊢; exact h7, H7.out.2⟩
       case measure => simp [intOf]; omega
      ·obtain rfl : i = q1 := by omega
       have i1 : ¬ (i : Int) < (i : Int) := by omega
       have FIN : Hid ((hdN succ r ⟨win, itv, zet⟩ ++ [(Cd.gam, i)]) ++ (rnm 0 (Q.1.take i)).map (fun v => (Cd.gam, v)) = hdN succ r ⟨win, itv, zet⟩ ++ runN succ ref r) := Lib.hid (by
        rw [RN.out, HQ1.out, List.take_of_length_le (by rw [HQ1.out]; exact Nat.le_refl _), List.append_assoc]
        rfl)
       go_wp2_with fail
       go_meet
       case rel => rw [← FIN.out]; exact HS.out
    ·have hri : ¬ (0 : Int) < (r : Int) := by omega
     have RN : Hid (hdN succ r ⟨win, itv, zet⟩ = hdN succ r ⟨win, itv, zet⟩ ++ runN succ ref r) := Lib.hid (by unfold runN; rw [if_neg hr0, List.append_nil])
     go_wp2_with fail
     go_meet
     case rel => rw [← RN.out]; exact H4.out
   case rest =>
    have H6 := Lib.hid hcut
    generalize wc = W6 at H6 ⊢
    clear H4 hcut
    obtain ⟨L2, hL2⟩ : ∃ L2, hdN succ r ⟨win, itv, zet⟩ ++ runN succ ref r = L2 := ⟨_, rfl⟩
    have HL2 := Lib.hid hL2
    rw [hL2] at H6
    have L2l : Hid (L2.length ≤ 131080) := Lib.hid (by
     rw [← hL2, List.length_append]
     have h1 : (hdN succ r ⟨win, itv, zet⟩).length ≤ 2 := by
      unfold hdN
      split
      ·simp
      ·split <;> simp
     have h2 : (runN succ ref r).length ≤ 1 + 65536 := by
      unfold runN
      split
      ·rw [List.length_cons, List.length_map, rnm_length, HQ.out]
       have := RL.out
       omega
      ·simp
     omega)
    have FR : Hid (Ris Fl) := Lib.hid (by
     rw [← HF.out]
     exact ⟨HSU.out.1.sublist List.filter_sublist, fun v hv => HSU.out.2 v (List.mem_filter.1 hv).1⟩)
    have hfl := FR.out.len
    obtain ⟨af, cf, f1, f2, f3⟩ := H6.out.left (fun v hv => Nat.lt_of_lt_of_le (FR.out.2 v hv) (by decide)) (by show Fl.length ≤ _; omega)
    simp only at f1 f2 f3
    have RE : Hid (NN = L2 ++ restN x Fl ⟨win, itv, zet⟩) := Lib.hid (by
     rw [← HNN.out, ← hL2, ← HF.out]
     unfold nums tlN
     rw [if_neg HSNE.out, List.append_assoc])
    obtain ⟨m, hm⟩ : ∃ m, Fl.length = m := ⟨_, rfl⟩
    rw [hm] at f1 f2 hfl
    have HM := Lib.hid hm
    have F3 := Lib.hid f3
    clear hL2 hm f3
    by_cases hm0 : m = 0
    ·have n1 : ((m : Int) == 0) = true := by rw [hm0]; rfl
     obtain ⟨v, cv, hP⟩ := H6.out.ns0.done
     have E : Hid (L2 = NN) := Lib.hid (by
      have : Fl = [] := List.eq_nil_of_length_eq_zero (by rw [HM.out]; exact hm0)
      rw [RE.out, this]
      unfold restN
      rw [if_pos rfl, List.append_nil])
     rw [E.out] at hP
     have HP := Lib.hid hP
     clear hP hm0
     go_wp2_with fail
     go_ret
     exact HP.out
    ·have n1 : ((m : Int) == 0) = false := beq_eq_false_iff_ne.2 (by omega)
     have hFne : Fl ≠ [] := fun e => hm0 (by rw [← HM.out, e]; rfl)
     have HFNE := Lib.hid hFne
     clear hFne
     have r6 := H6.out.ns0.row HKS.out
     have c1 : W6.cell? ⟨sz, 1, none⟩ = some (.int .i64 (itv : Int)) := by rw [cell_of_row _ _ _ _ _ _ r6]; rfl
     have RW := Lib.hid (rows_any W6 af Fl cf itv (by rw [HM.out]; exact f2) (by omega) F3.out FR.out)
     rw [HM.out] at RW
     clear r6
     go_wp2_with fail
     with_reducible refine RW.out.mono ?_
     rintro e w7 ⟨v1, v2, rfl, h7⟩
     have RK := Lib.hid (rws_ok itv Fl FR.out)
     obtain ⟨P, hP⟩ : ∃ P, (rws itv Fl).1 = P := ⟨_, rfl⟩
     obtain ⟨R, hR⟩ : ∃ R, (rws itv Fl).2 = R := ⟨_, rfl⟩
     rw [hP, hR] at h7
     have hRb : ∀ v ∈ R, v < 65536 := fun v hv => FR.out.2 v (RK.out.sub.subset (hR ▸ hv))
     have hRl : R.length ≤ 65536 := by
      have := RK.out.sub.length_le
      rw [hR, HM.out] at this
      omega
     have hPl : P.length ≤ 65536 := by
      have h1 := RK.out.perm.length_eq
      rw [List.length_append, sumLen, hP, HM.out] at h1
      have h2 := RK.out.apart
      rw [hP] at h2
      have h3 := apart_len _ _ h2
      omega
     obtain ⟨a1, c1', a2, c2', rfl, rfl, hc2, ks2, kin, H7, KV⟩ := H6.out.rows h7 (fun v hv => Nat.lt_of_lt_of_le (hRb v hv) (by decide)) (by omega)
     have HKV := Lib.hid KV
     have HKS2 := Lib.hid (kin _ HKS.out)
     have HP := Lib.hid hP
     have HR := Lib.hid hR
     have HRB := Lib.hid hRb
     have H7 := Lib.hid H7
     clear KV kin h7 hP hR hRb H6 c1 RW f1 n1
     have RE2 : Hid (NN = L2 ++ ((if 0 < itv then [(Cd.gam, P.length)] else []) ++ (lnm x itv none P).map (fun v => (Cd.gam, v)) ++ (znm x none R).map (fun v => (Cd.zet zet, v)))) := Lib.hid (by
      rw [RE.out]
      unfold restN
      rw [if_neg HFNE.out, HP.out, HR.out])
     obtain ⟨np, hnp⟩ : ∃ np, P.length = np := ⟨_, rfl⟩
     obtain ⟨nr, hnr⟩ : ∃ nr, R.length = nr := ⟨_, rfl⟩
     rw [hnp] at hPl RE2 ⊢
     rw [hnr] at hRl hc2 ⊢
     have HNP := Lib.hid hnp
     have HNR := Lib.hid hnr
     have r7 := H7.out.ns0.row HKS2.out
     have c1 : w7.cell? ⟨sz, 1, none⟩ = some (.int .i64 (itv : Int)) := by rw [cell_of_row _ _ _ _ _ _ r7]; rfl
     clear hnp hnr r7
     go_upto_if 88 with fail
     clear c1
     go_cut [] from 88 to 94 (fun wc => NS w (sz + 1 + 1) fb rb (L2 ++ (if 0 < itv then [(Cd.gam, np)] else [])) (Fl, Q) ks2 wc)
     case first => as_aux_lemma =>
      --F2
      by_cases hi0 : 0 < itv
      ·have hi1 : (0 : Int) < (itv : Int) := by omega
       have PU := Lib.hid (H7.out.put .gam np (by omega) (Nat.le_trans L2l.out (by decide)))
       have E : Hid (L2 ++ [(Cd.gam, np)] = L2 ++ (if 0 < itv then [(Cd.gam, np)] else [])) := Lib.hid (by rw [if_pos hi0])
       rw [E.out] at PU
       have hG4 := HG.out.below H7.out.ns0.below
       have g0 := hG4.g0
       have g1 := hG4.g1
       unfold cdV at PU
       clear hG4
       go_wp2_with fail
       with_reducible refine PU.out.mono ?_
       rintro e w8 ⟨rfl, h8, -⟩
       have H8 := Lib.hid h8
       clear h8
       go_wp2_with fail
       go_meet
       case rel => exact H8.out
      ·have hi1 : ¬ (0 : Int) < (itv : Int) := by omega
       have E : Hid (L2 = L2 ++ (if 0 < itv then [(Cd.gam, np)] else [])) := Lib.hid (by rw [if_neg hi0, List.append_nil])
       go_wp2_with fail
       go_meet
       case rel => rw [← E.out]; exact H7.out
     case rest =>
      have H8 := Lib.hid hcut
      generalize wc = W8 at H8 ⊢
      clear H7 hcut
      obtain ⟨L3, hL3⟩ : ∃ L3, L2 ++ (if 0 < itv then [(Cd.gam, np)] else []) = L3 := ⟨_, rfl⟩
      have HL3 := Lib.hid hL3
      rw [hL3] at H8
      have L3l : Hid (L3.length ≤ 131081) := Lib.hid (by
       rw [← hL3, List.length_append]
       have := L2l.out
       split <;> simp <;> omega)
      clear hL3
      have AP := Lib.hid (show Apart itv none P from HP.out ▸ RK.out.apart)
      go_wp2_with fail
      go_loopw [19, 96] (fun ve vi wr => ∃ i : Nat, vi = .int .i64 (i : Int) ∧ i ≤ np ∧ ve = endV (lend none (P.take i)) ∧ NS w (sz + 1 + 1) fb rb (L3 ++ (lnm x itv none (P.take i)).map (fun v => (Cd.gam, v))) (Fl, Q) ks2 wr) (fun _ vi _ => np - (intOf vi).toNat)
      case atStart => exact ⟨0, rfl, Nat.zero_le _, rfl, by simpa [lnm] using H8.out⟩
      case round =>
       obtain ⟨i, rfl, hi, rfl, hS⟩ := hrel
       have HS := Lib.hid hS
       clear hS
       by_cases hlt : i < np
       · --A1
        have hip : i < P.length := by rw [HNP.out]; exact hlt
        obtain ⟨g, rfl, p0, p1⟩ := (HKV.out _ _ _ HS.out).1 i hip
        obtain ⟨b0, b1, b2, b3⟩ := Apart.get AP.out i hip
        obtain ⟨f, hf⟩ : ∃ f, P[i].1 = f := ⟨_, rfl⟩
        obtain ⟨n', hn'⟩ : ∃ n', P[i].2 = n' := ⟨_, rfl⟩
        rw [hf] at p0 b2 b3
        rw [hn'] at p1 b0 b1 b2
        have TK : Hid (P.take (i + 1) = P.take i ++ [(f, n')]) := Lib.hid (by rw [List.take_succ_eq_append_getElem hip, ← hf, ← hn'])
        have SN := Lib.hid (lnm_snoc x itv none (P.take i) f n')
        have LS := Lib.hid (lend_snoc none (P.take i) f n')
        rw [← TK.out] at SN LS
        have LL : Hid ((L3 ++ (lnm x itv none (P.take i)).map (fun v => (Cd.gam, v))).length ≤ 1000000) := Lib.hid (by
         rw [List.length_append, List.length_map, lnm_length, List.length_take]
         have := L3l.out
         omega)
        obtain ⟨L4, hL4⟩ : ∃ L4, L3 ++ (lnm x itv none (P.take i)).map (fun v => (Cd.gam, v)) = L4 := ⟨_, rfl⟩
        rw [hL4] at HS LL
        have HL4 := Lib.hid hL4
        obtain ⟨o, ho⟩ : ∃ o, lend none (P.take i) = o := ⟨_, rfl⟩
        rw [ho] at b3 SN ⊢
        obtain ⟨z, hz, hzo⟩ : ∃ z : Int, endV o = .int .i64 z ∧ ((o = none ∧ z = -1) ∨ ∃ e : Nat, o = some e ∧ z = (e : Int)) := by
         cases o with
         | none => exact ⟨-1, rfl, .inl ⟨rfl, rfl⟩⟩
         | some e => exact ⟨(e : Int), rfl, .inr ⟨e, rfl, rfl⟩⟩
        rw [hz]
        have HZO := Lib.hid hzo
        clear hz hzo
        have H9 := Lib.hid (HS.out.more ((Below.refl wr.heap.size wr).alloc (Nat.le_refl _) (.cells #[.int .i64 (f : Int), .int .i64 (n' : Int)] 204)) [(wr.heap.size, .cells #[.int .i64 (f : Int), .int .i64 (n' : Int)] 204 (0, 0))] (fun p hp => by
         rcases List.mem_cons.1 hp with rfl | hp
         ·exact ⟨Nat.le_refl _, heap_alloc_new wr _⟩
         ·cases hp))
        have i1 : (i : Int) < (np : Int) := by omega
        have i0 : (0 : Int) ≤ (i : Int) := Int.natCast_nonneg i
        clear hf hn' hL4 ho hip
        go_upto_if 101 with fail
        clear p0 p1
        generalize hvb : wr.heap.size = vb at H9 ⊢
        generalize World.alloc wr _ = W9 at H9 ⊢
        clear hvb
        obtain ⟨ks3, hks3⟩ : ∃ ks3, [(vb, Obj.cells #[.int .i64 (f : Int), .int .i64 (n' : Int)] 204 (0, 0))] ++ ks2 = ks3 := ⟨_, rfl⟩
        have K1 : Hid ((vb, Obj.cells #[.int .i64 (f : Int), .int .i64 (n' : Int)] 204 (0, 0)) ∈ ks3) := Lib.hid (by rw [← hks3]; exact List.mem_append_left _ (List.mem_cons_self ..))
        have K2 : Hid (∀ p ∈ ks2, p ∈ ks3) := Lib.hid (fun p hp => by rw [← hks3]; exact List.mem_append_right _ hp)
        have K3 : Hid (∀ L W, NS w (sz + 1 + 1) fb rb L (Fl, Q) ks3 W → NS w (sz + 1 + 1) fb rb L (Fl, Q) ks2 W) := Lib.hid (fun L W h => h.fewer K2.out)
        rw [hks3] at H9
        clear hks3 HS
        obtain ⟨v0, hv0⟩ : ∃ v0 : Nat, frstN x o f = v0 := ⟨_, rfl⟩
        have V0 := Lib.hid hv0
        have hv0b : v0 ≤ 262144 := by
         rw [← hv0]
         cases o with
         | none => exact zig_lt (by omega) hx
         | some e => show f - e - 2 ≤ _; omega
        rw [hv0] at SN
        have B3 := Lib.hid b3
        clear hv0 b3
        go_cut [] from 100 to 119 (fun wc => NS w (sz + 1 + 1) fb rb (L4 ++ [(Cd.gam, v0)]) (Fl, Q) ks3 wc)
        case first => as_aux_lemma =>
         --F3
         have PU := Lib.hid (fun W h => NS.put (W := W) (ks := ks3) (L := L4) (s := (Fl, Q)) (w := w) (lb := sz + 1 + 1) (fb := fb) (rb := rb) h .gam v0 (by omega) (Nat.le_trans LL.out (by decide)))
         have CF := Lib.hid (fun L W (h : NS w (sz + 1 + 1) fb rb L (Fl, Q) ks3 W) => h.ns0.row K1.out)
         rcases HZO.out with ⟨rfl, rfl⟩ | ⟨e, rfl, rfl⟩
         · --R26
          have hz : (-1 : Int) < 0 := by decide
          have ZG := Lib.hid (fun W => Zig_any ((f : Int) - (x : Int)) (by omega) (by omega) W)
          have V1 : Hid (zig ((f : Int) - (x : Int)) = v0) := V0
          rw [V1.out] at ZG
          have w1 : IntKind.i64.wrap ((f : Int) - (x : Int)) = (f : Int) - (x : Int) := IntWalk.i64_in _ (by omega)
          have hv1 : v0 < 9223372036854775807 := by omega
          go_upto_region 26 with fail
          have h9 := H9.out.next (W' := { W9 with drawn := W9.drawn + 1 }) ⟨rfl, rfl, rfl, Nat.le_refl _, fun _ _ => rfl⟩
          generalize hW : ({ W9 with drawn := W9.drawn + 1 } : World) = W10 at h9
          have r9 := CF.out _ _ h9
          have c0 : W10.cell? ⟨vb, 0, none⟩ = some (.int .i64 (f : Int)) := by rw [cell_of_row _ _ _ _ _ _ r9]; rfl
          have hG4 := HG.out.below h9.ns0.below
          have g0 := hG4.g0
          have g1 := hG4.g1
          have H10 := Lib.hid h9
          clear h9 r9 hG4
          refine wp_region_still_tail 8 (by kernel_rfl) (by kernel_rfl) ?_
          simp only [List.take_succ_cons, List.take_zero, List.drop_succ_cons, List.drop_zero]
          rw [hW]
          clear hW
          repeat (first | still_step | still_call ((ZG.out _).mono (fun e w' h => ⟨h.1, h.2.symm⟩)))
          refine wpStill_nil ?_
          clear c0 g0 g1 w1 ZG
          unfold cdV at PU
          go_wp2_with fail
          with_reducible refine (PU.out _ H10.out).mono ?_
          rintro e w12 ⟨rfl, h12, -⟩
          have H12 := Lib.hid h12
          clear h12
          go_wp2_with fail
          go_meet
          case rel => exact H12.out
         · --R27
          have hz : ¬ (e : Int) < 0 := by omega
          have hef := B3.out e rfl
          have V1 : f - e - 2 = v0 := V0.out
          have w1 : (f : Int) - (e : Int) - 2 = (v0 : Int) := by omega
          have W1' := Lib.hid w1
          have r9 := CF.out _ _ H9.out
          have c0 : W9.cell? ⟨vb, 0, none⟩ = some (.int .i64 (f : Int)) := by rw [cell_of_row _ _ _ _ _ _ r9]; rfl
          have hG4 := HG.out.below H9.out.ns0.below
          have g0 := hG4.g0
          have g1 := hG4.g1
          clear r9 hG4 V1
          unfold cdV at PU
          go_wp2_with fail
          with_reducible refine (PU.out _ H9.out).mono ?_
          rintro e w12 ⟨rfl, h12, -⟩
          have H12 := Lib.hid h12
          clear h12
          go_wp2_with fail
          go_meet
          case rel => exact H12.out
        case rest =>
         have H11 := Lib.hid hcut
         generalize wc = W11 at H11 ⊢
         clear hcut H9
         have r1 := H11.out.ns0.row K1.out
         have c1 : W11.cell? ⟨vb, 1, none⟩ = some (.int .i64 (n' : Int)) := by rw [cell_of_row _ _ _ _ _ _ r1]; rfl
         have r2 := H11.out.ns0.row (K2.out _ HKS2.out)
         have c2 : W11.cell? ⟨sz, 1, none⟩ = some (.int .i64 (itv : Int)) := by rw [cell_of_row _ _ _ _ _ _ r2]; rfl
         have hG4 := HG.out.below H11.out.ns0.below
         have g0 := hG4.g0
         have g1 := hG4.g1
         have PU := Lib.hid (H11.out.put .gam (n' - itv) (by omega) (by have := LL.out; rw [List.length_append, List.length_singleton]; omega))
         have w1 : (n' : Int) - (itv : Int) = ((n' - itv : Nat) : Int) := by omega
         have w2 : (f : Int) + (n' : Int) - 1 = ((f + n' - 1 : Nat) : Int) := by omega
         unfold cdV at PU
         clear r1 r2 hG4
         go_wp2_with fail
         with_reducible refine PU.out.mono ?_
         rintro e w12 ⟨rfl, h12, -⟩
         have r1 := h12.ns0.row K1.out
         have c1' : w12.cell? ⟨vb, 1, none⟩ = some (.int .i64 (n' : Int)) := by rw [cell_of_row _ _ _ _ _ _ r1]; rfl
         have c0' : w12.cell? ⟨vb, 0, none⟩ = some (.int .i64 (f : Int)) := by rw [cell_of_row _ _ _ _ _ _ r1]; rfl
         have H12 := Lib.hid (K3.out _ _ h12)
         clear h12 r1 c1 c2 g0 g1 PU
         go_wp2_with fail
         go_roundw
         case rel =>
          refine ⟨i + 1, by go_num, by omega, ?_, ?_⟩
          ·rw [LS.out, endV, ← w2]
          ·rw [SN.out, List.map_append, ← List.append_assoc, HL4.out]
           have h12 := H12.out
           rw [List.append_assoc] at h12
           exact h12
         case measure => simp [intOf]; omega
       ·obtain rfl : i = np := by omega
        --B
        have PT : Hid (P.take i = P) := Lib.hid (List.take_of_length_le (by rw [HNP.out]; exact Nat.le_refl _))
        rw [PT.out] at HS ⊢
        have i1 : ¬ (i : Int) < (i : Int) := by omega
        have r2 := HS.out.ns0.row HKS2.out
        have c2 : wr.cell? ⟨sz, 2, none⟩ = some (.int .i64 (zet : Int)) := by rw [cell_of_row _ _ _ _ _ _ r2]; rfl
        have hzz : zet < 100 := by omega
        obtain ⟨L5, hL5⟩ : ∃ L5, L3 ++ (lnm x itv none P).map (fun v => (Cd.gam, v)) = L5 := ⟨_, rfl⟩
        rw [hL5] at HS
        have L5l : Hid (L5.length ≤ 300000) := Lib.hid (by
         rw [← hL5, List.length_append, List.length_map, lnm_length, HNP.out]
         have := L3l.out
         omega)
        have HL5 := Lib.hid hL5
        have H12 := Lib.hid (HS.out.more ((Below.refl wr.heap.size wr).alloc (Nat.le_refl _) (.cells #[.int .u8 3, .int .u64 (zet : Int)] 101)) [(wr.heap.size, .cells #[.int .u8 3, .int .u64 (zet : Int)] 101 (0, 0))] (fun p hp => by
         rcases List.mem_cons.1 hp with rfl | hp
         ·exact ⟨Nat.le_refl _, heap_alloc_new wr _⟩
         ·cases hp))
        clear r2 hL5
        go_upto_region 33 with fail
        generalize hvb : wr.heap.size = zb at H12 ⊢
        generalize World.alloc wr _ = W12 at H12 ⊢
        clear hvb c2 HS
        obtain ⟨ks3, hks3⟩ : ∃ ks3, [(zb, Obj.cells #[.int .u8 3, .int .u64 (zet : Int)] 101 (0, 0))] ++ ks2 = ks3 := ⟨_, rfl⟩
        have K1 : Hid ((zb, Obj.cells #[.int .u8 3, .int .u64 (zet : Int)] 101 (0, 0)) ∈ ks3) := Lib.hid (by rw [← hks3]; exact List.mem_append_left _ (List.mem_cons_self ..))
        have K2 : Hid (∀ p ∈ ks2, p ∈ ks3) := Lib.hid (fun p hp => by rw [← hks3]; exact List.mem_append_right _ hp)
        rw [hks3] at H12
        clear hks3
        go_wp2_with fail
        go_loopw [140] (fun vj wq => ∃ j : Nat, vj = .int .i64 (j : Int) ∧ j ≤ nr ∧ NS w (sz + 1 + 1) fb rb (L5 ++ (znm x none (R.take j)).map (fun v => (Cd.zet zet, v))) (Fl, Q) ks3 wq) (fun vj _ => nr - (intOf vj).toNat)
        case atStart => exact ⟨0, rfl, Nat.zero_le _, by simpa [znm] using H12.out⟩
        case round =>
         obtain ⟨j, rfl, hj, hS⟩ := hrel
         have HS := Lib.hid hS
         clear hS H12
         by_cases hlt : j < nr
         ·have hjr : j < R.length := by rw [HNR.out]; exact hlt
          have LV2 := Lib.hid (HKV.out _ _ _ (HS.out.fewer K2.out)).2
          obtain ⟨v, hv⟩ : ∃ v, R[j] = v := ⟨_, rfl⟩
          have hvb : v < 65536 := by rw [← hv]; exact HRB.out _ (List.getElem_mem hjr)
          obtain ⟨g, o, rfl, -, p0, -⟩ := LV2.out.2 j hjr
          rw [hv] at p0
          have SN := Lib.hid (znm_snoc x none (R.take j) v)
          have TK : Hid (R.take (j + 1) = R.take j ++ [v]) := Lib.hid (by rw [List.take_succ_eq_append_getElem hjr, hv])
          rw [← TK.out] at SN
          obtain ⟨L6, hL6⟩ : ∃ L6, L5 ++ (znm x none (R.take j)).map (fun v => (Cd.zet zet, v)) = L6 := ⟨_, rfl⟩
          have L6l : Hid (L6.length ≤ 400000) := Lib.hid (by
           rw [← hL6, List.length_append, List.length_map, znm_length, List.length_take]
           have := L5l.out
           omega)
          rw [hL6] at HS
          have HL6 := Lib.hid hL6
          have CF := Lib.hid (fun L W (h : NS w (sz + 1 + 1) fb rb L (Fl, Q) ks3 W) => h.ns0.row K1.out)
          have j1 : (j : Int) < (nr : Int) := by omega
          have j0 : (0 : Int) ≤ (j : Int) := Int.natCast_nonneg j
          clear hv hL6
          by_cases hj0 : j = 0
          · --G1
           obtain ⟨v0, hv0⟩ : ∃ v0, zig ((v : Int) - x) = v0 := ⟨_, rfl⟩
           have hv0b : v0 ≤ 262144 := hv0 ▸ zig_lt hvb hx
           have SN2 : Hid (znm x none (R.take (j + 1)) = znm x none (R.take j) ++ [v0]) := Lib.hid (by
            rw [SN.out, ← hv0]
            subst hj0
            rfl)
           have ZG := Lib.hid (fun W => Zig_any ((v : Int) - (x : Int)) (by omega) (by omega) W)
           rw [hv0] at ZG
           have PU := Lib.hid (fun W h => NS.put (W := W) (ks := ks3) (L := L6) (s := (Fl, Q)) (w := w) (lb := sz + 1 + 1) (fb := fb) (rb := rb) h (.zet zet) v0 (by omega) (Nat.le_trans L6l.out (by decide)))
           have jz : ((j : Int) == 0) = true := by rw [hj0]; rfl
           have hv1 : v0 < 9223372036854775807 := by omega
           clear hv0 SN hj0
           go_upto_region 36 with fail
           have h9 := HS.out.next (W' := { wr with drawn := wr.drawn + 1 }) ⟨rfl, rfl, rfl, Nat.le_refl _, fun _ _ => rfl⟩
           generalize hW : ({ wr with drawn := wr.drawn + 1 } : World) = W10 at h9
           have r9 := CF.out _ _ h9
           have c0 : W10.cell? ⟨zb, 0, none⟩ = some (.int .u8 3) := by rw [cell_of_row _ _ _ _ _ _ r9]; rfl
           have c1 : W10.cell? ⟨zb, 1, none⟩ = some (.int .u64 (zet : Int)) := by rw [cell_of_row _ _ _ _ _ _ r9]; rfl
           have H10 := Lib.hid h9
           clear h9 r9
           have w1 : IntKind.i64.wrap (v : Int) = (v : Int) := i64_nat v (by omega)
           have w2 : IntKind.i64.wrap ((v : Int) - (x : Int)) = (v : Int) - (x : Int) := i64_diff v x hvb hx
           refine wp_region_still_tail 8 (by kernel_rfl) (by kernel_rfl) ?_
           simp only [List.take_succ_cons, List.take_zero, List.drop_succ_cons, List.drop_zero]
           rw [hW]
           clear hW
           repeat (first | still_step | still_call ((ZG.out _).mono (fun e w' h => ⟨h.1, h.2.symm⟩)))
           refine wpStill_nil ?_
           clear c0 c1 w1 w2 ZG
           unfold cdV at PU
           go_wp2_with fail
           with_reducible refine (PU.out _ H10.out).mono ?_
           rintro e w12 ⟨rfl, h12, -⟩
           have H13 := Lib.hid h12
           clear h12
           go_wp2_with fail
           go_roundw
           case rel =>
            refine ⟨j + 1, by go_num, by omega, ?_⟩
            rw [SN2.out, List.map_append, ← List.append_assoc, HL6.out]
            exact H13.out
           case measure => simp [intOf]; omega
          · --G2
           have hjm : j - 1 < R.length := by omega
           obtain ⟨u, hu⟩ : ∃ u, R[j - 1] = u := ⟨_, rfl⟩
           have huv : u < v := by
            have h1 := (FR.out.1.sublist (show List.Sublist R Fl from HR.out ▸ RK.out.sub))
            have h2 := List.pairwise_iff_getElem.1 h1 (j - 1) j hjm hjr (by omega)
            rw [hu] at h2
            have h3 : R[j] = v := by
             have e : (R.take (j + 1))[j]? = (R.take j ++ [v])[j]? := by rw [TK.out]
             rw [List.getElem?_take_of_lt (by omega), List.getElem?_append_right (by rw [List.length_take]; omega), List.length_take, Nat.min_eq_left (by omega), Nat.sub_self, List.getElem?_eq_getElem hjr] at e
             simpa using e
            omega
           obtain ⟨g', o', he, -, p1, -⟩ := LV2.out.2 (j - 1) hjm
           injection he with he
           injection he with he1 he2
           subst he1 he2
           rw [hu] at p1
           have SN2 : Hid (znm x none (R.take (j + 1)) = znm x none (R.take j) ++ [v - u - 1]) := Lib.hid (by
            rw [SN.out]
            have e : R.take j = R.take (j - 1) ++ [u] := by
             have := List.take_succ_eq_append_getElem hjm
             rw [hu, show j - 1 + 1 = j by omega] at this
             exact this
            rw [e, List.getLast?_concat]
            rfl)
           have PU := Lib.hid (fun W h => NS.put (W := W) (ks := ks3) (L := L6) (s := (Fl, Q)) (w := w) (lb := sz + 1 + 1) (fb := fb) (rb := rb) h (.zet zet) (v - u - 1) (by omega) (Nat.le_trans L6l.out (by decide)))
           have jz : ((j : Int) == 0) = false := beq_eq_false_iff_ne.2 (by omega)
           have LVF := Lib.hid (fun L W (h : NS w (sz + 1 + 1) fb rb L (Fl, Q) ks3 W) => (HKV.out _ _ _ (h.fewer K2.out)).2)
           clear hu hjm hjr
           go_upto_region 37 with fail
           have h9 := HS.out.next (W' := { wr with drawn := wr.drawn + 1 }) ⟨rfl, rfl, rfl, Nat.le_refl _, fun _ _ => rfl⟩
           have p2 : ({ wr with drawn := wr.drawn + 1 } : World).cell? ⟨g, o + (j - 1), none⟩ = some (.int .u32 (u : Int)) := p1
           generalize hW : ({ wr with drawn := wr.drawn + 1 } : World) = W10 at h9 p2
           have r9 := CF.out _ _ h9
           have c0 : W10.cell? ⟨zb, 0, none⟩ = some (.int .u8 3) := by rw [cell_of_row _ _ _ _ _ _ r9]; rfl
           have c1 : W10.cell? ⟨zb, 1, none⟩ = some (.int .u64 (zet : Int)) := by rw [cell_of_row _ _ _ _ _ _ r9]; rfl
           have H10 := Lib.hid h9
           obtain ⟨jj, hjj⟩ : ∃ jj, j - 1 = jj := ⟨_, rfl⟩
           rw [hjj] at p2
           have jm1 : IntKind.i64.wrap ((j : Int) - 1) = (jj : Int) := by rw [IntWalk.i64_in _ (by omega)]; omega
           have jl : (jj : Int) < (nr : Int) := by omega
           have jp : (0 : Int) ≤ (jj : Int) := Int.natCast_nonneg _
           clear hjj
           have q1 : IntKind.u32.wrap ((v : Int) - (u : Int)) = ((v - u : Nat) : Int) := by rw [IntKind.wrap_u32]; omega
           obtain ⟨vu, hvu⟩ : ∃ vu, v - u = vu := ⟨_, rfl⟩
           obtain ⟨v0, hv0⟩ : ∃ v0, v - u - 1 = v0 := ⟨_, rfl⟩
           rw [hvu] at q1
           have q2 : IntKind.u32.wrap ((vu : Int) - 1) = (v0 : Int) := by clear q1; rw [IntKind.wrap_u32]; omega
           have hv063 : v0 ≤ 9223372036854775807 := by clear q1 q2; omega
           have q3 : IntKind.i64.wrap (v0 : Int) = (v0 : Int) := i64_nat _ hv063
           rw [hv0] at PU SN2
           clear hvu hv0 hv063
           clear h9 r9 p1 p0
           refine wp_region_still_tail 11 (by kernel_rfl) (by kernel_rfl) ?_
           simp only [List.take_succ_cons, List.take_zero, List.drop_succ_cons, List.drop_zero]
           rw [hW]
           clear hW
           repeat still_step
           refine wpStill_nil ?_
           clear c0 c1 q1 q2 q3 jm1 p2
           unfold cdV at PU
           go_wp2_with fail
           with_reducible refine (PU.out _ H10.out).mono ?_
           rintro e w12 ⟨rfl, h12, -⟩
           have H13 := Lib.hid h12
           clear h12
           go_wp2_with fail
           go_roundw
           case rel =>
            refine ⟨j + 1, by go_num, by omega, ?_⟩
            rw [SN2.out, List.map_append, ← List.append_assoc, HL6.out]
            exact H13.out
           case measure => simp [intOf]; omega
         ·obtain rfl : j = nr := by omega
          --G3
          have RT : Hid (R.take j = R) := Lib.hid (List.take_of_length_le (by rw [HNR.out]; exact Nat.le_refl _))
          have FIN : Hid (L5 ++ (znm x none (R.take j)).map (fun v => (Cd.zet zet, v)) = NN) := Lib.hid (by
           rw [RT.out, RE2.out, ← HL5.out, ← HL3.out]
           simp only [List.append_assoc])
          have hs := HS.out
          rw [FIN.out] at hs
          obtain ⟨vv, cv, hPP⟩ := hs.ns0.done
          have HPP := Lib.hid hPP
          have j1 : ¬ (j : Int) < (j : Int) := by omega
          clear hs hPP
          go_wp2_with fail
          go_ret
          exact HPP.out
end Go.Proofs.YtflnpcgnenhogaaGreatDoor.ls
namespace Go.Proofs.YtflnpcgnenhogaaGreatDoor.ls
open Go.RowKit Go.Proofs.YtflnpcgnenhogaaGreatDoor.own Go.Proofs.YtflnpcgnenhogaaGreatDoor.bit

/-! ### how great numbers are, how many there are -/
theorem zig_lt2 {v x : Nat} (hv : v < 65536) (hx : x < 65536) : zig ((v : Int) - x) < 262144 := by
 unfold zig
 split <;> omega
theorem rnm_all : ∀ (i : Nat) (l : List Nat), (∀ n ∈ l, n ≤ 65536) → ∀ v ∈ rnm i l, v < 262144
 | _, [], _, v, hv => by cases hv
 | i, n :: l, h, v, hv => by
  have h0 := h n (List.mem_cons_self ..)
  rcases List.mem_cons.1 hv with rfl | hv
  ·omega
  ·exact rnm_all (i + 1) l (fun m hm => h m (List.mem_cons_of_mem _ hm)) v hv
theorem lnm_all (x itv : Nat) (hx : x < 65536) : ∀ (e : Option Nat) (l : List (Nat × Nat)), Apart itv e l → ∀ v ∈ lnm x itv e l, v < 262144
 | none, [], _, v, hv => by cases hv
 | some _, [], _, v, hv => by cases hv
 | none, (f, n) :: l, h, v, hv => by
  obtain ⟨h1, h2, h3, h4⟩ := h
  rw [lnm_cons] at hv
  rcases List.mem_cons.1 hv with rfl | hv
  ·exact zig_lt2 (by omega) hx
  ·rcases List.mem_cons.1 hv with rfl | hv
   ·omega
   ·exact lnm_all x itv hx _ l h4 v hv
 | some e, (f, n) :: l, h, v, hv => by
  obtain ⟨h0, h1, h2, h3, h4⟩ := h
  rw [lnm_cons] at hv
  rcases List.mem_cons.1 hv with rfl | hv
  ·show f - e - 2 < _; omega
  ·rcases List.mem_cons.1 hv with rfl | hv
   ·omega
   ·exact lnm_all x itv hx _ l h4 v hv
theorem znm_all (x : Nat) (hx : x < 65536) : ∀ (e : Option Nat) (l : List Nat), (∀ v ∈ l, v < 65536) → ∀ v ∈ znm x e l, v < 262144
 | none, [], _, v, hv => by cases hv
 | some _, [], _, v, hv => by cases hv
 | none, a :: l, h, v, hv => by
  have h0 := h a (List.mem_cons_self ..)
  rcases List.mem_cons.1 hv with rfl | hv
  ·exact zig_lt2 h0 hx
  ·exact znm_all x hx _ l (fun u hu => h u (List.mem_cons_of_mem _ hu)) v hv
 | some e, a :: l, h, v, hv => by
  have h0 := h a (List.mem_cons_self ..)
  rcases List.mem_cons.1 hv with rfl | hv
  ·show a - e - 1 < _; omega
  ·exact znm_all x hx _ l (fun u hu => h u (List.mem_cons_of_mem _ hu)) v hv
theorem apart_len2 {itv : Nat} (h2 : 2 ≤ itv) : ∀ (e : Option Nat) (l : List (Nat × Nat)), Apart itv e l → 2 * l.length ≤ sum (l.map (·.2))
 | _, [], _ => Nat.zero_le _
 | none, (f, n) :: r, h => by
  have := apart_len2 h2 _ r h.2.2.2
  have h2 := h.1
  show 2 * (r.length + 1) ≤ n + sum (r.map (·.2))
  omega
 | some e, (f, n) :: r, h => by
  have := apart_len2 h2 _ r h.2.2.2.2
  have h2 := h.2.1
  show 2 * (r.length + 1) ≤ n + sum (r.map (·.2))
  omega
def NumOk (q : Cd × Nat) : Prop := q.1.ok ∧ q.2 < 262144 ∧ (q.1 = .una → q.2 ≤ 16)
theorem NumOk.most {q : Cd × Nat} (h : NumOk q) : q.2 ≤ q.1.most := by
 obtain ⟨c, v⟩ := q
 obtain ⟨h1, h2, h3⟩ := h
 cases c with
 | una => have := h3 rfl; show v ≤ 65535; omega
 | gam => show v ≤ 281474976710654; simp only at h2; omega
 | zet k => show v ≤ 281474976710654; simp only at h2; omega
theorem nums_ok {x : Nat} {succ ref : List Nat} {r : Nat} {p : Pr} (h : MayN x succ ref r p) : (∀ q ∈ nums x succ ref r p, NumOk q) ∧ (nums x succ ref r p).length ≤ 131076 := by
 obtain ⟨⟨hp1, hp2, hp3⟩, hx, hsu, hre, hr1, hr2⟩ := h
 have hsl := hsu.len
 have hrl := hre.len
 have RO := runs_ok succ ref
 have hL : Ris (leftOf succ ref) := ⟨hsu.1.sublist List.filter_sublist, fun v hv => hsu.2 v (List.mem_filter.1 hv).1⟩
 have RW := rws_ok p.itv _ hL
 have hll := hL.len
 have hpl := RW.perm.length_eq
 rw [List.length_append, sumLen] at hpl
 have hlens : 2 * (rws p.itv (leftOf succ ref)).1.length + (rws p.itv (leftOf succ ref)).2.length ≤ 65536 := by
  rcases hp2 with h0 | h0
  ·rw [h0, rws_zero]; simp; omega
  ·have := apart_len2 h0.1 _ _ RW.apart
   omega
 have gok : ∀ v, v < 262144 → NumOk (.gam, v) := fun v hv => ⟨trivial, hv, fun h => by cases h⟩
 unfold nums hdN tlN runN restN
 constructor
 ·intro q hq
  rcases List.mem_append.1 hq with hq | hq
  ·rcases List.mem_cons.1 hq with rfl | hq
   ·exact gok _ (by omega)
   ·split at hq
    ·cases hq
    ·split at hq
     ·rcases List.mem_cons.1 hq with rfl | hq
      ·exact ⟨trivial, by show r < _; omega, fun _ => by show r ≤ 16; omega⟩
      ·cases hq
     ·cases hq
  ·split at hq
   ·cases hq
   ·rcases List.mem_append.1 hq with hq | hq
    ·split at hq
     ·rcases List.mem_cons.1 hq with rfl | hq
      ·exact gok _ (by have := RO.len; omega)
      ·obtain ⟨v, hv, rfl⟩ := List.mem_map.1 hq
       refine gok _ (rnm_all 0 _ (fun n hn => ?_) v hv)
       obtain ⟨i, hi, rfl⟩ := List.mem_iff_getElem.1 hn
       have := sum_get (runs succ ref).1 i hi
       have := RO.all
       omega
     ·cases hq
    ·split at hq
     ·cases hq
     ·rcases List.mem_append.1 hq with hq | hq
      ·rcases List.mem_append.1 hq with hq | hq
       ·split at hq
        ·rcases List.mem_cons.1 hq with rfl | hq
         ·exact gok _ (by omega)
         ·cases hq
        ·cases hq
       ·obtain ⟨v, hv, rfl⟩ := List.mem_map.1 hq
        exact gok _ (lnm_all x p.itv hx none _ RW.apart v hv)
      ·obtain ⟨v, hv, rfl⟩ := List.mem_map.1 hq
       exact ⟨hp3, znm_all x hx none _ (fun u hu => hL.2 u (RW.sub.subset hu)) v hv, fun h => by cases h⟩
 ·have hrn := RO.len
  rw [List.length_append, List.length_cons]
  have e1 : (if succ = [] then ([] : List (Cd × Nat)) else if 0 < p.win then [(Cd.una, r)] else []).length ≤ 1 := by
   split
   ·simp
   ·split <;> simp
  have e2 : (if succ = [] then ([] : List (Cd × Nat)) else (if 0 < r then (Cd.gam, (runs succ ref).1.length) :: (rnm 0 (runs succ ref).1).map (fun v => (Cd.gam, v)) else []) ++ (if leftOf succ ref = [] then [] else (if 0 < p.itv then [(Cd.gam, (rws p.itv (leftOf succ ref)).1.length)] else []) ++ (lnm x p.itv none (rws p.itv (leftOf succ ref)).1).map (fun v => (Cd.gam, v)) ++ (znm x none (rws p.itv (leftOf succ ref)).2).map (fun v => (Cd.zet p.zet, v)))).length ≤ 131074 := by
   split
   ·simp
   ·rw [List.length_append]
    have e3 : (if 0 < r then (Cd.gam, (runs succ ref).1.length) :: (rnm 0 (runs succ ref).1).map (fun v => (Cd.gam, v)) else ([] : List (Cd × Nat))).length ≤ 65537 := by
     split
     ·rw [List.length_cons, List.length_map, rnm_length]; omega
     ·simp
    have e4 : (if leftOf succ ref = [] then ([] : List (Cd × Nat)) else (if 0 < p.itv then [(Cd.gam, (rws p.itv (leftOf succ ref)).1.length)] else []) ++ (lnm x p.itv none (rws p.itv (leftOf succ ref)).1).map (fun v => (Cd.gam, v)) ++ (znm x none (rws p.itv (leftOf succ ref)).2).map (fun v => (Cd.zet p.zet, v))).length ≤ 65537 := by
     split
     ·simp
     ·rw [List.length_append, List.length_append, List.length_map, List.length_map, lnm_length, znm_length]
      have e5 : (if 0 < p.itv then [(Cd.gam, (rws p.itv (leftOf succ ref)).1.length)] else ([] : List (Cd × Nat))).length ≤ 1 := by split <;> simp
      omega
    omega
  omega
theorem bits_len_le : ∀ (l : List (Cd × Nat)), (∀ q ∈ l, NumOk q) → (bitsOf l).length ≤ 40 * l.length
 | [], _ => Nat.le_refl _
 | (c, v) :: l, h => by
  have h0 := h _ (List.mem_cons_self ..)
  have := cb_le c h0.1 v h0.2.1 h0.2.2
  have h1 := bits_len_le l (fun q hq => h q (List.mem_cons_of_mem _ hq))
  rw [bitsOf_cons, List.length_append, List.length_cons]
  omega
/-- a list's bits are few -/
theorem lay_len {x : Nat} {succ ref : List Nat} {r : Nat} {p : Pr} (h : MayN x succ ref r p) : (lay x succ ref r p).length ≤ 5243040 := by
 obtain ⟨h1, h2⟩ := nums_ok h
 have := bits_len_le _ h1
 unfold lay
 omega
theorem bitsOf_take (l : List (Cd × Nat)) (i : Nat) (h : i < l.length) : bitsOf (l.take (i + 1)) = bitsOf (l.take i) ++ cb l[i].1 l[i].2 := by
 rw [List.take_succ_eq_append_getElem h, bitsOf_append]
 show _ ++ (cb l[i].1 l[i].2 ++ []) = _
 rw [List.append_nil]
theorem bits_take_le (l : List (Cd × Nat)) (i : Nat) : (bitsOf (l.take i)).length ≤ (bitsOf l).length := by
 have h : l = l.take i ++ l.drop i := (List.take_append_drop i l).symm
 have e : bitsOf l = bitsOf (l.take i) ++ bitsOf (l.drop i) := by rw [← bitsOf_append, ← h]
 rw [e, List.length_append]
 omega
/-- the row of numbers, as it lies -/
theorem nmV_get : ∀ (L : List (Cd × Nat)) (i : Nat) (h : i < L.length), ∃ kd kk, cdV L[i].1 = .agg #[.int .u8 kd, .int .u64 kk] ∧ (nmV L)[i * 3]? = some (.int .u8 kd) ∧ (nmV L)[i * 3 + 1]? = some (.int .u64 kk) ∧ (nmV L)[i * 3 + 2]? = some (.int .u64 (L[i].2 : Int))
 | (c, v) :: L, 0, _ => by
  obtain ⟨kd, kk, h1, h2⟩ := cdC_shape c
  refine ⟨kd, kk, h2, ?_, ?_, ?_⟩ <;> · show (cdC c ++ [Value.int .u64 (v : Int)] ++ nmV L)[_]? = _; rw [h1]; rfl
 | (c, v) :: L, i + 1, h => by
  obtain ⟨kd, kk, h1, h2, h3, h4⟩ := nmV_get L i (by simpa using h)
  obtain ⟨kd', kk', e1, _⟩ := cdC_shape c
  have e : nmV ((c, v) :: L) = .int .u8 kd' :: .int .u64 kk' :: .int .u64 (v : Int) :: nmV L := by show cdC c ++ [Value.int .u64 (v : Int)] ++ nmV L = _; rw [e1]; rfl
  refine ⟨kd, kk, by simpa using h1, ?_, ?_, ?_⟩
  ·rw [e, show (i + 1) * 3 = i * 3 + 1 + 1 + 1 by omega, List.getElem?_cons_succ, List.getElem?_cons_succ, List.getElem?_cons_succ]; exact h2
  ·rw [e, show (i + 1) * 3 + 1 = i * 3 + 1 + 1 + 1 + 1 by omega, List.getElem?_cons_succ, List.getElem?_cons_succ, List.getElem?_cons_succ]; exact h3
  ·rw [e, show (i + 1) * 3 + 2 = i * 3 + 2 + 1 + 1 + 1 by omega, List.getElem?_cons_succ, List.getElem?_cons_succ, List.getElem?_cons_succ]; simpa using h4
theorem NumsP.lies {w w' : World} {L : List (Cd × Nat)} {e : Ending} (h : NumsP w L e w') (h0 : L ≠ []) :
  ∃ (g cap : Nat) (cur : Array Value), e = .returned (.slice (some ⟨g, 0, none⟩) L.length cap) ∧ w.heap.size ≤ g ∧ w'.heap[g]? = some (.cells cur 175 (0, 0)) ∧ Below w.heap.size w w' ∧
   ∀ W : World, W.heap[g]? = some (.cells cur 175 (0, 0)) → ∀ i (hi : i < L.length), ∃ kd kk, cdV L[i].1 = .agg #[.int .u8 kd, .int .u64 kk] ∧ W.cell? ⟨g, i * 3, none⟩ = some (.int .u8 kd) ∧ W.cell? ⟨g, i * 3 + 1, none⟩ = some (.int .u64 kk) ∧ W.cell? ⟨g, i * 3 + 2, none⟩ = some (.int .u64 (L[i].2 : Int)) := by
 obtain ⟨v, rfl, ho, hb⟩ := h
 rcases ho.2 with ⟨_, h2⟩ | ⟨g, cap, cur, rfl, hbg, hcell, hn, hcm, hcs, htake⟩
 ·exact absurd (List.eq_nil_of_length_eq_zero h2) h0
 ·refine ⟨g, cap, cur, rfl, hbg, hcell, hb, fun W hW i hi => ?_⟩
  obtain ⟨kd, kk, e1, e2, e3, e4⟩ := nmV_get L i hi
  rw [← htake] at e2 e3 e4
  rw [List.getElem?_take_of_lt (by omega)] at e2 e3 e4
  refine ⟨kd, kk, e1, ?_, ?_, ?_⟩
  ·rw [cell_of_row _ _ _ _ _ _ hW, ← Array.getElem?_toList]; exact e2
  ·rw [cell_of_row _ _ _ _ _ _ hW, ← Array.getElem?_toList]; exact e3
  ·rw [cell_of_row _ _ _ _ _ _ hW, ← Array.getElem?_toList]; exact e4
theorem nums_ne (x : Nat) (succ ref : List Nat) (r : Nat) (p : Pr) : nums x succ ref r p ≠ [] := by unfold nums hdN; simp
end Go.Proofs.YtflnpcgnenhogaaGreatDoor.ls
namespace Go.Proofs.YtflnpcgnenhogaaGreatDoor.ls
open Go.RowKit Go.Proofs.YtflnpcgnenhogaaGreatDoor.own Go.Proofs.YtflnpcgnenhogaaGreatDoor.bit

theorem mayN_mayI {x : Nat} {succ ref : List Nat} {r : Nat} {p : Pr} : MayI (p.win : Int) (p.itv : Int) (p.zet : Int) (x : Int) succ ref (r : Int) ↔ MayN x succ ref r p := by
 unfold MayI MayN ParOk Pr.ok
 constructor
 ·rintro ⟨⟨h1, h2, h3, h4⟩, ⟨h5, h6⟩, h7, h8, h9, h10, h11⟩
  exact ⟨⟨by omega, by omega, by omega⟩, by omega, h7, h8, by omega, h11.elim (fun h => .inl (by omega)) .inr⟩
 ·rintro ⟨⟨h1, h2, h3⟩, h5, h7, h8, h9, h10⟩
  exact ⟨⟨by omega, by omega, by omega, by omega, by omega⟩, by omega, h7, h8, by omega, by omega, h10.elim (fun h => .inl (by omega)) .inr⟩

set_option maxRecDepth 100000 in
set_option maxHeartbeats 6400000 in
theorem lbits_yes (p : Pr) (x : Nat) (w : World) (hG : GL w) (a : Option Addr) (succ : List Nat) (cap : Nat) (b : Option Addr) (ref : List Nat) (capb r : Nat) (hc : succ.length ≤ cap) (hcb : ref.length ≤ capb) (hm : MayN x succ ref r p) (hA : LV w a succ) (hB : LV w b ref) :
  Calls Tryz.prog 66 #[.int .i64 (x : Int), .slice a succ.length cap, .slice b ref.length capb, .int .i64 (r : Int), parV (p.win : Int) (p.itv : Int) (p.zet : Int)] w fun e w' => e = .returned (.tuple #[.int .i64 ((lay x succ ref r p).length : Int), .int .i64 0]) ∧ Below w.heap.size w w' := by
 have MY := Lib.hid (fun W (k : Below w.heap.size w W) => lmay_any (p.win : Int) (p.itv : Int) (p.zet : Int) (x : Int) W a succ cap (hA.below k) b ref capb (hB.below k) (r : Int))
 have NU := Lib.hid (fun W (k : Below w.heap.size w W) => numbers_any p x W (hG.below k) a succ cap b ref capb r hc hcb hm (hA.below k) (hB.below k))
 have YES := Lib.hid (mayN_mayI.2 hm)
 have LL := Lib.hid (lay_len hm)
 obtain ⟨nok, nlen⟩ := nums_ok hm
 have NE := Lib.hid (nums_ne x succ ref r p)
 have LD : Hid (lay x succ ref r p = bitsOf (nums x succ ref r p)) := Lib.hid rfl
 generalize lay x succ ref r p = LB at LL LD ⊢
 generalize nums x succ ref r p = NN at NU nok nlen NE LD
 have NOK := Lib.hid nok
 unfold parV at MY NU ⊢
 clear hG hA hB hm nok
 go_enter Tryz.func66, Tryz.ntmps66
 go_upto_region 1 with fail
 have r1 := heap_alloc_new w (.cells #[.int .i64 (p.win : Int), .int .i64 (p.itv : Int), .int .i64 (p.zet : Int)] 42)
 have kb : Below w.heap.size w (w.alloc (.cells #[.int .i64 (p.win : Int), .int .i64 (p.itv : Int), .int .i64 (p.zet : Int)] 42)) := (by repeat (first | exact Below.refl _ _ | refine below_drewN ?_ _ | refine Below.setCell ?_ (by simp; try omega) _ | refine Below.alloc ?_ (by simp; try omega) _))
 generalize w.alloc _ = W1 at r1 kb ⊢
 have c0 : W1.cell? ⟨w.heap.size, 0, none⟩ = some (.int .i64 (p.win : Int)) := by rw [cell_of_row _ _ _ _ _ _ r1]; rfl
 have c1 : W1.cell? ⟨w.heap.size, 1, none⟩ = some (.int .i64 (p.itv : Int)) := by rw [cell_of_row _ _ _ _ _ _ r1]; rfl
 have c2 : W1.cell? ⟨w.heap.size, 2, none⟩ = some (.int .i64 (p.zet : Int)) := by rw [cell_of_row _ _ _ _ _ _ r1]; rfl
 have KB := Lib.hid kb
 have R1 := Lib.hid r1
 have hl1 := lt_of_block r1
 clear kb r1
 go_wp2_with fail
 with_reducible refine (MY.out _ KB.out).mono ?_
 rintro e w2 ⟨b0, rfl, hb0, k2⟩
 have hb : b0 = true := hb0.2 YES.out
 subst hb
 have K2 := Lib.hid (KB.out.trans (k2.mono KB.out.size))
 have r2 := (k2.block _ hl1).trans R1.out
 clear hb0 c0 c1 c2 k2
 have c0 : w2.cell? ⟨w.heap.size, 0, none⟩ = some (.int .i64 (p.win : Int)) := by rw [cell_of_row _ _ _ _ _ _ r2]; rfl
 have c1 : w2.cell? ⟨w.heap.size, 1, none⟩ = some (.int .i64 (p.itv : Int)) := by rw [cell_of_row _ _ _ _ _ _ r2]; rfl
 have c2 : w2.cell? ⟨w.heap.size, 2, none⟩ = some (.int .i64 (p.zet : Int)) := by rw [cell_of_row _ _ _ _ _ _ r2]; rfl
 clear r2
 go_wp2_with fail
 with_reducible refine (NU.out _ K2.out).mono ?_
 rintro e w3 hN
 obtain ⟨g, cg, cur, rfl, hg1, hg2, hk, CC⟩ := hN.lies NE.out
 have K3 := Lib.hid (K2.out.trans (hk.mono K2.out.size))
 have CC := Lib.hid CC
 have G2 := Lib.hid hg2
 have HK := Lib.hid hk
 clear hN hg1 hg2 hk c0 c1 c2
 obtain ⟨n, hn⟩ : ∃ n, NN.length = n := ⟨_, rfl⟩
 have HN := Lib.hid hn
 rw [hn] at nlen ⊢
 clear hn
 go_wp2_with fail
 go_loopw [12, 31] (fun va vi wr => ∃ i : Nat, vi = .int .i64 (i : Int) ∧ i ≤ n ∧ va = .int .i64 ((bitsOf (NN.take i)).length : Int) ∧ Below w3.heap.size w3 wr) (fun _ vi _ => n - (intOf vi).toNat)
 case atStart => exact ⟨0, rfl, Nat.zero_le _, rfl, Below.refl _ _⟩
 case round =>
  obtain ⟨i, rfl, hi, rfl, hk⟩ := hrel
  have HKR := Lib.hid hk
  by_cases hlt : i < n
  ·have hin : i < NN.length := by rw [HN.out]; exact hlt
   obtain ⟨kd, kk, e1, e2, e3, e4⟩ := CC.out wr ((hk.block _ (lt_of_block G2.out)).trans G2.out) i hin
   have hq := NOK.out _ (List.getElem_mem hin)
   have BT := Lib.hid (bitsOf_take NN i hin)
   have BL := bits_take_le NN (i + 1)
   rw [BT.out] at BL
   rw [← LD.out, List.length_append] at BL
   have hll := LL.out
   have CL := Lib.hid (fun W => clen_any NN[i].1 hq.1 NN[i].2 hq.most W)
   rw [e1] at CL
   obtain ⟨v, hv⟩ : ∃ v, NN[i].2 = v := ⟨_, rfl⟩
   rw [hv] at e4 CL
   obtain ⟨cl, hcl⟩ : ∃ cl, (cb NN[i].1 NN[i].2).length = cl := ⟨_, rfl⟩
   have hcl2 := hcl
   rw [hv] at hcl2
   rw [hcl2] at CL
   rw [hcl] at BL
   have HCL := Lib.hid hcl
   obtain ⟨tl, htl⟩ : ∃ tl, (bitsOf (NN.take i)).length = tl := ⟨_, rfl⟩
   rw [htl] at BL ⊢
   have HTL := Lib.hid htl
   have KA : Hid (∀ W, Below (wr.alloc (.cells #[.int .u8 kd, .int .u64 kk, .int .u64 (v : Int)] 175)).heap.size (wr.alloc (.cells #[.int .u8 kd, .int .u64 kk, .int .u64 (v : Int)] 175)) W → Below w3.heap.size w3 W) := Lib.hid (fun W k => HKR.out.trans ((below_alloc k).mono HKR.out.size))
   have i1 : (i : Int) < (n : Int) := by omega
   have i0 : (0 : Int) ≤ (i : Int) := Int.natCast_nonneg i
   have hsum : tl + cl ≤ 5243040 := by omega
   clear hv hcl hcl2 htl hq e1 hk hll BL
   go_wp2_with fail
   with_reducible refine (CL.out _).mono ?_
   rintro e w4 ⟨rfl, k4⟩
   have K4 := Lib.hid (KA.out _ k4)
   clear k4 e2 e3 e4
   go_wp2_with fail
   go_roundw
   case rel => exact ⟨i + 1, by go_num, by omega, by rw [BT.out, List.length_append, HTL.out, HCL.out]; rfl, K4.out⟩
   case measure => simp [intOf]; omega
  ·obtain rfl : i = n := by omega
   have FIN : Hid ((bitsOf (NN.take i)).length = LB.length) := Lib.hid (by rw [List.take_of_length_le (by rw [HN.out]; exact Nat.le_refl _), LD.out])
   rw [FIN.out]
   have i1 : ¬ (i : Int) < (i : Int) := by omega
   clear hk
   go_wp2_with fail
   go_ret2
   exact ⟨rfl, K3.out.trans (HKR.out.mono K3.out.size)⟩

end Go.Proofs.YtflnpcgnenhogaaGreatDoor.ls
namespace Go.Proofs.YtflnpcgnenhogaaGreatDoor.ls
open Go.RowKit Go.Proofs.YtflnpcgnenhogaaGreatDoor.own Go.Proofs.YtflnpcgnenhogaaGreatDoor.bit

/-- a writer and rows beside it, made since w -/
def WE (x : Nat → Nat) (d t u : Nat) (w : World) (wb : Nat) (l : Bits) (ks : List (Nat × Obj)) (W : World) : Prop :=
 ∃ x', Fr x x' (fun e => e = d ∨ e = t ∨ e = u) w W ∧ WrC x' d W wb l ∧ ∀ p ∈ ks, x' p.1 = u ∧ W.heap[p.1]? = some p.2
theorem WE.start {x : Nat → Nat} {d t u : Nat} (hdu : d ≠ u) {w W : World} {wb : Nat} {l : Bits} (h : WrC x d w wb l) (k : Below w.heap.size w W) (ks : List (Nat × Obj)) (hk : ∀ p ∈ ks, w.heap.size ≤ p.1 ∧ W.heap[p.1]? = some p.2) : WE x d t u w wb l ks W := by
 have f2 : Fr x (paint x w.heap.size u) (fun e => e = u) w W := Fr.of_below k rfl
 exact ⟨_, f2.mono (fun c hc => .inr (.inr hc)), h.frame f2 hdu, fun p hp => ⟨paint_new (hk p hp).1, (hk p hp).2⟩⟩
theorem WE.row {x : Nat → Nat} {d t u : Nat} {w W : World} {wb : Nat} {l : Bits} {ks : List (Nat × Obj)} (h : WE x d t u w wb l ks W) {b : Nat} {o : Obj} (hm : (b, o) ∈ ks) : W.heap[b]? = some o := by
 obtain ⟨x', _, _, hk⟩ := h
 exact (hk _ hm).2
theorem WE.next {x : Nat → Nat} {d t u : Nat} (hdu : d ≠ u) {w W W' : World} {wb : Nat} {l : Bits} {ks : List (Nat × Obj)} (h : WE x d t u w wb l ks W) (k : Below W.heap.size W W') : WE x d t u w wb l ks W' := by
 obtain ⟨x', hf, hw, hk⟩ := h
 have f2 : Fr x' (paint x' W.heap.size u) (fun e => e = u) W W' := Fr.of_below k rfl
 refine ⟨_, hf.trans (f2.mono (fun c hc => .inr (.inr hc))), hw.frame f2 hdu, fun p hp => ?_⟩
 obtain ⟨h1, h2⟩ := hk p hp
 exact ⟨(paint_old (lt_of_block h2)).trans h1, (k.block _ (lt_of_block h2)).trans h2⟩
theorem WE.put {x : Nat → Nat} {d t u : Nat} (hdt : d ≠ t) (hdu : d ≠ u) (htu : t ≠ u) {w W : World} {wb : Nat} {l : Bits} {ks : List (Nat × Obj)} (h : WE x d t u w wb l ks W) (c : Cd) (hc : c.ok) (v : Nat) (hv : v ≤ c.most) (hl : l.length + (cb c v).length ≤ 134217728) :
  Calls Tryz.prog 96 #[.pointer (some ⟨wb, 0, none⟩), cdV c, .int .u64 (v : Int)] W fun e w' => e = .returned (.int .i64 0) ∧ WE x d t u w wb (l ++ cb c v) ks w' := by
 obtain ⟨x', hf, hw, hk⟩ := h
 refine (cput_any x' d t hdt c hc v hv W wb l hl hw).mono ?_
 rintro e w' ⟨rfl, x2, f2, h2⟩
 refine ⟨rfl, x2, hf.trans (f2.mono (fun c hc => by rcases hc with h | h; exact .inl h; exact .inr (.inl h))), h2, fun p hp => ?_⟩
 obtain ⟨h1, h3⟩ := hk p hp
 exact ⟨(f2.col _ (lt_of_block h3)).trans h1, (f2.old _ (lt_of_block h3) (by show ¬ (x' p.1 = d ∨ x' p.1 = t); rw [h1]; rintro (e | e); exact hdu e.symm; exact htu e.symm)).trans h3⟩

set_option maxRecDepth 100000 in
set_option maxHeartbeats 6400000 in
theorem lenc_yes (x0 : Nat → Nat) (d t u : Nat) (hdt : d ≠ t) (hdu : d ≠ u) (htu : t ≠ u) (p : Pr) (x : Nat) (w : World) (hG : GL w) (wb : Nat) (l : Bits) (a : Option Addr) (succ : List Nat) (cap : Nat) (b : Option Addr) (ref : List Nat) (capb r : Nat) (hc : succ.length ≤ cap) (hcb : ref.length ≤ capb) (hm : MayN x succ ref r p) (hA : LV w a succ) (hB : LV w b ref)
  (hl : l.length + (lay x succ ref r p).length ≤ 134217728) (hW : WrC x0 d w wb l) :
  Calls Tryz.prog 59 #[.pointer (some ⟨wb, 0, none⟩), .int .i64 (x : Int), .slice a succ.length cap, .slice b ref.length capb, .int .i64 (r : Int), parV (p.win : Int) (p.itv : Int) (p.zet : Int)] w fun e w' =>
   e = .returned (.int .i64 0) ∧ ∃ x', Fr x0 x' (fun e => e = d ∨ e = t ∨ e = u) w w' ∧ WrC x' d w' wb (l ++ lay x succ ref r p) := by
 have BI := Lib.hid (fun W (k : Below w.heap.size w W) => lbits_yes p x W (hG.below k) a succ cap b ref capb r hc hcb hm (hA.below k) (hB.below k))
 have NU := Lib.hid (fun W (k : Below w.heap.size w W) => numbers_any p x W (hG.below k) a succ cap b ref capb r hc hcb hm (hA.below k) (hB.below k))
 have LEN := Lib.hid (fun W (k : Below w.heap.size w W) => len_any (paint x0 w.heap.size u) d W wb l (hW.frame (Fr.of_below (c := u) (C := fun e => e = u) k rfl) hdu))
 have LL := Lib.hid (lay_len hm)
 obtain ⟨nok, nlen⟩ := nums_ok hm
 have NE := Lib.hid (nums_ne x succ ref r p)
 have LD : Hid (lay x succ ref r p = bitsOf (nums x succ ref r p)) := Lib.hid rfl
 generalize lay x succ ref r p = LB at BI LL LD hl ⊢
 generalize nums x succ ref r p = NN at NU nok nlen NE LD
 have NOK := Lib.hid nok
 obtain ⟨lb, hlb⟩ : ∃ k, LB.length = k := ⟨_, rfl⟩
 obtain ⟨ll, hll⟩ : ∃ k, l.length = k := ⟨_, rfl⟩
 rw [hlb] at BI hl
 rw [hll] at LEN hl
 have HLB := Lib.hid hlb
 have HLL := Lib.hid hll
 have HW := Lib.hid hW
 have D := Lib.hid (And.intro hdt (And.intro hdu htu))
 have i1 : ¬ (134217728 : Int) - (ll : Int) < (lb : Int) := by omega
 have i2 : IntKind.i64.wrap ((134217728 : Int) - (ll : Int)) = 134217728 - (ll : Int) := IntWalk.i64_in _ (by omega)
 unfold parV at BI NU ⊢
 clear hG hA hB hm nok hlb hll hW hdt hdu htu
 go_enter Tryz.func59, Tryz.ntmps59
 go_upto_region 1 with fail
 have r1 := heap_alloc_new w (.cells #[.int .i64 (p.win : Int), .int .i64 (p.itv : Int), .int .i64 (p.zet : Int)] 42)
 have kb : Below w.heap.size w (w.alloc (.cells #[.int .i64 (p.win : Int), .int .i64 (p.itv : Int), .int .i64 (p.zet : Int)] 42)) := (by repeat (first | exact Below.refl _ _ | refine below_drewN ?_ _ | refine Below.setCell ?_ (by simp; try omega) _ | refine Below.alloc ?_ (by simp; try omega) _))
 generalize w.alloc _ = W1 at r1 kb ⊢
 have c0 : W1.cell? ⟨w.heap.size, 0, none⟩ = some (.int .i64 (p.win : Int)) := by rw [cell_of_row _ _ _ _ _ _ r1]; rfl
 have c1 : W1.cell? ⟨w.heap.size, 1, none⟩ = some (.int .i64 (p.itv : Int)) := by rw [cell_of_row _ _ _ _ _ _ r1]; rfl
 have c2 : W1.cell? ⟨w.heap.size, 2, none⟩ = some (.int .i64 (p.zet : Int)) := by rw [cell_of_row _ _ _ _ _ _ r1]; rfl
 have KB := Lib.hid kb
 have R1 := Lib.hid r1
 have hl1 := lt_of_block r1
 clear kb r1
 go_wp2_with fail
 with_reducible refine (BI.out _ KB.out).mono ?_
 rintro e w2 ⟨rfl, k2⟩
 have K2 := Lib.hid (KB.out.trans (k2.mono KB.out.size))
 have r2 := (k2.block _ hl1).trans R1.out
 clear c0 c1 c2 k2
 have c0 : w2.cell? ⟨w.heap.size, 0, none⟩ = some (.int .i64 (p.win : Int)) := by rw [cell_of_row _ _ _ _ _ _ r2]; rfl
 have c1 : w2.cell? ⟨w.heap.size, 1, none⟩ = some (.int .i64 (p.itv : Int)) := by rw [cell_of_row _ _ _ _ _ _ r2]; rfl
 have c2 : w2.cell? ⟨w.heap.size, 2, none⟩ = some (.int .i64 (p.zet : Int)) := by rw [cell_of_row _ _ _ _ _ _ r2]; rfl
 clear r2
 go_wp2_with fail
 with_reducible refine (LEN.out _ K2.out).mono ?_
 rintro e w3 ⟨rfl, rfl⟩
 go_wp2_with fail
 with_reducible refine (NU.out _ K2.out).mono ?_
 rintro e w3 hN
 obtain ⟨g, cg, cur, rfl, hg1, hg2, hk, CC⟩ := hN.lies NE.out
 have hk2 := K2.out
 have W0 := Lib.hid (WE.start (t := t) D.out.2.1 HW.out (hk2.trans (hk.mono hk2.size)) [(g, .cells cur 175 (0, 0))] (fun q hq => by
  rcases List.mem_cons.1 hq with rfl | hq
  ·exact ⟨Nat.le_trans hk2.size hg1, hg2⟩
  ·cases hq))
 have CC := Lib.hid CC
 clear hN hg1 hg2 hk hk2 c0 c1 c2 i1 i2
 obtain ⟨n, hn⟩ : ∃ n, NN.length = n := ⟨_, rfl⟩
 have HN := Lib.hid hn
 rw [hn] at nlen ⊢
 clear hn
 go_wp2_with fail
 go_loopw [45] (fun vi wr => ∃ i : Nat, vi = .int .i64 (i : Int) ∧ i ≤ n ∧ WE x0 d t u w wb (l ++ bitsOf (NN.take i)) [(g, .cells cur 175 (0, 0))] wr) (fun vi _ => n - (intOf vi).toNat)
 case atStart => exact ⟨0, rfl, Nat.zero_le _, by simpa [bitsOf] using W0.out⟩
 case round =>
  obtain ⟨i, rfl, hi, hE⟩ := hrel
  have HE := Lib.hid hE
  clear hE
  by_cases hlt : i < n
  ·have hin : i < NN.length := by rw [HN.out]; exact hlt
   obtain ⟨kd, kk, e1, e2, e3, e4⟩ := CC.out wr (HE.out.row (List.mem_cons_self ..)) i hin
   have hq := NOK.out _ (List.getElem_mem hin)
   have BT := Lib.hid (bitsOf_take NN i hin)
   have BL := bits_take_le NN (i + 1)
   rw [BT.out] at BL
   rw [← LD.out, HLB.out, List.length_append] at BL
   have h6 := HE.out.next (u := u) D.out.2.1 ((Below.refl wr.heap.size wr).alloc (Nat.le_refl _) (.cells #[.int .u8 kd, .int .u64 kk, .int .u64 (NN[i].2 : Int)] 175))
   have PU := Lib.hid (h6.put D.out.1 D.out.2.1 D.out.2.2 NN[i].1 hq.1 NN[i].2 hq.most (by rw [List.length_append, HLL.out]; omega))
   rw [e1, List.append_assoc, ← BT.out] at PU
   obtain ⟨v, hv⟩ : ∃ v, NN[i].2 = v := ⟨_, rfl⟩
   rw [hv] at e4 PU
   have i1 : (i : Int) < (n : Int) := by omega
   have i0 : (0 : Int) ≤ (i : Int) := Int.natCast_nonneg i
   clear hv hq e1 BL h6
   go_wp2_with fail
   with_reducible refine PU.out.mono ?_
   rintro e w4 ⟨rfl, h4⟩
   have H4 := Lib.hid h4
   clear h4 e2 e3 e4
   go_wp2_with fail
   go_roundw
   case rel => exact ⟨i + 1, by go_num, by omega, H4.out⟩
   case measure => simp [intOf]; omega
  ·obtain rfl : i = n := by omega
   have FIN : Hid (l ++ bitsOf (NN.take i) = l ++ LB) := Lib.hid (by rw [List.take_of_length_le (by rw [HN.out]; exact Nat.le_refl _), LD.out])
   have i1 : ¬ (i : Int) < (i : Int) := by omega
   go_wp2_with fail
   go_ret
   obtain ⟨x', h1, h2, _⟩ := HE.out
   rw [FIN.out] at h2
   exact ⟨rfl, x', h1, h2⟩

end Go.Proofs.YtflnpcgnenhogaaGreatDoor.ls
