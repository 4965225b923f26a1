/- list: the closure that meets an element of two lists. -/
import Derived.Laws.OwnMore
import Derived.Test.YtflnpcgnenhogaaDoorLsO
namespace Go.Proofs.YtflnpcgnenhogaaDoor.ls
open Go.RowKit Go.Proofs.YtflnpcgnenhogaaDoor.own Go.Proofs.YtflnpcgnenhogaaDoor.bit

def intV (l : List Nat) : List Value := l.map fun (n : Nat) => Value.int .i64 (n : Int)
theorem intV_append (a b : List Nat) : intV (a ++ b) = intV a ++ intV b := List.map_append ..
theorem intV_set (l : List Nat) (j v : Nat) : (intV l).set j (.int .i64 (v : Int)) = intV (l.set j v) := by unfold intV; rw [List.map_set]
theorem and1 (n : Nat) (h : n < 9223372036854775808) : bits .and .i64 (n : Int) 1 = ((n % 2 : Nat) : Int) := by
  have h1 := (bits_nat .i64 63 (by decide) wraps_i64_63 n 1 (by omega) (by decide)).1
  rw [show n &&& 1 = n % 2 from Nat.and_two_pow_sub_one_eq_mod n 1] at h1
  exact h1
/-- a cell of the row is written -/
theorem VR.stored {x : Nat → Nat} {c : Nat} {e T : TypeId} {w : World} {vb n : Nat} {xs : List Value} (h : VR x c e T 1 w vb n xs) (j : Nat) (hj : j < n) (u : Value) :
    ∃ g cap, w.heap[vb]? = some (.cells #[.slice (some ⟨g, 0, none⟩) n cap] T (0, 0)) ∧ w.cell? ⟨g, j, none⟩ = xs[j]? ∧ (∀ i, w.frozen? ⟨g, i, none⟩ = false) ∧ Fr x x (fun e => e = c) w (w.setCell ⟨g, j, none⟩ u) ∧ VR x c e T 1 (w.setCell ⟨g, j, none⟩ u) vb n (xs.set j u) := by
  obtain ⟨v, h0, hx, ho, hg⟩ := h
  rcases ho.2 with ⟨_, h2⟩ | ⟨g, cap, cur, rfl, hb, hcell, r⟩
  · omega
  · have hgg := hg g rfl
    have st := ho.stored j u
    refine ⟨g, cap, h0, ho.cellAt j (by omega), fun i => ho.frozenAt i, Fr.same rfl rfl rfl (by simp) (fun b _ hd => Below.heap_setCell w ⟨g, j, none⟩ u b (fun e => hd (by rw [e]; exact hgg.1))), _, (Below.heap_setCell w ⟨g, j, none⟩ u vb (fun e => hgg.2 e.symm)).trans h0, hx, st.1, hg⟩

/-- what the two lists' closure holds -/
def MSt (x : Nat → Nat) (cf cr : Nat) (w : World) (fb rb : Nat) (s : List Nat × (List Nat × Nat)) : Prop :=
  VR x cf 60 29 1 w fb s.1.length (u32V s.1) ∧ VR x cr 3 50 1 w rb (s.2.1.length + 1) (intV (s.2.1 ++ [s.2.2]))
/-- the last run is one longer -/
def incR (x : Nat → Nat) (cr : Nat) (w : World) (rb : Nat) (I : List Nat) (n : Nat) : Prop := VR x cr 3 50 1 w rb (I.length + 1) (intV (I ++ [n]))
theorem incR.inc {x : Nat → Nat} {cr : Nat} {w : World} {rb : Nat} {I : List Nat} {n : Nat} (h : incR x cr w rb I n) :
    ∃ g cap, w.heap[rb]? = some (.cells #[.slice (some ⟨g, 0, none⟩) (I.length + 1) cap] 50 (0, 0)) ∧ w.cell? ⟨g, I.length, none⟩ = some (.int .i64 (n : Int)) ∧ (∀ i, w.frozen? ⟨g, i, none⟩ = false) ∧
      Fr x x (fun e => e = cr) w (w.setCell ⟨g, I.length, none⟩ (.int .i64 ((n + 1 : Nat) : Int))) ∧ incR x cr (w.setCell ⟨g, I.length, none⟩ (.int .i64 ((n + 1 : Nat) : Int))) rb I (n + 1) := by
  obtain ⟨g, cap, h1, h2, h3, h4, h5⟩ := VR.stored h I.length (Nat.lt_succ_self _) (.int .i64 ((n + 1 : Nat) : Int))
  refine ⟨g, cap, h1, ?_, h3, h4, ?_⟩
  · rw [h2]
    unfold intV
    simp
  · rw [intV_set] at h5
    have e : (I ++ [n]).set I.length (n + 1) = I ++ [n + 1] := by rw [List.set_append]; simp
    rw [e] at h5
    exact h5

set_option maxRecDepth 100000 in
set_option maxHeartbeats 3200000 in
theorem meet_any (x : Nat → Nat) (cf cr : Nat) (hfr : cf ≠ cr) (w : World) (fb rb : Nat) (s : List Nat × (List Nat × Nat)) (v : Nat) (own other : Bool) (hf : s.1.length ≤ 1000000) (hi : s.2.1.length ≤ 1000000) (hn : s.2.2 ≤ 1000000) (h : MSt x cf cr w fb rb s) :
    Calls Tryd.prog 56 #[.int .u32 (v : Int), .bool own, .bool other, .pointer (some ⟨fb, 0, none⟩), .pointer (some ⟨rb, 0, none⟩)] w fun e w' => e = .returned (.tuple #[]) ∧ ∃ x', Fr x x' (fun e => e = cf ∨ e = cr) w w' ∧ MSt x' cf cr w' fb rb (meetF s v own other) := by
  obtain ⟨F, I, n⟩ := s
  obtain ⟨hF, hR⟩ := h
  simp only at hF hR hf hi hn
  cases other
  · -- an element of the first alone
    obtain ⟨j0, hj, hj0, hj1, hj2⟩ := info_parts Tryd.infoU32
    have HR := Lib.hid hR
    obtain ⟨vw, g0, gx, go, gg⟩ := hF
    have G0 := Lib.hid g0
    have GG := Lib.hid (And.intro gx gg)
    have c0 : w.cell? ⟨fb, 0, none⟩ = some vw := by rw [cell_of_row w fb _ _ _ _ g0]; rfl
    obtain ⟨s1, d1, hvw⟩ := own_shape go
    have OW2 := Lib.hid (go.alloc (.cells #[.int .u32 (v : Int)] 60))
    have C1 : Hid (∀ j u, ([Value.int .u32 (v : Int)] : List Value)[j]? = some u → (w.alloc (.cells #[.int .u32 (v : Int)] 60)).cell? ((⟨w.heap.size, 0, none⟩ : Addr).add j) = some u) := Lib.hid (fun j u hu => by
      rw [Addr.add_lit, cell_of_row _ _ _ _ _ _ (heap_alloc_new _ _), Nat.zero_add]; simpa using hu)
    have C3 : Hid (F.length + 1 ≤ maxLen) := Lib.hid (by simp only [maxLen]; omega)
    have C4 : Hid ((F.length + 1) * 4 ≤ 140737488355328) := Lib.hid (by omega)
    clear g0 gx go gg hR
    subst hvw
    go_enter Tryd.func56, Tryd.ntmps56
    go_wp2_with (at_builtin; refine wpList_append_at _ rfl _ _ 29 rfl 0 60 j0 _ 1 4 Tryd.underlying29 hj hj0 hj1 hj2 rfl (by decide) _ F.length _ rfl OW2.out ⟨w.heap.size, 0, none⟩ 1 1 [.int .u32 (v : Int)] rfl rfl C1.out (u32_one [v]) C3.out C4.out (Nat.zero_le _) (by decide) ?_)
    intro v2 w2 hown hg hw
    obtain ⟨r2, R⟩ := VR.grown (T := 29) G0.out GG.out.1 GG.out.2 ((Below.refl _ _).alloc (Nat.le_refl _) _) hown hg (by simpa using hw)
    have R := Lib.hid R
    have c2 : w2.cell? ⟨fb, 0, none⟩ = some (.slice s1 F.length d1) := by rw [cell_of_row w2 fb _ _ _ _ r2]; rfl
    have f2 : ∀ j, w2.frozen? ⟨fb, j, none⟩ = false := fun j => frozen_of_row w2 fb j _ _ r2
    obtain ⟨a2, k2, rfl⟩ := own_shape hown
    clear r2 hown hg hw C1 C3 C4 OW2
    go_wp2_with fail
    refine bodyPost_ret (results_none rfl _ _ _) rfl ?_
    obtain ⟨x2, f3, v3⟩ := R.out
    refine ⟨rfl, x2, f3.mono (fun c hc => .inl hc), ?_, HR.out.frame f3 (fun e => hfr e.symm)⟩
    show VR x2 cf _ _ 1 _ fb (F ++ [v]).length (u32V (F ++ [v]))
    rw [u32V_append, List.length_append]
    exact v3
  · have HF := Lib.hid hF
    obtain ⟨pb, hpb⟩ : ∃ pb, ((I.length + 1) % 2 == 1) = pb := ⟨_, rfl⟩
    have RS : Hid (rst (I, n) own = if own != pb then (I ++ [n], 1) else (I, n + 1)) := Lib.hid (by unfold rst; simp only; rw [hpb])
    have A1 := and1 (I.length + 1) (by omega)
    have A2 : ((((I.length + 1) % 2 : Nat) : Int) == 1) = pb := by
      rw [← hpb]
      rcases Nat.mod_two_eq_zero_or_one (I.length + 1) with h | h <;> rw [h] <;> rfl
    have hRi : incR x cr w rb I n := hR
    obtain ⟨m, hm⟩ : ∃ m, I.length + 1 = m := ⟨_, rfl⟩
    have hm2 : m ≤ 1000001 := by omega
    obtain ⟨g, cap, h1, h2, h3, h4, h5⟩ := hRi.inc
    rw [hm] at h1 A1 A2
    obtain ⟨r2, hr2⟩ : ∃ r2, m % 2 = r2 := ⟨_, rfl⟩
    rw [hr2] at A1 A2
    have HM := Lib.hid hm
    have c0 : w.cell? ⟨rb, 0, none⟩ = some (.slice (some ⟨g, 0, none⟩) m cap) := by rw [cell_of_row w rb _ _ _ _ h1]; rfl
    have HRI := Lib.hid hR
    clear hpb hr2 hm hF hR
    by_cases hneq : (own != pb) = true
    · -- a run more
      have RS2 := RS.out
      rw [if_pos hneq] at RS2
      have RS3 := Lib.hid RS2
      have hq : (own == pb) = false := by cases own <;> cases pb <;> simp_all
      obtain ⟨j0, hj, hj0, hj1, hj2⟩ := info_parts Tryd.infoInt
      obtain ⟨vw, g0, gx, go, gg⟩ := HRI.out
      rw [HM.out] at go
      have hvw : vw = .slice (some ⟨g, 0, none⟩) m cap := by
        have e := g0.symm.trans h1
        simpa using e
      subst hvw
      have G0 := Lib.hid g0
      have GG := Lib.hid (And.intro gx gg)
      have OW2 := Lib.hid (go.alloc (.cells #[.int .i64 0] 3))
      have C1 : Hid (∀ j u, ([Value.int .i64 0] : List Value)[j]? = some u → (w.alloc (.cells #[.int .i64 0] 3)).cell? ((⟨w.heap.size, 0, none⟩ : Addr).add j) = some u) := Lib.hid (fun j u hu => by
        rw [Addr.add_lit, cell_of_row _ _ _ _ _ _ (heap_alloc_new _ _), Nat.zero_add]; simpa using hu)
      have C2 : Hid (∀ u ∈ ([Value.int .i64 0] : List Value), u.oneCell' = true) := Lib.hid (fun u hu => by simp at hu; subst hu; rfl)
      have C3 : Hid (m + 1 ≤ maxLen) := Lib.hid (by simp only [maxLen]; omega)
      have C4 : Hid ((m + 1) * 8 ≤ 140737488355328) := Lib.hid (by omega)
      clear g0 gx go gg h1 h2 h3 h4 h5 RS2 RS
      go_enter Tryd.func56, Tryd.ntmps56
      go_wp2_with (at_builtin; refine wpList_append_at _ rfl _ _ 50 rfl 0 3 j0 _ 1 8 Tryd.underlying50 hj hj0 hj1 hj2 rfl (by decide) _ m _ rfl OW2.out ⟨w.heap.size, 0, none⟩ 1 1 [.int .i64 0] rfl rfl C1.out C2.out C3.out C4.out (Nat.zero_le _) (by decide) ?_)
      intro v2 w2 hown hg hw
      obtain ⟨r3, R⟩ := VR.grown (T := 50) G0.out GG.out.1 GG.out.2 ((Below.refl _ _).alloc (Nat.le_refl _) _) hown hg (by simpa using hw)
      have R := Lib.hid R
      have c2 : w2.cell? ⟨rb, 0, none⟩ = some (.slice (some ⟨g, 0, none⟩) m cap) := by rw [cell_of_row w2 rb _ _ _ _ r3]; rfl
      have f2 : ∀ j, w2.frozen? ⟨rb, j, none⟩ = false := fun j => frozen_of_row w2 rb j _ _ r3
      obtain ⟨a2, k2, rfl⟩ := own_shape hown
      clear r3 hown hg hw C1 C2 C3 C4 OW2 c0 A1 A2
      go_upto_region 4 with fail
      generalize w2.setCell ⟨rb, 0, none⟩ (.slice a2 (m + 1) k2) = w3 at R ⊢
      clear c2 f2
      obtain ⟨x2, f3, v3⟩ := R.out
      have v4 : incR x2 cr w3 rb (I ++ [n]) 0 := by
        show VR x2 cr _ _ 1 w3 rb ((I ++ [n]).length + 1) (intV ((I ++ [n]) ++ [0]))
        rw [intV_append, List.length_append, List.length_singleton, HM.out]
        exact v3
      obtain ⟨g', cap', h1, h2, h3, h4, h5⟩ := v4.inc
      have el : (I ++ [n]).length = m := by rw [List.length_append, List.length_singleton]; exact HM.out
      rw [el] at h1 h2 h4 h5
      have e0 : w3.cell? ⟨rb, 0, none⟩ = some (.slice (some ⟨g', 0, none⟩) (m + 1) cap') := by rw [cell_of_row w3 rb _ _ _ _ h1]; rfl
      have HH := Lib.hid (And.intro h4 h5)
      have F3 := Lib.hid f3
      have HFF := Lib.hid (HF.out.frame f3 hfr |>.frame h4 hfr)
      have i1 : IntKind.i64.wrap (((m + 1 : Nat) : Int) - 1) = (m : Int) := by rw [IntWalk.i64_in _ (by omega)]; omega
      have i2 : (m : Int) < ((m + 1 : Nat) : Int) := by omega
      have i3 : (0 : Int) ≤ (m : Int) := by omega
      clear v3 v4 f3 h1 h4 h5 R
      go_wp2_with fail
      go_end0
      refine ⟨rfl, x2, (F3.out.mono (fun c hc => .inr hc)).trans (HH.out.1.mono (fun c hc => .inr hc)), ?_⟩
      show MSt x2 cf cr _ fb rb (F, rst (I, n) own)
      rw [RS3.out]
      refine ⟨HFF.out, ?_⟩
      have := HH.out.2
      unfold incR at this
      rw [el] at this
      show VR x2 cr _ _ 1 _ rb ((I ++ [n]).length + 1) (intV ((I ++ [n]) ++ [1]))
      rw [el]
      exact this
    · have hq : (own == pb) = true := by cases own <;> cases pb <;> simp_all
      have RS2 := RS.out
      rw [if_neg hneq] at RS2
      have RS3 := Lib.hid RS2
      have HH := Lib.hid (And.intro h4 h5)
      have HFF := Lib.hid (HF.out.frame h4 hfr)
      obtain ⟨k, hk⟩ : ∃ k, I.length = k := ⟨_, rfl⟩
      rw [hk] at h2 HM
      have HK := Lib.hid hk
      have i1 : IntKind.i64.wrap ((m : Int) - 1) = (k : Int) := by have := HM.out; rw [IntWalk.i64_in _ (by omega)]; omega
      have i2 : (k : Int) < (m : Int) := by have := HM.out; omega
      have i3 : (0 : Int) ≤ (k : Int) := by omega
      clear h1 h4 h5 RS RS2 hneq hk
      go_enter Tryd.func56, Tryd.ntmps56
      go_wp2_with fail
      go_end0
      refine ⟨rfl, x, ?_, ?_⟩
      · rw [← HK.out]; exact HH.out.1.mono (fun c hc => .inr hc)
      · show MSt x cf cr _ fb rb (F, rst (I, n) own)
        rw [RS3.out, ← HK.out]
        exact ⟨HFF.out, HH.out.2⟩
end Go.Proofs.YtflnpcgnenhogaaDoor.ls
