/- Statement ArcPlays: all that a pair of caches tells, twice, the first time written over. -/
import Derived.BigQuiet
import Derived.BigRegion
import Derived.Deep.CutRange
import Derived.Test.YthcdfdkhmlkneaaArcF11
namespace Go.Proofs.Ythcdfdkhmlkneaa.arcI
open Go.RowKit Go.Proofs.Ythcdfdkhmlkneaa.own

/-- two slices in different blocks -/
def Ap (v u : Value) : Prop := ∀ g, v.ownBlock = some g → u.ownBlock ≠ some g
theorem Ap.symm {v u : Value} (h : Ap v u) : Ap u v := fun g hg hv => h g hv hg
theorem Ap.of {w1 w3 : World} {b1 b2 : Nat} {v u : Value} {k l : List K} (h : isRow w1 b1 v k) (h' : isRow w3 b2 u l) (hb : w1.heap.size ≤ b2) : Ap v u := fun g hg hu => by
  have a := (World.ownsRow.lt h g hg).2
  have b := (World.ownsRow.lt h' g hu).1
  omega

def ListPost2 (w : World) (s : St) (e : Ending) (w' : World) : Prop :=
  ∃ v1 v2 v3 v4, e = .returned (.tuple #[v1, v2, v3, v4]) ∧ Below w.heap.size w w' ∧ (isRow w' w.heap.size v1 s.once.reverse ∧ isRow w' w.heap.size v2 s.often.reverse ∧ isRow w' w.heap.size v3 s.wonce.reverse ∧ isRow w' w.heap.size v4 s.woften.reverse) ∧
    (Ap v1 v2 ∧ Ap v1 v3 ∧ Ap v1 v4 ∧ Ap v2 v3 ∧ Ap v2 v4 ∧ Ap v3 v4)

set_option maxRecDepth 10000 in
set_option maxHeartbeats 3200000 in
theorem Lists_apart (x : Nat → Nat) (c0 cb : Nat) (s : St) (N : Nat) (w : World) (h : CIs x c0 w cb s N) (h1 : s.once.length < 1048576) (h2 : s.often.length < 1048576) (h3 : s.wonce.length < 1048576) (h4 : s.woften.length < 1048576) :
    Calls Try.prog 35 #[.pointer (some ⟨cb, 0, none⟩)] w (ListPost2 w s) := by
  have H := Lib.hid h
  have C1 : Hid (∀ w', Below w.heap.size w w' → Calls Try.prog 63 #[.pointer (some ⟨cb, 1, none⟩)] w' fun e w2 => ∃ v', e = .returned v' ∧ isRow w2 w'.heap.size v' s.once.reverse ∧ Below w'.heap.size w' w2) :=
    Lib.hid (fun w' hb => (list_once _ c0 cb s N w' (H.out.below hb) h1).mono (fun e w2 hh => by simpa [isRow] using hh))
  have C2 : Hid (∀ w', Below w.heap.size w w' → Calls Try.prog 63 #[.pointer (some ⟨cb, 3, none⟩)] w' fun e w2 => ∃ v', e = .returned v' ∧ isRow w2 w'.heap.size v' s.often.reverse ∧ Below w'.heap.size w' w2) :=
    Lib.hid (fun w' hb => (list_often _ c0 cb s N w' (H.out.below hb) h2).mono (fun e w2 hh => by simpa [isRow] using hh))
  have C3 : Hid (∀ w', Below w.heap.size w w' → Calls Try.prog 63 #[.pointer (some ⟨cb, 5, none⟩)] w' fun e w2 => ∃ v', e = .returned v' ∧ isRow w2 w'.heap.size v' s.wonce.reverse ∧ Below w'.heap.size w' w2) :=
    Lib.hid (fun w' hb => (list_wonce _ c0 cb s N w' (H.out.below hb) h3).mono (fun e w2 hh => by simpa [isRow] using hh))
  have C4 : Hid (∀ w', Below w.heap.size w w' → Calls Try.prog 63 #[.pointer (some ⟨cb, 7, none⟩)] w' fun e w2 => ∃ v', e = .returned v' ∧ isRow w2 w'.heap.size v' s.woften.reverse ∧ Below w'.heap.size w' w2) :=
    Lib.hid (fun w' hb => (list_woften _ c0 cb s N w' (H.out.below hb) h4).mono (fun e w2 hh => by simpa [isRow] using hh))
  have hn : cb < w.heap.size := by
    obtain ⟨a1, m1, a2, m2, a3, m3, a4, m4, pm, h0, _⟩ := h
    exact lt_of_block h0
  clear h h1 h2 h3 h4
  go_enter Try.func35, Try.ntmps35
  go_wp2_with fail
  go_region_with (first
    | (go_at_call_of 63 (Value.pointer (some ⟨cb, 1, none⟩)); refine (C1.out _ ?_).mono ?_; exact (Below.refl _ _).drew; rintro e w1 ⟨v1, rfl, r1, b1⟩; have B1 := Lib.hid (show Below w.heap.size w w1 from ⟨b1.os, b1.tape, b1.output, b1.size, b1.block⟩); have R1 := Lib.hid r1; clear r1 b1)
    | (go_at_call_of 63 (Value.pointer (some ⟨cb, 3, none⟩)); refine (C2.out _ B1.out).mono ?_; rintro e w2 ⟨v2, rfl, r2, b2⟩; have R2 := Lib.hid r2; have B2 := Lib.hid b2; clear r2 b2)
    | (go_at_call_of 63 (Value.pointer (some ⟨cb, 5, none⟩)); refine (C3.out _ (below_trans B1.out B2.out B1.out.size)).mono ?_; rintro e w3 ⟨v3, rfl, r3, b3⟩; have R3 := Lib.hid r3; have B3 := Lib.hid b3; clear r3 b3)
    | (go_at_call_of 63 (Value.pointer (some ⟨cb, 7, none⟩)); refine (C4.out _ (below_trans (below_trans B1.out B2.out B1.out.size) B3.out (Nat.le_trans B1.out.size B2.out.size))).mono ?_; rintro e w4 ⟨v4, rfl, r4, b4⟩; have R4 := Lib.hid r4; have B4 := Lib.hid b4; clear r4 b4))
  go_wp2_with fail
  refine bodyPost_ret (v := .tuple #[v1, v2, v3, v4]) (by simp [results, Try.results35, go_sem]) rfl ?_
  have B12 := below_trans B1.out B2.out B1.out.size
  have B13 := below_trans B12 B3.out (Nat.le_trans B1.out.size B2.out.size)
  have B14 := below_trans B13 B4.out (Nat.le_trans (Nat.le_trans B1.out.size B2.out.size) B3.out.size)
  exact ⟨v1, v2, v3, v4, rfl, B14, ⟨((R1.out.later B2.out).later B3.out).later B4.out, own_base ((R2.out.later B3.out).later B4.out) B1.out.size, own_base (R3.out.later B4.out) B12.size, own_base R4.out B13.size⟩,
    Ap.of R1.out R2.out (Nat.le_refl _), Ap.of R1.out R3.out B2.out.size, Ap.of R1.out R4.out (Nat.le_trans B2.out.size B3.out.size), Ap.of R2.out R3.out (Nat.le_refl _), Ap.of R2.out R4.out B3.out.size, Ap.of R3.out R4.out (Nat.le_refl _)⟩

/-- a slice that the call owns, whatever it holds; its block is one of the first lists', or new -/
def Rw (S B0 B1 : Nat) (v : Value) (n : Nat) (wr : World) : Prop :=
  (∃ xs, wr.ownsRow 0 3 1 v n xs) ∧ ∀ g, v.ownBlock = some g → (B0 ≤ g ∧ g < B1) ∨ S ≤ g
theorem Rw.lt {S B0 B1 n : Nat} {v : Value} {wr : World} (h : Rw S B0 B1 v n wr) {g : Nat} (hg : v.ownBlock = some g) : g < wr.heap.size := by
  obtain ⟨⟨xs, h⟩, _⟩ := h
  exact (h.lt g hg).2
theorem Rw.kept {S B0 B1 n : Nat} {v : Value} {wr w' : World} (h : Rw S B0 B1 v n wr) {row : Option Nat} (hg : wr.grownBy w' row) (hne : ∀ g, v.ownBlock = some g → row ≠ some g) : Rw S B0 B1 v n w' := by
  obtain ⟨⟨xs, h⟩, h2⟩ := h
  refine ⟨⟨xs, h.kept hg ?_⟩, h2⟩
  rcases hv : v.ownBlock with _ | g
  · exact .inl rfl
  · exact .inr (fun e => hne g hv e.symm)

/-- what stands while the first lists are written over -/
structure T4 (w2 : World) (B0 B1 : Nat) (va : Value) (na : Nat) (vb : Value) (nb : Nat) (vx : Value) (nx : Nat) (vy : Value) (ny : Nat) (wr : World) : Prop where
  kp : Keeps w2 wr (fun b => B0 ≤ b ∧ b < B1)
  ra : Rw w2.heap.size B0 B1 va na wr
  rb : Rw w2.heap.size B0 B1 vb nb wr
  rx : Rw w2.heap.size B0 B1 vx nx wr
  ry : Rw w2.heap.size B0 B1 vy ny wr
  ab : Ap va vb
  ax : Ap va vx
  ay : Ap va vy
  bx : Ap vb vx
  by_ : Ap vb vy
  xy : Ap vx vy
section
variable {w2 wr w' : World} {B0 B1 na nb nx ny : Nat} {va vb vx vy va' : Value}
theorem T4.rot (h : T4 w2 B0 B1 va na vb nb vx nx vy ny wr) : T4 w2 B0 B1 vb nb vx nx vy ny va na wr :=
  ⟨h.kp, h.rb, h.rx, h.ry, h.ra, h.bx, h.by_, h.ab.symm, h.xy, h.ax.symm, h.ay.symm⟩
theorem T4.drewN (h : T4 w2 B0 B1 va na vb nb vx nx vy ny wr) (m : Nat) : T4 w2 B0 B1 va na vb nb vx nx vy ny (wr.drewN m) :=
  ⟨h.kp.drewN m, h.ra, h.rb, h.rx, h.ry, h.ab, h.ax, h.ay, h.bx, h.by_, h.xy⟩
theorem T4.push (h : T4 w2 B0 B1 va na vb nb vx nx vy ny wr) {o : Obj} {ys : List Value} (hown : w'.ownsRow 0 3 1 va' (na + 1) ys) (hg : (wr.alloc o).grownBy w' va.ownBlock)
    (hw : va'.ownBlock = va.ownBlock ∨ va'.ownBlock = some (wr.heap.size + 1)) : T4 w2 B0 B1 va' (na + 1) vb nb vx nx vy ny w' := by
  have hsz := h.kp.size
  have hal : wr.grownBy (wr.alloc o) none := ⟨rfl, rfl, rfl, by simp, fun k hk _ => Below.heap_alloc wr o k hk⟩
  have apn : ∀ {u : Value} {n : Nat}, Rw w2.heap.size B0 B1 u n wr → Ap va u → Ap va' u := fun hu ha g hg2 hu2 => by
    rcases hw with e | e
    · exact ha g (e ▸ hg2) hu2
    · have h1 := hu.lt hu2
      rw [e] at hg2
      injection hg2 with hg2
      omega
  have kept : ∀ {u : Value} {n : Nat}, Rw w2.heap.size B0 B1 u n wr → Ap va u → Rw w2.heap.size B0 B1 u n w' := fun hu ha =>
    (hu.kept hal (by simp)).kept hg (fun g hg2 e => ha g e hg2)
  refine ⟨(h.kp.alloc o).grown hg (fun k hk => ?_), ⟨⟨ys, hown⟩, fun g hg2 => ?_⟩, kept h.rb h.ab, kept h.rx h.ax, kept h.ry h.ay, apn h.rb h.ab, apn h.rx h.ax, apn h.ry h.ay, h.bx, h.by_, h.xy⟩
  · exact h.ra.2 k hk
  · rcases hw with e | e
    · exact h.ra.2 g (e ▸ hg2)
    · rw [e] at hg2
      injection hg2 with hg2
      right; omega
theorem T4.store {g n cap : Nat} (h : T4 w2 B0 B1 (.slice (some ⟨g, 0, none⟩) n cap) na vb nb vx nx vy ny wr) (hn : n = na) (j : Nat) (u : Value) : T4 w2 B0 B1 (.slice (some ⟨g, 0, none⟩) n cap) na vb nb vx nx vy ny (wr.setCell ⟨g, j, none⟩ u) := by
  subst hn
  obtain ⟨⟨xs, h0⟩, h1⟩ := h.ra
  obtain ⟨h2, hg⟩ := h0.stored j u
  exact ⟨h.kp.setCell (h1 g rfl) u, ⟨⟨_, h2⟩, h1⟩, h.rb.kept hg (fun k hk e => h.ab g rfl (by rw [hk, e])), h.rx.kept hg (fun k hk e => h.ax g rfl (by rw [hk, e])), h.ry.kept hg (fun k hk e => h.ay g rfl (by rw [hk, e])), h.ab, h.ax, h.ay, h.bx, h.by_, h.xy⟩
theorem T4.shape (h : T4 w2 B0 B1 va na vb nb vx nx vy ny wr) : ∃ a cap, va = .slice a na cap ∧ (0 < na → ∃ g, a = some ⟨g, 0, none⟩ ∧ (∀ j, wr.frozen? ⟨g, j, none⟩ = false) ∧ ∀ j, j < na → ∃ q, wr.cell? ⟨g, j, none⟩ = some q) := by
  obtain ⟨⟨xs, h0⟩, _⟩ := h.ra
  rcases h0.2 with ⟨rfl, hn⟩ | ⟨g, cap, cur, rfl, _⟩
  · subst hn; exact ⟨none, 0, rfl, fun hh => by omega⟩
  · refine ⟨_, cap, rfl, fun _ => ⟨g, rfl, h0.frozenAt, fun j hj => ?_⟩⟩
    have hl : j < xs.length := by have := h0.1; omega
    exact ⟨xs[j], by rw [h0.cellAt j (by omega)]; simp [hl]⟩
end

/-- a row, read as keys -/
theorem RO.of_row {w : World} {base : Nat} {v : Value} {keys : List K} (h : isRow w base v keys) (hle : keys.length ≤ 1048576) : RO w v keys := by
  obtain ⟨aT, cT, hv, _, HC⟩ := keys_open h
  exact ⟨aT, cT, hv, hle, fun k hk => by obtain ⟨g, a, b, c, d⟩ := HC.out k hk; exact ⟨g, a, b, d⟩⟩
/-- a second list stays as the first ones are written over -/
theorem RO.later {w2 wr : World} {B0 B1 : Nat} {v : Value} {keys : List K} (h : isRow w2 B1 v keys) (hle : keys.length ≤ 1048576) (hk : Keeps w2 wr (fun b => B0 ≤ b ∧ b < B1)) : RO wr v keys := by
  obtain ⟨aT, cT, hv, _, HC⟩ := keys_open h
  refine ⟨aT, cT, hv, hle, fun k hk2 => ?_⟩
  obtain ⟨g, a, b, c, d⟩ := HC.out k hk2
  exact ⟨g, a, Nat.lt_of_lt_of_le b hk.size, by rw [World.cell?_of_block (w := w2) (hk.block g b (by omega))]; exact d⟩

theorem RO.drewN {w : World} {v : Value} {keys : List K} (h : RO w v keys) (m : Nat) : RO (w.drewN m) v keys := h
theorem T4.open {w2 wr : World} {B0 B1 na nb nx ny n cap : Nat} {a : Option Addr} {vb vx vy : Value} (h : T4 w2 B0 B1 (.slice a n cap) na vb nb vx nx vy ny wr) :
    n = na ∧ (0 < na → ∃ g, a = some ⟨g, 0, none⟩ ∧ (∀ j, wr.frozen? ⟨g, j, none⟩ = false) ∧ ∀ j, j < na → ∃ q, wr.cell? ⟨g, j, none⟩ = some q) := by
  obtain ⟨a', cap', e, r⟩ := h.shape
  injection e with e1 e2 e3
  subst e1
  exact ⟨e2, r⟩
/-- Same of two lists that are the same, at a world that only drew -/
theorem Same_eq (w : World) (v u : Value) (ks : List K) (h : RO w v ks) (h' : RO w u ks) : ∀ W, Drawn w W → Calls Try.prog 53 #[v, u] W fun e w' => e = .returned (.bool true) ∧ ∃ n, w' = W.drewN n := fun W hW => by
  obtain ⟨m, rfl⟩ := hW
  refine (Same_any _ v u ks ks (h.drewN m) (h'.drewN m)).mono fun e w' hh => ⟨by rw [hh.1, decide_eq_true rfl], hh.2⟩

set_option maxRecDepth 100000 in
set_option maxHeartbeats 12800000 in
theorem told_any (x : Nat → Nat) (c0 d0 cb mb : Nat) (s : St) (N : Nat) (w : World) (h : CIs x c0 w cb s N) (h' : MIs x d0 w mb s N) (ok : Ok s) :
    Calls Try.prog 22 #[.pointer (some ⟨cb, 0, none⟩), .pointer (some ⟨mb, 0, none⟩)] w fun e w' => e = .returned (.bool true) ∧ Below w.heap.size w w' := by
  obtain ⟨i0, hi, hz0, hz1, hz2⟩ := info_parts Try.infoK
  have l0 := ok.size
  have l1 := ok.held
  have l2 := ok.first
  have l3 := ok.all
  have l4 := ok.target
  have H := Lib.hid h
  have M := Lib.hid h'
  clear h h' ok
  go_enter Try.func22, Try.ntmps22
  go_wp2_with fail
  refine (Lists_apart x c0 cb s N w H.out (by omega) (by omega) (by omega) (by omega)).mono ?_
  rintro e w1 ⟨va, vb, vx, vy, rfl, hb1, hr, hap⟩
  have B1 := Lib.hid hb1
  have R1 := Lib.hid hr
  have AP := Lib.hid hap
  have H1 := Lib.hid (H.out.below hb1)
  clear hb1 hr hap
  go_wp2_with fail
  refine (Lists_apart _ c0 cb s N w1 H1.out (by omega) (by omega) (by omega) (by omega)).mono ?_
  rintro e w2 ⟨ve, vf, vg, vh, rfl, hb2, hr, -⟩
  have B2 := Lib.hid hb2
  have R2 := Lib.hid hr
  have H2 := Lib.hid (H1.out.below hb2)
  have B12 := Lib.hid (below_trans B1.out B2.out B1.out.size)
  have T0 : Hid (T4 w2 w.heap.size w1.heap.size va s.once.length vb s.often.length vx s.wonce.length vy s.woften.length w2) := Lib.hid (by
    have own : ∀ {v : Value} {k : List K}, isRow w1 w.heap.size v k → Rw w2.heap.size w.heap.size w1.heap.size v k.length w2 := fun hr =>
      ⟨⟨_, own_base (hr.later hb2) (Nat.zero_le _)⟩, fun g hg => .inl (World.ownsRow.lt hr g hg)⟩
    have r := R1.out
    have e1 := own r.1
    have e2 := own r.2.1
    have e3 := own r.2.2.1
    have e4 := own r.2.2.2
    rw [List.length_reverse] at e1 e2 e3 e4
    have a := AP.out
    exact ⟨Keeps.refl _ _, e1, e2, e3, e4, a.1, a.2.1, a.2.2.1, a.2.2.2.1, a.2.2.2.2.1, a.2.2.2.2.2⟩)
  have M2 := Lib.hid (M.out.below (c' := d0 + 9) B12.out)
  have MK : Hid (∀ wr, Keeps w2 wr (fun b => w.heap.size ≤ b ∧ b < w1.heap.size) → ∃ x9, MIs x9 d0 wr mb s N) := Lib.hid (fun wr hk =>
    ⟨_, M2.out.frame (hk.fr (C := fun e => e = d0 + 9) (c := d0 + 9) rfl (fun b _ hs => paint_new hs.1)) (fun e he h => by have := he.2; omega)⟩)
  obtain ⟨v1, v2, v3, v4, pm, -, k1, k2, k3, k4, k5, -, HR⟩ := M2.out.cells
  clear hb2 hr
  have SA := Lib.hid (Same_eq w2 va v1 _ (RO.of_row (R1.out.1.later B2.out) (by rw [List.length_reverse]; omega)) HR.out.1.ro)
  have SB := Lib.hid (Same_eq w2 vb v2 _ (RO.of_row (R1.out.2.1.later B2.out) (by rw [List.length_reverse]; omega)) HR.out.2.1.ro)
  have SX := Lib.hid (Same_eq w2 vx v3 _ (RO.of_row (R1.out.2.2.1.later B2.out) (by rw [List.length_reverse]; omega)) HR.out.2.2.1.ro)
  have SY := Lib.hid (Same_eq w2 vy v4 _ (RO.of_row (R1.out.2.2.2.later B2.out) (by rw [List.length_reverse]; omega)) HR.out.2.2.2.1.ro)
  have TQ : Hid (∀ W, Drawn w2 W → Calls Try.prog 36 #[.pointer (some ⟨cb, 0, none⟩)] W fun e w' => e = .returned (.int .i64 (s.target : Nat)) ∧ ∃ n, w' = W.drewN n) :=
    Lib.hid (fun W hW => by obtain ⟨m, rfl⟩ := hW; exact (Target_any _ c0 cb s N _ (H2.out.drewN m)).mono (fun e w' hh => ⟨hh.1, 0, hh.2.symm⟩))
  obtain ⟨na, hna⟩ : ∃ n, s.once.length = n := ⟨_, rfl⟩
  obtain ⟨nb, hnb⟩ : ∃ n, s.often.length = n := ⟨_, rfl⟩
  obtain ⟨nx, hnx⟩ : ∃ n, s.wonce.length = n := ⟨_, rfl⟩
  obtain ⟨ny, hny⟩ : ∃ n, s.woften.length = n := ⟨_, rfl⟩
  rw [hna, hnb, hnx, hny] at T0
  have LR : Hid (s.once.reverse.length ≤ 1048576 ∧ s.often.reverse.length ≤ 1048576 ∧ s.wonce.reverse.length ≤ 1048576 ∧ s.woften.reverse.length ≤ 1048576) := Lib.hid (by simp only [List.length_reverse]; omega)
  rw [hna, hnb, hnx, hny] at l3
  rw [hna, hnb] at l1
  rw [hna, hnx] at l2
  clear hna hnb hnx hny
  go_wp2_with fail
  go_quiet (first
    | (go_at_call_of 53 va; refine Calls.quiet_of (SA.out _ ?_); repeat (first | exact Drawn.refl _ | refine Drawn.drewN ?_ _ | refine Drawn.drew ?_))
    | (go_at_call_of 53 vb; refine Calls.quiet_of (SB.out _ ?_); repeat (first | exact Drawn.refl _ | refine Drawn.drewN ?_ _ | refine Drawn.drew ?_))
    | (go_at_call_of 53 vx; refine Calls.quiet_of (SX.out _ ?_); repeat (first | exact Drawn.refl _ | refine Drawn.drewN ?_ _ | refine Drawn.drew ?_))
    | (go_at_call_of 53 vy; refine Calls.quiet_of (SY.out _ ?_); repeat (first | exact Drawn.refl _ | refine Drawn.drewN ?_ _ | refine Drawn.drew ?_))
    | (go_at_call 36; refine Calls.quiet_of (TQ.out _ ?_); repeat (first | exact Drawn.refl _ | refine Drawn.drewN ?_ _ | refine Drawn.drew ?_)))
  have T1 : Hid (∀ m, T4 w2 w.heap.size w1.heap.size va na vb nb vx nx vy ny (w2.drewN m)) := Lib.hid (fun m => T0.out.drewN m)
  clear T0 SA SB SX SY TQ k1 k2 k3 k4 k5 HR
  obtain ⟨aa, ca, hva, -⟩ := (T1.out 0).shape
  obtain ⟨ab, cb2, hvb, -⟩ := (T1.out 0).rot.shape
  subst hva
  subst hvb
  have E2 : Hid (isRow w2 w1.heap.size ve s.once.reverse ∧ isRow w2 w1.heap.size vf s.often.reverse ∧ isRow w2 w1.heap.size vg s.wonce.reverse ∧ isRow w2 w1.heap.size vh s.woften.reverse) := R2
  clear R1 R2 AP H1 H2 H M M2
  go_wp2_with fail
  go_loopw [13] (fun i wr => ∃ k : Nat, i = .int .i64 k ∧ k ≤ na ∧ T4 w2 w.heap.size w1.heap.size (.slice aa na ca) na (.slice ab nb cb2) nb vx nx vy ny wr) (fun i _ => na - (intOf i).toNat)
  case atStart => exact ⟨0, rfl, Nat.zero_le _, T1.out _⟩
  case round =>
    obtain ⟨k, rfl, hk, hT⟩ := hrel
    have TA := Lib.hid hT
    clear hT
    by_cases hlt : k < na
    · obtain ⟨g, rfl, hfz, hcl⟩ := TA.out.open.2 (by omega)
      obtain ⟨q, hq⟩ := hcl k hlt
      have TB : Hid (∀ u, T4 w2 w.heap.size w1.heap.size (.slice (some ⟨g, 0, none⟩) na ca) na (.slice ab nb cb2) nb vx nx vy ny _) := Lib.hid (fun u => TA.out.store rfl k u)
      clear hcl
      go_wp2_with fail
      go_roundw
      case rel => exact ⟨k + 1, by go_num, by omega, TB.out _⟩
      case measure => simp [intOf]; omega
    · go_wp2_with fail
      go_loopw [14] (fun i wr => ∃ k : Nat, i = .int .i64 k ∧ k ≤ nb ∧ T4 w2 w.heap.size w1.heap.size (.slice aa na ca) na (.slice ab nb cb2) nb vx nx vy ny wr) (fun i _ => nb - (intOf i).toNat)
      case atStart => exact ⟨0, rfl, Nat.zero_le _, TA.out⟩
      case round =>
        obtain ⟨k, rfl, hk, hT⟩ := hrel
        have TA := Lib.hid hT
        clear hT
        by_cases hlt : k < nb
        · obtain ⟨g, rfl, hfz, hcl⟩ := TA.out.rot.open.2 (by omega)
          obtain ⟨q, hq⟩ := hcl k hlt
          have TB : Hid (∀ u, T4 w2 w.heap.size w1.heap.size (.slice aa na ca) na (.slice (some ⟨g, 0, none⟩) nb cb2) nb vx nx vy ny _) := Lib.hid (fun u => (TA.out.rot.store rfl k u).rot.rot.rot)
          clear hcl
          go_wp2_with fail
          go_roundw
          case rel => exact ⟨k + 1, by go_num, by omega, TB.out _⟩
          case measure => simp [intOf]; omega
        · go_wp2_with fail
          go_loopw [5, 6, 7, 8, 15] (fun va vb vx vy i wr => ∃ k : Nat, i = .int .i64 k ∧ k ≤ 20 ∧ T4 w2 w.heap.size w1.heap.size va (na + k) vb (nb + k) vx (nx + k) vy (ny + k) wr) (fun _ _ _ _ i _ => 20 - (intOf i).toNat)
          case atStart => exact ⟨0, rfl, Nat.zero_le _, TA.out⟩
          case round =>
            obtain ⟨k, rfl, hk, hT⟩ := hrel
            have TP := Lib.hid hT
            clear hT
            by_cases hlt : k < 20
            · obtain ⟨⟨xsP, ownP⟩, -⟩ := TP.out.ra
              go_wp2_with (at_builtin; refine wpList_append_at _ rfl _ _ 51 rfl 0 3 i0 _ 1 8 Try.underlying51 hi hz0 hz1 hz2 rfl (by decide) _ (na + k) _ rfl (ownP.alloc _) ⟨wr.heap.size, 0, none⟩ 1 1 [.int .i64 (-98)] rfl rfl ?c1 (one_int _) ?c3 ?c4 ?c5 ?c6 ?_)
              try case c1 => exact cell_one_new _ _ _
              try case c3 => simp only [maxLen]; omega
              try case c4 => omega
              try case c5 => exact Nat.zero_le _
              try case c6 => omega
              intro vP wP hown hg hwh
              have TQ := Lib.hid (TP.out.push hown hg hwh).rot
              clear hown hg hwh ownP
              obtain ⟨⟨xsQ, ownQ⟩, -⟩ := TQ.out.ra
              go_wp2_with (at_builtin; refine wpList_append_at _ rfl _ _ 51 rfl 0 3 i0 _ 1 8 Try.underlying51 hi hz0 hz1 hz2 rfl (by decide) _ (nb + k) _ rfl (ownQ.alloc _) ⟨wP.heap.size, 0, none⟩ 1 1 [.int .i64 (-98)] rfl rfl ?c1 (one_int _) ?c3 ?c4 ?c5 ?c6 ?_)
              try case c1 => exact cell_one_new _ _ _
              try case c3 => simp only [maxLen]; omega
              try case c4 => omega
              try case c5 => exact Nat.zero_le _
              try case c6 => omega
              intro vQ wQ hown hg hwh
              have TR := Lib.hid (TQ.out.push hown hg hwh).rot
              clear hown hg hwh ownQ
              obtain ⟨⟨xsR, ownR⟩, -⟩ := TR.out.ra
              go_wp2_with (at_builtin; refine wpList_append_at _ rfl _ _ 51 rfl 0 3 i0 _ 1 8 Try.underlying51 hi hz0 hz1 hz2 rfl (by decide) _ (nx + k) _ rfl (ownR.alloc _) ⟨wQ.heap.size, 0, none⟩ 1 1 [.int .i64 (-98)] rfl rfl ?c1 (one_int _) ?c3 ?c4 ?c5 ?c6 ?_)
              try case c1 => exact cell_one_new _ _ _
              try case c3 => simp only [maxLen]; omega
              try case c4 => omega
              try case c5 => exact Nat.zero_le _
              try case c6 => omega
              intro vR wR hown hg hwh
              have TS := Lib.hid (TR.out.push hown hg hwh).rot
              clear hown hg hwh ownR
              obtain ⟨⟨xsS, ownS⟩, -⟩ := TS.out.ra
              go_wp2_with (at_builtin; refine wpList_append_at _ rfl _ _ 51 rfl 0 3 i0 _ 1 8 Try.underlying51 hi hz0 hz1 hz2 rfl (by decide) _ (ny + k) _ rfl (ownS.alloc _) ⟨wR.heap.size, 0, none⟩ 1 1 [.int .i64 (-98)] rfl rfl ?c1 (one_int _) ?c3 ?c4 ?c5 ?c6 ?_)
              try case c1 => exact cell_one_new _ _ _
              try case c3 => simp only [maxLen]; omega
              try case c4 => omega
              try case c5 => exact Nat.zero_le _
              try case c6 => omega
              intro vS wS hown hg hwh
              have TU := Lib.hid (TS.out.push hown hg hwh).rot
              clear hown hg hwh ownS
              go_wp2_with fail
              go_roundw
              case rel => exact ⟨k + 1, by go_num, by omega, TU.out⟩
              case measure => simp [intOf]; omega
            · obtain rfl : k = 20 := by omega
              obtain ⟨x9, m9⟩ := MK.out _ TP.out.kp
              obtain ⟨v1, v2, v3, v4, pm, -, k1, k2, k3, k4, -, -, HR⟩ := m9.cells
              obtain ⟨a1, c1, e1, -⟩ := TP.out.shape
              obtain ⟨a2, c2, e2, -⟩ := TP.out.rot.shape
              obtain ⟨a3, c3, e3, -⟩ := TP.out.rot.rot.shape
              obtain ⟨a4, c4, e4, -⟩ := TP.out.rot.rot.rot.shape
              subst e1
              subst e2
              subst e3
              subst e4
              have SA := Lib.hid (Same_eq _ ve v1 _ (RO.later E2.out.1 LR.out.1 TP.out.kp) HR.out.1.ro)
              have SB := Lib.hid (Same_eq _ vf v2 _ (RO.later E2.out.2.1 LR.out.2.1 TP.out.kp) HR.out.2.1.ro)
              have SX := Lib.hid (Same_eq _ vg v3 _ (RO.later E2.out.2.2.1 LR.out.2.2.1 TP.out.kp) HR.out.2.2.1.ro)
              have SY := Lib.hid (Same_eq _ vh v4 _ (RO.later E2.out.2.2.2 LR.out.2.2.2 TP.out.kp) HR.out.2.2.2.1.ro)
              have FIN : Hid (∀ m, Below w.heap.size w (wr.drewN m)) := Lib.hid (fun m => by
                have kp := TP.out.kp
                have b := B12.out
                exact ⟨kp.os.trans b.os, kp.tape.trans b.tape, kp.output.trans b.output, Nat.le_trans b.size kp.size, fun j hj => (kp.block j (Nat.lt_of_lt_of_le hj b.size) (fun hh => by omega)).trans (b.block j hj)⟩)
              clear m9 HR TP
              go_wp2_with fail
              refine (SA.out _ (Drawn.refl _)).mono ?_
              rintro e w9 ⟨rfl, m1, rfl⟩
              go_wp2_with fail
              refine (SB.out _ ⟨_, rfl⟩).mono ?_
              rintro e w9 ⟨rfl, m2, rfl⟩
              go_wp2_with fail
              refine (SX.out _ ⟨_, rfl⟩).mono ?_
              rintro e w9 ⟨rfl, m3, rfl⟩
              go_wp2_with fail
              refine (SY.out _ ⟨_, rfl⟩).mono ?_
              rintro e w9 ⟨rfl, m4, rfl⟩
              go_wp2_with fail
              go_ret
              exact ⟨by show Ending.returned (.bool (decide ((20 : Int) ≤ (ny : Int) + 20))) = _; rw [decide_eq_true (by omega)], FIN.out _⟩

end Go.Proofs.Ythcdfdkhmlkneaa.arcI
