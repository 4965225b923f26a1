/- list: may. -/
import Derived.Test.YtflnpcgnenhogaaDoorLsK
namespace Go.Proofs.YtflnpcgnenhogaaDoor.ls
open Go.RowKit Go.Proofs.YtflnpcgnenhogaaDoor.own Go.Proofs.YtflnpcgnenhogaaDoor.bit

def MayI (win itv zet x : Int) (succ ref : List Nat) (r : Int) : Prop := ParOk win itv zet ∧ (0 ≤ x ∧ x < 65536) ∧ Ris succ ∧ Ris ref ∧ 0 ≤ r ∧ r ≤ win ∧ (0 < r ∨ ref = [])
def YesNoB (P : Prop) (w : World) (e : Ending) (w' : World) : Prop := ∃ b : Bool, e = .returned (.bool b) ∧ (b = true ↔ P) ∧ Below w.heap.size w w'
theorem YesNoB.no {P : Prop} {w w' : World} (h : ¬ P) (k : Below w.heap.size w w') : YesNoB P w (.returned (.bool false)) w' := ⟨false, rfl, ⟨(fun h => by cases h), fun h' => absurd h' h⟩, k⟩
theorem YesNoB.yes {P : Prop} {w w' : World} (h : P) (k : Below w.heap.size w w') : YesNoB P w (.returned (.bool true)) w' := ⟨true, rfl, ⟨fun _ => h, fun _ => rfl⟩, k⟩
set_option maxRecDepth 100000 in
set_option maxHeartbeats 3200000 in
theorem lmay_any (win itv zet x : Int) (w : World) (a : Option Addr) (l : List Nat) (cap : Nat) (h : LV w a l) (b : Option Addr) (m : List Nat) (capb : Nat) (hb : LV w b m) (r : Int) :
    Calls Tryd.prog 33 #[parV win itv zet, .int .i64 x, .slice a l.length cap, .slice b m.length capb, .int .i64 r] w (YesNoB (MayI win itv zet x l m r) w) := by
  have CK := Lib.hid (fun W => pcheck_any win itv zet W)
  have VX := Lib.hid (fun W => vertex_any x W)
  have S1 := Lib.hid (fun W (k : Below w.heap.size w W) => succ_any W a l cap (h.below k))
  have S2 := Lib.hid (fun W (k : Below w.heap.size w W) => succ_any W b m capb (hb.below k))
  obtain ⟨P, hP⟩ : ∃ P, MayI win itv zet x l m r = P := ⟨_, rfl⟩
  have HP := Lib.hid hP
  rw [hP]
  have hm0 : (m = [] ↔ m.length = 0) := List.length_eq_zero_iff.symm
  have HM0 := Lib.hid hm0
  unfold MayI at HP
  clear h hb hP hm0
  by_cases hp : ParOk win itv zet
  · rw [if_pos hp] at CK
    by_cases hx : 0 ≤ x ∧ x < 65536
    · rw [decide_eq_true hx] at VX
      unfold parV at CK ⊢
      go_enter Tryd.func33, Tryd.ntmps33
      go_wp2_with fail
      with_reducible refine (CK.out _).mono ?_
      rintro e w1 ⟨rfl, k1⟩
      have r1 := box_keeps k1
      have c0 : w1.cell? ⟨w.heap.size, 0, none⟩ = some (.int .i64 win) := by rw [cell_of_row _ _ _ _ _ _ r1]; rfl
      have K1 := Lib.hid (below_alloc k1)
      clear r1 k1
      go_wp2_with fail
      with_reducible refine (VX.out _).mono ?_
      rintro e w2 ⟨rfl, rfl⟩
      go_wp2_with fail
      with_reducible refine (S1.out _ K1.out).mono ?_
      rintro e w2 ⟨b1, rfl, hb1, rfl⟩
      have HB1 := Lib.hid hb1
      clear hb1
      cases b1
      · have NP : Hid (¬ P) := Lib.hid (by rw [← HP.out]; intro h; have := HB1.out.2 h.2.2.1; cases this)
        go_wp2_with fail
        go_ret
        exact YesNoB.no NP.out K1.out
      · go_wp2_with fail
        with_reducible refine (S2.out _ K1.out).mono ?_
        rintro e w2 ⟨b2, rfl, hb2, rfl⟩
        have HB2 := Lib.hid hb2
        clear hb2
        cases b2
        · have NP : Hid (¬ P) := Lib.hid (by rw [← HP.out]; intro h; have := HB2.out.2 h.2.2.2.1; cases this)
          go_wp2_with fail
          go_ret
          exact YesNoB.no NP.out K1.out
        · by_cases hr0 : 0 ≤ r
          · by_cases hrw : r ≤ win
            · by_cases hr1 : 0 < r
              · have NP : Hid (P) := Lib.hid (by rw [← HP.out]; exact ⟨hp, hx, HB1.out.1 (by trivial), HB2.out.1 (by trivial), hr0, hrw, .inl hr1⟩)
                go_wp2_with fail
                go_ret
                exact YesNoB.yes NP.out K1.out
              · have hd : decide (0 < r) = false := decide_eq_false hr1
                by_cases hm : m.length = 0
                · have hm2 : ((m.length : Int) == 0) = true := by rw [hm]; rfl
                  have NP : Hid (P) := Lib.hid (by rw [← HP.out]; exact ⟨hp, hx, HB1.out.1 (by trivial), HB2.out.1 (by trivial), hr0, hrw, .inr (HM0.out.2 hm)⟩)
                  go_wp2_with fail
                  go_ret
                  exact YesNoB.yes NP.out K1.out
                · have hm2 : ((m.length : Int) == 0) = false := beq_eq_false_iff_ne.2 (by omega)
                  have NP : Hid (¬ P) := Lib.hid (by rw [← HP.out]; intro h; rcases h.2.2.2.2.2.2 with h1 | h1; exact hr1 h1; exact hm (HM0.out.1 h1))
                  go_wp2_with fail
                  go_ret
                  exact YesNoB.no NP.out K1.out
            · have NP : Hid (¬ P) := Lib.hid (by rw [← HP.out]; intro h; exact hrw h.2.2.2.2.2.1)
              go_wp2_with fail
              go_ret
              exact YesNoB.no NP.out K1.out
          · have NP : Hid (¬ P) := Lib.hid (by rw [← HP.out]; intro h; exact hr0 h.2.2.2.2.1)
            go_wp2_with fail
            go_ret
            exact YesNoB.no NP.out K1.out
    · rw [decide_eq_false hx] at VX
      unfold parV at CK ⊢
      go_enter Tryd.func33, Tryd.ntmps33
      go_wp2_with fail
      with_reducible refine (CK.out _).mono ?_
      rintro e w1 ⟨rfl, k1⟩
      have K1 := Lib.hid (below_alloc k1)
      clear k1
      go_wp2_with fail
      with_reducible refine (VX.out _).mono ?_
      rintro e w2 ⟨rfl, rfl⟩
      have NP : Hid (¬ P) := Lib.hid (by rw [← HP.out]; intro h; exact hx h.2.1)
      go_wp2_with fail
      go_ret
      exact YesNoB.no NP.out K1.out
  · rw [if_neg hp] at CK
    unfold parV at CK ⊢
    go_enter Tryd.func33, Tryd.ntmps33
    go_wp2_with fail
    with_reducible refine (CK.out _).mono ?_
    rintro e w1 ⟨rfl, k1⟩
    have K1 := Lib.hid (below_alloc k1)
    clear k1
    have NP : Hid (¬ P) := Lib.hid (by rw [← HP.out]; intro h; exact hp h.1)
    go_wp2_with fail
    go_ret
    exact YesNoB.no NP.out K1.out
end Go.Proofs.YtflnpcgnenhogaaDoor.ls
