/- list: Check, vertex, successors, may. -/
import Derived.Test.YtflnpcgnenhogaaDoorLsG
import Derived.Test.YtflnpcgnenhogaaDoorLsC
namespace Go.Proofs.YtflnpcgnenhogaaDoor.ls
open Go.RowKit Go.Proofs.YtflnpcgnenhogaaDoor.own Go.Proofs.YtflnpcgnenhogaaDoor.bit

/-- a list of numbers of 32 bits in memory that is only read -/
def LV (w : World) (a : Option Addr) (l : List Nat) : Prop :=
  l.length ≤ 4611686018427387903 ∧ ∀ i (h : i < l.length), ∃ g o, a = some ⟨g, o, none⟩ ∧ g < w.heap.size ∧ w.cell? ⟨g, o + i, none⟩ = some (.int .u32 (l[i] : Int)) ∧ l[i] < 4294967296
theorem LV.below {w w' : World} {a : Option Addr} {l : List Nat} (h : LV w a l) (k : Below w.heap.size w w') : LV w' a l :=
  ⟨h.1, fun i hi => by
    obtain ⟨g, o, h1, h2, h3, h4⟩ := h.2 i hi
    exact ⟨g, o, h1, Nat.lt_of_lt_of_le h2 k.size, (k.cell (p := ⟨g, o + i, none⟩) h2).trans h3, h4⟩⟩
theorem ris_iff (l : List Nat) : Ris l ↔ ∀ i (h : i < l.length), l[i] < 65536 ∧ ∀ h0 : 0 < i, l[i - 1] < l[i] := by
  constructor
  · intro h i hi
    exact ⟨h.2 _ (List.getElem_mem hi), fun h0 => List.pairwise_iff_getElem.1 h.1 (i - 1) i (by omega) hi (by omega)⟩
  · intro h
    refine ⟨List.pairwise_iff_getElem.2 fun i j hi hj hij => ?_, fun v hv => ?_⟩
    · obtain ⟨k, hk⟩ : ∃ k, j = i + 1 + k := ⟨j - i - 1, by omega⟩
      clear hij
      induction k generalizing j with
      | zero =>
        subst hk
        exact (h (i + 1) (by omega)).2 (by omega)
      | succ k ih =>
        have h1 := ih (i + 1 + k) (by omega) rfl
        have h2 := (h j hj).2 (by omega)
        have e : j - 1 = i + 1 + k := by omega
        simp only [e] at h2
        omega
    · obtain ⟨i, hi, rfl⟩ := List.mem_iff_getElem.1 hv
      exact (h i hi).1

def parV (win itv zet : Int) : Value := .agg #[.int .i64 win, .int .i64 itv, .int .i64 zet]
def ParOk (win itv zet : Int) : Prop := 0 ≤ win ∧ win ≤ 16 ∧ (itv = 0 ∨ 2 ≤ itv ∧ itv ≤ 64) ∧ 1 ≤ zet ∧ zet ≤ 16
instance (win itv zet : Int) : Decidable (ParOk win itv zet) := by unfold ParOk; exact inferInstance
/-- an answer that says whether something is so -/
def YesNo (P : Prop) (w : World) (e : Ending) (w' : World) : Prop := ∃ b : Bool, e = .returned (.bool b) ∧ (b = true ↔ P) ∧ w = w'
theorem vertex_any (z : Int) (w : World) : Calls Tryd.prog 41 #[.int .i64 z] w fun e w' => e = .returned (.bool (decide (0 ≤ z ∧ z < 65536))) ∧ w = w' := by
  by_cases h0 : 0 ≤ z
  · have e : decide (0 ≤ z ∧ z < 65536) = decide (z < 65536) := decide_eq_decide.2 ⟨fun h => h.2, fun h => ⟨h0, h⟩⟩
    rw [e]
    go_enter Tryd.func41, Tryd.ntmps41
    go_wp2_with fail
    go_ret
    exact ⟨rfl, rfl⟩
  · have e : decide (0 ≤ z ∧ z < 65536) = false := decide_eq_false (fun h => h0 h.1)
    rw [e]
    go_enter Tryd.func41, Tryd.ntmps41
    go_wp2_with fail
    go_ret
    exact ⟨rfl, rfl⟩
set_option maxRecDepth 100000 in
set_option maxHeartbeats 1600000 in
theorem pcheck_any (win itv zet : Int) (w : World) : Calls Tryd.prog 16 #[parV win itv zet] w fun e w' => e = .returned (.int .i64 (if ParOk win itv zet then 0 else 1)) ∧ Below w.heap.size w w' := by
  unfold parV
  obtain ⟨k, hk⟩ : ∃ k : Int, (if ParOk win itv zet then 0 else 1) = k := ⟨_, rfl⟩
  rw [hk]
  have HK := Lib.hid hk
  clear hk
  have yes : ParOk win itv zet → k = 0 := fun h => by have := HK.out; rw [if_pos h] at this; exact this.symm
  have no : ¬ ParOk win itv zet → k = 1 := fun h => by have := HK.out; rw [if_neg h] at this; exact this.symm
  have YES := Lib.hid yes
  have NO := Lib.hid no
  clear yes no HK
  by_cases h1 : win < 0
  · obtain rfl := NO.out (fun h => by have := h.1; omega)
    clear YES NO
    go_enter Tryd.func16, Tryd.ntmps16
    go_wp2_with fail
    go_ret
    exact ⟨rfl, (by repeat (first | exact Below.refl _ _ | refine below_drewN ?_ _ | refine Below.setCell ?_ (by simp; try omega) _ | refine Below.alloc ?_ (by simp; try omega) _))⟩
  by_cases h2 : 16 < win
  · obtain rfl := NO.out (fun h => by have := h.2.1; omega)
    clear YES NO
    go_enter Tryd.func16, Tryd.ntmps16
    go_wp2_with fail
    go_ret
    exact ⟨rfl, (by repeat (first | exact Below.refl _ _ | refine below_drewN ?_ _ | refine Below.setCell ?_ (by simp; try omega) _ | refine Below.alloc ?_ (by simp; try omega) _))⟩
  by_cases h3 : zet < 1
  · obtain rfl := NO.out (fun h => by have := h.2.2.2.1; omega)
    clear YES NO
    go_enter Tryd.func16, Tryd.ntmps16
    go_wp2_with fail
    go_ret
    exact ⟨rfl, (by repeat (first | exact Below.refl _ _ | refine below_drewN ?_ _ | refine Below.setCell ?_ (by simp; try omega) _ | refine Below.alloc ?_ (by simp; try omega) _))⟩
  by_cases h4 : 16 < zet
  · obtain rfl := NO.out (fun h => by have := h.2.2.2.2; omega)
    clear YES NO
    go_enter Tryd.func16, Tryd.ntmps16
    go_wp2_with fail
    go_ret
    exact ⟨rfl, (by repeat (first | exact Below.refl _ _ | refine below_drewN ?_ _ | refine Below.setCell ?_ (by simp; try omega) _ | refine Below.alloc ?_ (by simp; try omega) _))⟩
  by_cases h5 : itv = 0
  · obtain rfl := YES.out ⟨by omega, by omega, .inl h5, by omega, by omega⟩
    have h5' : (itv != 0) = false := by rw [h5]; rfl
    subst h5
    clear YES NO
    go_enter Tryd.func16, Tryd.ntmps16
    go_wp2_with fail
    go_ret
    exact ⟨rfl, (by repeat (first | exact Below.refl _ _ | refine below_drewN ?_ _ | refine Below.setCell ?_ (by simp; try omega) _ | refine Below.alloc ?_ (by simp; try omega) _))⟩
  have h5' : (itv != 0) = true := by simpa using h5
  by_cases h6 : itv < 2
  · obtain rfl := NO.out (fun h => by have := h.2.2.1; omega)
    clear YES NO
    go_enter Tryd.func16, Tryd.ntmps16
    go_wp2_with fail
    go_ret
    exact ⟨rfl, (by repeat (first | exact Below.refl _ _ | refine below_drewN ?_ _ | refine Below.setCell ?_ (by simp; try omega) _ | refine Below.alloc ?_ (by simp; try omega) _))⟩
  by_cases h7 : 64 < itv
  · obtain rfl := NO.out (fun h => by have := h.2.2.1; omega)
    clear YES NO
    go_enter Tryd.func16, Tryd.ntmps16
    go_wp2_with fail
    go_ret
    exact ⟨rfl, (by repeat (first | exact Below.refl _ _ | refine below_drewN ?_ _ | refine Below.setCell ?_ (by simp; try omega) _ | refine Below.alloc ?_ (by simp; try omega) _))⟩
  obtain rfl := YES.out ⟨by omega, by omega, .inr ⟨by omega, by omega⟩, by omega, by omega⟩
  clear YES NO
  go_enter Tryd.func16, Tryd.ntmps16
  go_wp2_with fail
  go_ret
  exact ⟨rfl, (by repeat (first | exact Below.refl _ _ | refine below_drewN ?_ _ | refine Below.setCell ?_ (by simp; try omega) _ | refine Below.alloc ?_ (by simp; try omega) _))⟩

set_option maxRecDepth 100000 in
set_option maxHeartbeats 1600000 in
theorem succ_any (w : World) (a : Option Addr) (l : List Nat) (cap : Nat) (h : LV w a l) : Calls Tryd.prog 42 #[.slice a l.length cap] w (YesNo (Ris l) w) := by
  have H := Lib.hid h.2
  have hz := h.1
  have R := Lib.hid (ris_iff l)
  clear h
  obtain ⟨n, hn⟩ : ∃ n, l.length = n := ⟨_, rfl⟩
  have HN := Lib.hid hn
  rw [hn] at hz ⊢
  clear hn
  go_enter Tryd.func42, Tryd.ntmps42
  go_wp2_with fail
  go_loopw [7] (fun vi wr => ∃ i : Nat, vi = .int .i64 (i : Int) ∧ i ≤ n ∧ wr = w ∧ ∀ j (hj : j < l.length), j < i → l[j] < 65536 ∧ ∀ h0 : 0 < j, l[j - 1] < l[j]) (fun vi _ => n - (intOf vi).toNat)
  case atStart => exact ⟨0, rfl, Nat.zero_le _, rfl, fun j _ h => by omega⟩
  case round =>
    obtain ⟨i, rfl, hi, rfl, hj⟩ := hrel
    have HJ := Lib.hid hj
    clear hj
    by_cases hlt : i < n
    · obtain ⟨g, o, rfl, hg, hc, hb⟩ := H.out i (by rw [HN.out]; exact hlt)
      obtain ⟨v, hv⟩ : ∃ v, l[i]'(by rw [HN.out]; exact hlt) = v := ⟨_, rfl⟩
      rw [hv] at hc hb
      have HV := Lib.hid hv
      have i1 : (i : Int) < (n : Int) := by omega
      by_cases h65 : v < 65536
      · have j1 : decide ((65536 : Int) ≤ (v : Int)) = false := decide_eq_false (by omega)
        by_cases h0 : 0 < i
        · obtain ⟨g', o', he, hg', hc', hb'⟩ := H.out (i - 1) (by rw [HN.out]; omega)
          obtain ⟨rfl, rfl⟩ : g' = g ∧ o' = o := by injection he with he; injection he with e1 e2; exact ⟨e1.symm, e2.symm⟩
          obtain ⟨u, hu⟩ : ∃ u, l[i - 1]'(by rw [HN.out]; omega) = u := ⟨_, rfl⟩
          rw [hu] at hc' hb'
          have HU := Lib.hid hu
          have j2 : decide ((0 : Int) < (i : Int)) = true := decide_eq_true (by omega)
          have j3 : IntKind.i64.wrap ((i : Int) - 1) = ((i - 1 : Nat) : Int) := by rw [IntWalk.i64_in _ (by omega)]; omega
          have j4 : ((i - 1 : Nat) : Int) < (n : Int) := by omega
          have j5 : (0 : Int) ≤ ((i - 1 : Nat) : Int) := Int.natCast_nonneg _
          clear hv hu he
          by_cases huv : u < v
          · have j6 : decide ((v : Int) ≤ (u : Int)) = false := decide_eq_false (by omega)
            go_wp2_with fail
            go_roundw
            case rel =>
              refine ⟨i + 1, by go_num, by omega, by trivial, fun j hj hji => ?_⟩
              by_cases hji2 : j = i
              · subst hji2
                have e1 := HV.out
                have e2 := HU.out
                exact ⟨by omega, fun _ => by omega⟩
              · exact HJ.out j hj (by omega)
            case measure => simp [intOf]; omega
          · have j6 : decide ((v : Int) ≤ (u : Int)) = true := decide_eq_true (by omega)
            go_wp2_with fail
            go_ret
            refine ⟨false, rfl, ?_, rfl⟩
            rw [R.out]
            refine ⟨fun h => (by cases h), fun h => ?_⟩
            have h1 := (h i (by rw [HN.out]; exact hlt)).2 h0
            have e1 := HV.out
            have e2 := HU.out
            omega
        · have j2 : decide ((0 : Int) < (i : Int)) = false := decide_eq_false (by omega)
          clear hv
          go_wp2_with fail
          go_roundw
          case rel =>
            refine ⟨i + 1, by go_num, by omega, by trivial, fun j hj hji => ?_⟩
            by_cases hji2 : j = i
            · subst hji2
              have e1 := HV.out
              exact ⟨by omega, fun h => absurd h h0⟩
            · exact HJ.out j hj (by omega)
          case measure => simp [intOf]; omega
      · have j1 : decide ((65536 : Int) ≤ (v : Int)) = true := decide_eq_true (by omega)
        clear hv
        go_wp2_with fail
        go_ret
        refine ⟨false, rfl, ?_, rfl⟩
        rw [R.out]
        refine ⟨fun h => (by cases h), fun h => ?_⟩
        have h1 := (h i (by rw [HN.out]; exact hlt)).1
        have e1 := HV.out
        omega
    · have i1 : ¬ (i : Int) < (n : Int) := by omega
      go_wp2_with fail
      go_ret
      refine ⟨true, rfl, ?_, rfl⟩
      rw [R.out]
      exact ⟨fun _ j hj => HJ.out j hj (by rw [HN.out] at hj; omega), fun _ => rfl⟩
end Go.Proofs.YtflnpcgnenhogaaDoor.ls
