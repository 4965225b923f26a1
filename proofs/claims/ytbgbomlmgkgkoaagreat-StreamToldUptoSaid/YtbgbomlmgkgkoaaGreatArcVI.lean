/- The contract of a cache's Drop. -/
import Derived.BigQuiet
import Derived.BigRegion
import Derived.Test.YtbgbomlmgkgkoaaGreatArcUI
namespace Go.Proofs.YtbgbomlmgkgkoaaGreat.arcI
open Go.RowKit Go.Proofs.YtbgbomlmgkgkoaaGreat.own

def dropR (s : St) (k : K) : St × Nat :=
  if k ∈ s.once ∨ k ∈ s.often ∨ k ∈ s.wonce ∨ k ∈ s.woften then (if 0 < s.pins k then (s, 16) else (dropS s k, 0)) else (s, 6)

/-- the first i of the four lists have let the key go -/
def dropN (s : St) (k : K) (i : Nat) : St :=
  { s with once := if 0 < i then s.once.erase k else s.once, often := if 1 < i then s.often.erase k else s.often, wonce := if 2 < i then s.wonce.erase k else s.wonce, woften := if 3 < i then s.woften.erase k else s.woften }

theorem has3_cases (s : St) (k : K) : ∃ a b c : Bool, decide (k ∈ s.once ∨ k ∈ s.often) = a ∧ decide (k ∈ s.wonce) = b ∧ decide (k ∈ s.woften) = c ∧ ((a = false ∧ b = false ∧ c = false ∧ ¬ (k ∈ s.once ∨ k ∈ s.often ∨ k ∈ s.wonce ∨ k ∈ s.woften)) ∨
    ((a = true ∨ (a = false ∧ b = true) ∨ (a = false ∧ b = false ∧ c = true)) ∧ (k ∈ s.once ∨ k ∈ s.often ∨ k ∈ s.wonce ∨ k ∈ s.woften))) := by
  refine ⟨_, _, _, rfl, rfl, rfl, ?_⟩
  by_cases h1 : k ∈ s.once ∨ k ∈ s.often
  · right; exact ⟨.inl (decide_eq_true h1), by rcases h1 with h | h <;> simp [h]⟩
  · by_cases h2 : k ∈ s.wonce
    · right; exact ⟨.inr (.inl ⟨decide_eq_false h1, decide_eq_true h2⟩), by simp [h2]⟩
    · by_cases h3 : k ∈ s.woften
      · right; exact ⟨.inr (.inr ⟨decide_eq_false h1, decide_eq_false h2, decide_eq_true h3⟩), by simp [h3]⟩
      · left; refine ⟨decide_eq_false h1, decide_eq_false h2, decide_eq_false h3, ?_⟩
        rintro (h | h | h | h)
        · exact h1 (.inl h)
        · exact h1 (.inr h)
        · exact h2 h
        · exact h3 h

set_option maxRecDepth 100000 in
set_option maxHeartbeats 6400000 in
theorem Drop_any (x : Nat → Nat) (c0 cb : Nat) (s : St) (N : Nat) (w : World) (k : K) (hok : ((Lit.int .i64 k).wf = true)) (h : CIs x c0 w cb s N) (ok : Ok s) (hp : s.pins k < 1099511627776) :
    Calls Tryz.prog 57 #[.pointer (some ⟨cb, 0, none⟩), (Value.int .i64 k)] w fun e w' => e = .returned (.int .i64 (dropR s k).2) ∧ Turned x c0 w w' cb (dropR s k).1 N := by
  have H := Lib.hid h
  have l0 := ok.size
  have l1 := ok.held
  have l2 := ok.first
  have l3 := ok.all
  obtain ⟨pm, hc, hm, _, _⟩ := cache_pins h
  have hl := hm.look (k := k) hok
  obtain ⟨a, b, c, ha, hb, hcc, hcs⟩ := has3_cases s k
  have HA := Lib.hid ha
  have HB := Lib.hid hb
  have HC := Lib.hid hcc
  clear h hm ha hb hcc
  rcases hcs with ⟨rfl, rfl, rfl, hno⟩ | ⟨hcs, hyes⟩
  · have R : Hid (dropR s k = (s, 6)) := Lib.hid (by unfold dropR; rw [if_neg hno])
    clear hno
    go_enter Tryz.func57, Tryz.ntmps57
    go_wp2_with fail
    refine (Has_any x c0 cb s N w k hok H.out).mono ?_
    rintro e w' ⟨rfl, rfl⟩
    rw [HA.out]
    go_wp2_with fail
    refine (has_wonce x c0 cb s N w k hok H.out).mono ?_
    rintro e w' ⟨rfl, rfl⟩
    rw [HB.out]
    go_wp2_with fail
    refine (has_woften x c0 cb s N w k hok H.out).mono ?_
    rintro e w' ⟨rfl, rfl⟩
    rw [HC.out]
    go_wp2_with fail
    go_ret
    exact ⟨by rw [R.out]; rfl, by rw [R.out]; exact ⟨x, Fr.refl _ _ _, H.out⟩⟩
  · have HY := Lib.hid hyes
    have HCS := Lib.hid hcs
    clear hyes hcs
    go_enter Tryz.func57, Tryz.ntmps57
    go_upto_region 3 with fail
    go_cut [10] from 11 (fun s10 wc => s10 = .bool false ∧ wc = w)
    case first =>
      go_wp2_with fail
      refine (Has_any x c0 cb s N w k hok H.out).mono ?_
      rintro e w' ⟨rfl, rfl⟩
      rw [HA.out]
      rcases HCS.out with rfl | ⟨rfl, rfl⟩ | ⟨rfl, rfl, rfl⟩
      · go_wp2_with fail
        go_meet
        case rel => exact ⟨rfl, rfl⟩
      · go_wp2_with fail
        refine (has_wonce x c0 cb s N w k hok H.out).mono ?_
        rintro e w' ⟨rfl, rfl⟩
        rw [HB.out]
        go_wp2_with fail
        go_meet
        case rel => exact ⟨rfl, rfl⟩
      · go_wp2_with fail
        refine (has_wonce x c0 cb s N w k hok H.out).mono ?_
        rintro e w' ⟨rfl, rfl⟩
        rw [HB.out]
        go_wp2_with fail
        refine (has_woften x c0 cb s N w k hok H.out).mono ?_
        rintro e w' ⟨rfl, rfl⟩
        rw [HC.out]
        go_wp2_with fail
        go_meet
        case rel => exact ⟨rfl, rfl⟩
    case rest =>
      obtain ⟨rfl, rfl⟩ := hcut
      by_cases hz : s.pins k = 0
      · have R : Hid (dropR s k = (dropS s k, 0)) := Lib.hid (by unfold dropR; rw [if_pos HY.out, if_neg (by omega)])
        rw [hz] at hl
        clear hz
        go_wp2_with fail
        go_region
        go_wp2_with fail
        go_loopw [53] (fun i wr => ∃ (j : Nat) (xr : Nat → Nat), i = .int .i64 j ∧ j ≤ 4 ∧ Mid x xr c0 wc wr ∧ CIs xr c0 wr cb (dropN s k j) N ∧ wr.heap[wc.heap.size]? = some (.cells #[.pointer (some ⟨cb, 1, none⟩), .pointer (some ⟨cb, 3, none⟩), .pointer (some ⟨cb, 5, none⟩), .pointer (some ⟨cb, 7, none⟩)] 204 (0, 0)) ∧ xr wc.heap.size = c0 + 6) (fun i _ => 4 - (intOf i).toNat)
        case atStart =>
          refine ⟨0, paint x wc.heap.size (c0 + 6), rfl, by omega, Mid.start (((Below.refl _ _).alloc (Nat.le_refl _) _).drew), H.out.below (((Below.refl _ _).alloc (Nat.le_refl _) _).drew), heap_alloc_new wc _, paint_new (Nat.le_refl _)⟩
        case round =>
          obtain ⟨j, xr, rfl, hj, hM, hCI, hrow, hXr⟩ := hrel
          have HM := Lib.hid hM
          have HCI := Lib.hid hCI
          have HROW := Lib.hid hrow
          have HXR := Lib.hid hXr
          have e0 : wr.cell? ⟨wc.heap.size, 0, none⟩ = some (.pointer (some ⟨cb, 1, none⟩)) := by rw [cell_of_row wr _ _ _ _ _ hrow]; rfl
          have e1 : wr.cell? ⟨wc.heap.size, 1, none⟩ = some (.pointer (some ⟨cb, 3, none⟩)) := by rw [cell_of_row wr _ _ _ _ _ hrow]; rfl
          have e2 : wr.cell? ⟨wc.heap.size, 2, none⟩ = some (.pointer (some ⟨cb, 5, none⟩)) := by rw [cell_of_row wr _ _ _ _ _ hrow]; rfl
          have e3 : wr.cell? ⟨wc.heap.size, 3, none⟩ = some (.pointer (some ⟨cb, 7, none⟩)) := by rw [cell_of_row wr _ _ _ _ _ hrow]; rfl
          clear hM hCI hrow hXr
          obtain rfl | rfl | rfl | rfl | rfl : j = 0 ∨ j = 1 ∨ j = 2 ∨ j = 3 ∨ j = 4 := by omega
          · go_wp2_with fail
            refine (take_once _ _ cb (dropN s k 0) N _ k hok HCI.out (show s.once.length < 1099511627776 by omega)).mono ?_
            rintro e w2 ⟨rfl, x2, hf2, hc2⟩
            obtain ⟨hr2, hx2⟩ := own_kept hf2 HROW.out HXR.out
            have K := Lib.hid (And.intro (HM.out.step hf2) (And.intro hc2 (And.intro hr2 hx2)))
            clear hf2 hc2 hr2 hx2
            go_wp2_with fail
            go_roundw
            case rel => exact ⟨1, x2, by go_num, by omega, K.out.1, K.out.2.1, K.out.2.2.1, K.out.2.2.2⟩
            case measure => simp [intOf]
          · go_wp2_with fail
            refine (take_often _ _ cb (dropN s k 1) N _ k hok HCI.out (show s.often.length < 1099511627776 by omega)).mono ?_
            rintro e w2 ⟨rfl, x2, hf2, hc2⟩
            obtain ⟨hr2, hx2⟩ := own_kept hf2 HROW.out HXR.out
            have K := Lib.hid (And.intro (HM.out.step hf2) (And.intro hc2 (And.intro hr2 hx2)))
            clear hf2 hc2 hr2 hx2
            go_wp2_with fail
            go_roundw
            case rel => exact ⟨2, x2, by go_num, by omega, K.out.1, K.out.2.1, K.out.2.2.1, K.out.2.2.2⟩
            case measure => simp [intOf]
          · go_wp2_with fail
            refine (take_wonce _ _ cb (dropN s k 2) N _ k hok HCI.out (show s.wonce.length < 1099511627776 by omega)).mono ?_
            rintro e w2 ⟨rfl, x2, hf2, hc2⟩
            obtain ⟨hr2, hx2⟩ := own_kept hf2 HROW.out HXR.out
            have K := Lib.hid (And.intro (HM.out.step hf2) (And.intro hc2 (And.intro hr2 hx2)))
            clear hf2 hc2 hr2 hx2
            go_wp2_with fail
            go_roundw
            case rel => exact ⟨3, x2, by go_num, by omega, K.out.1, K.out.2.1, K.out.2.2.1, K.out.2.2.2⟩
            case measure => simp [intOf]
          · go_wp2_with fail
            refine (take_woften _ _ cb (dropN s k 3) N _ k hok HCI.out (show s.woften.length < 1099511627776 by omega)).mono ?_
            rintro e w2 ⟨rfl, x2, hf2, hc2⟩
            obtain ⟨hr2, hx2⟩ := own_kept hf2 HROW.out HXR.out
            have K := Lib.hid (And.intro (HM.out.step hf2) (And.intro hc2 (And.intro hr2 hx2)))
            clear hf2 hc2 hr2 hx2
            go_wp2_with fail
            go_roundw
            case rel => exact ⟨4, x2, by go_num, by omega, K.out.1, K.out.2.1, K.out.2.2.1, K.out.2.2.2⟩
            case measure => simp [intOf]
          · go_wp2_with fail
            go_ret
            exact ⟨by rw [R.out]; rfl, by rw [R.out]; exact HM.out.turned HCI.out⟩
      · have R : Hid (dropR s k = (s, 16)) := Lib.hid (by unfold dropR; rw [if_pos HY.out, if_pos (by omega)])
        obtain ⟨p, hpe⟩ : ∃ p, s.pins k = p := ⟨_, rfl⟩
        rw [hpe] at hl hp hz
        have hgt : (0 : Int) < (p : Int) := by omega
        clear hpe hz
        go_wp2_with fail
        go_ret
        exact ⟨by rw [R.out]; rfl, by rw [R.out]; exact ⟨x, Fr.refl _ _ _, H.out⟩⟩

end Go.Proofs.YtbgbomlmgkgkoaaGreat.arcI
