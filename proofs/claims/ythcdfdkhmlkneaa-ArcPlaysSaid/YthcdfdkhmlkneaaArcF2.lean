/- Statement ArcPlays: the document's cache in memory; the contracts of Held, full, free. -/
import Derived.BigQuiet
import Derived.BigRegion
import Derived.Test.YthcdfdkhmlkneaaArcF1
import Derived.Test.YthcdfdkhmlkneaaArcVI
namespace Go.Proofs.Ythcdfdkhmlkneaa.arcI
open Go.RowKit Go.Proofs.Ythcdfdkhmlkneaa.own

/-- a list of the document's cache: a row of the colour c that is never written again -/
def ROc (x : Nat → Nat) (c : Nat) (w : World) (v : Value) (keys : List K) : Prop :=
  ∃ aT cc, v = .slice aT keys.length cc ∧ keys.length ≤ 1048576 ∧ keys.length ≤ cc ∧ ∀ k (_ : k < keys.length), ∃ g, aT = some ⟨g, 0, none⟩ ∧ g < w.heap.size ∧ x g = c ∧ w.cell? ⟨g, k, none⟩ = some (.int .i64 keys[k])
theorem ROc.ro {x : Nat → Nat} {c : Nat} {w : World} {v : Value} {keys : List K} (h : ROc x c w v keys) : RO w v keys := by
  obtain ⟨aT, cc, hv, hle, _, hc⟩ := h
  exact ⟨aT, cc, hv, hle, fun k hk => by obtain ⟨g, a, b, _, d⟩ := hc k hk; exact ⟨g, a, b, d⟩⟩
theorem ROc.frame {x x' : Nat → Nat} {C : Nat → Prop} {c : Nat} {w w' : World} {v : Value} {keys : List K} (h : ROc x c w v keys) (hf : Fr x x' C w w') (hC : ¬ C c) : ROc x' c w' v keys := by
  obtain ⟨aT, cc, hv, hle, hcc, hc⟩ := h
  refine ⟨aT, cc, hv, hle, hcc, fun k hk => ?_⟩
  obtain ⟨g, a, b, e, d⟩ := hc k hk
  exact ⟨g, a, Nat.lt_of_lt_of_le b hf.size, by rw [hf.col g b]; exact e, by rw [World.cell?_of_block (w := w) (hf.old g b (by rw [e]; exact hC))]; exact d⟩
theorem ROc.nil (x : Nat → Nat) (c : Nat) (w : World) : ROc x c w (.slice none 0 0) [] := ⟨none, 0, rfl, Nat.zero_le _, Nat.le_refl _, fun k hk => by simp at hk⟩
theorem ROc.of_own {x : Nat → Nat} {c : Nat} {w : World} {base : Nat} {v : Value} {keys : List K} (h : w.ownsRow base 3 1 v keys.length (kvs keys)) (hle : keys.length ≤ 1048576) (hx : ∀ g, base ≤ g → g < w.heap.size → x g = c) : ROc x c w v keys := by
  obtain ⟨a2, c2, e2, hcap⟩ := own_slice h
  obtain ⟨aT, cT, hv, _, HC⟩ := keys_open h
  rw [hv] at e2
  injection e2 with e3 e4 e5
  refine ⟨aT, cT, hv, hle, by omega, fun k hk => ?_⟩
  obtain ⟨g, a, b, d, e⟩ := HC.out k hk
  exact ⟨g, a, b, hx g d b, e⟩

/-- the document's cache, its lists the newest key first -/
def MIs (x : Nat → Nat) (d0 : Nat) (w : World) (mb : Nat) (s : St) (N : Nat) : Prop :=
  ∃ v1 v2 v3 v4 pm, w.heap[mb]? = some (.cells #[.int .i64 s.size, v1, v2, v3, v4, .int .i64 s.target, .map (some pm)] 98 (0, 0)) ∧ x mb = d0 ∧
    ROc x (d0 + 2) w v1 s.once.reverse ∧ ROc x (d0 + 2) w v2 s.often.reverse ∧ ROc x (d0 + 2) w v3 s.wonce.reverse ∧ ROc x (d0 + 2) w v4 s.woften.reverse ∧ x pm = d0 + 1 ∧ MapIs w pm N s.pins
def DD (d0 : Nat) : Nat → Prop := fun e => d0 ≤ e ∧ e ≤ d0 + 2
def MTurned (x : Nat → Nat) (d0 : Nat) (w w' : World) (mb : Nat) (s : St) (N : Nat) : Prop := ∃ x', Fr x x' (DD d0) w w' ∧ MIs x' d0 w' mb s N

theorem MIs.frame {x x' : Nat → Nat} {C : Nat → Prop} {d0 : Nat} {w w' : World} {mb : Nat} {s : St} {N : Nat} (h : MIs x d0 w mb s N) (hf : Fr x x' C w w') (hC : ∀ e, DD d0 e → ¬ C e) : MIs x' d0 w' mb s N := by
  obtain ⟨v1, v2, v3, v4, pm, h0, hx, r1, r2, r3, r4, hp, hm⟩ := h
  have c2 : ¬ C (d0 + 2) := hC _ ⟨by omega, Nat.le_refl _⟩
  refine ⟨v1, v2, v3, v4, pm, ?_, ?_, r1.frame hf c2, r2.frame hf c2, r3.frame hf c2, r4.frame hf c2, ?_, hm.frame (hf.old pm hm.lt (by rw [hp]; exact hC _ ⟨by omega, by omega⟩))⟩
  · rw [hf.old mb (lt_of_block h0) (by rw [hx]; exact hC _ ⟨Nat.le_refl _, by omega⟩)]; exact h0
  · rw [hf.col mb (lt_of_block h0)]; exact hx
  · rw [hf.col pm hm.lt]; exact hp
theorem MIs.mono {x : Nat → Nat} {d0 : Nat} {w : World} {mb : Nat} {s : St} {N N' : Nat} (h : MIs x d0 w mb s N) (hN : N ≤ N') : MIs x d0 w mb s N' := by
  obtain ⟨v1, v2, v3, v4, pm, h0, hx, r1, r2, r3, r4, hp, hm⟩ := h
  exact ⟨v1, v2, v3, v4, pm, h0, hx, r1, r2, r3, r4, hp, hm.mono hN⟩

theorem idx_geq (keys : List K) (k : K) (b : Bool) (h : decide (k ∈ keys) = b) : decide ((0 : Int) ≤ idx keys.reverse k) = b := by
  subst h
  unfold idx
  by_cases hk : k ∈ keys <;> simp [hk]

theorem MIs.cells {x : Nat → Nat} {d0 : Nat} {w : World} {mb : Nat} {s : St} {N : Nat} (h : MIs x d0 w mb s N) :
    ∃ v1 v2 v3 v4 pm, w.cell? ⟨mb, 0, none⟩ = some (.int .i64 s.size) ∧ w.cell? ⟨mb, 1, none⟩ = some v1 ∧ w.cell? ⟨mb, 2, none⟩ = some v2 ∧ w.cell? ⟨mb, 3, none⟩ = some v3 ∧ w.cell? ⟨mb, 4, none⟩ = some v4 ∧ w.cell? ⟨mb, 5, none⟩ = some (.int .i64 s.target) ∧ w.cell? ⟨mb, 6, none⟩ = some (.map (some pm)) ∧
      Hid (ROc x (d0 + 2) w v1 s.once.reverse ∧ ROc x (d0 + 2) w v2 s.often.reverse ∧ ROc x (d0 + 2) w v3 s.wonce.reverse ∧ ROc x (d0 + 2) w v4 s.woften.reverse ∧ MapIs w pm N s.pins) := by
  obtain ⟨v1, v2, v3, v4, pm, h0, hx, r1, r2, r3, r4, hp, hm⟩ := h
  exact ⟨v1, v2, v3, v4, pm, by rw [cell_of_row w mb _ _ _ _ h0]; rfl, by rw [cell_of_row w mb _ _ _ _ h0]; rfl, by rw [cell_of_row w mb _ _ _ _ h0]; rfl, by rw [cell_of_row w mb _ _ _ _ h0]; rfl, by rw [cell_of_row w mb _ _ _ _ h0]; rfl, by rw [cell_of_row w mb _ _ _ _ h0]; rfl, by rw [cell_of_row w mb _ _ _ _ h0]; rfl,
    Lib.hid ⟨r1, r2, r3, r4, hm⟩⟩

theorem Held_any (x : Nat → Nat) (d0 mb : Nat) (s : St) (N : Nat) (w : World) (k : K) (h : MIs x d0 w mb s N) :
    Calls Try.prog 52 #[.pointer (some ⟨mb, 0, none⟩), .int .i64 k] w fun e w' => e = .returned (.bool (decide (k ∈ s.once ∨ k ∈ s.often))) ∧ w = w' := by
  obtain ⟨v1, v2, v3, v4, pm, g0, g1, g2, g3, g4, g5, g6, HR⟩ := h.cells
  clear h g3 g4 g5 g6 g0
  by_cases h1 : k ∈ s.once
  · have R : Hid (decide (k ∈ s.once ∨ k ∈ s.often) = true) := Lib.hid (decide_eq_true (.inl h1))
    have hd := idx_geq s.once k true (decide_eq_true h1)
    generalize hq : idx s.once.reverse k = q at hd
    have HQ := Lib.hid hq
    have hq2 : (0 : Int) ≤ q := of_decide_eq_true hd
    clear hd hq h1
    go_enter Try.func52, Try.ntmps52
    go_wp2_with fail
    refine (in_any w v1 _ k HR.out.1.ro).mono ?_
    rintro e w' ⟨rfl, rfl⟩
    rw [HQ.out]
    go_wp2_with fail
    go_ret
    exact ⟨by rw [R.out]; rfl, rfl⟩
  · have R : Hid (decide (k ∈ s.once ∨ k ∈ s.often) = decide (k ∈ s.often)) := Lib.hid (by simp [h1])
    have hd := idx_geq s.once k false (decide_eq_false h1)
    generalize hq : idx s.once.reverse k = q at hd
    have HQ := Lib.hid hq
    have hd2 := idx_geq s.often k _ rfl
    generalize hq' : idx s.often.reverse k = q' at hd2
    have HQ' := Lib.hid hq'
    have HD := Lib.hid hd2
    have hq2 : ¬ (0 : Int) ≤ q := of_decide_eq_false hd
    clear hd hq h1 hd2 hq'
    go_enter Try.func52, Try.ntmps52
    go_wp2_with fail
    refine (in_any w v1 _ k HR.out.1.ro).mono ?_
    rintro e w' ⟨rfl, rfl⟩
    rw [HQ.out]
    go_wp2_with fail
    refine (in_any w v2 _ k HR.out.2.1.ro).mono ?_
    rintro e w' ⟨rfl, rfl⟩
    rw [HQ'.out]
    go_wp2_with fail
    go_ret
    exact ⟨by show Ending.returned (.bool (decide ((0 : Int) ≤ q) || decide ((0 : Int) ≤ q'))) = _; rw [decide_eq_false (show ¬ (0 : Int) ≤ q by omega), HD.out, R.out]; rfl, rfl⟩

theorem rfull_any (x : Nat → Nat) (d0 mb : Nat) (s : St) (N : Nat) (w : World) (h : MIs x d0 w mb s N) (h1 : s.once.length ≤ 8192) (h2 : s.often.length ≤ 8192) :
    Calls Try.prog 76 #[.pointer (some ⟨mb, 0, none⟩)] w fun e w' => e = .returned (.bool (isFull s)) ∧ ∃ m, w.drewN m = w' := by
  obtain ⟨v1, v2, v3, v4, pm, g0, g1, g2, g3, g4, g5, g6, HR⟩ := h.cells
  obtain ⟨a1, c1, e1, _⟩ := HR.out.1
  obtain ⟨a2, c2, e2, _⟩ := HR.out.2.1
  subst e1
  subst e2
  rw [List.length_reverse] at g1 g2
  have R : Hid ((((s.once.length : Nat) : Int) + (s.often.length : Nat) == (s.size : Nat)) = isFull s) := Lib.hid (by
    unfold isFull
    by_cases hh : s.once.length + s.often.length = s.size
    · rw [decide_eq_true hh]; exact beq_iff_eq.2 (by omega)
    · rw [decide_eq_false hh]; exact beq_eq_false_iff_ne.2 (by omega))
  clear h g3 g4 g5 g6 HR
  go_enter Try.func76, Try.ntmps76
  go_wp2_with fail
  go_quiet (fail)
  go_wp2_with fail
  go_ret
  exact ⟨by rw [← R.out]; rfl, _, rfl⟩

theorem rfree_any (x : Nat → Nat) (d0 mb : Nat) (s : St) (N : Nat) (w : World) (v : Value) (keys : List K) (hok : ∀ k ∈ keys, (Lit.int .i64 k).wf = true) (h : MIs x d0 w mb s N) (hv : RO w v keys.reverse) :
    Calls Try.prog 75 #[.pointer (some ⟨mb, 0, none⟩), v] w fun e w' => e = freeRet (freeK s.pins keys) ∧ ∃ m, w' = w.drewN m := by
  obtain ⟨_, _, _, _, pm, _, _, _, _, _, _, g6, HR⟩ := h.cells
  obtain ⟨aT, c, rfl, hle, hc⟩ := hv
  have HC := Lib.hid hc
  have HOK := Lib.hid hok
  rw [List.length_reverse] at hle ⊢
  have HL : Hid (∀ j, j < keys.length → ∃ (hj : j < keys.length), ∃ g, aT = some ⟨g, 0, none⟩ ∧ w.cell? ⟨g, keys.length - 1 - j, none⟩ = some (.int .i64 keys[j])) := Lib.hid (fun j hj => by
    obtain ⟨g, e, _, d⟩ := HC.out (keys.length - 1 - j) (by rw [List.length_reverse]; omega)
    refine ⟨hj, g, e, ?_⟩
    rw [d, List.getElem_reverse]
    congr 3
    omega)
  clear h hc hok HC
  go_enter Try.func75, Try.ntmps75
  go_wp2_with fail
  go_loopw [6] (fun i wr => ∃ j : Nat, j ≤ keys.length ∧ i = .int .i64 ((keys.length : Int) - 1 - j) ∧ freeK s.pins keys = freeK s.pins (keys.drop j) ∧ ∃ m, wr = w.drewN m) (fun i _ => (intOf i + 1).toNat)
  case atStart => exact ⟨0, Nat.zero_le _, by simp, rfl, 0, rfl⟩
  case round =>
    obtain ⟨j, hj, rfl, hf, m, rfl⟩ := hrel
    have HF := Lib.hid hf
    clear hf
    by_cases hlt : j < keys.length
    · obtain ⟨_, g, rfl, hcell⟩ := HL.out j hlt
      obtain ⟨q, hq⟩ : ∃ q : Nat, q = keys.length - 1 - j := ⟨_, rfl⟩
      rw [← hq] at hcell
      have hqi : (keys.length : Int) - 1 - (j : Int) = (q : Int) := by omega
      rw [hqi]
      have hqn : q < keys.length := by omega
      have HD := Lib.hid (List.drop_eq_getElem_cons hlt)
      have hl1 : ∀ m, (Instr.lookup 74 (.map (some pm)) (.int .i64 keys[j]) false).run Try.prog (w.drewN m) = .ok (.int .i64 (s.pins keys[j])) (w.drewN m) := fun m => by
        have hm : MapIs (w.drewN m) pm N s.pins := HR.out.2.2.2.2
        exact hm.look (HOK.out _ (List.getElem_mem hlt))
      have hl2 : ∀ m, (Instr.lookup 74 (.map (some pm)) (.int .i64 keys[j]) false).run Try.prog (w.drewN m).drew = .ok (.int .i64 (s.pins keys[j])) (w.drewN m).drew := fun m => by
        have hm : MapIs (w.drewN m).drew pm N s.pins := HR.out.2.2.2.2
        exact hm.look (HOK.out _ (List.getElem_mem hlt))
      have HQ := Lib.hid hq
      have HQI := Lib.hid hqi
      clear hq hqi
      by_cases hz : s.pins keys[j] = 0
      · have R : Hid (freeK s.pins keys = some keys[j]) := Lib.hid (by rw [HF.out, HD.out, freeK_cons, if_pos hz])
        rw [hz] at hl1 hl2
        clear hz
        go_wp2_with fail
        go_quiet (fail)
        go_wp2_with fail
        go_ret2
        exact ⟨by rw [R.out]; rfl, _, rfl⟩
      · have R : Hid (freeK s.pins keys = freeK s.pins (keys.drop (j + 1))) := Lib.hid (by rw [HF.out, HD.out, freeK_cons, if_neg hz])
        obtain ⟨p, hp⟩ : ∃ p, s.pins keys[j] = p := ⟨_, rfl⟩
        rw [hp] at hl1 hl2 hz
        have hb : ((p : Int) == 0) = false := beq_eq_false_iff_ne.2 (by omega)
        clear hz hp
        go_wp2_with fail
        go_quiet (fail)
        go_wp2_with fail
        go_roundw
        case rel => exact ⟨j + 1, by omega, by have := HQI.out; congr 1; omega, R.out, _, rfl⟩
        case measure => first | (simp [intOf]; done) | (simp [intOf]; omega)
    · have R : Hid (freeK s.pins keys = none) := Lib.hid (by rw [HF.out, List.drop_eq_nil_of_le (by omega)]; rfl)
      have hneg : ¬ (0 : Int) ≤ (keys.length : Int) - 1 - (j : Int) := by omega
      go_wp2_with fail
      go_ret2
      exact ⟨by rw [R.out]; rfl, m, rfl⟩

end Go.Proofs.Ythcdfdkhmlkneaa.arcI
