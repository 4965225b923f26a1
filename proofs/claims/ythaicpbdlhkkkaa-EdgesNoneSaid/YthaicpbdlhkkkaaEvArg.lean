/- The mirror: a call with arguments: such as name no block, and a row of two cells that the caller has. -/
import Derived.Test.YthaicpbdlhkkkaaEvE
import Derived.KernelRfl
namespace Go.Proofs.Ythaicpbdlhkkkaa.ev
open Go Go.RowKit

noncomputable def heap1 (x : AO) : T AO := (T.setO 40 .leaf 1000 x).getD .leaf
theorem heap1_get (x : AO) (m : Nat) : (heap1 x).get m = if m = 1000 then some x else none := by
  have h : T.setO 40 .leaf 1000 x = some (heap1 x) := by kernel_rfl
  rw [T.get_setO x 40 .leaf (heap1 x) 1000 h m, T.get_leaf]
theorem sg0_free {k : Nat} (h : 1000 ≤ k) : sg0 k = none := if_neg (by omega)

theorem HR.pair {a b : Value} {e : TypeId} {W : World} {r : Nat} {z : Nat × Nat} (h0 : W.heap[r]? = some (.cells #[a, b] e z)) (ha : flatN 1 a = true) (hb : flatN 1 b = true) :
    HR W.heap.size (sg0.set 1000 r 0) (heap1 (pairRow a b e)).get 1001 W := by
  have one : ∀ k o, (heap1 (pairRow a b e)).get k = some o → k = 1000 ∧ o = pairRow a b e := by
    intro k o h
    rw [heap1_get] at h
    split at h
    · rename_i hk
      injection h with h
      exact ⟨hk, h.symm⟩
    · cases h
  refine ⟨fun k o h1 h2 => ?_, fun k k' o o' _ _ _ h1 _ h3 _ _ _ => ?_, fun k hk => ?_, Nat.le_refl _, fun i hi => ?_⟩
  · obtain ⟨rfl, rfl⟩ := one k o h1
    exact ⟨r, 0, _, Sg.set_same _ _ _ _, h0, (pairRow_rel ha hb).mono (Sg.set_le _ _ (sg0_free (Nat.le_refl _))), fun h => by cases h⟩
  · rw [(one k o h1).1, (one k' o' h3).1]
  · refine ⟨by rw [Sg.set_other _ _ _ (by omega)]; exact sg0_free (by omega), ?_⟩
    rw [heap1_get, if_neg (by omega)]
  · rw [Sg.set_other _ _ _ (by omega)]
    exact if_pos hi

theorem told_pair {P : Program} (ht : namesOk P = true) (hm : P.follows .mixedOrders = true) {g : FuncId} {n : Nat} {a b : Value} {e : TypeId} {W : World} {r : Nat} {z : Nat × Nat} (h0 : W.heap[r]? = some (.cells #[a, b] e z)) (ha : flatN 1 a = true) (hb : flatN 1 b = true)
    {args us : List Value} (hl : LR (sg0.set 1000 r 0) args us) {v : Value} (hv : flatN 1 v = true)
    (hc : (callA P (tabP P) (codeQ P (tabP P) n) g args ⟨heap1 (pairRow a b e), 1001⟩).map Prod.fst = some v) :
    Calls P g us.toArray W fun e w' => e = .returned v ∧ Below W.heap.size W w' := by
  rw [codeQ_eq] at hc
  obtain ⟨⟨v', h'⟩, hc2, rfl⟩ := Option.map_eq_some_iff.1 hc
  have hr := HR.pair h0 ha hb
  have h1 := callA_sound (h := ⟨heap1 (pairRow a b e), 1001⟩) (tabP_ok ht) (codeA_sound (tabP_ok ht) hm n) hr hl hc2 0
  rw [FW_none] at h1
  refine (callsIn_wide.1 h1).mono ?_
  rintro e w' ⟨u, σ', rfl, hu, hst⟩
  exact ⟨by rw [hu.flat 1 hv], hst.low hr⟩

theorem told_flat {P : Program} (ht : namesOk P = true) (hm : P.follows .mixedOrders = true) {g : FuncId} {n : Nat} {W : World} {args us : List Value} (hl : LR sg0 args us) {v : Value} (hv : flatN 1 v = true)
    (hc : (callA P (tabP P) (codeQ P (tabP P) n) g args ⟨.leaf, 1000⟩).map Prod.fst = some v) :
    Calls P g us.toArray W fun e w' => e = .returned v ∧ Below W.heap.size W w' := by
  rw [codeQ_eq] at hc
  obtain ⟨⟨v', h'⟩, hc2, rfl⟩ := Option.map_eq_some_iff.1 hc
  have hr := HR.start (h0 := ⟨.leaf, 1000⟩) (W := W) rfl (fun k o hk => by rw [T.get_leaf] at hk; cases hk)
  have h1 := callA_sound (h := ⟨.leaf, 1000⟩) (tabP_ok ht) (codeA_sound (tabP_ok ht) hm n) hr hl hc2 0
  rw [FW_none] at h1
  refine (callsIn_wide.1 h1).mono ?_
  rintro e w' ⟨u, σ', rfl, hu, hst⟩
  exact ⟨by rw [hu.flat 1 hv], hst.low hr⟩

/-- the argument is a slice of one pair -/
theorem LR.one {r : Nat} (c : Nat) : LR (sg0.set 1000 r 0) [.slice (some ⟨1000, 0, none⟩) 1 c] [.slice (some ⟨r, 0, none⟩) 1 c] := LR.cons (.slice (Sg.set_same _ _ _ _)) LR.nil
end Go.Proofs.Ythaicpbdlhkkkaa.ev
