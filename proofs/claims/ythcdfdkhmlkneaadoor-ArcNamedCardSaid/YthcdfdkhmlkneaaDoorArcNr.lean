/- Statement ArcBounded: what the law calls besides the cache: run, allPinned, awake. -/
import Derived.BigQuiet
import Derived.BigRegion
import Derived.Test.YthcdfdkhmlkneaaDoorArcVdI
namespace Go.Proofs.YthcdfdkhmlkneaaDoor.arcI
open Go.RowKit Go.Proofs.YthcdfdkhmlkneaaDoor.own

/-- a call by its kind -/
def runS (s : St) (kind : Int) (k : K) : St × Bool × Option K × Nat :=
  if kind = 0 then touchS s k
  else if kind = 1 then ((pinR s k).1, false, none, (pinR s k).2)
  else if kind = 2 then ((unpinR s k).1, false, none, (unpinR s k).2)
  else if kind = 3 then ((dropR s k).1, false, none, (dropR s k).2)
  else (s, false, none, 0)

theorem Mid.set3at {x x' : Nat → Nat} {c0 : Nat} {w w' : World} (h : Mid x x' c0 w w') {b : Nat} (hb : w.heap.size ≤ b) (u0 u1 u2 : Value) :
    Mid x x' c0 w (((w'.setCell ⟨b, 0, none⟩ u0).setCell ⟨b, 1, none⟩ u1).setCell ⟨b, 2, none⟩ u2) :=
  h.temp rfl rfl rfl (by simp) (fun c hc => set3_other w' (by omega) u0 u1 u2)

def RunPost (x : Nat → Nat) (c0 cb : Nat) (s : St) (N : Nat) (kind : Int) (k : K) (w : World) (e : Ending) (w' : World) : Prop :=
  e = .returned (.tuple #[touchedV (runS s kind k).2.1 (runS s kind k).2.2.1, .int .i64 (runS s kind k).2.2.2]) ∧ Turned x c0 w w' cb (runS s kind k).1 (N + 2)

set_option maxRecDepth 100000 in
set_option maxHeartbeats 6400000 in
theorem run_any (x : Nat → Nat) (c0 cb : Nat) (s : St) (N : Nat) (kind who : Int) (k : K) (hok : (Lit.int .i64 k).wf = true) (w : World) (h : CIs x c0 w cb s N) (ok : Ok s) (hN : N + 2 < 1099511627776) (hp : s.pins k < 1099511627776) :
    Calls Tryd.prog 10 #[.pointer (some ⟨cb, 0, none⟩), .agg #[.int .i64 kind, .int .i64 who, .int .i64 k]] w (RunPost x c0 cb s N kind k w) := by
  have H := Lib.hid h
  have OK := Lib.hid ok
  have HP := Lib.hid hp
  have Z0 : Hid (((w.alloc (.cells #[.int .i64 kind, .int .i64 who, .int .i64 k] 40)).alloc (.cells #[.bool false, .bool false, .int .i64 0] 42)).heap[w.heap.size + 1]? = some (.cells #[.bool false, .bool false, .int .i64 0] 42 (0, 0))) := Lib.hid (by
    have e := heap_alloc_new (w.alloc (.cells #[.int .i64 kind, .int .i64 who, .int .i64 k] 40)) (.cells #[.bool false, .bool false, .int .i64 0] 42)
    rw [show (w.alloc (.cells #[.int .i64 kind, .int .i64 who, .int .i64 k] 40)).heap.size = w.heap.size + 1 by simp] at e
    exact e)
  have Z1 : Hid (((w.alloc (.cells #[.int .i64 kind, .int .i64 who, .int .i64 k] 40)).alloc (.cells #[.bool false, .bool false, .int .i64 0] 42)).heap[w.heap.size]? = some (.cells #[.int .i64 kind, .int .i64 who, .int .i64 k] 40 (0, 0))) := Lib.hid (by
    rw [Below.heap_alloc _ _ _ (by simp)]
    exact heap_alloc_new w _)
  have B : Hid (Below w.heap.size w ((w.alloc (.cells #[.int .i64 kind, .int .i64 who, .int .i64 k] 40)).alloc (.cells #[.bool false, .bool false, .int .i64 0] 42))) := Lib.hid (((Below.refl _ _).alloc (Nat.le_refl _) _).alloc (by simp) _)
  have HM := Lib.hid (Mid.start (x := x) (c0 := c0) B.out)
  have H1 := Lib.hid (H.out.below B.out)
  have HX : Hid (paint x w.heap.size (c0 + 6) (w.heap.size + 1) = c0 + 6) := Lib.hid (paint_new (by omega))
  clear h ok hp
  go_enter Tryd.func10, Tryd.ntmps10
  go_upto_region 1 with fail
  generalize hW0 : World.alloc _ _ = W0 at Z0 Z1 HM H1 ⊢
  have e0 : W0.cell? ⟨w.heap.size, 0, none⟩ = some (.int .i64 kind) := by rw [cell_of_row W0 _ _ _ _ _ Z1.out]; rfl
  have e2 : W0.cell? ⟨w.heap.size, 2, none⟩ = some (.int .i64 k) := by rw [cell_of_row W0 _ _ _ _ _ Z1.out]; rfl
  clear hW0 B
  by_cases h0 : kind = 0
  · subst h0
    have R0 : Hid (runS s 0 k = touchS s k) := Lib.hid rfl
    go_wp2_with fail
    refine (touch_any _ c0 cb s N k hok _ H1.out OK.out hN).mono ?_
    rintro e w4 ⟨rfl, x4, hf4, hc4⟩
    generalize hts : touchS s k = r at hc4 R0 ⊢
    obtain ⟨t, hit, gn, er⟩ := r
    clear hts
    have R : Hid (runS s 0 k = (t, hit, gn, er)) := R0
    have HM4 := Lib.hid (HM.out.step hf4)
    have HC4 : Hid (CIs x4 c0 w4 cb t (N + 2)) := Lib.hid hc4
    obtain ⟨z, hz9⟩ := gone_shape gn
    unfold touchedV
    rw [hz9]
    obtain ⟨hr4, HX4⟩ := own_kept hf4 Z0.out HX.out
    clear hf4 hc4
    have t0 : w4.cell? ⟨w.heap.size + 1, 0, none⟩ = some (.bool false) := by rw [cell_of_row w4 _ _ _ _ _ hr4]; rfl
    have t1 : w4.cell? ⟨w.heap.size + 1, 1, none⟩ = some (.bool false) := by rw [cell_of_row w4 _ _ _ _ _ hr4]; rfl
    have t2 : w4.cell? ⟨w.heap.size + 1, 2, none⟩ = some (.int .i64 0) := by rw [cell_of_row w4 _ _ _ _ _ hr4]; rfl
    have t3 : ∀ j, w4.frozen? ⟨w.heap.size + 1, j, none⟩ = false := fun j => frozen_of_row w4 _ j _ _ hr4
    clear hr4
    go_wp2_with fail
    refine bodyPost_ret (v := .tuple #[touchedV hit gn, .int .i64 er]) (by simp [results, Tryd.results10, go_sem, touchedV, hz9, t0, t1, t2]) rfl ?_
    refine ⟨by rw [R.out], ?_⟩
    rw [R.out]
    exact Mid.turned (HM4.out.set3at (by omega) _ _ _) (HC4.out.set3 HX4 _ _ _)
  by_cases h1 : kind = 1
  · subst h1
    have R0 : Hid (runS s 1 k = ((pinR s k).1, false, none, (pinR s k).2)) := Lib.hid rfl
    go_wp2_with fail
    refine (Pin_any _ c0 cb s N _ k hok H1.out (by omega) HP.out).mono ?_
    rintro e w4 ⟨rfl, x4, hf4, hc4⟩
    generalize hts : pinR s k = r at hc4 R0 ⊢
    obtain ⟨t, er⟩ := r
    clear hts
    have R : Hid (runS s 1 k = (t, false, none, er)) := R0
    have HM4 := Lib.hid (HM.out.step hf4)
    have HC4 : Hid (CIs x4 c0 w4 cb t (N + 2)) := Lib.hid (hc4.mono (by omega))
    obtain ⟨hr4, HX4⟩ := own_kept hf4 Z0.out HX.out
    clear hf4 hc4
    have t0 : w4.cell? ⟨w.heap.size + 1, 0, none⟩ = some (.bool false) := by rw [cell_of_row w4 _ _ _ _ _ hr4]; rfl
    have t1 : w4.cell? ⟨w.heap.size + 1, 1, none⟩ = some (.bool false) := by rw [cell_of_row w4 _ _ _ _ _ hr4]; rfl
    have t2 : w4.cell? ⟨w.heap.size + 1, 2, none⟩ = some (.int .i64 0) := by rw [cell_of_row w4 _ _ _ _ _ hr4]; rfl
    have t3 : ∀ j, w4.frozen? ⟨w.heap.size + 1, j, none⟩ = false := fun j => frozen_of_row w4 _ j _ _ hr4
    clear hr4
    go_wp2_with fail
    refine bodyPost_ret (v := .tuple #[touchedV false none, .int .i64 er]) (by simp [results, Tryd.results10, go_sem, touchedV, goneV, t0, t1, t2]) rfl ?_
    refine ⟨by rw [R.out], ?_⟩
    rw [R.out]
    exact Mid.turned (HM4.out.set3at (by omega) _ _ _) (HC4.out.set3 HX4 _ _ _)
  by_cases h2 : kind = 2
  · subst h2
    have R0 : Hid (runS s 2 k = ((unpinR s k).1, false, none, (unpinR s k).2)) := Lib.hid rfl
    go_wp2_with fail
    refine (Unpin_any _ c0 cb s N _ k hok H1.out (by omega) HP.out).mono ?_
    rintro e w4 ⟨rfl, x4, hf4, hc4⟩
    generalize hts : unpinR s k = r at hc4 R0 ⊢
    obtain ⟨t, er⟩ := r
    clear hts
    have R : Hid (runS s 2 k = (t, false, none, er)) := R0
    have HM4 := Lib.hid (HM.out.step hf4)
    have HC4 : Hid (CIs x4 c0 w4 cb t (N + 2)) := Lib.hid (hc4.mono (by omega))
    obtain ⟨hr4, HX4⟩ := own_kept hf4 Z0.out HX.out
    clear hf4 hc4
    have t0 : w4.cell? ⟨w.heap.size + 1, 0, none⟩ = some (.bool false) := by rw [cell_of_row w4 _ _ _ _ _ hr4]; rfl
    have t1 : w4.cell? ⟨w.heap.size + 1, 1, none⟩ = some (.bool false) := by rw [cell_of_row w4 _ _ _ _ _ hr4]; rfl
    have t2 : w4.cell? ⟨w.heap.size + 1, 2, none⟩ = some (.int .i64 0) := by rw [cell_of_row w4 _ _ _ _ _ hr4]; rfl
    have t3 : ∀ j, w4.frozen? ⟨w.heap.size + 1, j, none⟩ = false := fun j => frozen_of_row w4 _ j _ _ hr4
    clear hr4
    go_wp2_with fail
    refine bodyPost_ret (v := .tuple #[touchedV false none, .int .i64 er]) (by simp [results, Tryd.results10, go_sem, touchedV, goneV, t0, t1, t2]) rfl ?_
    refine ⟨by rw [R.out], ?_⟩
    rw [R.out]
    exact Mid.turned (HM4.out.set3at (by omega) _ _ _) (HC4.out.set3 HX4 _ _ _)
  by_cases h3 : kind = 3
  · subst h3
    have R0 : Hid (runS s 3 k = ((dropR s k).1, false, none, (dropR s k).2)) := Lib.hid rfl
    go_wp2_with fail
    refine (Drop_any _ c0 cb s N _ k hok H1.out OK.out HP.out).mono ?_
    rintro e w4 ⟨rfl, x4, hf4, hc4⟩
    generalize hts : dropR s k = r at hc4 R0 ⊢
    obtain ⟨t, er⟩ := r
    clear hts
    have R : Hid (runS s 3 k = (t, false, none, er)) := R0
    have HM4 := Lib.hid (HM.out.step hf4)
    have HC4 : Hid (CIs x4 c0 w4 cb t (N + 2)) := Lib.hid (hc4.mono (by omega))
    obtain ⟨hr4, HX4⟩ := own_kept hf4 Z0.out HX.out
    clear hf4 hc4
    have t0 : w4.cell? ⟨w.heap.size + 1, 0, none⟩ = some (.bool false) := by rw [cell_of_row w4 _ _ _ _ _ hr4]; rfl
    have t1 : w4.cell? ⟨w.heap.size + 1, 1, none⟩ = some (.bool false) := by rw [cell_of_row w4 _ _ _ _ _ hr4]; rfl
    have t2 : w4.cell? ⟨w.heap.size + 1, 2, none⟩ = some (.int .i64 0) := by rw [cell_of_row w4 _ _ _ _ _ hr4]; rfl
    have t3 : ∀ j, w4.frozen? ⟨w.heap.size + 1, j, none⟩ = false := fun j => frozen_of_row w4 _ j _ _ hr4
    clear hr4
    go_wp2_with fail
    refine bodyPost_ret (v := .tuple #[touchedV false none, .int .i64 er]) (by simp [results, Tryd.results10, go_sem, touchedV, goneV, t0, t1, t2]) rfl ?_
    refine ⟨by rw [R.out], ?_⟩
    rw [R.out]
    exact Mid.turned (HM4.out.set3at (by omega) _ _ _) (HC4.out.set3 HX4 _ _ _)
  · have R : Hid (runS s kind k = (s, false, none, 0)) := Lib.hid (by unfold runS; rw [if_neg h0, if_neg h1, if_neg h2, if_neg h3])
    have k0 : (kind == 0) = false := beq_eq_false_iff_ne.2 h0
    have k1 : (kind == 1) = false := beq_eq_false_iff_ne.2 h1
    have k2 : (kind == 2) = false := beq_eq_false_iff_ne.2 h2
    have k3 : (kind == 3) = false := beq_eq_false_iff_ne.2 h3
    have t0 : W0.cell? ⟨w.heap.size + 1, 0, none⟩ = some (.bool false) := by rw [cell_of_row W0 _ _ _ _ _ Z0.out]; rfl
    have t1 : W0.cell? ⟨w.heap.size + 1, 1, none⟩ = some (.bool false) := by rw [cell_of_row W0 _ _ _ _ _ Z0.out]; rfl
    have t2 : W0.cell? ⟨w.heap.size + 1, 2, none⟩ = some (.int .i64 0) := by rw [cell_of_row W0 _ _ _ _ _ Z0.out]; rfl
    have t3 : ∀ j, W0.frozen? ⟨w.heap.size + 1, j, none⟩ = false := fun j => frozen_of_row W0 _ j _ _ Z0.out
    go_wp2_with fail
    refine bodyPost_ret (v := .tuple #[touchedV false none, .int .i64 0]) (by simp [results, Tryd.results10, go_sem, touchedV, goneV, t0, t1, t2]) rfl ?_
    refine ⟨by rw [R.out]; rfl, ?_⟩
    rw [R.out]
    exact Mid.turned (HM.out.set3at (by omega) _ _ _) ((H1.out.mono (by omega)).set3 HX.out _ _ _)

/-! ### allPinned -/
end Go.Proofs.YthcdfdkhmlkneaaDoor.arcI
