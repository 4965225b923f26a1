/- Statement ArcBounded: what the law calls besides the cache: run, allPinned, awake. -/
import Derived.BigQuiet
import Derived.BigRegion
import Derived.Test.YthcdfdkhmlkneaaArcVI
namespace Go.Proofs.Ythcdfdkhmlkneaa.arcI
open Go.RowKit Go.Proofs.Ythcdfdkhmlkneaa.own

/-- a call by its kind -/
def runS (s : St) (kind : Int) (k : K) : St × Bool × Option K × Nat :=
  if kind = 0 then touchS s k
  else if kind = 1 then ((pinR s k).1, false, none, (pinR s k).2)
  else if kind = 2 then ((unpinR s k).1, false, none, (unpinR s k).2)
  else if kind = 3 then ((dropR s k).1, false, none, (dropR s k).2)
  else (s, false, none, 0)

theorem Mid.set3at {x x' : Nat → Nat} {c0 : Nat} {w w' : World} (h : Mid x x' c0 w w') {b : Nat} (hb : w.heap.size ≤ b) (u0 u1 u2 : Value) :
    Mid x x' c0 w (((w'.setCell ⟨b, 0, none⟩ u0).setCell ⟨b, 1, none⟩ u1).setCell ⟨b, 2, none⟩ u2) :=
  h.temp rfl rfl rfl (by simp) (fun c hc => set3_other w' (by omega) u0 u1 u2)

def RunPost (x : Nat → Nat) (c0 cb : Nat) (s : St) (N : Nat) (kind : Int) (k : K) (w : World) (e : Ending) (w' : World) : Prop :=
  e = .returned (.tuple #[touchedV (runS s kind k).2.1 (runS s kind k).2.2.1, .int .i64 (runS s kind k).2.2.2]) ∧ Turned x c0 w w' cb (runS s kind k).1 (N + 2)

set_option maxRecDepth 100000 in
set_option maxHeartbeats 6400000 in
theorem run_any (x : Nat → Nat) (c0 cb : Nat) (s : St) (N : Nat) (kind who : Int) (k : K) (hok : (Lit.int .i64 k).wf = true) (w : World) (h : CIs x c0 w cb s N) (ok : Ok s) (hN : N + 2 < 1099511627776) (hp : s.pins k < 1099511627776) :
    Calls Try.prog 34 #[.pointer (some ⟨cb, 0, none⟩), .agg #[.int .i64 kind, .int .i64 who, .int .i64 k]] w (RunPost x c0 cb s N kind k w) := by
  have H := Lib.hid h
  have OK := Lib.hid ok
  have HP := Lib.hid hp
  have Z0 : Hid (((w.alloc (.cells #[.int .i64 kind, .int .i64 who, .int .i64 k] 57)).alloc (.cells #[.bool false, .bool false, .int .i64 0] 77)).heap[w.heap.size + 1]? = some (.cells #[.bool false, .bool false, .int .i64 0] 77 (0, 0))) := Lib.hid (by
    have e := heap_alloc_new (w.alloc (.cells #[.int .i64 kind, .int .i64 who, .int .i64 k] 57)) (.cells #[.bool false, .bool false, .int .i64 0] 77)
    rw [show (w.alloc (.cells #[.int .i64 kind, .int .i64 who, .int .i64 k] 57)).heap.size = w.heap.size + 1 by simp] at e
    exact e)
  have Z1 : Hid (((w.alloc (.cells #[.int .i64 kind, .int .i64 who, .int .i64 k] 57)).alloc (.cells #[.bool false, .bool false, .int .i64 0] 77)).heap[w.heap.size]? = some (.cells #[.int .i64 kind, .int .i64 who, .int .i64 k] 57 (0, 0))) := Lib.hid (by
    rw [Below.heap_alloc _ _ _ (by simp)]
    exact heap_alloc_new w _)
  have B : Hid (Below w.heap.size w ((w.alloc (.cells #[.int .i64 kind, .int .i64 who, .int .i64 k] 57)).alloc (.cells #[.bool false, .bool false, .int .i64 0] 77))) := Lib.hid (((Below.refl _ _).alloc (Nat.le_refl _) _).alloc (by simp) _)
  have HM := Lib.hid (Mid.start (x := x) (c0 := c0) B.out)
  have H1 := Lib.hid (H.out.below B.out)
  have HX : Hid (paint x w.heap.size (c0 + 6) (w.heap.size + 1) = c0 + 6) := Lib.hid (paint_new (by omega))
  clear h ok hp
  go_enter Try.func34, Try.ntmps34
  go_upto_region 1 with fail
  generalize hW0 : World.alloc _ _ = W0 at Z0 Z1 HM H1 ⊢
  have e0 : W0.cell? ⟨w.heap.size, 0, none⟩ = some (.int .i64 kind) := by rw [cell_of_row W0 _ _ _ _ _ Z1.out]; rfl
  have e2 : W0.cell? ⟨w.heap.size, 2, none⟩ = some (.int .i64 k) := by rw [cell_of_row W0 _ _ _ _ _ Z1.out]; rfl
  clear hW0 B
  by_cases h0 : kind = 0
  · subst h0
    have R0 : Hid (runS s 0 k = touchS s k) := Lib.hid rfl
    go_wp2_with fail
    refine (touch_any _ c0 cb s N k hok _ H1.out OK.out hN).mono ?_
    rintro e w4 ⟨rfl, x4, hf4, hc4⟩
    generalize hts : touchS s k = r at hc4 R0 ⊢
    obtain ⟨t, hit, gn, er⟩ := r
    clear hts
    have R : Hid (runS s 0 k = (t, hit, gn, er)) := R0
    have HM4 := Lib.hid (HM.out.step hf4)
    have HC4 : Hid (CIs x4 c0 w4 cb t (N + 2)) := Lib.hid hc4
    obtain ⟨z, hz9⟩ := gone_shape gn
    unfold touchedV
    rw [hz9]
    obtain ⟨hr4, HX4⟩ := own_kept hf4 Z0.out HX.out
    clear hf4 hc4
    have t0 : w4.cell? ⟨w.heap.size + 1, 0, none⟩ = some (.bool false) := by rw [cell_of_row w4 _ _ _ _ _ hr4]; rfl
    have t1 : w4.cell? ⟨w.heap.size + 1, 1, none⟩ = some (.bool false) := by rw [cell_of_row w4 _ _ _ _ _ hr4]; rfl
    have t2 : w4.cell? ⟨w.heap.size + 1, 2, none⟩ = some (.int .i64 0) := by rw [cell_of_row w4 _ _ _ _ _ hr4]; rfl
    have t3 : ∀ j, w4.frozen? ⟨w.heap.size + 1, j, none⟩ = false := fun j => frozen_of_row w4 _ j _ _ hr4
    clear hr4
    go_wp2_with fail
    refine bodyPost_ret (v := .tuple #[touchedV hit gn, .int .i64 er]) (by simp [results, Try.results34, go_sem, touchedV, hz9, t0, t1, t2]) rfl ?_
    refine ⟨by rw [R.out], ?_⟩
    rw [R.out]
    exact Mid.turned (HM4.out.set3at (by omega) _ _ _) (HC4.out.set3 HX4 _ _ _)
  by_cases h1 : kind = 1
  · subst h1
    have R0 : Hid (runS s 1 k = ((pinR s k).1, false, none, (pinR s k).2)) := Lib.hid rfl
    go_wp2_with fail
    refine (Pin_any _ c0 cb s N _ k hok H1.out (by omega) HP.out).mono ?_
    rintro e w4 ⟨rfl, x4, hf4, hc4⟩
    generalize hts : pinR s k = r at hc4 R0 ⊢
    obtain ⟨t, er⟩ := r
    clear hts
    have R : Hid (runS s 1 k = (t, false, none, er)) := R0
    have HM4 := Lib.hid (HM.out.step hf4)
    have HC4 : Hid (CIs x4 c0 w4 cb t (N + 2)) := Lib.hid (hc4.mono (by omega))
    obtain ⟨hr4, HX4⟩ := own_kept hf4 Z0.out HX.out
    clear hf4 hc4
    have t0 : w4.cell? ⟨w.heap.size + 1, 0, none⟩ = some (.bool false) := by rw [cell_of_row w4 _ _ _ _ _ hr4]; rfl
    have t1 : w4.cell? ⟨w.heap.size + 1, 1, none⟩ = some (.bool false) := by rw [cell_of_row w4 _ _ _ _ _ hr4]; rfl
    have t2 : w4.cell? ⟨w.heap.size + 1, 2, none⟩ = some (.int .i64 0) := by rw [cell_of_row w4 _ _ _ _ _ hr4]; rfl
    have t3 : ∀ j, w4.frozen? ⟨w.heap.size + 1, j, none⟩ = false := fun j => frozen_of_row w4 _ j _ _ hr4
    clear hr4
    go_wp2_with fail
    refine bodyPost_ret (v := .tuple #[touchedV false none, .int .i64 er]) (by simp [results, Try.results34, go_sem, touchedV, goneV, t0, t1, t2]) rfl ?_
    refine ⟨by rw [R.out], ?_⟩
    rw [R.out]
    exact Mid.turned (HM4.out.set3at (by omega) _ _ _) (HC4.out.set3 HX4 _ _ _)
  by_cases h2 : kind = 2
  · subst h2
    have R0 : Hid (runS s 2 k = ((unpinR s k).1, false, none, (unpinR s k).2)) := Lib.hid rfl
    go_wp2_with fail
    refine (Unpin_any _ c0 cb s N _ k hok H1.out (by omega) HP.out).mono ?_
    rintro e w4 ⟨rfl, x4, hf4, hc4⟩
    generalize hts : unpinR s k = r at hc4 R0 ⊢
    obtain ⟨t, er⟩ := r
    clear hts
    have R : Hid (runS s 2 k = (t, false, none, er)) := R0
    have HM4 := Lib.hid (HM.out.step hf4)
    have HC4 : Hid (CIs x4 c0 w4 cb t (N + 2)) := Lib.hid (hc4.mono (by omega))
    obtain ⟨hr4, HX4⟩ := own_kept hf4 Z0.out HX.out
    clear hf4 hc4
    have t0 : w4.cell? ⟨w.heap.size + 1, 0, none⟩ = some (.bool false) := by rw [cell_of_row w4 _ _ _ _ _ hr4]; rfl
    have t1 : w4.cell? ⟨w.heap.size + 1, 1, none⟩ = some (.bool false) := by rw [cell_of_row w4 _ _ _ _ _ hr4]; rfl
    have t2 : w4.cell? ⟨w.heap.size + 1, 2, none⟩ = some (.int .i64 0) := by rw [cell_of_row w4 _ _ _ _ _ hr4]; rfl
    have t3 : ∀ j, w4.frozen? ⟨w.heap.size + 1, j, none⟩ = false := fun j => frozen_of_row w4 _ j _ _ hr4
    clear hr4
    go_wp2_with fail
    refine bodyPost_ret (v := .tuple #[touchedV false none, .int .i64 er]) (by simp [results, Try.results34, go_sem, touchedV, goneV, t0, t1, t2]) rfl ?_
    refine ⟨by rw [R.out], ?_⟩
    rw [R.out]
    exact Mid.turned (HM4.out.set3at (by omega) _ _ _) (HC4.out.set3 HX4 _ _ _)
  by_cases h3 : kind = 3
  · subst h3
    have R0 : Hid (runS s 3 k = ((dropR s k).1, false, none, (dropR s k).2)) := Lib.hid rfl
    go_wp2_with fail
    refine (Drop_any _ c0 cb s N _ k hok H1.out OK.out HP.out).mono ?_
    rintro e w4 ⟨rfl, x4, hf4, hc4⟩
    generalize hts : dropR s k = r at hc4 R0 ⊢
    obtain ⟨t, er⟩ := r
    clear hts
    have R : Hid (runS s 3 k = (t, false, none, er)) := R0
    have HM4 := Lib.hid (HM.out.step hf4)
    have HC4 : Hid (CIs x4 c0 w4 cb t (N + 2)) := Lib.hid (hc4.mono (by omega))
    obtain ⟨hr4, HX4⟩ := own_kept hf4 Z0.out HX.out
    clear hf4 hc4
    have t0 : w4.cell? ⟨w.heap.size + 1, 0, none⟩ = some (.bool false) := by rw [cell_of_row w4 _ _ _ _ _ hr4]; rfl
    have t1 : w4.cell? ⟨w.heap.size + 1, 1, none⟩ = some (.bool false) := by rw [cell_of_row w4 _ _ _ _ _ hr4]; rfl
    have t2 : w4.cell? ⟨w.heap.size + 1, 2, none⟩ = some (.int .i64 0) := by rw [cell_of_row w4 _ _ _ _ _ hr4]; rfl
    have t3 : ∀ j, w4.frozen? ⟨w.heap.size + 1, j, none⟩ = false := fun j => frozen_of_row w4 _ j _ _ hr4
    clear hr4
    go_wp2_with fail
    refine bodyPost_ret (v := .tuple #[touchedV false none, .int .i64 er]) (by simp [results, Try.results34, go_sem, touchedV, goneV, t0, t1, t2]) rfl ?_
    refine ⟨by rw [R.out], ?_⟩
    rw [R.out]
    exact Mid.turned (HM4.out.set3at (by omega) _ _ _) (HC4.out.set3 HX4 _ _ _)
  · have R : Hid (runS s kind k = (s, false, none, 0)) := Lib.hid (by unfold runS; rw [if_neg h0, if_neg h1, if_neg h2, if_neg h3])
    have k0 : (kind == 0) = false := beq_eq_false_iff_ne.2 h0
    have k1 : (kind == 1) = false := beq_eq_false_iff_ne.2 h1
    have k2 : (kind == 2) = false := beq_eq_false_iff_ne.2 h2
    have k3 : (kind == 3) = false := beq_eq_false_iff_ne.2 h3
    have t0 : W0.cell? ⟨w.heap.size + 1, 0, none⟩ = some (.bool false) := by rw [cell_of_row W0 _ _ _ _ _ Z0.out]; rfl
    have t1 : W0.cell? ⟨w.heap.size + 1, 1, none⟩ = some (.bool false) := by rw [cell_of_row W0 _ _ _ _ _ Z0.out]; rfl
    have t2 : W0.cell? ⟨w.heap.size + 1, 2, none⟩ = some (.int .i64 0) := by rw [cell_of_row W0 _ _ _ _ _ Z0.out]; rfl
    have t3 : ∀ j, W0.frozen? ⟨w.heap.size + 1, j, none⟩ = false := fun j => frozen_of_row W0 _ j _ _ Z0.out
    go_wp2_with fail
    refine bodyPost_ret (v := .tuple #[touchedV false none, .int .i64 0]) (by simp [results, Try.results34, go_sem, touchedV, goneV, t0, t1, t2]) rfl ?_
    refine ⟨by rw [R.out]; rfl, ?_⟩
    rw [R.out]
    exact Mid.turned (HM.out.set3at (by omega) _ _ _) ((H1.out.mono (by omega)).set3 HX.out _ _ _)

/-! ### allPinned -/
def cntP (s : St) (l : List K) : Nat := l.countP fun k => decide (0 < s.pins k)
theorem cntP_take (s : St) (l : List K) (k : Nat) (h : k < l.length) : cntP s (l.take (k + 1)) = cntP s (l.take k) + (if 0 < s.pins l[k] then 1 else 0) := by
  unfold cntP
  rw [List.take_succ_eq_append_getElem h, List.countP_append, List.countP_singleton]
  by_cases hp : 0 < s.pins l[k] <;> simp [hp]
theorem cntP_all {s : St} {l : List K} (h : ∀ a ∈ l, 0 < s.pins a) : cntP s l = l.length := by
  unfold cntP
  exact List.countP_eq_length.2 (fun a ha => decide_eq_true (h a ha))

set_option maxRecDepth 100000 in
set_option maxHeartbeats 6400000 in
theorem allPinned_any (x : Nat → Nat) (c0 cb : Nat) (s : St) (N : Nat) (w : World) (h : CIs x c0 w cb s N) (ok : Ok s) :
    Calls Try.prog 38 #[.pointer (some ⟨cb, 0, none⟩)] w fun e w' => e = .returned (.int .i64 ((cntP s s.once.reverse + cntP s s.often.reverse : Nat) : Int)) ∧ Below w.heap.size w w' := by
  have H := Lib.hid h
  have l0 := ok.size
  have l1 := ok.held
  have l2 := ok.first
  have l3 := ok.all
  have KO : Hid (∀ a, (a ∈ s.once ∨ a ∈ s.often) → (Lit.int .i64 a).wf = true) := Lib.hid (fun a ha => ok.keys a (ha.elim .inl (fun x => .inr (.inl x))))
  clear h
  go_enter Try.func38, Try.ntmps38
  go_wp2_with fail
  refine (Lists_any x c0 cb s N w H.out (by omega) (by omega) (by omega) (by omega)).mono ?_
  rintro e w1 ⟨v1, v2, v3, v4, rfl, hb, r1, r2, r3, r4⟩
  obtain ⟨aT1, cT1, rfl, hl1, HC1⟩ := keys_open r1
  obtain ⟨aT2, cT2, rfl, hl2, HC2⟩ := keys_open r2
  have H1 := Lib.hid (H.out.below hb)
  have HB := Lib.hid hb
  obtain ⟨l1, hl1e⟩ : ∃ l, l = s.once.reverse := ⟨_, rfl⟩
  obtain ⟨l2, hl2e⟩ : ∃ l, l = s.often.reverse := ⟨_, rfl⟩
  rw [← hl1e] at hl1 HC1 ⊢
  rw [← hl2e] at hl2 HC2 ⊢
  have n0 := ok.size
  have n1 : l1.length ≤ 4096 := by rw [hl1e, List.length_reverse]; omega
  have n2 : l2.length ≤ 4096 := by rw [hl2e, List.length_reverse]; omega
  have M1 : ∀ a ∈ l1, a ∈ s.once := by intro a ha; rw [hl1e] at ha; exact List.mem_reverse.1 ha
  have K1 : Hid (∀ k (hk : k < l1.length), (Lit.int .i64 l1[k]).wf = true) := Lib.hid (fun k hk => KO.out _ (.inl (M1 _ (List.getElem_mem hk))))
  have M2 : ∀ a ∈ l2, a ∈ s.often := by intro a ha; rw [hl2e] at ha; exact List.mem_reverse.1 ha
  have K2 : Hid (∀ k (hk : k < l2.length), (Lit.int .i64 l2[k]).wf = true) := Lib.hid (fun k hk => KO.out _ (.inr (M2 _ (List.getElem_mem hk))))
  have E1 := Lib.hid hl1e
  have E2 := Lib.hid hl2e
  clear hb r1 r2 r3 r4 hl1e hl2e M1 M2
  go_wp2_with fail
  go_loop [7, 8] (fun n i => ∃ k : Nat, k ≤ l1.length ∧ i = .int .i64 k ∧ n = .int .i64 (cntP s (l1.take k))) (fun _ i => l1.length - (intOf i).toNat)
  case atStart => exact ⟨0, Nat.zero_le _, rfl, rfl⟩
  case round =>
    obtain ⟨k, hk, rfl, rfl⟩ := hrel
    by_cases hlt : k < l1.length
    · obtain ⟨g, hg, _, _, hcell⟩ := HC1.out k hlt
      subst hg
      have HT := Lib.hid (cntP_take s l1 k hlt)
      have hcb : cntP s (l1.take k) ≤ l1.length := Nat.le_trans List.countP_le_length (by simp; omega)
      obtain ⟨q, hq⟩ : ∃ q, cntP s (l1.take k) = q := ⟨_, rfl⟩
      rw [hq] at HT hcb ⊢
      go_wp2_with fail
      refine (Pins_any _ c0 cb s N _ _ (K1.out k hlt) H1.out).mono ?_
      rintro e w2 ⟨rfl, rfl⟩
      by_cases hz : 0 < s.pins l1[k]
      · have R : Hid (cntP s (l1.take (k + 1)) = q + 1) := Lib.hid (by rw [HT.out, if_pos hz])
        have hgt : (0 : Int) < ((s.pins l1[k] : Nat) : Int) := by omega
        clear hz
        go_wp2_with fail
        go_round
        case rel => exact ⟨k + 1, by omega, by go_num, by rw [R.out]; go_num⟩
        case measure => simp [intOf]; omega
      · have R : Hid (cntP s (l1.take (k + 1)) = q) := Lib.hid (by rw [HT.out, if_neg hz]; rfl)
        have hgt : ¬ (0 : Int) < ((s.pins l1[k] : Nat) : Int) := by omega
        clear hz
        go_wp2_with fail
        go_round
        case rel => exact ⟨k + 1, by omega, by go_num, by rw [R.out]⟩
        case measure => simp [intOf]; omega
    · have hk' : k = l1.length := by omega
      subst hk'
      rw [List.take_length]
      have hcb : cntP s l1 ≤ 4096 := Nat.le_trans List.countP_le_length n1
      obtain ⟨p, hp⟩ : ∃ p, cntP s l1 = p := ⟨_, rfl⟩
      have HP := Lib.hid hp
      rw [hp] at hcb ⊢
      clear hp
      go_wp2_with fail
      go_loop [7, 9] (fun n i => ∃ k : Nat, k ≤ l2.length ∧ i = .int .i64 k ∧ n = .int .i64 ((p + cntP s (l2.take k) : Nat) : Int)) (fun _ i => l2.length - (intOf i).toNat)
      case atStart => exact ⟨0, Nat.zero_le _, rfl, rfl⟩
      case round =>
        obtain ⟨k, hk, rfl, rfl⟩ := hrel
        by_cases hlt : k < l2.length
        · obtain ⟨g, hg, _, _, hcell⟩ := HC2.out k hlt
          subst hg
          have HT := Lib.hid (cntP_take s l2 k hlt)
          have hcb2 : cntP s (l2.take k) ≤ l2.length := Nat.le_trans List.countP_le_length (by simp; omega)
          obtain ⟨q, hq⟩ : ∃ q, cntP s (l2.take k) = q := ⟨_, rfl⟩
          rw [hq] at HT hcb2 ⊢
          go_wp2_with fail
          refine (Pins_any _ c0 cb s N _ _ (K2.out k hlt) H1.out).mono ?_
          rintro e w2 ⟨rfl, rfl⟩
          by_cases hz : 0 < s.pins l2[k]
          · have R : Hid (cntP s (l2.take (k + 1)) = q + 1) := Lib.hid (by rw [HT.out, if_pos hz])
            have hgt : (0 : Int) < ((s.pins l2[k] : Nat) : Int) := by omega
            clear hz
            go_wp2_with fail
            go_round
            case rel => exact ⟨k + 1, by omega, by go_num, by rw [R.out]; congr 1⟩
            case measure => simp [intOf]; omega
          · have R : Hid (cntP s (l2.take (k + 1)) = q) := Lib.hid (by rw [HT.out, if_neg hz]; rfl)
            have hgt : ¬ (0 : Int) < ((s.pins l2[k] : Nat) : Int) := by omega
            clear hz
            go_wp2_with fail
            go_round
            case rel => exact ⟨k + 1, by omega, by go_num, by rw [R.out]; congr 1⟩
            case measure => simp [intOf]; omega
        · have hk' : k = l2.length := by omega
          subst hk'
          rw [List.take_length]
          go_wp2_with fail
          go_ret
          exact ⟨by rw [← E1.out, ← E2.out, HP.out]; rfl, HB.out⟩

/-! ### awake -/
theorem _root_.Go.Proofs.Ythcdfdkhmlkneaa.own.Fr.below_all {x x' : Nat → Nat} {C : Nat → Prop} {w w' : World} (h : Fr x x' C w w') (hC : ∀ b, b < w.heap.size → ¬ C (x b)) : Below w.heap.size w w' :=
  ⟨h.os, h.tape, h.output, h.size, fun b hb => h.old b hb (hC b hb)⟩
def aw1 : St := ⟨2, [1], [], [], [], 0, fun _ => 0⟩
def aw2 : St := ⟨2, [1, 2], [], [], [], 0, fun _ => 0⟩
def aw3 : St := ⟨2, [2], [1], [], [], 0, fun _ => 0⟩
def aw4 : St := ⟨2, [3], [1], [2], [], 0, fun _ => 0⟩
theorem awk1 : touchS (newS 2) 1 = (aw1, false, none, 0) := by rfl
theorem awk2 : touchS aw1 2 = (aw2, false, none, 0) := by rfl
theorem awk3 : touchS aw2 1 = (aw3, true, none, 0) := by rfl
theorem awk4 : touchS aw3 3 = (aw4, false, some 2, 0) := by rfl

set_option maxRecDepth 100000 in
set_option maxHeartbeats 6400000 in
theorem awake_any (w : World) : Calls Try.prog 32 #[] w fun e w' => e = .returned (.bool true) ∧ Below w.heap.size w w' := by
  have k1 : (Lit.int .i64 1).wf = true := by decide
  have k2 : (Lit.int .i64 2).wf = true := by decide
  have k3 : (Lit.int .i64 3).wf = true := by decide
  have O0 := Lib.hid (newS_ok 2 (by omega))
  have O1 : Hid (Ok aw1) := Lib.hid (by have := (touchS_ok (newS 2) 1 O0.out k1).ok; rw [awk1] at this; exact this)
  have O2 : Hid (Ok aw2) := Lib.hid (by have := (touchS_ok aw1 2 O1.out k2).ok; rw [awk2] at this; exact this)
  have O3 : Hid (Ok aw3) := Lib.hid (by have := (touchS_ok aw2 1 O2.out k1).ok; rw [awk3] at this; exact this)
  go_enter Try.func32, Try.ntmps32
  go_wp2_with fail
  refine (New_any (fun _ => 100) 0 2 (by omega) (by omega) w).mono ?_
  rintro e w1 ⟨cb, x1, rfl, f1, h1, _⟩
  have F1 := Lib.hid (f1.mono (CD_sub 0))
  have H1 := Lib.hid h1
  clear f1 h1
  go_wp2_with fail
  refine (touch_any x1 0 cb (newS 2) 0 1 k1 w1 H1.out O0.out (by omega)).mono ?_
  rintro e w2 ⟨rfl, x2, f2, h2⟩
  rw [awk1] at h2 ⊢
  have F2 := Lib.hid (F1.out.trans (f2.mono (CD_sub 0)))
  have H2 : Hid (CIs x2 0 w2 cb aw1 2) := Lib.hid h2
  clear f2 h2
  go_wp2_with fail
  refine (touch_any x2 0 cb aw1 2 2 k2 w2 H2.out O1.out (by omega)).mono ?_
  rintro e w3 ⟨rfl, x3, f3, h3⟩
  rw [awk2] at h3 ⊢
  have F3 := Lib.hid (F2.out.trans (f3.mono (CD_sub 0)))
  have H3 : Hid (CIs x3 0 w3 cb aw2 4) := Lib.hid h3
  clear f3 h3
  go_wp2_with fail
  refine (touch_any x3 0 cb aw2 4 1 k1 w3 H3.out O2.out (by omega)).mono ?_
  rintro e w4 ⟨rfl, x4, f4, h4⟩
  rw [awk3] at h4 ⊢
  dsimp only [touchedV, goneV, Option.isSome]
  have F4 := Lib.hid (F3.out.trans (f4.mono (CD_sub 0)))
  have H4 : Hid (CIs x4 0 w4 cb aw3 6) := Lib.hid h4
  clear f4 h4
  go_wp2_with fail
  have HB4 : Hid (Below w4.heap.size w4 (w4.alloc (.cells #[.bool true, .bool false, .int .i64 0] 77))) := Lib.hid ((Below.refl _ _).alloc (Nat.le_refl _) _)
  have HR4 : Hid ((w4.alloc (.cells #[.bool true, .bool false, .int .i64 0] 77)).heap[w4.heap.size]? = some (.cells #[.bool true, .bool false, .int .i64 0] 77 (0, 0))) := Lib.hid (heap_alloc_new w4 _)
  have H5 := Lib.hid (H4.out.below HB4.out)
  have F5 := Lib.hid (F4.out.trans (Fr.of_below (x := x4) (C := CC 0) HB4.out (c := 6) ⟨by omega, by omega⟩))
  have HX5 : Hid (paint x4 w4.heap.size (0 + 6) w4.heap.size = 0 + 6) := Lib.hid (paint_new (Nat.le_refl _))
  refine (touch_any _ 0 cb aw3 6 3 k3 _ H5.out O3.out (by omega)).mono ?_
  rintro e w6 ⟨rfl, x6, f6, h6⟩
  rw [awk4] at h6 ⊢
  dsimp only [touchedV, goneV, Option.isSome]
  have F6 := Lib.hid (F5.out.trans (f6.mono (CD_sub 0)))
  have H6 : Hid (CIs x6 0 w6 cb aw4 8) := Lib.hid h6
  obtain ⟨hr6, hx6⟩ := own_kept f6 HR4.out HX5.out
  have HR6 := Lib.hid hr6
  have hlt := lt_of_block hr6
  clear f6 h6 hr6 hx6
  have u0 : w6.cell? ⟨w4.heap.size, 0, none⟩ = some (.bool true) := by rw [cell_of_row w6 _ _ _ _ _ HR6.out]; rfl
  have HB6 : Hid (Below w6.heap.size w6 (w6.alloc (.cells #[.bool false, .bool true, .int .i64 2] 77))) := Lib.hid ((Below.refl _ _).alloc (Nat.le_refl _) _)
  have H7 := Lib.hid (H6.out.below HB6.out)
  have F7 := Lib.hid (F6.out.trans (Fr.of_below (x := x6) (C := CC 0) HB6.out (c := 6) ⟨by omega, by omega⟩))
  have D1 : Hid (decide ((1 : K) ∈ aw4.once ∨ (1 : K) ∈ aw4.often) = true) := Lib.hid (by decide)
  have D3 : Hid (decide ((3 : K) ∈ aw4.once ∨ (3 : K) ∈ aw4.often) = true) := Lib.hid (by decide)
  have D2 : Hid (decide ((2 : K) ∈ aw4.once ∨ (2 : K) ∈ aw4.often) = false) := Lib.hid (by decide)
  go_wp2_with fail
  refine (Has_any _ 0 cb aw4 8 _ 1 k1 H7.out).mono ?_
  rintro e w8 ⟨rfl, rfl⟩
  rw [D1.out]
  go_wp2_with fail
  refine (Has_any _ 0 cb aw4 8 _ 3 k3 H7.out).mono ?_
  rintro e w8 ⟨rfl, rfl⟩
  rw [D3.out]
  go_wp2_with fail
  refine (Has_any _ 0 cb aw4 8 _ 2 k2 H7.out).mono ?_
  rintro e w8 ⟨rfl, rfl⟩
  rw [D2.out]
  go_wp2_with fail
  go_ret
  exact ⟨rfl, F7.out.below_all (fun b _ hC => by have := hC.2; omega)⟩

end Go.Proofs.Ythcdfdkhmlkneaa.arcI
