/- The contract of a cache's Touch: a key that is not held. -/
import Derived.BigQuiet
import Derived.BigRegion
import Derived.StillTailTactics
import Derived.Deep.CutRange
import Derived.Test.YtbgbomlmgkgkoaaGreatArcTI
namespace Go.Proofs.YtbgbomlmgkgkoaaGreat.arcI
open Go.RowKit Go.Proofs.YtbgbomlmgkgkoaaGreat.own

/-- on the way through a call: the cache's own blocks and the call's own have turned -/
structure Mid (x x' : Nat → Nat) (c0 : Nat) (w w' : World) : Prop where
  os : w'.os = w.os
  tape : w'.tape = w.tape
  output : w'.output = w.output
  size : w.heap.size ≤ w'.heap.size
  col : ∀ b, b < w.heap.size → x' b = x b
  new : ∀ b, w.heap.size ≤ b → b < w'.heap.size → CC c0 (x' b)
  old : ∀ b, b < w.heap.size → ¬ CD c0 (x b) → w'.heap[b]? = w.heap[b]?
theorem CD_sub (c0 : Nat) : ∀ e, CD c0 e → CC c0 e := fun e he => ⟨he.1, by have := he.2; omega⟩
theorem Mid.start {x : Nat → Nat} {c0 : Nat} {w w1 : World} (hb : Below w.heap.size w w1) : Mid x (paint x w.heap.size (c0 + 6)) c0 w w1 :=
  ⟨hb.os, hb.tape, hb.output, hb.size, fun b h => paint_old h, fun b h1 _ => by rw [paint_new h1]; exact ⟨by omega, Nat.le_refl _⟩, fun b h _ => hb.block b h⟩
theorem Mid.step {x x' x'' : Nat → Nat} {c0 : Nat} {w w' w'' : World} (h : Mid x x' c0 w w') (hf : Fr x' x'' (CD c0) w' w'') : Mid x x'' c0 w w'' := by
  have hz := h.size
  refine ⟨hf.os.trans h.os, hf.tape.trans h.tape, hf.output.trans h.output, Nat.le_trans h.size hf.size, fun b hb => (hf.col b (by omega)).trans (h.col b hb), fun b h1 h2 => ?_, fun b hb hC => ?_⟩
  · rcases Nat.lt_or_ge b w'.heap.size with hlt | hge
    · rw [hf.col b hlt]; exact h.new b h1 hlt
    · exact CD_sub c0 _ (hf.new b hge h2)
  · exact (hf.old b (by omega) (by rw [h.col b hb]; exact hC)).trans (h.old b hb hC)
theorem Mid.temp {x x' : Nat → Nat} {c0 : Nat} {w w' w'' : World} (h : Mid x x' c0 w w') (h1 : w''.os = w'.os) (h2 : w''.tape = w'.tape) (h3 : w''.output = w'.output) (h4 : w''.heap.size = w'.heap.size) (h5 : ∀ b, b < w.heap.size → w''.heap[b]? = w'.heap[b]?) : Mid x x' c0 w w'' :=
  ⟨h1.trans h.os, h2.trans h.tape, h3.trans h.output, by rw [h4]; exact h.size, h.col, fun b a1 a2 => h.new b a1 (by rw [← h4]; exact a2), fun b hb hC => (h5 b hb).trans (h.old b hb hC)⟩
theorem Mid.drewN {x x' : Nat → Nat} {c0 : Nat} {w w' : World} (h : Mid x x' c0 w w') (n : Nat) : Mid x x' c0 w (w'.drewN n) := ⟨h.os, h.tape, h.output, h.size, h.col, h.new, h.old⟩
theorem Mid.turned {x x' : Nat → Nat} {c0 : Nat} {w w' : World} (h : Mid x x' c0 w w') {cb : Nat} {s : St} {N : Nat} (hc : CIs x' c0 w' cb s N) : Turned x c0 w w' cb s N := by
  refine ⟨fun b => if b < w.heap.size then x b else if x' b = c0 + 6 then c0 + 5 else x' b, ⟨h.os, h.tape, h.output, h.size, fun b hb' => if_pos hb', ?_, h.old⟩, hc.recolor (fun b hlt hC => ?_)⟩
  · intro b h1 h2
    show CD c0 (if b < w.heap.size then x b else if x' b = c0 + 6 then c0 + 5 else x' b)
    rw [if_neg (by omega)]
    have := h.new b h1 h2
    by_cases h6 : x' b = c0 + 6
    · rw [if_pos h6]; exact ⟨by omega, by omega⟩
    · rw [if_neg h6]; exact ⟨this.1, by have := this.2; omega⟩
  · show (if b < w.heap.size then x b else if x' b = c0 + 6 then c0 + 5 else x' b) = x' b
    by_cases hb : b < w.heap.size
    · rw [if_pos hb, h.col b hb]
    · rw [if_neg hb, if_neg (by unfold CD at hC; omega)]

theorem CIs.aim {x : Nat → Nat} {c0 : Nat} {w : World} {cb : Nat} {s : St} {N : Nat} (h : CIs x c0 w cb s N) (t : Nat) : CIs x c0 (w.setCell ⟨cb, 9, none⟩ (.int .i64 t)) cb { s with target := t } N := by
  obtain ⟨a1, m1, a2, m2, a3, m3, a4, m4, pm, h0, hx, q1, q2, q3, q4, hp, hm⟩ := h
  have hf : Fr x x (fun e => e = c0) w (w.setCell ⟨cb, 9, none⟩ (.int .i64 t)) := Fr.same rfl rfl rfl (by simp) (fun b hb hC => Below.heap_setCell _ _ _ _ (by rintro rfl; exact hC hx))
  refine ⟨a1, m1, a2, m2, a3, m3, a4, m4, pm, ?_, hx, q1.frame hf (by omega), q2.frame hf (by omega), q3.frame hf (by omega), q4.frame hf (by omega), hp, hm.frame (hf.old pm hm.lt (by rw [hp]; omega))⟩
  rw [heap_setCell_same w cb 9 _ _ _ h0]
  rfl
theorem Mid.aim {x x' : Nat → Nat} {c0 : Nat} {w w' : World} (h : Mid x x' c0 w w') {cb : Nat} {s : St} {N : Nat} (hc : CIs x' c0 w' cb s N) (v : Value) : Mid x x' c0 w (w'.setCell ⟨cb, 9, none⟩ v) := by
  obtain ⟨a1, m1, a2, m2, a3, m3, a4, m4, pm, h0, hx, _⟩ := hc
  have := h.step (Fr.same (C := CD c0) (w' := w'.setCell ⟨cb, 9, none⟩ v) rfl rfl rfl (by simp) (fun b hb hC => Below.heap_setCell _ _ _ _ (by rintro rfl; exact hC (by rw [hx]; exact ⟨Nat.le_refl _, by omega⟩))))
  exact this

theorem stuck_cases {s : St} (h : stuck s = false) {b1 b2 bf : Bool} (h1 : (freeK s.pins s.once).isSome = b1) (h2 : (freeK s.pins s.often).isSome = b2) (hf : isFull s = bf) :
    bf = false ∨ (bf = true ∧ b1 = true) ∨ (bf = true ∧ b1 = false ∧ b2 = true) := by
  unfold stuck at h
  rw [h1, h2, hf] at h
  cases bf <;> cases b1 <;> cases b2 <;> simp_all

theorem cache_thaw {x : Nat → Nat} {c0 : Nat} {w : World} {cb : Nat} {s : St} {N : Nat} (h : CIs x c0 w cb s N) : ∀ j, w.frozen? ⟨cb, j, none⟩ = false := by
  obtain ⟨a1, m1, a2, m2, a3, m3, a4, m4, pm, h0, _⟩ := h
  exact fun j => frozen_of_row w _ j _ _ h0

theorem set3 {w : World} {b : Nat} {v0 v1 v2 : Value} {t : TypeId} (h : w.heap[b]? = some (.cells #[v0, v1, v2] t (0, 0))) (u0 u1 u2 : Value) :
    (((w.setCell ⟨b, 0, none⟩ u0).setCell ⟨b, 1, none⟩ u1).setCell ⟨b, 2, none⟩ u2).heap[b]? = some (.cells #[u0, u1, u2] t (0, 0)) := by
  have h1 := heap_setCell_same w b 0 _ _ u0 h
  have h2 := heap_setCell_same _ b 1 _ _ u1 h1
  have h3 := heap_setCell_same _ b 2 _ _ u2 h2
  rw [h3]
  rfl
theorem set3_other (w : World) {b c : Nat} (hne : c ≠ b) (u0 u1 u2 : Value) :
    (((w.setCell ⟨b, 0, none⟩ u0).setCell ⟨b, 1, none⟩ u1).setCell ⟨b, 2, none⟩ u2).heap[c]? = w.heap[c]? := by
  rw [Below.heap_setCell _ _ _ _ hne, Below.heap_setCell _ _ _ _ hne, Below.heap_setCell _ _ _ _ hne]
theorem CIs.set3 {x : Nat → Nat} {c0 : Nat} {w : World} {cb : Nat} {s : St} {N : Nat} (h : CIs x c0 w cb s N) {b : Nat} (hb : x b = c0 + 6) (u0 u1 u2 : Value) :
    CIs x c0 (((w.setCell ⟨b, 0, none⟩ u0).setCell ⟨b, 1, none⟩ u1).setCell ⟨b, 2, none⟩ u2) cb s N :=
  h.temp (Fr.same rfl rfl rfl (by simp) (fun c _ hC => set3_other w (by rintro rfl; exact hC hb) u0 u1 u2))
theorem Mid.set3 {x x' : Nat → Nat} {c0 : Nat} {w w' : World} (h : Mid x x' c0 w w') (u0 u1 u2 : Value) :
    Mid x x' c0 w (((w'.setCell ⟨w.heap.size, 0, none⟩ u0).setCell ⟨w.heap.size, 1, none⟩ u1).setCell ⟨w.heap.size, 2, none⟩ u2) :=
  h.temp rfl rfl rfl (by simp) (fun b hb => set3_other w' (by omega) u0 u1 u2)
theorem CIs.col {x : Nat → Nat} {c0 : Nat} {w : World} {cb : Nat} {s : St} {N : Nat} (h : CIs x c0 w cb s N) : x cb = c0 := by
  obtain ⟨a1, m1, a2, m2, a3, m3, a4, m4, pm, h0, hx, _⟩ := h
  exact hx
theorem own_kept {x x' : Nat → Nat} {c0 : Nat} {w w' : World} {b : Nat} {o : Obj} (hf : Fr x x' (CD c0) w w') (h : w.heap[b]? = some o) (hx : x b = c0 + 6) : w'.heap[b]? = some o ∧ x' b = c0 + 6 :=
  ⟨(hf.old b (lt_of_block h) (by rw [hx]; exact fun hh => by have := hh.2; omega)).trans h, by rw [hf.col b (lt_of_block h)]; exact hx⟩

set_option maxRecDepth 100000 in
set_option maxHeartbeats 12800000 in
theorem touch_miss (x : Nat → Nat) (c0 cb : Nat) (s : St) (N : Nat) (k : K) (hok : ((Lit.int .i64 k).wf = true)) (w : World) (h : CIs x c0 w cb s N) (ok : Ok s) (hN : N + 2 < 1099511627776) (hk : ¬ (k ∈ s.once ∨ k ∈ s.often)) (hst : stuck s = false) :
    Calls Tryz.prog 121 #[.pointer (some ⟨cb, 0, none⟩), (Value.int .i64 k)] w (TouchPost x c0 cb s N k w) := by
  have H := Lib.hid h
  have OK := Lib.hid ok
  have HK := Lib.hid hk
  have ST := Lib.hid hst
  have b0 := ok.size
  have b1 := ok.held
  have b2 := ok.first
  have b3 := ok.all
  have b4 := ok.target
  have d1 : Hid (decide (k ∈ s.once ∨ k ∈ s.often) = false) := Lib.hid (decide_eq_false hk)
  obtain ⟨z1, hz1⟩ := freeRet_is (freeK s.pins s.once)
  obtain ⟨z2, hz2⟩ := freeRet_is (freeK s.pins s.often)
  obtain ⟨f1, hf1⟩ : ∃ b, (freeK s.pins s.once).isSome = b := ⟨_, rfl⟩
  obtain ⟨f2, hf2⟩ : ∃ b, (freeK s.pins s.often).isSome = b := ⟨_, rfl⟩
  obtain ⟨f3, hf3⟩ : ∃ b, isFull s = b := ⟨_, rfl⟩
  have HZ1 := Lib.hid (hz1 _ hf1)
  have HZ2 := Lib.hid (hz2 _ hf2)
  have HF3 := Lib.hid hf3
  have HCS := Lib.hid (stuck_cases hst hf1 hf2 hf3)
  clear h ok hk hst hz1 hz2 hf1 hf2 hf3
  go_enter Tryz.func121, Tryz.ntmps121
  go_wp2_with fail
  have F1 : Hid (Fr x (paint x w.heap.size (c0 + 6)) (CT c0) w (w.alloc (.cells #[.bool false, .bool false, (Value.int .i64 0)] 224))) := Lib.hid (Fr.of_below ((Below.refl _ _).alloc (Nat.le_refl _) _) rfl)
  have H1 := Lib.hid (H.out.temp F1.out)
  have hr : (w.alloc (.cells #[.bool false, .bool false, (Value.int .i64 0)] 224)).heap[w.heap.size]? = some (.cells #[.bool false, .bool false, (Value.int .i64 0)] 224 (0, 0)) := heap_alloc_new w _
  have HR := Lib.hid hr
  have HX : Hid (paint x w.heap.size (c0 + 6) w.heap.size = c0 + 6) := Lib.hid (paint_new (Nat.le_refl _))
  have HM : Hid (Mid x (paint x w.heap.size (c0 + 6)) c0 w (w.alloc (.cells #[.bool false, .bool false, (Value.int .i64 0)] 224))) := Lib.hid (Mid.start ((Below.refl _ _).alloc (Nat.le_refl _) _))
  clear F1 hr
  generalize World.alloc w _ = W0 at H1 HR HM ⊢
  refine (Has_any _ c0 cb s N _ k hok H1.out).mono ?_
  rintro e w1 ⟨rfl, rfl⟩
  rw [d1.out]
  go_wp2_with fail
  refine (free_once _ c0 cb s N _ H1.out).mono ?_
  rintro e w1 ⟨rfl, rfl⟩
  rw [HZ1.out]
  go_wp2_with fail
  refine (free_often _ c0 cb s N _ H1.out).mono ?_
  rintro e w1 ⟨rfl, rfl⟩
  rw [HZ2.out]
  go_upto_region 10 with fail
  go_cut [57] from 48 (fun s57 wc => s57 = .bool false ∧ ∃ m, wc = W0.drewN m)
  case first =>
    go_wp2_with fail
    refine (full_is _ c0 cb s N _ H1.out (by omega) (by omega) f3 HF3.out).mono ?_
    rintro e w1 ⟨rfl, m, rfl⟩
    rcases HCS.out with rfl | ⟨rfl, rfl⟩ | ⟨rfl, rfl, rfl⟩
    all_goals
      go_wp2_with fail
      go_meet
      case rel => exact ⟨rfl, m, rfl⟩
  case rest =>
    obtain ⟨rfl, m, rfl⟩ := hcut
    have HR2 : Hid ((W0.drewN m).heap[w.heap.size]? = some (.cells #[.bool false, .bool false, (Value.int .i64 0)] 224 (0, 0))) := Lib.hid HR.out
    have H2 := Lib.hid (H1.out.drewN m)
    have HM2 := Lib.hid (HM.out.drewN m)
    clear HR H1 HM H HCS HZ1 HZ2 HF3
    generalize World.drewN W0 m = W1 at H2 HR2 HM2 ⊢
    go_wp2_with fail
    refine (has_wonce _ c0 cb s N _ k hok H2.out).mono ?_
    rintro e w1 ⟨rfl, rfl⟩
    by_cases hw : k ∈ s.wonce
    · skip
      have dw : Hid (decide (k ∈ s.wonce) = true) := Lib.hid (decide_eq_true hw)
      have hpos : 0 < s.wonce.length := List.length_pos_of_mem hw
      have HW := Lib.hid hw
      clear hw
      rw [dw.out]
      go_wp2_with fail
      obtain ⟨a1, k1, a2, k2, a3, k3, a4, k4, g0, g1, g3, g5, g7⟩ := cache_lens H2.out
      obtain ⟨_, _, _, g9⟩ := cache_cells H2.out
      have gf := cache_thaw H2.out
      clear g1 g3
      refine wp_region_still_tail 27 (by kernel_rfl) (by kernel_rfl) ?_
      simp only [List.take_succ_cons, List.take_zero, List.drop_succ_cons, List.drop_zero]
      generalize hW2 : ({ W1 with drawn := W1.drawn + 1 } : World) = W2
      obtain ⟨n3, hn3⟩ : ∃ n, s.wonce.length = n := ⟨_, rfl⟩
      obtain ⟨n4, hn4⟩ : ∃ n, s.woften.length = n := ⟨_, rfl⟩
      have f0 : W2.cell? ⟨cb, 0, none⟩ = some (.int .i64 s.size) := by rw [← hW2]; exact g0
      have f5 : W2.cell? ⟨cb, 5, none⟩ = some (.slice a3 n3 k3) := by rw [← hW2, ← hn3]; exact g5
      have f7 : W2.cell? ⟨cb, 7, none⟩ = some (.slice a4 n4 k4) := by rw [← hW2, ← hn4]; exact g7
      have f9 : W2.cell? ⟨cb, 9, none⟩ = some (.int .i64 s.target) := by rw [← hW2]; exact g9
      have ff : ∀ j, W2.frozen? ⟨cb, j, none⟩ = false := by rw [← hW2]; exact gf
      have C2 : Hid (CIs (paint x w.heap.size (c0 + 6)) c0 W2 cb s N) := Lib.hid (by rw [← hW2]; exact H2.out.drewN 1)
      have M2 : Hid (Mid x (paint x w.heap.size (c0 + 6)) c0 w W2) := Lib.hid (by rw [← hW2]; exact HM2.out.drewN 1)
      have R2 : Hid (W2.heap[w.heap.size]? = some (.cells #[.bool false, .bool false, (Value.int .i64 0)] 224 (0, 0))) := Lib.hid (by rw [← hW2]; exact HR2.out)
      clear g0 g5 g7 g9 gf hW2 H2 HM2 HR2
      have hz : ¬ (n3 = 0) := by omega
      obtain ⟨q, hqd, hq1⟩ : ∃ q, q = n4 / n3 ∧ q ≤ n4 := ⟨_, rfl, Nat.div_le_self _ _⟩
      have hq : IntKind.i64.wrap ((n4 : Int) / (n3 : Int)) = (q : Int) := by rw [← Int.natCast_ediv, ← hqd]; exact IntWalk.i64_in _ (by omega)
      have HT : Hid (min (s.size : Int) ((s.target : Int) + max 1 (q : Int)) = (((upS s).target : Nat) : Int)) := Lib.hid (by
        show _ = ((min s.size (s.target + max 1 (s.woften.length / s.wonce.length)) : Nat) : Int)
        rw [hn3, hn4, ← hqd]
        omega)
      clear hqd
      repeat still_step
      refine wpStill_nil ?_
      go_wp2_with fail
      rw [HT.out]
      have H3 := Lib.hid (C2.out.aim (upS s).target)
      have HM3 := Lib.hid (M2.out.aim C2.out (.int .i64 (upS s).target))
      have HX3 := HX
      have hcw : w.heap.size ≠ cb := by
        intro e
        have e1 := HX.out
        have e2 := C2.out.col
        rw [← e, e1] at e2
        omega
      have HR3 : Hid ((W2.setCell ⟨cb, 9, none⟩ (.int .i64 (upS s).target)).heap[w.heap.size]? = some (.cells #[.bool false, .bool false, (Value.int .i64 0)] 224 (0, 0))) := Lib.hid (by rw [Below.heap_setCell _ _ _ _ hcw]; exact R2.out)
      clear f0 f5 f7 f9 ff C2 M2 R2 hz hq HT
      have OKU : Hid (Ok (upS s)) := Lib.hid (OK.out.aim _ (by show min s.size (s.target + max 1 (s.woften.length / s.wonce.length)) ≤ s.size; omega))
      have RO : Hid (RoomOk (upS s) (roomS (upS s) false).1 (roomS (upS s) false).2) := Lib.hid (roomS_ok (upS s) false OKU.out (not_stuck ST.out))
      have R : Hid (touchS s k = ({ (roomS (upS s) false).1 with wonce := (roomS (upS s) false).1.wonce.erase k, often := (roomS (upS s) false).1.often ++ [k] }, false, (roomS (upS s) false).2, 0)) := Lib.hid (by unfold touchS; rw [if_neg HK.out, ST.out, if_neg (by simp), if_pos HW.out])
      refine (room_any _ c0 cb (upS s) N _ false H3.out (show s.once.length ≤ 8192 by omega) (show s.often.length ≤ 8192 by omega) (show s.wonce.length ≤ 8192 by omega) (show s.woften.length ≤ 8192 by omega) (by omega) ?_ ?_ ?_ (not_stuck ST.out)).mono ?_
      · intro k hk
        exact OK.out.keys k (hk.elim .inl (fun x => .inr (.inl x)))
      · intro k hk hk2
        have q := OK.out.one k
        have q1 := count_pos (show k ∈ s.once from hk)
        have q2 := count_pos (show k ∈ s.wonce from hk2)
        omega
      · intro k hk hk2
        have q := OK.out.one k
        have q1 := count_pos (show k ∈ s.often from hk)
        have q2 := count_pos (show k ∈ s.woften from hk2)
        omega
      rintro e w4 ⟨rfl, x4, hf4, hc4⟩
      generalize hrr : roomS (upS s) false = rr at hc4 RO R ⊢
      obtain ⟨t, gn⟩ := rr
      have HC4 : Hid (CIs x4 c0 w4 cb t (N + 1)) := Lib.hid hc4
      have HM4 := Lib.hid (HM3.out.step hf4)
      have RO : Hid (RoomOk (upS s) t gn) := RO
      have R : Hid (touchS s k = ({ t with wonce := t.wonce.erase k, often := t.often ++ [k] }, false, gn, 0)) := R
      have hsz : t.size = s.size := RO.out.size
      have hb1 := RO.out.ok.held
      have hb2 := RO.out.ok.first
      have hb3 := RO.out.ok.all
      clear hrr
      obtain ⟨hr4, HX4⟩ := own_kept hf4 HR3.out HX3.out
      clear hf4 hc4
      obtain ⟨z, hz9⟩ := gone_shape gn
      unfold touchedV
      rw [hz9]
      have t0 : w4.cell? ⟨w.heap.size, 0, none⟩ = some (.bool false) := by rw [cell_of_row w4 _ _ _ _ _ hr4]; rfl
      have t1 : w4.cell? ⟨w.heap.size, 1, none⟩ = some (.bool false) := by rw [cell_of_row w4 _ _ _ _ _ hr4]; rfl
      have t2 : w4.cell? ⟨w.heap.size, 2, none⟩ = some (Value.int .i64 0) := by rw [cell_of_row w4 _ _ _ _ _ hr4]; rfl
      have t3 : ∀ j, w4.frozen? ⟨w.heap.size, j, none⟩ = false := fun j => frozen_of_row w4 _ j _ _ hr4
      have HR4 := Lib.hid hr4
      have HX4 := Lib.hid HX4
      clear hr4
      go_wp2_with fail
      have HR5 := Lib.hid (set3 HR4.out (.bool false) (.bool gn.isSome) (Value.int .i64 z))
      have HM5 := Lib.hid (HM4.out.set3 (.bool false) (.bool gn.isSome) (Value.int .i64 z))
      have HC5 := Lib.hid (HC4.out.set3 HX4.out (.bool false) (.bool gn.isSome) (Value.int .i64 z))
      clear HR4 HM4 HC4 t0 t1 t2 t3
      generalize (World.setCell _ ⟨w.heap.size, 2, none⟩ _) = W5 at HR5 HM5 HC5 ⊢
      refine (take_wonce _ c0 cb t (N + 1) _ k hok HC5.out (by omega)).mono ?_
      rintro e w6 ⟨rfl, x6, hf6, hc6⟩
      have HM6 := Lib.hid (HM5.out.step hf6)
      have HC6 := Lib.hid hc6
      obtain ⟨HR6, HX6⟩ := own_kept hf6 HR5.out HX4.out
      have HR6 := Lib.hid HR6
      have HX6 := Lib.hid HX6
      clear hf6 hc6 HM5 HC5 HR5
      go_wp2_with fail
      refine (put_often _ c0 cb _ (N + 1) _ k hok HC6.out (fun hh => HK.out (RO.out.stay k (.inr hh))) (by omega) (show t.often.length < 1099511627776 by omega)).mono ?_
      rintro e w7 ⟨rfl, x7, hf7, hc7⟩
      have HM7 := Lib.hid (HM6.out.step hf7)
      have HC7 := Lib.hid hc7
      obtain ⟨HR7, HX7⟩ := own_kept hf7 HR6.out HX6.out
      clear hf7 hc7 HM6 HC6 HR6
      have u0 : w7.cell? ⟨w.heap.size, 0, none⟩ = some (.bool false) := by rw [cell_of_row w7 _ _ _ _ _ HR7]; rfl
      have u1 : w7.cell? ⟨w.heap.size, 1, none⟩ = some (.bool gn.isSome) := by rw [cell_of_row w7 _ _ _ _ _ HR7]; rfl
      have u2 : w7.cell? ⟨w.heap.size, 2, none⟩ = some (Value.int .i64 z) := by rw [cell_of_row w7 _ _ _ _ _ HR7]; rfl
      have u3 : ∀ j, w7.frozen? ⟨w.heap.size, j, none⟩ = false := fun j => frozen_of_row w7 _ j _ _ HR7
      clear HR7
      go_wp2_with fail
      refine bodyPost_ret (v := .tuple #[touchedV false gn, .int .i64 0]) (by simp [results, Tryz.results121, go_sem, touchedV, hz9, u0, u1, u2]) rfl ?_
      refine ⟨by rw [R.out]; rfl, ?_⟩
      rw [R.out]
      exact Mid.turned (HM7.out.set3 _ _ _) (HC7.out.set3 HX7 _ _ _)
    · have HNW := Lib.hid hw
      have dnw : Hid (decide (k ∈ s.wonce) = false) := Lib.hid (decide_eq_false hw)
      clear hw
      rw [dnw.out]
      go_wp2_with fail
      refine (has_woften _ c0 cb s N _ k hok H2.out).mono ?_
      rintro e w1 ⟨rfl, rfl⟩
      by_cases hw : k ∈ s.woften
      · skip
        have dw : Hid (decide (k ∈ s.woften) = true) := Lib.hid (decide_eq_true hw)
        have hpos : 0 < s.woften.length := List.length_pos_of_mem hw
        have HW := Lib.hid hw
        clear hw
        rw [dw.out]
        go_wp2_with fail
        obtain ⟨a1, k1, a2, k2, a3, k3, a4, k4, g0, g1, g3, g5, g7⟩ := cache_lens H2.out
        obtain ⟨_, _, _, g9⟩ := cache_cells H2.out
        have gf := cache_thaw H2.out
        clear g1 g3
        refine wp_region_still_tail 23 (by kernel_rfl) (by kernel_rfl) ?_
        simp only [List.take_succ_cons, List.take_zero, List.drop_succ_cons, List.drop_zero]
        generalize hW2 : ({ W1 with drawn := W1.drawn + 1 } : World) = W2
        obtain ⟨n3, hn3⟩ : ∃ n, s.wonce.length = n := ⟨_, rfl⟩
        obtain ⟨n4, hn4⟩ : ∃ n, s.woften.length = n := ⟨_, rfl⟩
        have f0 : W2.cell? ⟨cb, 0, none⟩ = some (.int .i64 s.size) := by rw [← hW2]; exact g0
        have f5 : W2.cell? ⟨cb, 5, none⟩ = some (.slice a3 n3 k3) := by rw [← hW2, ← hn3]; exact g5
        have f7 : W2.cell? ⟨cb, 7, none⟩ = some (.slice a4 n4 k4) := by rw [← hW2, ← hn4]; exact g7
        have f9 : W2.cell? ⟨cb, 9, none⟩ = some (.int .i64 s.target) := by rw [← hW2]; exact g9
        have ff : ∀ j, W2.frozen? ⟨cb, j, none⟩ = false := by rw [← hW2]; exact gf
        have C2 : Hid (CIs (paint x w.heap.size (c0 + 6)) c0 W2 cb s N) := Lib.hid (by rw [← hW2]; exact H2.out.drewN 1)
        have M2 : Hid (Mid x (paint x w.heap.size (c0 + 6)) c0 w W2) := Lib.hid (by rw [← hW2]; exact HM2.out.drewN 1)
        have R2 : Hid (W2.heap[w.heap.size]? = some (.cells #[.bool false, .bool false, (Value.int .i64 0)] 224 (0, 0))) := Lib.hid (by rw [← hW2]; exact HR2.out)
        clear g0 g5 g7 g9 gf hW2 H2 HM2 HR2
        have hz : ¬ (n4 = 0) := by omega
        obtain ⟨q, hqd, hq1⟩ : ∃ q, q = n3 / n4 ∧ q ≤ n3 := ⟨_, rfl, Nat.div_le_self _ _⟩
        have hq : IntKind.i64.wrap ((n3 : Int) / (n4 : Int)) = (q : Int) := by rw [← Int.natCast_ediv, ← hqd]; exact IntWalk.i64_in _ (by omega)
        have HT : Hid (max 0 ((s.target : Int) - max 1 (q : Int)) = (((downS s).target : Nat) : Int)) := Lib.hid (by
          show _ = ((s.target - max 1 (s.wonce.length / s.woften.length) : Nat) : Int)
          rw [hn3, hn4, ← hqd]
          omega)
        clear hqd
        repeat still_step
        refine wpStill_nil ?_
        go_wp2_with fail
        rw [HT.out]
        have H3 := Lib.hid (C2.out.aim (downS s).target)
        have HM3 := Lib.hid (M2.out.aim C2.out (.int .i64 (downS s).target))
        have HX3 := HX
        have hcw : w.heap.size ≠ cb := by
          intro e
          have e1 := HX.out
          have e2 := C2.out.col
          rw [← e, e1] at e2
          omega
        have HR3 : Hid ((W2.setCell ⟨cb, 9, none⟩ (.int .i64 (downS s).target)).heap[w.heap.size]? = some (.cells #[.bool false, .bool false, (Value.int .i64 0)] 224 (0, 0))) := Lib.hid (by rw [Below.heap_setCell _ _ _ _ hcw]; exact R2.out)
        clear f0 f5 f7 f9 ff C2 M2 R2 hz hq HT
        have OKU : Hid (Ok (downS s)) := Lib.hid (OK.out.aim _ (by show s.target - max 1 (s.wonce.length / s.woften.length) ≤ s.size; omega))
        have RO : Hid (RoomOk (downS s) (roomS (downS s) true).1 (roomS (downS s) true).2) := Lib.hid (roomS_ok (downS s) true OKU.out (not_stuck ST.out))
        have R : Hid (touchS s k = ({ (roomS (downS s) true).1 with woften := (roomS (downS s) true).1.woften.erase k, often := (roomS (downS s) true).1.often ++ [k] }, false, (roomS (downS s) true).2, 0)) := Lib.hid (by unfold touchS; rw [if_neg HK.out, ST.out, if_neg (by simp), if_neg HNW.out, if_pos HW.out])
        refine (room_any _ c0 cb (downS s) N _ true H3.out (show s.once.length ≤ 8192 by omega) (show s.often.length ≤ 8192 by omega) (show s.wonce.length ≤ 8192 by omega) (show s.woften.length ≤ 8192 by omega) (by omega) ?_ ?_ ?_ (not_stuck ST.out)).mono ?_
        · intro k hk
          exact OK.out.keys k (hk.elim .inl (fun x => .inr (.inl x)))
        · intro k hk hk2
          have q := OK.out.one k
          have q1 := count_pos (show k ∈ s.once from hk)
          have q2 := count_pos (show k ∈ s.wonce from hk2)
          omega
        · intro k hk hk2
          have q := OK.out.one k
          have q1 := count_pos (show k ∈ s.often from hk)
          have q2 := count_pos (show k ∈ s.woften from hk2)
          omega
        rintro e w4 ⟨rfl, x4, hf4, hc4⟩
        generalize hrr : roomS (downS s) true = rr at hc4 RO R ⊢
        obtain ⟨t, gn⟩ := rr
        have HC4 : Hid (CIs x4 c0 w4 cb t (N + 1)) := Lib.hid hc4
        have HM4 := Lib.hid (HM3.out.step hf4)
        have RO : Hid (RoomOk (downS s) t gn) := RO
        have R : Hid (touchS s k = ({ t with woften := t.woften.erase k, often := t.often ++ [k] }, false, gn, 0)) := R
        have hsz : t.size = s.size := RO.out.size
        have hb1 := RO.out.ok.held
        have hb2 := RO.out.ok.first
        have hb3 := RO.out.ok.all
        clear hrr
        obtain ⟨hr4, HX4⟩ := own_kept hf4 HR3.out HX3.out
        clear hf4 hc4
        obtain ⟨z, hz9⟩ := gone_shape gn
        unfold touchedV
        rw [hz9]
        have t0 : w4.cell? ⟨w.heap.size, 0, none⟩ = some (.bool false) := by rw [cell_of_row w4 _ _ _ _ _ hr4]; rfl
        have t1 : w4.cell? ⟨w.heap.size, 1, none⟩ = some (.bool false) := by rw [cell_of_row w4 _ _ _ _ _ hr4]; rfl
        have t2 : w4.cell? ⟨w.heap.size, 2, none⟩ = some (Value.int .i64 0) := by rw [cell_of_row w4 _ _ _ _ _ hr4]; rfl
        have t3 : ∀ j, w4.frozen? ⟨w.heap.size, j, none⟩ = false := fun j => frozen_of_row w4 _ j _ _ hr4
        have HR4 := Lib.hid hr4
        have HX4 := Lib.hid HX4
        clear hr4
        go_wp2_with fail
        have HR5 := Lib.hid (set3 HR4.out (.bool false) (.bool gn.isSome) (Value.int .i64 z))
        have HM5 := Lib.hid (HM4.out.set3 (.bool false) (.bool gn.isSome) (Value.int .i64 z))
        have HC5 := Lib.hid (HC4.out.set3 HX4.out (.bool false) (.bool gn.isSome) (Value.int .i64 z))
        clear HR4 HM4 HC4 t0 t1 t2 t3
        generalize (World.setCell _ ⟨w.heap.size, 2, none⟩ _) = W5 at HR5 HM5 HC5 ⊢
        refine (take_woften _ c0 cb t (N + 1) _ k hok HC5.out (by omega)).mono ?_
        rintro e w6 ⟨rfl, x6, hf6, hc6⟩
        have HM6 := Lib.hid (HM5.out.step hf6)
        have HC6 := Lib.hid hc6
        obtain ⟨HR6, HX6⟩ := own_kept hf6 HR5.out HX4.out
        have HR6 := Lib.hid HR6
        have HX6 := Lib.hid HX6
        clear hf6 hc6 HM5 HC5 HR5
        go_wp2_with fail
        refine (put_often _ c0 cb _ (N + 1) _ k hok HC6.out (fun hh => HK.out (RO.out.stay k (.inr hh))) (by omega) (show t.often.length < 1099511627776 by omega)).mono ?_
        rintro e w7 ⟨rfl, x7, hf7, hc7⟩
        have HM7 := Lib.hid (HM6.out.step hf7)
        have HC7 := Lib.hid hc7
        obtain ⟨HR7, HX7⟩ := own_kept hf7 HR6.out HX6.out
        clear hf7 hc7 HM6 HC6 HR6
        have u0 : w7.cell? ⟨w.heap.size, 0, none⟩ = some (.bool false) := by rw [cell_of_row w7 _ _ _ _ _ HR7]; rfl
        have u1 : w7.cell? ⟨w.heap.size, 1, none⟩ = some (.bool gn.isSome) := by rw [cell_of_row w7 _ _ _ _ _ HR7]; rfl
        have u2 : w7.cell? ⟨w.heap.size, 2, none⟩ = some (Value.int .i64 z) := by rw [cell_of_row w7 _ _ _ _ _ HR7]; rfl
        have u3 : ∀ j, w7.frozen? ⟨w.heap.size, j, none⟩ = false := fun j => frozen_of_row w7 _ j _ _ HR7
        clear HR7
        go_wp2_with fail
        refine bodyPost_ret (v := .tuple #[touchedV false gn, .int .i64 0]) (by simp [results, Tryz.results121, go_sem, touchedV, hz9, u0, u1, u2]) rfl ?_
        refine ⟨by rw [R.out]; rfl, ?_⟩
        rw [R.out]
        exact Mid.turned (HM7.out.set3 _ _ _) (HC7.out.set3 HX7 _ _ _)
      · have HNF := Lib.hid hw
        have dnf : Hid (decide (k ∈ s.woften) = false) := Lib.hid (decide_eq_false hw)
        clear hw
        rw [dnf.out]
        go_wp2_with fail
        have AO : Hid (AddOk s (addS s).1 (addS s).2) := Lib.hid (addS_ok s OK.out (not_stuck ST.out))
        have R : Hid (touchS s k = ({ (addS s).1 with once := (addS s).1.once ++ [k] }, false, (addS s).2, 0)) := Lib.hid (by unfold touchS; rw [if_neg HK.out, ST.out, if_neg (by simp), if_neg HNW.out, if_neg HNF.out])
        refine (add_any _ c0 cb s N _ H2.out OK.out (by omega) (not_stuck ST.out)).mono ?_
        rintro e w4 ⟨rfl, x4, hf4, hc4⟩
        generalize hrr : addS s = rr at hc4 AO R ⊢
        obtain ⟨t, gn⟩ := rr
        have HC4 : Hid (CIs x4 c0 w4 cb t (N + 1)) := Lib.hid hc4
        have HM4 := Lib.hid (HM2.out.step hf4)
        have AO : Hid (AddOk s t gn) := AO
        have R : Hid (touchS s k = ({ t with once := t.once ++ [k] }, false, gn, 0)) := R
        have hsz : t.size = s.size := AO.out.size
        have hb1 := AO.out.ok.held
        have HR3 := HR2
        have HX3 := HX
        clear hrr
        obtain ⟨hr4, HX4⟩ := own_kept hf4 HR3.out HX3.out
        clear hf4 hc4
        obtain ⟨z, hz9⟩ := gone_shape gn
        unfold touchedV
        rw [hz9]
        have t0 : w4.cell? ⟨w.heap.size, 0, none⟩ = some (.bool false) := by rw [cell_of_row w4 _ _ _ _ _ hr4]; rfl
        have t1 : w4.cell? ⟨w.heap.size, 1, none⟩ = some (.bool false) := by rw [cell_of_row w4 _ _ _ _ _ hr4]; rfl
        have t2 : w4.cell? ⟨w.heap.size, 2, none⟩ = some (Value.int .i64 0) := by rw [cell_of_row w4 _ _ _ _ _ hr4]; rfl
        have t3 : ∀ j, w4.frozen? ⟨w.heap.size, j, none⟩ = false := fun j => frozen_of_row w4 _ j _ _ hr4
        have HR4 := Lib.hid hr4
        have HX4 := Lib.hid HX4
        clear hr4
        go_wp2_with fail
        have HR5 := Lib.hid (set3 HR4.out (.bool false) (.bool gn.isSome) (Value.int .i64 z))
        have HM5 := Lib.hid (HM4.out.set3 (.bool false) (.bool gn.isSome) (Value.int .i64 z))
        have HC5 := Lib.hid (HC4.out.set3 HX4.out (.bool false) (.bool gn.isSome) (Value.int .i64 z))
        clear HR4 HM4 HC4 t0 t1 t2 t3
        generalize (World.setCell _ ⟨w.heap.size, 2, none⟩ _) = W5 at HR5 HM5 HC5 ⊢
        refine (put_once _ c0 cb t (N + 1) _ k hok HC5.out (fun hh => HK.out (AO.out.stay k (.inl hh))) (by omega) (by omega)).mono ?_
        rintro e w7 ⟨rfl, x7, hf7, hc7⟩
        have HM7 := Lib.hid (HM5.out.step hf7)
        have HC7 := Lib.hid hc7
        obtain ⟨HR7, HX7⟩ := own_kept hf7 HR5.out HX4.out
        clear hf7 hc7 HM5 HC5 HR5
        have u0 : w7.cell? ⟨w.heap.size, 0, none⟩ = some (.bool false) := by rw [cell_of_row w7 _ _ _ _ _ HR7]; rfl
        have u1 : w7.cell? ⟨w.heap.size, 1, none⟩ = some (.bool gn.isSome) := by rw [cell_of_row w7 _ _ _ _ _ HR7]; rfl
        have u2 : w7.cell? ⟨w.heap.size, 2, none⟩ = some (Value.int .i64 z) := by rw [cell_of_row w7 _ _ _ _ _ HR7]; rfl
        have u3 : ∀ j, w7.frozen? ⟨w.heap.size, j, none⟩ = false := fun j => frozen_of_row w7 _ j _ _ HR7
        clear HR7
        go_wp2_with fail
        refine bodyPost_ret (v := .tuple #[touchedV false gn, .int .i64 0]) (by simp [results, Tryz.results121, go_sem, touchedV, hz9, u0, u1, u2]) rfl ?_
        refine ⟨by rw [R.out]; rfl, ?_⟩
        rw [R.out]
        exact Mid.turned (HM7.out.set3 _ _ _) (HC7.out.set3 HX7 _ _ _)

theorem touch_any (x : Nat → Nat) (c0 cb : Nat) (s : St) (N : Nat) (k : K) (hok : ((Lit.int .i64 k).wf = true)) (w : World) (h : CIs x c0 w cb s N) (ok : Ok s) (hN : N + 2 < 1099511627776) :
    Calls Tryz.prog 121 #[.pointer (some ⟨cb, 0, none⟩), (Value.int .i64 k)] w (TouchPost x c0 cb s N k w) := by
  by_cases hk : k ∈ s.once ∨ k ∈ s.often
  · exact touch_held x c0 cb s N k hok w h ok hN hk
  · cases hst : stuck s with
    | true => exact touch_stuck x c0 cb s N k hok w h ok hk hst
    | false => exact touch_miss x c0 cb s N k hok w h ok hN hk hst

end Go.Proofs.YtbgbomlmgkgkoaaGreat.arcI
