/- The document's bits (wattleref01): a writer: Fits, Put. -/
import Derived.Deep.RegionLaw
import Derived.Test.YthaicpbdlhkkkaaEfH
namespace Go.Proofs.Ythaicpbdlhkkkaa.bit
open Go.RowKit Go.Proofs.Ythaicpbdlhkkkaa.own

theorem wp_append_row {P : Program} (w : World) {o : Oper} {a : Act} {K : Act → World → Prop} {Q : Exit → Act → World → Prop} {c : Bool} {E : Prop} (hc : c = true) (s x : Operand) (t : TypeId)
    (ho : o.op = .call { callee := .builtin .append, args := #[s, x], argTypes := #[t, t] })
    (base base' : Nat) (e : TypeId) (i : TypeInfo) (z : Value) (bytes : Nat) (ht : P.underlying t = some (.slice e)) (hi : P.info? e = some i) (hz : i.zero = some z)
    (hsize : i.size = 1) (hby : i.bytes = bytes) (hzs : z.cells.size = 1)
    (v : Value) (n : Nat) (xs : List Value) (hs : a.eval s = v) (hown : w.ownsRow base e 1 v n xs) (u : Value) (m : Nat) (ys : List Value) (hx : a.eval x = u) (hsrc : w.ownsRow base' e 1 u m ys) (h1 : ∀ y ∈ ys, y.oneCell' = true)
    (h63 : n + m ≤ maxLen) (hbytes : (n + m) * bytes ≤ 140737488355328) (hbase : base ≤ w.heap.size)
    (h : ∀ v' w', w'.ownsRow base e 1 v' (n + m) (xs ++ ys) → w.grownBy w' v.ownBlock → (v'.ownBlock = v.ownBlock ∨ v'.ownBlock = some w.heap.size) → K (a.put o.dst v') w') :
    if c = true then Oper.wp P o a w K Q else E := by
  rw [if_pos hc]
  obtain ⟨v', w', hr, h2, h3, h4⟩ := run_append_row (P := P) w base base' t o.type e i z bytes ht hi hz hsize hby hzs v n xs hown u m ys hsrc h1 h63 hbytes hbase
  unfold Oper.wp execOp
  simp only [ho, resolve, invoke, builtin, Sem.run_bind, Sem.run_pure, Result.andThen_ok, List.map_toArray, List.map_cons, List.map_nil, hs, hx, hr]
  exact h v' w' h2 h3 h4

theorem Fits_any (v n : Nat) (w : World) (hn : n ≤ 64) (hv : v < 2 ^ n) :
    Calls Try.prog 101 #[.int .u64 (v : Int), .int .i64 (n : Int)] w fun e w' => e = .returned (.bool true) ∧ Below w.heap.size w w' := by
  by_cases h : n = 64
  · subst h
    go_enter Try.func101, Try.ntmps101
    go_wp2_with fail
    go_ret
    exact ⟨rfl, Below.refl _ _⟩
  · have R : ((v : Int) / 2 ^ n) = 0 := by
      have e : ((v : Int) / 2 ^ n) = ((v / 2 ^ n : Nat) : Int) := by simp
      rw [e, Nat.div_eq_of_lt hv]; rfl
    have h1 : (n : Int) < 64 := by omega
    have h2 : ((n : Int) == 64) = false := beq_eq_false_iff_ne.2 (by omega)
    clear hv
    go_enter Try.func101, Try.ntmps101
    go_wp2_with fail
    go_ret
    exact ⟨rfl, Below.refl _ _⟩

/-- the document's writer, its bits; its block and its row bear the colour c -/
def DW (x : Nat → Nat) (c : Nat) (w : World) (wb : Nat) (l : Bits) : Prop :=
  ∃ v, w.heap[wb]? = some (.cells #[v] 128 (0, 0)) ∧ x wb = c ∧ w.ownsRow 0 4 1 v l.length (bls l) ∧
    (∀ g, v.ownBlock = some g → x g = c ∧ g ≠ wb) ∧ l.length ≤ 134217728
theorem DW.frame {x x' : Nat → Nat} {C : Nat → Prop} {c : Nat} {w w' : World} {wb : Nat} {l : Bits} (h : DW x c w wb l) (hf : Fr x x' C w w') (hC : ¬ C c) : DW x' c w' wb l := by
  obtain ⟨v, h0, hx, ho, hg, hl⟩ := h
  have hlt := lt_of_block h0
  refine ⟨v, (hf.old wb hlt (by rw [hx]; exact hC)).trans h0, by rw [hf.col wb hlt]; exact hx, ⟨ho.1, ?_⟩, fun g e => ?_, hl⟩
  · rcases ho.2 with h2 | ⟨g, cap, cur, hv, hb, hcell, r⟩
    · exact .inl h2
    · have he : v.ownBlock = some g := by rw [hv]; rfl
      exact .inr ⟨g, cap, cur, hv, hb, (hf.old g (lt_of_block hcell) (by rw [(hg g he).1]; exact hC)).trans hcell, r⟩
  · have := ho.lt g e
    exact ⟨by rw [hf.col g this.2]; exact (hg g e).1, (hg g e).2⟩
theorem DW.below {x : Nat → Nat} {c : Nat} {w w' : World} {wb : Nat} {l : Bits} (h : DW x c w wb l) (hb : Below w.heap.size w w') : DW (paint x w.heap.size c) c w' wb l := by
  obtain ⟨v, h0, hx, ho, hg, hl⟩ := h
  have hlt := lt_of_block h0
  refine ⟨v, (hb.block wb hlt).trans h0, by rw [paint_old hlt]; exact hx, own_below ho hb, fun g e => ?_, hl⟩
  have := ho.lt g e
  exact ⟨by rw [paint_old this.2]; exact (hg g e).1, (hg g e).2⟩
theorem row_upon {x : Nat → Nat} {c : Nat} {w w1 w2 : World} {wb n : Nat} {vw v2 : Value} {ys : List Value} {T : TypeId} {e : TypeId} (g0 : w.heap[wb]? = some (.cells #[vw] T (0, 0))) (gx : x wb = c)
    (gg : ∀ g, vw.ownBlock = some g → x g = c ∧ g ≠ wb) (hb1 : Below w.heap.size w w1) (hown : w2.ownsRow 0 e 1 v2 n ys) (hg : w1.grownBy w2 vw.ownBlock) (hw : v2.ownBlock = vw.ownBlock ∨ v2.ownBlock = some w1.heap.size) :
    ∃ x2, Fr x x2 (fun e => e = c) w (w2.setCell ⟨wb, 0, none⟩ v2) ∧ (w2.setCell ⟨wb, 0, none⟩ v2).heap[wb]? = some (.cells #[v2] T (0, 0)) ∧ x2 wb = c ∧ (w2.setCell ⟨wb, 0, none⟩ v2).ownsRow 0 e 1 v2 n ys ∧ ∀ g, v2.ownBlock = some g → x2 g = c ∧ g ≠ wb := by
  have hlt := lt_of_block g0
  have k0 : Keeps w w1 (fun b => vw.ownBlock = some b) := ⟨hb1.os, hb1.tape, hb1.output, hb1.size, fun b hb _ => hb1.block b hb⟩
  have kp : Keeps w w2 (fun b => vw.ownBlock = some b) := k0.grown hg (fun k hk => .inl hk)
  have kq : Keeps w (w2.setCell ⟨wb, 0, none⟩ v2) (fun b => vw.ownBlock = some b ∨ b = wb) :=
    Keeps.setCell (S := fun b => vw.ownBlock = some b ∨ b = wb) ⟨kp.os, kp.tape, kp.output, kp.size, fun b hb hS => kp.block b hb (fun h => hS (.inl h))⟩ (.inl (.inr rfl)) v2
  have hwb : w2.heap[wb]? = some (.cells #[vw] T (0, 0)) := (kp.block wb hlt (fun h => (gg wb h).2 rfl)).trans g0
  have hz := hb1.size
  have hne : ∀ g, v2.ownBlock = some g → g ≠ wb := fun g hg2 => by
    rcases hw with e | e
    · exact (gg g (e ▸ hg2)).2
    · rw [e] at hg2; injection hg2 with hg2; omega
  refine ⟨paint x w.heap.size c, kq.fr rfl (fun b _ hS => ?_), ?_, by rw [paint_old hlt]; exact gx, ⟨hown.1, ?_⟩, fun g hg2 => ⟨?_, hne g hg2⟩⟩
  · rcases hS with h | h
    · exact (gg b h).1
    · rw [h]; exact gx
  · rw [heap_setCell_same w2 wb 0 _ _ _ hwb]
    rfl
  · rcases hown.2 with h2 | ⟨g, cap, cur, hv, hb, hcell, r⟩
    · exact .inl h2
    · exact .inr ⟨g, cap, cur, hv, hb, (Below.heap_setCell w2 _ _ g (hne g (by rw [hv]; rfl))).trans hcell, r⟩
  · rcases hw with e | e
    · have h2 := e ▸ hg2
      have h3 := gg g h2
      by_cases hgl : g < w.heap.size
      · rw [paint_old hgl]; exact h3.1
      · rw [paint_new (by omega)]
    · rw [e] at hg2; injection hg2 with hg2
      rw [paint_new (by omega)]

theorem row_stays {x : Nat → Nat} {c : Nat} {w w1 w2 : World} {wb : Nat} {vw : Value} {T : TypeId} (g0 : w.heap[wb]? = some (.cells #[vw] T (0, 0)))
    (gg : ∀ g, vw.ownBlock = some g → x g = c ∧ g ≠ wb) (hb1 : Below w.heap.size w w1) (hg : w1.grownBy w2 vw.ownBlock) : w2.heap[wb]? = some (.cells #[vw] T (0, 0)) := by
  have hlt := lt_of_block g0
  have k0 : Keeps w w1 (fun b => vw.ownBlock = some b) := ⟨hb1.os, hb1.tape, hb1.output, hb1.size, fun b hb _ => hb1.block b hb⟩
  have kp : Keeps w w2 (fun b => vw.ownBlock = some b) := k0.grown hg (fun k hk => .inl hk)
  exact (kp.block wb hlt (fun h => (gg wb h).2 rfl)).trans g0

set_option maxRecDepth 100000 in
set_option maxHeartbeats 1600000 in
theorem dput_any (x : Nat → Nat) (c : Nat) (w : World) (wb : Nat) (l : Bits) (v n : Nat) (hv : v < 2 ^ n) (hn : n ≤ 64) (h : DW x c w wb l) :
    Calls Try.prog 83 #[.pointer (some ⟨wb, 0, none⟩), .int .u64 (v : Int), .int .i64 (n : Int)] w fun e w' => (∃ k, e = .returned (.int .i64 k)) ∧ ∃ x', Fr x x' (fun e => e = c) w w' ∧ DW x' c w' wb (if l.length + n ≤ 134217728 then l ++ ofN n v else l) := by
  obtain ⟨i0, hi, hz0, hz1, hz2⟩ := info_parts Try.infoBool
  have HD := Lib.hid h
  obtain ⟨v0, h0, hx, ho, hg, hl⟩ := h
  have c0 : w.cell? ⟨wb, 0, none⟩ = some v0 := by rw [cell_of_row w wb _ _ _ _ h0]; rfl
  have FI := Lib.hid (fun W => Fits_any v n W hn hv)
  have hv64 : v < 18446744073709551616 := Nat.lt_of_lt_of_le hv (by
    calc 2 ^ n ≤ 2 ^ 64 := Nat.pow_le_pow_right (by decide) hn
      _ = 18446744073709551616 := by decide)
  have OF := Lib.hid (fun W => Of_any n v hn hv64 W)
  obtain ⟨a0, cap0, hsl⟩ := own_shape ho
  obtain ⟨ll, hll⟩ : ∃ k, l.length = k := ⟨_, rfl⟩
  have HLL := Lib.hid hll
  rw [hll] at hl hsl ho ⊢
  have H0 := Lib.hid h0
  have HX := Lib.hid hx
  have HO := Lib.hid ho
  have HG := Lib.hid hg
  clear hv h0 hx ho hg hll
  have i1 : ¬ (n : Int) < 0 := by omega
  have i2 : ¬ (64 : Int) < (n : Int) := by omega
  have hw : IntKind.i64.wrap ((134217728 : Int) - (ll : Int)) = 134217728 - (ll : Int) := IntWalk.i64_in _ (by omega)
  by_cases hfit : ll + n ≤ 134217728
  · rw [if_pos hfit]
    have i3 : ¬ (134217728 : Int) - (ll : Int) < (n : Int) := by omega
    subst hsl
    go_enter Try.func83, Try.ntmps83
    go_wp2_with fail
    refine (FI.out _).mono ?_
    rintro e w1 ⟨rfl, k1⟩
    have c1 : w1.cell? ⟨wb, 0, none⟩ = some (.slice a0 ll cap0) := (k1.cell (World.block_lt_of_cell? _ _ c0)).trans c0
    go_upto_region 5 with fail
    go_region_law (first
        | (go_simp; go_at_call 102; refine (OF.out _).mono ?_; rintro e w2 ⟨v2, rfl, own2, k2⟩; have k3 : Below w.heap.size w w2 := k1.trans ((show Below w1.heap.size w1 w2 from ⟨k2.os, k2.tape, k2.output, k2.size, k2.block⟩).mono k1.size); have c2 : w2.cell? ⟨wb, 0, none⟩ = some (.slice a0 ll cap0) := (k3.cell (World.block_lt_of_cell? _ _ c0)).trans c0; have own1 := own_below HO.out k3; rw [ofN_length] at own2; dsimp only)
        | (refine wp_append_row _ (by rfl) (.tmp 31) (.tmp 34) 104 rfl 0 _ 4 i0 (.bool false) 1 Try.underlying104 hi hz0 hz1 hz2 rfl _ ll _ rfl own1 _ n _ rfl own2 (bls_one _) (by simp only [maxLen]; omega) (by omega) (Nat.zero_le _) ?_; intro v3 w3 own3 hg3 hw3; have r3 := row_stays H0.out HG.out k3 hg3; have c3 : w3.cell? ⟨wb, 0, none⟩ = some (.slice a0 ll cap0) := (by rw [cell_of_row w3 wb _ _ _ _ r3]; rfl); have f3 : w3.frozen? ⟨wb, 0, none⟩ = false := frozen_of_row w3 wb 0 _ _ r3; clear r3; have U3 := Lib.hid (row_upon H0.out HX.out HG.out k3 own3 hg3 hw3); obtain ⟨a3, cap3, rfl⟩ := own_shape own3; clear own3 hg3 hw3))
    all_goals
      go_wp2_with fail
      go_ret
      obtain ⟨x3, u1, u2, u3, u4, u5⟩ := U3.out
      rw [bls_append] at u4
      exact ⟨⟨_, rfl⟩, x3, u1, _, u2, u3, by rw [List.length_append, ofN_length, HLL.out]; exact u4, u5, by rw [List.length_append, ofN_length, HLL.out]; exact hfit⟩
  · rw [if_neg hfit]
    have i3 : (134217728 : Int) - (ll : Int) < (n : Int) := by omega
    subst hsl
    go_enter Try.func83, Try.ntmps83
    go_wp2_with fail
    refine (FI.out _).mono ?_
    rintro e w1 ⟨rfl, k1⟩
    have c1 : w1.cell? ⟨wb, 0, none⟩ = some (.slice a0 ll cap0) := (k1.cell (World.block_lt_of_cell? _ _ c0)).trans c0
    go_wp2_with fail
    go_ret
    refine ⟨⟨_, rfl⟩, paint x w.heap.size c, Fr.of_below k1 rfl, ?_⟩
    exact DW.below HD.out k1
end Go.Proofs.Ythaicpbdlhkkkaa.bit
