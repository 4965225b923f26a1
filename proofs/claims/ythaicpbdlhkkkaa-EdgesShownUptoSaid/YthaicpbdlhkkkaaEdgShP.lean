/- Statement EdgesShown: what the law's walk takes: edges appended, same, the two Groups side by side. -/
import Derived.Test.YthaicpbdlhkkkaaEdgDoc
import Derived.Test.YthaicpbdlhkkkaaEdgDGr
namespace Go.Proofs.Ythaicpbdlhkkkaa.edg
open Go.RowKit Go.Proofs.Ythaicpbdlhkkkaa.own Go.Proofs.Ythaicpbdlhkkkaa.so

theorem EdgIs.next {w W : World} {aT : Option Addr} {l : List (Nat × Nat)} (h : EdgIs w aT l) (k : Below w.heap.size w W) : EdgIs W aT l := by
  intro q hq
  obtain ⟨g, o, ha, hg, h0, h1, u⟩ := h q hq
  exact ⟨g, o, ha, Nat.lt_of_lt_of_le hg k.size, (k.cell (p := ⟨g, o + q * 2, none⟩) hg).trans h0, (k.cell (p := ⟨g, o + q * 2 + 1, none⟩) hg).trans h1, u⟩
theorem EdgIs.front {w : World} {aT : Option Addr} {l r : List (Nat × Nat)} (h : EdgIs w aT (l ++ r)) : EdgIs w aT l := by
  intro q hq
  obtain ⟨g, o, ha, hg, h0, h1, u⟩ := h q (by rw [List.length_append]; omega)
  rw [List.getElem_append_left hq] at h0 h1 u
  exact ⟨g, o, ha, hg, h0, h1, u⟩
theorem EdgIs.cells {w : World} {ad : Addr} {l : List (Nat × Nat)} (h : EdgIs w (some ad) l) (j : Nat) (u : Value) (hu : (edgeCells l)[j]? = some u) : w.cell? (ad.add j) = some u := by
  have hj : j < l.length * 2 := by
    obtain ⟨h1, _⟩ := List.getElem?_eq_some_iff.1 hu
    rwa [edgeCells_length] at h1
  obtain ⟨g, o, ha, hg, h0, h1, _⟩ := h (j / 2) (by omega)
  injection ha with ha
  subst ha
  rw [Addr.add_lit]
  have e := edge_at l (j / 2) (by omega)
  by_cases p : j % 2 = 0
  · have ej : j / 2 * 2 = j := by omega
    rw [ej] at e h0
    rw [h0, ← e.1, hu]
  · have ej : j / 2 * 2 + 1 = j := by omega
    rw [show o + j / 2 * 2 + 1 = o + j by omega] at h1
    rw [ej] at e
    rw [h1, ← e.2, hu]
theorem edgeCells_one (es : List (Nat × Nat)) : ∀ u ∈ edgeCells es, u.oneCell' = true := by
  intro u hu
  obtain ⟨t, _, ht⟩ := List.mem_flatMap.1 hu
  simp only [List.mem_cons, List.not_mem_nil, or_false] at ht
  rcases ht with rfl | rfl <;> rfl
/-- append of edges, few or none -/
theorem run_append_edges (w : World) (ty : TypeId) (base : Nat) (v : Value) (m : List (Nat × Nat)) (hown : w.ownsRow base 37 2 v m.length (edgeCells m)) (ao : Option Addr) (es : List (Nat × Nat)) (c : Nat) (hE : EdgIs w ao es) (hnone : ao = none → es.length = 0 ∧ c = 0)
    (hl : m.length + es.length ≤ 1099511627776) (hbase : base ≤ w.heap.size) :
    ∃ v' w', (Builtin.append_ #[22, 22] ty #[v, .slice ao es.length c]).run Try.prog w = .ok v' w' ∧ w'.ownsRow base 37 2 v' (m ++ es).length (edgeCells (m ++ es)) ∧ w.grownBy w' v.ownBlock := by
  obtain ⟨i0, hi, hz0, hz1, hz2⟩ := info_parts Try.infoEdge
  obtain ⟨av, cv, hv, hle⟩ := own_slice hown
  have e : edgeCells (m ++ es) = edgeCells m ++ edgeCells es := by unfold edgeCells; rw [List.flatMap_append]
  by_cases hm : es.length = 0
  · have hs : Src Try.prog i0.size 22 (.slice ao es.length c) 0 [] w := by
      rw [hm]
      cases ao with
      | none => rw [(hnone rfl).2]; exact Src.ofNil w Try.underlying22 0
      | some ad => exact Src.ofSlice w Try.underlying22 ad 0 c [] (by simp) (fun j u hu => by simp at hu) (fun u hu => by cases hu)
    have he : es = [] := List.eq_nil_of_length_eq_zero hm
    subst hv
    refine ⟨_, w, run_append_nothing w _ _ ty _ i0 Try.underlying22 hi av _ cv hle _ hs, ?_, ⟨rfl, rfl, rfl, Nat.le_refl _, fun _ _ _ => rfl⟩⟩
    rw [he, List.append_nil]
    exact hown
  · cases ao with
    | none => exact absurd (hnone rfl).1 hm
    | some ad =>
      obtain ⟨v', w', hr, h2, h3, _⟩ := run_append_own (P := Try.prog) w base 22 ty 37 i0 _ 2 8 Try.underlying22 hi hz0 hz1 hz2 rfl (by decide) v m.length (edgeCells m) hown ad es.length c (edgeCells es) (edgeCells_length es) hE.cells (edgeCells_one es) (by simp only [maxLen]; omega) (by omega) hbase
      refine ⟨v', w', hr, ?_, h3⟩
      rw [e, List.length_append]
      exact h2
theorem wpList_edges (w : World) {ops : Array Oper} {rest : List Oper} {o : Oper} {a : Act} {Q : Exit → Act → World → Prop} (hgd : o.guard = none) (s x : Operand)
    (ho : o.op = .call { callee := .builtin .append, args := #[s, x], argTypes := #[22, 22] }) (base : Nat) (v : Value) (m : List (Nat × Nat)) (hs : a.eval s = v) (hown : w.ownsRow base 37 2 v m.length (edgeCells m))
    (ao : Option Addr) (n : Nat) (es : List (Nat × Nat)) (hn : es.length = n) (c : Nat) (hx : a.eval x = .slice ao n c) (hE : EdgIs w ao es) (hnone : ao = none → es.length = 0 ∧ c = 0) (hl : m.length + es.length ≤ 1099511627776) (hbase : base ≤ w.heap.size)
    (h : ∀ v' w', w'.ownsRow base 37 2 v' (m ++ es).length (edgeCells (m ++ es)) → w.grownBy w' v.ownBlock → wpList Try.prog ops Q rest (a.put o.dst v') w') : wpList Try.prog ops Q (o :: rest) a w := by
  subst hn
  refine wpList_plain hgd fun _ hK => ?_
  obtain ⟨v', w', hr, h2, h3⟩ := run_append_edges w o.type base v m hown ao es c hE hnone hl hbase
  unfold Oper.wp execOp
  simp only [ho, resolve, invoke, builtin, Sem.run_bind, Sem.run_pure, Result.andThen_ok, List.map_toArray, List.map_cons, List.map_nil, hs, hx, hr]
  exact hK _ _ (h v' w' h2 h3)

/-! ### same, wherever the edges lie -/
set_option maxHeartbeats 1600000 in
theorem same_far (l : List (Nat × Nat)) (g o g' o' cap cap' : Nat) (w : World) (hm : l.length ≤ 9223372036854775807)
    (HA : Hid (∀ k (h : k < l.length), w.cell? ⟨g, o + k * 2, none⟩ = some (.int .u32 l[k].1) ∧ w.cell? ⟨g, o + k * 2 + 1, none⟩ = some (.int .u32 l[k].2)))
    (HB : Hid (∀ k (h : k < l.length), w.cell? ⟨g', o' + k * 2, none⟩ = some (.int .u32 l[k].1) ∧ w.cell? ⟨g', o' + k * 2 + 1, none⟩ = some (.int .u32 l[k].2))) :
    Calls Try.prog 12 #[.slice (some ⟨g, o, none⟩) l.length cap, .slice (some ⟨g', o', none⟩) l.length cap'] w fun e w' => e = .returned (.bool true) ∧ ∃ m, w.drewN m = w' := by
  go_enter Try.func12, Try.ntmps12
  go_wp2_with fail
  go_loopw [5] (fun i wr => ∃ k m : Nat, k ≤ l.length ∧ i = .int .i64 k ∧ wr = w.drewN m) (fun i _ => l.length - (intOf i).toNat)
  case atStart => exact ⟨0, 0, Nat.zero_le _, rfl, rfl⟩
  case round =>
    obtain ⟨k, m, hk, rfl, rfl⟩ := hrel
    by_cases hlt : k < l.length
    · obtain ⟨a1, a2⟩ := HA.out k hlt
      obtain ⟨b1, b2⟩ := HB.out k hlt
      go_wp2_with fail
      go_quiet (fail)
      go_wp2_with fail
      go_roundw
      case rel => exact ⟨k + 1, m + nq, by omega, by go_num, rfl⟩
      case measure => simp [intOf]; omega
    · go_wp2_with fail
      go_ret
      exact ⟨rfl, m, rfl⟩
theorem EdgIs.far {w : World} {aT : Option Addr} {l : List (Nat × Nat)} (h : EdgIs w aT l) (h0 : 0 < l.length) : ∃ g o, aT = some ⟨g, o, none⟩ ∧ ∀ k (h : k < l.length), w.cell? ⟨g, o + k * 2, none⟩ = some (.int .u32 l[k].1) ∧ w.cell? ⟨g, o + k * 2 + 1, none⟩ = some (.int .u32 l[k].2) := by
  obtain ⟨g, o, ha, _⟩ := h 0 h0
  refine ⟨g, o, ha, fun k hk => ?_⟩
  obtain ⟨g2, o2, ha2, _, h0, h1, _⟩ := h k hk
  rw [ha] at ha2
  injection ha2 with e
  injection e with e1 e2
  subst e1 e2
  exact ⟨h0, h1⟩
theorem same_edg (l : List (Nat × Nat)) (a b : Option Addr) (c d : Nat) (w : World) (ha : EdgIs w a l) (hb : EdgIs w b l) (hm : l.length ≤ 9223372036854775807) :
    Calls Try.prog 12 #[.slice a l.length c, .slice b l.length d] w fun e w' => e = .returned (.bool true) ∧ ∃ m, w.drewN m = w' := by
  by_cases h0 : l.length = 0
  · rw [h0]
    exact (same_zero a b c d w).mono fun e w' hh => ⟨hh.1, 0, hh.2⟩
  · obtain ⟨g, o, rfl, h1⟩ := ha.far (by omega)
    obtain ⟨g', o', rfl, h2⟩ := hb.far (by omega)
    exact same_far l g o g' o' c d w hm (Lib.hid h1) (Lib.hid h2)

/-! ### the two Groups -/
/-- rows that are only read -/
def RD (w0 : World) (base : Nat) (a : Option Addr) (N : Nat) (L : Nat → List Int) (W : World) : Prop :=
  Below base w0 W ∧ base ≤ W.heap.size ∧ ∀ i, i < N → ∃ gb a2 c2, a = some ⟨gb, 0, none⟩ ∧ gb < W.heap.size ∧ W.cell? ⟨gb, i, none⟩ = some (.slice a2 (L i).length c2) ∧ ∀ j (hj : j < (L i).length), ∃ g, a2 = some ⟨g, 0, none⟩ ∧ g < W.heap.size ∧ W.cell? ⟨g, j, none⟩ = some (.int .u32 ((L i)[j]))
theorem RD.next {w0 W W2 : World} {base N : Nat} {a : Option Addr} {L : Nat → List Int} (h : RD w0 base a N L W) (k : Below W.heap.size W W2) : RD w0 base a N L W2 := by
  obtain ⟨h1, h2, h3⟩ := h
  refine ⟨h1.trans (k.mono h2), Nat.le_trans h2 k.size, fun i hi => ?_⟩
  obtain ⟨gb, a2, c2, ha, hg, hc, hr⟩ := h3 i hi
  refine ⟨gb, a2, c2, ha, Nat.lt_of_lt_of_le hg k.size, (k.cell (p := ⟨gb, i, none⟩) hg).trans hc, fun j hj => ?_⟩
  obtain ⟨g, e, hg2, hc2⟩ := hr j hj
  exact ⟨g, e, Nat.lt_of_lt_of_le hg2 k.size, (k.cell (p := ⟨g, j, none⟩) hg2).trans hc2⟩
theorem RD.none (w w' : World) (a : Option Addr) (L : Nat → List Int) (h : Below w.heap.size w w') : RD w w.heap.size a 0 L w' := ⟨h, h.size, fun i hi => by omega⟩
theorem RD.of {w w' : World} {gb N : Nat} {L : Nat → List Int} (h : GR w w.heap.size gb N L w') : RD w w.heap.size (some ⟨gb, 0, Option.none⟩) N L w' := by
  refine ⟨h.1, h.1.size, fun i hi => ?_⟩
  obtain ⟨a2, c2, hc, hr⟩ := h.look i hi
  refine ⟨gb, a2, c2, rfl, World.block_lt_of_cell? _ _ hc, hc, fun j hj => ?_⟩
  obtain ⟨g, e, hc2⟩ := hr j hj
  exact ⟨g, e, World.block_lt_of_cell? _ _ hc2, hc2⟩
set_option maxRecDepth 100000 in
theorem dgroup_none (w : World) (aT : Option Addr) (k c : Nat) (n : Int) (hn : n < 0 ∨ 65536 < n) :
    Calls Try.prog 21 #[.int .i64 n, .slice aT k c] w fun e w' => e = .returned (.tuple #[.slice none 0 0, .int .i64 1]) ∧ w = w' := by
  by_cases h0 : n < 0
  · go_enter Try.func21, Try.ntmps21
    go_wp2_with fail
    go_ret2
    exact ⟨rfl, rfl⟩
  · have h1 : (65536 : Int) < n := by omega
    clear hn
    go_enter Try.func21, Try.ntmps21
    go_wp2_with fail
    go_ret2
    exact ⟨rfl, rfl⟩
/-- Group by the program and by the document: one answer -/
theorem groups_same (l : List (Nat × Nat)) (n : Int) (hlen : l.length ≤ 1073741824) : ∃ (N : Nat) (code : Int), N ≤ 65536 ∧
    (∀ w aT c, EdgIs w aT l → Calls Try.prog 20 #[.int .i64 n, .slice aT l.length c] w fun e w' => ∃ a, e = .returned (.tuple #[.slice a N N, .int .i64 code]) ∧ RD w w.heap.size a N (fun v => fin (grp l v)) w') ∧
    (∀ w aT c, EdgIs w aT l → Calls Try.prog 21 #[.int .i64 n, .slice aT l.length c] w fun e w' => ∃ a, e = .returned (.tuple #[.slice a N N, .int .i64 code]) ∧ RD w w.heap.size a N (fun v => fin (grp l v)) w') := by
  by_cases hr : n < 0 ∨ 65536 < n
  · refine ⟨0, 1, by decide, fun w aT c h => ?_, fun w aT c h => ?_⟩
    · refine (group_none w aT l.length c n hr).mono ?_
      rintro e w' ⟨rfl, rfl⟩
      exact ⟨_, rfl, RD.none _ _ _ _ (Below.refl _ _)⟩
    · refine (dgroup_none w aT l.length c n hr).mono ?_
      rintro e w' ⟨rfl, rfl⟩
      exact ⟨_, rfl, RD.none _ _ _ _ (Below.refl _ _)⟩
  · obtain ⟨k, rfl⟩ := Int.eq_ofNat_of_zero_le (show 0 ≤ n by omega)
    by_cases hg : ∀ t ∈ l, t.1 < k ∧ t.2 < k
    · refine ⟨k, 0, by omega, fun w aT c h => ?_, fun w aT c h => ?_⟩
      · refine (group_all w aT l c k (by omega) h (by omega)).mono ?_
        rintro e w' (⟨_, gb, rfl, hG⟩ | ⟨hno, _⟩)
        · exact ⟨_, rfl, RD.of hG⟩
        · exact absurd hg hno
      · refine (dgroup_all w aT l c k (by omega) h hlen).mono ?_
        rintro e w' (⟨_, gb, rfl, hG⟩ | ⟨hno, _⟩)
        · exact ⟨_, rfl, RD.of hG⟩
        · exact absurd hg hno
    · refine ⟨0, 1, by decide, fun w aT c h => ?_, fun w aT c h => ?_⟩
      · refine (group_all w aT l c k (by omega) h (by omega)).mono ?_
        rintro e w' (⟨hyes, _⟩ | ⟨_, rfl, hB⟩)
        · exact absurd hyes hg
        · exact ⟨_, rfl, RD.none _ _ _ _ hB⟩
      · refine (dgroup_all w aT l c k (by omega) h hlen).mono ?_
        rintro e w' (⟨hyes, _⟩ | ⟨_, rfl, hB⟩)
        · exact absurd hyes hg
        · exact ⟨_, rfl, RD.none _ _ _ _ hB⟩
end Go.Proofs.Ythaicpbdlhkkkaa.edg
