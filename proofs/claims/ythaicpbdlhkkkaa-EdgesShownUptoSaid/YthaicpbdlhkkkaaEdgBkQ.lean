/- Statement EdgesBack: a line's beginning; what came in; edges of the call's own. -/
import Derived.Test.YthaicpbdlhkkkaaEdgBkP
namespace Go.Proofs.Ythaicpbdlhkkkaa.edg
open Go.RowKit Go.Proofs.Ythaicpbdlhkkkaa.own Go.Proofs.Ythaicpbdlhkkkaa.so

theorem plain_stop (S : B) (i : Nat) (hi : i ≤ S.length) (h100 : i ≤ 100) (hb : ∀ j, j < i → S[j]? ≠ some 10) (hs : i = S.length ∨ i = 100 ∨ S[i]? = some 10) : plainS S = S.take i := by
  unfold plainS
  have e : S.take 100 = S.take i ++ (S.take 100).drop i := by
    have h1 : (S.take 100).take i = S.take i := by rw [List.take_take]; congr 1; omega
    rw [← h1, List.take_append_drop]
  rw [e, List.takeWhile_append_of_pos]
  · have : ((S.take 100).drop i).takeWhile (fun c => c != 10) = [] := by
      rcases hs with h | h | h
      · rw [List.drop_eq_nil_of_le (by rw [List.length_take]; omega)]; rfl
      · rw [List.drop_eq_nil_of_le (by rw [List.length_take]; omega)]; rfl
      · obtain ⟨hl, he⟩ := List.getElem?_eq_some_iff.1 h
        by_cases h2 : i = 100
        · rw [List.drop_eq_nil_of_le (by rw [List.length_take]; omega)]; rfl
        · have hlt : i < (S.take 100).length := by rw [List.length_take]; omega
          rw [List.drop_eq_getElem_cons hlt, List.takeWhile_cons]
          have : (S.take 100)[i] = 10 := by rw [List.getElem_take]; exact he
          rw [this]
          rfl
    rw [this, List.append_nil]
  · intro c hc
    obtain ⟨j, hj, rfl⟩ := List.getElem_of_mem hc
    rw [List.length_take] at hj
    have h := hb j (by omega)
    rw [List.getElem?_eq_getElem (by omega)] at h
    rw [List.getElem_take]
    simp only [bne_iff_ne, ne_eq]
    intro e
    exact h (by rw [e])

theorem toList_at (s : ByteArray) (i : Nat) (h : i < s.size) : s.data.toList[i]? = some s[i] := by
  rw [List.getElem?_eq_getElem (by simpa using h)]
  rfl

set_option maxRecDepth 100000 in
set_option maxHeartbeats 1600000 in
theorem plain_any (s : ByteArray) (w : World) :
    Calls Try.prog 23 #[.string s] w fun e w' => ∃ r : ByteArray, e = .returned (.string r) ∧ r.data.toList = plainS s.data.toList ∧ w = w' := by
  go_enter Try.func23, Try.ntmps23
  go_wp2_with fail
  go_loopw [3] (fun vi wr => ∃ i : Nat, vi = .int .i64 (i : Int) ∧ i ≤ s.size ∧ i ≤ 100 ∧ (∀ j, j < i → s.data.toList[j]? ≠ some 10) ∧ w = wr) (fun vi _ => 100 - (intOf vi).toNat)
  case atStart => exact ⟨0, rfl, Nat.zero_le _, by decide, fun j hj => absurd hj (Nat.not_lt_zero _), rfl⟩
  case round =>
    obtain ⟨i, rfl, hi, h100, hb, rfl⟩ := hrel
    have HB := Lib.hid hb
    have stop : (i = s.size ∨ i = 100 ∨ s.data.toList[i]? = some 10) → (s.extract 0 i).data.toList = plainS s.data.toList := fun h => by
      rw [plain_stop s.data.toList i (by simpa using hi) h100 hb (by simpa using h), Lib.extract_data]
      simp
    have HS := Lib.hid stop
    clear hb stop
    by_cases h1 : i < s.size
    · by_cases h2 : i < 100
      · by_cases h3 : s[i] = 10
        · have R := Lib.hid (HS.out (.inr (.inr (by rw [toList_at s i h1, h3]))))
          have i1 : (i : Int) < (s.size : Int) := by omega
          have i2 : (i : Int) < 100 := by omega
          have i3 : (i : Int) ≤ (s.size : Int) := by omega
          have e3 : s[i].toNat = 10 := by rw [h3]; rfl
          have HH := Lib.hid h3
          clear h3
          go_wp2_with fail
          go_ret
          exact ⟨_, rfl, R.out, rfl⟩
        · have i1 : (i : Int) < (s.size : Int) := by omega
          have i2 : (i : Int) < 100 := by omega
          have e3 : ¬ s[i].toNat = 10 := fun e => h3 (UInt8.toNat_inj.1 e)
          have HN : Hid (∀ j, j < i + 1 → s.data.toList[j]? ≠ some 10) := Lib.hid (fun j hj => by
            by_cases e : j = i
            · subst e
              rw [toList_at s j h1]
              intro e2
              injection e2 with e2
              exact h3 e2
            · exact HB.out j (by omega))
          clear h3
          go_wp2_with fail
          go_roundw
          case rel => exact ⟨i + 1, by go_num, by omega, by omega, HN.out, trivial⟩
          case measure => simp [intOf]; omega
      · have R := Lib.hid (HS.out (.inr (.inl (by omega))))
        have i3 : (i : Int) ≤ (s.size : Int) := by omega
        have i1 : (i : Int) < (s.size : Int) := by omega
        have i2 : ¬ (i : Int) < 100 := by omega
        go_wp2_with fail
        go_ret
        exact ⟨_, rfl, R.out, rfl⟩
    · have R := Lib.hid (HS.out (.inl (by omega)))
      have i3 : (i : Int) ≤ (s.size : Int) := by omega
      have i1 : ¬ (i : Int) < (s.size : Int) := by omega
      go_wp2_with fail
      go_ret
      exact ⟨_, rfl, R.out, rfl⟩

/-- texts that came in -/
def StrIs (w : World) (aT : Option Addr) (bs : List ByteArray) : Prop :=
  ∀ k (_ : k < bs.length), ∃ g o, aT = some ⟨g, o, none⟩ ∧ g < w.heap.size ∧ w.cell? ⟨g, o + k, none⟩ = some (.string bs[k]) ∧ bs[k].size ≤ 9223372036854775807
/-- edges of the call's own, beside what came in -/
def MS (w0 : World) (base : Nat) (m : List (Nat × Nat)) (v : Value) (W : World) : Prop := Below base w0 W ∧ base ≤ W.heap.size ∧ W.ownsRow base 37 2 v m.length (edgeCells m)
theorem MS.next {w0 W W2 : World} {base : Nat} {m : List (Nat × Nat)} {v : Value} (h : MS w0 base m v W) (k : Below W.heap.size W W2) : MS w0 base m v W2 :=
  ⟨h.1.trans (k.mono h.2.1), Nat.le_trans h.2.1 k.size, own_below h.2.2 k⟩
theorem MS.edges {w0 W : World} {base : Nat} {m : List (Nat × Nat)} {a : Option Addr} {c : Nat} (h : MS w0 base m (.slice a m.length c) W) (hu : ∀ t ∈ m, t.1 < 4294967296 ∧ t.2 < 4294967296) : EdgIs W a m := by
  intro k hk
  rcases h.2.2.2 with ⟨hv, h0⟩ | ⟨g, cap, cur, hv, hb, hg, _⟩
  · omega
  · injection hv with ha _ _
    subst ha
    have hc := cell_row (g := g) (n := m.length) (cap := c) h.2.2 rfl k hk
    have h2 := hu _ (List.getElem_mem hk)
    exact ⟨g, 0, rfl, lt_of_block hg, by simpa using hc.1, by simpa using hc.2, h2.1, h2.2⟩
/-- one of them alone -/
theorem MS.one {w0 W : World} {base : Nat} {m : List (Nat × Nat)} {a : Option Addr} {c : Nat} (h : MS w0 base m (.slice a m.length c) W) (hu : ∀ t ∈ m, t.1 < 4294967296 ∧ t.2 < 4294967296) (k : Nat) (hk : k < m.length) :
    ∃ g, a = some ⟨g, 0, none⟩ ∧ m.length ≤ c ∧ EdgIs W (some ⟨g, k * 2, none⟩) [m[k]] := by
  rcases h.2.2.2 with ⟨hv, h0⟩ | ⟨g, cap, cur, hv, hb, hg, hn, _⟩
  · omega
  · injection hv with ha _ hc
    subst ha hc
    have hc := cell_row (g := g) (n := m.length) (cap := c) h.2.2 rfl k hk
    have h2 := hu _ (List.getElem_mem hk)
    refine ⟨g, rfl, hn, fun j hj => ?_⟩
    have hj : j = 0 := by simpa using hj
    subst hj
    exact ⟨g, k * 2, rfl, lt_of_block hg, by simpa using hc.1, by simpa using hc.2, h2.1, h2.2⟩
theorem edgeCells_length : ∀ es : List (Nat × Nat), (edgeCells es).length = es.length * 2
  | [] => rfl
  | t :: r => by
    have e : edgeCells (t :: r) = [.int .u32 t.1, .int .u32 t.2] ++ edgeCells r := rfl
    rw [e, List.length_append, edgeCells_length r, List.length_cons, List.length_cons, List.length_cons, List.length_nil]
    omega
/-- edges are appended, as a step of a region that draws -/
theorem MS.add {w0 W : World} {base : Nat} {m : List (Nat × Nat)} {v : Value} {o : Oper} {a : Act} {K : Act → World → Prop} {Q : Exit → Act → World → Prop} {c : Bool} {E : Prop} (h : MS w0 base m v W) (hc : c = true) (s x : Operand)
    (ho : o.op = .call { callee := .builtin .append, args := #[s, x], argTypes := #[22, 22] }) (hs : a.eval s = v) (ad q cp : Nat) (es : List (Nat × Nat)) (hq : es.length = q) (hx : a.eval x = .slice (some ⟨ad, 0, none⟩) q cp) (hr : W.heap[ad]? = some (.cells (edgeCells es).toArray 37 (0, 0))) (hl : m.length ≤ 1099511627776) (hq2 : 0 < q ∧ q ≤ 2)
    (hK : ∀ v' w', MS w0 base (m ++ es) v' w' → K (a.put o.dst v') w') :
    if c = true then Oper.wp Try.prog o a W K Q else E := by
  subst hq
  rw [if_pos hc]
  obtain ⟨i0, hi, hz0, hz1, hz2⟩ := info_parts Try.infoEdge
  have hnews : ∀ j u, (edgeCells es)[j]? = some u → W.cell? ((⟨ad, 0, none⟩ : Addr).add j) = some u := fun j u hu => by
    rw [Addr.add_lit, cell_of_row W _ _ _ _ _ hr]
    simpa using hu
  have h1 : ∀ u ∈ edgeCells es, u.oneCell' = true := by
    intro u hu
    obtain ⟨t, _, ht⟩ := List.mem_flatMap.1 hu
    simp only [List.mem_cons, List.not_mem_nil, or_false] at ht
    rcases ht with rfl | rfl <;> rfl
  have hlen := edgeCells_length es
  obtain ⟨v', w', hr2, h2, h3, _⟩ := run_append_own (P := Try.prog) W base 22 o.type 37 i0 _ 2 8 Try.underlying22 hi hz0 hz1 hz2 rfl (by decide) v m.length (edgeCells m) h.2.2 ⟨ad, 0, none⟩ es.length cp (edgeCells es) hlen hnews h1 (by simp only [maxLen]; omega) (by omega) h.2.1
  unfold Oper.wp execOp
  simp only [ho, resolve, invoke, builtin, Sem.run_bind, Sem.run_pure, Result.andThen_ok, List.map_toArray, List.map_cons, List.map_nil, hs, hx, hr2]
  refine hK v' w' ⟨h.1.grown h3 h.2.1 (fun k hk => (h.2.2.lt k hk).1), Nat.le_trans h.2.1 h3.size, ?_⟩
  have e : edgeCells (m ++ es) = edgeCells m ++ edgeCells es := by unfold edgeCells; rw [List.flatMap_append]
  rw [e, List.length_append]
  exact h2
/-- two rows of edges of the call's own, apart -/
def MS2 (w0 : World) (base : Nat) (m : List (Nat × Nat)) (v : Value) (bk : List (Nat × Nat)) (vb : Value) (W : World) : Prop :=
  MS w0 base m v W ∧ W.ownsRow base 37 2 vb bk.length (edgeCells bk) ∧ ∀ b, vb.ownBlock = some b → v.ownBlock ≠ some b
theorem MS2.next {w0 W W2 : World} {base : Nat} {m bk : List (Nat × Nat)} {v vb : Value} (h : MS2 w0 base m v bk vb W) (k : Below W.heap.size W W2) : MS2 w0 base m v bk vb W2 :=
  ⟨h.1.next k, own_below h.2.1 k, h.2.2⟩
theorem MS2.add {w0 W : World} {base : Nat} {m bk : List (Nat × Nat)} {v vb : Value} {o : Oper} {a : Act} {K : Act → World → Prop} {Q : Exit → Act → World → Prop} {c : Bool} {E : Prop} (h : MS2 w0 base m v bk vb W) (hc : c = true) (s x : Operand)
    (ho : o.op = .call { callee := .builtin .append, args := #[s, x], argTypes := #[22, 22] }) (hs : a.eval s = vb) (ad q cp : Nat) (es : List (Nat × Nat)) (hq : es.length = q) (hx : a.eval x = .slice (some ⟨ad, 0, none⟩) q cp) (hr : W.heap[ad]? = some (.cells (edgeCells es).toArray 37 (0, 0))) (hl : bk.length ≤ 1099511627776) (hq2 : 0 < q ∧ q ≤ 2)
    (hK : ∀ v' w', MS2 w0 base m v (bk ++ es) v' w' → K (a.put o.dst v') w') :
    if c = true then Oper.wp Try.prog o a W K Q else E := by
  subst hq
  rw [if_pos hc]
  obtain ⟨hM, hB, hne⟩ := h
  obtain ⟨i0, hi, hz0, hz1, hz2⟩ := info_parts Try.infoEdge
  have hnews : ∀ j u, (edgeCells es)[j]? = some u → W.cell? ((⟨ad, 0, none⟩ : Addr).add j) = some u := fun j u hu => by
    rw [Addr.add_lit, cell_of_row W _ _ _ _ _ hr]
    simpa using hu
  have h1 : ∀ u ∈ edgeCells es, u.oneCell' = true := by
    intro u hu
    obtain ⟨t, _, ht⟩ := List.mem_flatMap.1 hu
    simp only [List.mem_cons, List.not_mem_nil, or_false] at ht
    rcases ht with rfl | rfl <;> rfl
  have hlen := edgeCells_length es
  obtain ⟨v', w', hr2, h2, h3, _⟩ := run_append_own (P := Try.prog) W base 22 o.type 37 i0 _ 2 8 Try.underlying22 hi hz0 hz1 hz2 rfl (by decide) vb bk.length (edgeCells bk) hB ⟨ad, 0, none⟩ es.length cp (edgeCells es) hlen hnews h1 (by simp only [maxLen]; omega) (by omega) hM.2.1
  have hat := append_where (P := Try.prog) W base 22 o.type 37 i0 _ 2 8 Try.underlying22 hi hz0 hz1 hz2 vb bk.length (edgeCells bk) hB ⟨ad, 0, none⟩ es.length cp (edgeCells es) hlen hnews h1 (by simp only [maxLen]; omega) (by omega) hq2.1 hr2
  unfold Oper.wp execOp
  simp only [ho, resolve, invoke, builtin, Sem.run_bind, Sem.run_pure, Result.andThen_ok, List.map_toArray, List.map_cons, List.map_nil, hs, hx, hr2]
  have e : edgeCells (bk ++ es) = edgeCells bk ++ edgeCells es := by unfold edgeCells; rw [List.flatMap_append]
  refine hK v' w' ⟨⟨hM.1.grown h3 hM.2.1 (fun k hk => (hB.lt k hk).1), Nat.le_trans hM.2.1 h3.size, hM.2.2.kept h3 ?_⟩, ?_, ?_⟩
  · rcases hv : v.ownBlock with _ | b
    · exact .inl rfl
    · exact .inr (fun e2 => hne b e2.symm hv)
  · rw [e, List.length_append]
    exact h2
  · intro b hb hv
    rcases hat with e2 | e2
    · rw [e2] at hb; exact hne b hb hv
    · rw [e2] at hb
      injection hb with hb
      have := (hM.2.2.lt b hv).2
      omega
/-- the edges from behind down to a place, each twice -/
def backP (m : List (Nat × Nat)) (j : Nat) : List (Nat × Nat) := (m.drop j).reverse.flatMap fun e => [e, e]
theorem backP_zero (m : List (Nat × Nat)) : backP m 0 = backL m := rfl
theorem backP_end (m : List (Nat × Nat)) : backP m m.length = [] := by simp [backP]
theorem backP_step (m : List (Nat × Nat)) (i : Nat) (h : i < m.length) : backP m i = backP m (i + 1) ++ [m[i], m[i]] := by
  unfold backP
  rw [List.drop_eq_getElem_cons h, List.reverse_cons, List.flatMap_append]
  simp
theorem backP_length (m : List (Nat × Nat)) (j : Nat) : (backP m j).length ≤ 2 * m.length := by
  have e : ∀ l : List (Nat × Nat), (l.flatMap fun e => [e, e]).length = 2 * l.length := by
    intro l
    induction l with
    | nil => rfl
    | cons t r ih => rw [List.flatMap_cons, List.length_append, ih]; simp only [List.length_cons, List.length_nil]; omega
  unfold backP
  rw [e, List.length_reverse, List.length_drop]
  omega
theorem drewN_add (W : World) (a b : Nat) : W.drewN (a + b) = (W.drewN a).drewN b := by simp [World.drewN, Nat.add_assoc]
theorem fin_length (xs : List Int) : (fin xs).length ≤ xs.length := by
  unfold fin cpt
  exact Nat.le_trans (compact_len _ _) (by rw [srt_length]; exact Nat.le_refl _)
/-- a row is read -/
theorem GR.look {w0 W : World} {base gb n : Nat} {L : Nat → List Int} (h : GR w0 base gb n L W) (i : Nat) (hi : i < n) :
    ∃ a c, W.cell? ⟨gb, i, none⟩ = some (.slice a (L i).length c) ∧ ∀ j (hj : j < (L i).length), ∃ g, a = some ⟨g, 0, none⟩ ∧ W.cell? ⟨g, j, none⟩ = some (.int .u32 ((L i)[j])) := by
  obtain ⟨_, _, vs, h3, h4, _⟩ := h
  have ho := (h4 i hi).1
  have hc := (cell_of_row W _ _ _ _ _ h3).trans (rowC_at n vs i hi)
  rcases ho.2 with ⟨hv, h0⟩ | ⟨g, cap, cur, hv, hb, hg, _⟩
  · exact ⟨none, 0, by rw [hc, hv, h0], fun j hj => by omega⟩
  · rw [hv] at ho
    refine ⟨_, _, by rw [hc, hv], fun j hj => ⟨g, rfl, ?_⟩⟩
    rw [ho.cellAt j (by omega)]
    simp [hj]
end Go.Proofs.Ythaicpbdlhkkkaa.edg
