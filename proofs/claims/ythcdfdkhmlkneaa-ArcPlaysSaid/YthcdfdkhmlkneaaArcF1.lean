/- Statement ArcPlays: the document's cache: lists of keys that are only read: in, Same, without, front. -/
import Derived.BigQuiet
import Derived.BigRegion
import Derived.Test.YthcdfdkhmlkneaaOwn2
import Derived.Test.YthcdfdkhmlkneaaArcCI
import Derived.Deep.Upon
import Derived.Deep.AppendSrc
namespace Go.Proofs.Ythcdfdkhmlkneaa.arcI
open Go.RowKit Go.Proofs.Ythcdfdkhmlkneaa.own

/-- a slice that reads as these keys, whoever owns it -/
def RO (w : World) (v : Value) (keys : List K) : Prop :=
  ∃ aT c, v = .slice aT keys.length c ∧ keys.length ≤ 1048576 ∧ ∀ k (_ : k < keys.length), ∃ g, aT = some ⟨g, 0, none⟩ ∧ g < w.heap.size ∧ w.cell? ⟨g, k, none⟩ = some (.int .i64 keys[k])

theorem drewN_add (w : World) (a b : Nat) : (w.drewN a).drewN b = w.drewN (a + b) := by
  unfold World.drewN; simp [Nat.add_assoc]

theorem in_any (w : World) (v : Value) (keys : List K) (x : K) (h : RO w v keys) :
    Calls Try.prog 77 #[v, .int .i64 x] w fun e w' => e = .returned (.int .i64 (idx keys x)) ∧ w = w' := by
  obtain ⟨aT, c, rfl, hle, hc⟩ := h
  have HC := Lib.hid hc
  clear hc
  go_enter Try.func77, Try.ntmps77
  go_wp2_with fail
  go_loop [5] (fun i => ∃ j : Nat, j ≤ keys.length ∧ i = .int .i64 j ∧ idx keys x = Lib.idxFrom (keys.drop j) x j) (fun i => keys.length - (intOf i).toNat)
  case atStart => exact ⟨0, Nat.zero_le _, rfl, by rw [← idxOf_eq]; rfl⟩
  case round =>
    obtain ⟨j, hj, rfl, hi⟩ := hrel
    have HI := Lib.hid hi
    clear hi
    by_cases hlt : j < keys.length
    · obtain ⟨g, rfl, _, hcell⟩ := HC.out j hlt
      have HD := Lib.hid (List.drop_eq_getElem_cons hlt)
      by_cases he : keys[j] = x
      · have R : Hid (idx keys x = j) := Lib.hid (by rw [HI.out, HD.out, Lib.idxFrom, if_pos he])
        have hb : (keys[j] == x) = true := beq_iff_eq.2 he
        clear he
        go_wp2_with fail
        go_ret
        exact ⟨by rw [R.out]; rfl, rfl⟩
      · have R : Hid (idx keys x = Lib.idxFrom (keys.drop (j + 1)) x (j + 1)) := Lib.hid (by rw [HI.out, HD.out, Lib.idxFrom, if_neg he])
        have hb : (keys[j] == x) = false := beq_eq_false_iff_ne.2 he
        clear he
        go_wp2_with fail
        go_round
        case rel => exact ⟨j + 1, by omega, by go_num, R.out⟩
        case measure => simp [intOf]; omega
    · have R : Hid (idx keys x = -1) := Lib.hid (by rw [HI.out, List.drop_eq_nil_of_le (by omega)]; rfl)
      go_wp2_with fail
      go_ret
      exact ⟨by rw [R.out]; rfl, rfl⟩

theorem Same_any (w : World) (v u : Value) (ks ls : List K) (h : RO w v ks) (h' : RO w u ls) :
    Calls Try.prog 53 #[v, u] w fun e w' => e = .returned (.bool (decide (ks = ls))) ∧ ∃ m, w' = w.drewN m := by
  obtain ⟨aT, c, rfl, hle, hc⟩ := h
  obtain ⟨bT, d, rfl, hle', hc'⟩ := h'
  have HC := Lib.hid hc
  have HC' := Lib.hid hc'
  clear hc hc'
  by_cases hl : ks.length = ls.length
  · obtain ⟨n, hn⟩ : ∃ n, ls.length = n := ⟨_, rfl⟩
    rw [hl, hn]
    rw [hn] at hl hle'
    go_enter Try.func53, Try.ntmps53
    go_wp2_with fail
    go_loopw [5] (fun i wr => ∃ j : Nat, j ≤ n ∧ i = .int .i64 j ∧ ks.take j = ls.take j ∧ ∃ m, wr = w.drewN m) (fun i _ => n - (intOf i).toNat)
    case atStart => exact ⟨0, Nat.zero_le _, rfl, rfl, 0, rfl⟩
    case round =>
      obtain ⟨j, hj, rfl, ht, m, rfl⟩ := hrel
      have HT := Lib.hid ht
      clear ht
      by_cases hlt : j < n
      · obtain ⟨g, rfl, _, hcell⟩ := HC.out j (by omega)
        obtain ⟨g', rfl, _, hcell'⟩ := HC'.out j (by omega)
        have HT1 := Lib.hid (List.take_succ_eq_append_getElem (show j < ks.length by omega))
        have HT2 := Lib.hid (List.take_succ_eq_append_getElem (show j < ls.length by omega))
        by_cases he : ks[j]'(by omega) = ls[j]'(by omega)
        · have R : Hid (ks.take (j + 1) = ls.take (j + 1)) := Lib.hid (by rw [HT1.out, HT2.out, HT.out, he])
          have hb : (ks[j]'(by omega) != ls[j]'(by omega)) = false := by rw [he]; simp
          clear he
          go_wp2_with fail
          go_quiet (fail)
          go_wp2_with fail
          go_roundw
          case rel => exact ⟨j + 1, by omega, by go_num, R.out, _, rfl⟩
          case measure => simp [intOf]; omega
        · have R : Hid (decide (ks = ls) = false) := Lib.hid (decide_eq_false (fun e => he (by subst e; rfl)))
          have hb : (ks[j]'(by omega) != ls[j]'(by omega)) = true := by simpa using he
          clear he
          go_wp2_with fail
          go_quiet (fail)
          go_wp2_with fail
          go_ret
          exact ⟨by rw [R.out]; rfl, _, drewN_add _ _ _⟩
      · have R : Hid (decide (ks = ls) = true) := Lib.hid (decide_eq_true (by have h := HT.out; rwa [List.take_of_length_le (by omega), List.take_of_length_le (by omega)] at h))
        go_wp2_with fail
        go_ret
        exact ⟨by rw [R.out]; rfl, m, rfl⟩
  · have R : Hid (decide (ks = ls) = false) := Lib.hid (decide_eq_false (fun e => hl (by rw [e])))
    have hb : (((ks.length : Nat) : Int) != (ls.length : Nat)) = true := by simp; omega
    go_enter Try.func53, Try.ntmps53
    go_wp2_with fail
    go_ret
    exact ⟨by rw [R.out]; rfl, 0, rfl⟩

/-- a list without a key -/
def cut1 (keys : List K) (x : K) : List K := keys.filter fun k => k != x
theorem cut1_erase {keys : List K} (h : keys.Nodup) (x : K) : cut1 keys x = keys.erase x := by
  unfold cut1
  rw [h.erase_eq_filter]
theorem cut1_take (keys : List K) (x : K) (j : Nat) (h : j < keys.length) : cut1 (keys.take (j + 1)) x = cut1 (keys.take j) x ++ (if keys[j] = x then [] else [keys[j]]) := by
  unfold cut1
  rw [List.take_succ_eq_append_getElem h, List.filter_append]
  by_cases e : keys[j] = x <;> simp [e]
theorem cut1_len (keys : List K) (x : K) : (cut1 keys x).length ≤ keys.length := List.length_filter_le _ _

theorem RO.below {w w' : World} {v : Value} {keys : List K} (h : RO w v keys) (hb : Below w.heap.size w w') : RO w' v keys := by
  obtain ⟨aT, c, rfl, hle, hc⟩ := h
  refine ⟨aT, c, rfl, hle, fun k hk => ?_⟩
  obtain ⟨g, e, hg, hcell⟩ := hc k hk
  exact ⟨g, e, Nat.lt_of_lt_of_le hg hb.size, by rw [World.cell?_of_block (w := w) (hb.block g hg)]; exact hcell⟩

theorem one_int (k : K) : ∀ u ∈ [Value.int .i64 k], u.oneCell' = true := by intro u hu; simp at hu; subst hu; rfl

set_option maxHeartbeats 1600000 in
theorem without_any (w : World) (v : Value) (keys : List K) (x : K) (h : RO w v keys) :
    Calls Try.prog 73 #[v, .int .i64 x] w fun e w' => ∃ v', e = .returned v' ∧ w'.ownsRow w.heap.size 3 1 v' (cut1 keys x).length (kvs (cut1 keys x)) ∧ Below w.heap.size w w' := by
  obtain ⟨i0, hi, hz0, hz1, hz2⟩ := info_parts Try.infoK
  obtain ⟨aT, c, rfl, hle, hc⟩ := h
  have HC := Lib.hid hc
  clear hc
  go_enter Try.func73, Try.ntmps73
  go_wp2_with fail
  go_loopw [5, 6] (fun u i wr => ∃ j : Nat, j ≤ keys.length ∧ i = .int .i64 j ∧ wr.ownsRow w.heap.size 3 1 u (cut1 (keys.take j) x).length (kvs (cut1 (keys.take j) x)) ∧ Below w.heap.size w wr) (fun _ i _ => keys.length - (intOf i).toNat)
  case atStart => exact ⟨0, Nat.zero_le _, rfl, World.ownsRow_nil _ _ _ _, Below.refl _ _⟩
  case round =>
    rename_i u _ wr
    obtain ⟨j, hj, rfl, hown, hbel⟩ := hrel
    have HB := Lib.hid hbel
    by_cases hlt : j < keys.length
    · obtain ⟨g, rfl, hg, hcell⟩ := HC.out j hlt
      have hcr : wr.cell? ⟨g, j, none⟩ = some (.int .i64 keys[j]) := by rw [World.cell?_of_block (w := w) (hbel.block g hg)]; exact hcell
      have HT := Lib.hid (cut1_take keys x j hlt)
      have hll : (cut1 (keys.take j) x).length ≤ 1048576 := Nat.le_trans (cut1_len _ _) (by simp; omega)
      generalize hq : cut1 (keys.take j) x = q at hown HT hll
      clear hq hcell hbel
      by_cases he : keys[j] = x
      · have R : Hid (cut1 (keys.take (j + 1)) x = q) := Lib.hid (by rw [HT.out, if_pos he, List.append_nil])
        have hb : (keys[j] != x) = false := by rw [he]; simp
        have HO := Lib.hid hown
        clear he hown
        go_wp2_with fail
        go_roundw
        case rel => exact ⟨j + 1, by omega, by go_num, by rw [R.out]; exact HO.out, HB.out⟩
        case measure => simp [intOf]; omega
      · have R : Hid (cut1 (keys.take (j + 1)) x = q ++ [keys[j]]) := Lib.hid (by rw [HT.out, if_neg he])
        have hb : (keys[j] != x) = true := by simpa using he
        have HO := Lib.hid hown
        have hbs := HB.out.size
        clear he
        go_wp2_with (at_builtin; refine wpList_append_at _ rfl _ _ 51 rfl w.heap.size 3 i0 _ 1 8 Try.underlying51 hi hz0 hz1 hz2 rfl (by decide) _ q.length _ rfl (hown.alloc _) ⟨wr.heap.size, 0, none⟩ 1 1 [.int .i64 keys[j]] rfl rfl ?c1 (one_int _) ?c3 ?c4 ?c5 ?c6 ?_)
        try case c1 => exact cell_one_new _ _ _
        try case c3 => simp only [maxLen]; omega
        try case c4 => omega
        try case c5 => simp; omega
        try case c6 => omega
        intro u2 w2 hown2 hg2 _
        have HO2 := Lib.hid hown2
        have HB2 := Lib.hid ((HB.out.alloc hbs _).grown hg2 (by simp; omega) (fun k hk => (HO.out.lt k hk).1))
        clear hown hown2 hg2
        go_wp2_with fail
        go_roundw
        case rel => exact ⟨j + 1, by omega, by go_num, by rw [R.out]; simpa [kvs] using HO2.out, HB2.out⟩
        case measure => simp [intOf]; omega
    · have hj' : j = keys.length := by omega
      subst hj'
      rw [List.take_length] at hown
      have HO := Lib.hid hown
      clear hown hbel
      go_wp2_with fail
      go_ret
      exact ⟨_, rfl, HO.out, HB.out⟩

theorem run_append_ro {P : Program} (w : World) (base : Nat) (t ty e : TypeId) (i : TypeInfo) (z : Value) (bytes : Nat) (ht : P.underlying t = some (.slice e)) (hi : P.info? e = some i) (hz : i.zero = some z)
    (hsize : i.size = 1) (hby : i.bytes = bytes) (hzs : z.cells.size = 1)
    (v : Value) (n : Nat) (xs : List Value) (hown : w.ownsRow base e 1 v n xs) (u : Value) (keys : List K) (hsrc : RO w u keys)
    (h63 : n + keys.length ≤ maxLen) (hbytes : (n + keys.length) * bytes ≤ 140737488355328) (hbase : base ≤ w.heap.size) :
    ∃ v' w', (Builtin.append_ #[t, t] ty #[v, u]).run P w = .ok v' w' ∧ w'.ownsRow base e 1 v' (n + keys.length) (xs ++ kvs keys) ∧ w.grownBy w' v.ownBlock := by
  obtain ⟨av, cv, hv, hle⟩ := own_slice hown
  obtain ⟨aT, c, rfl, _, hc⟩ := hsrc
  by_cases hm : keys.length = 0
  · have hk : keys = [] := List.eq_nil_of_length_eq_zero hm
    subst hk
    have hs : Src P i.size t (.slice aT 0 c) 0 [] w := by
      rcases aT with _ | a
      · exact Src.ofNil w ht c
      · exact Src.ofSlice w ht _ 0 c [] (by simp) (fun j u hu => by simp at hu) (fun u hu => by cases hu)
    subst hv
    refine ⟨_, w, run_append_nothing w t t ty e i ht hi av n cv hle _ hs, ?_, ⟨rfl, rfl, rfl, Nat.le_refl _, fun _ _ _ => rfl⟩⟩
    show w.ownsRow base e 1 _ n (xs ++ [])
    rw [List.append_nil]
    exact hown
  · obtain ⟨g, rfl, _, _⟩ := hc 0 (by omega)
    have hcells : ∀ j u, (kvs keys)[j]? = some u → w.cell? ((⟨g, 0, none⟩ : Addr).add j) = some u := by
      intro j u hu
      obtain ⟨hj, rfl⟩ := List.getElem?_eq_some_iff.1 hu
      have hj' : j < keys.length := by simpa [kvs] using hj
      obtain ⟨g2, e2, _, hcell⟩ := hc j hj'
      injection e2 with e2
      injection e2 with e2
      subst e2
      rw [Addr.add_lit, Nat.zero_add, hcell]
      simp [kvs]
    have h1 : ∀ y ∈ kvs keys, y.oneCell' = true := by
      intro y hy
      obtain ⟨k, _, rfl⟩ := List.mem_map.1 hy
      rfl
    obtain ⟨v', w', hr, h2, h3, _⟩ := run_append_own (P := P) w base t ty e i z 1 bytes ht hi hz hsize hby hzs (by decide) v n xs hown ⟨g, 0, none⟩ keys.length c (kvs keys) (by simp [kvs]) hcells h1 h63 hbytes hbase
    exact ⟨v', w', hr, h2, h3⟩

theorem wpList_append_ro {P : Program} (w : World) {ops : Array Oper} {rest : List Oper} {o : Oper} {a : Act} {Q : Exit → Act → World → Prop} (hgd : o.guard = none) (s x : Operand) (t : TypeId)
    (ho : o.op = .call { callee := .builtin .append, args := #[s, x], argTypes := #[t, t] })
    (base : Nat) (e : TypeId) (i : TypeInfo) (z : Value) (bytes : Nat) (ht : P.underlying t = some (.slice e)) (hi : P.info? e = some i) (hz : i.zero = some z)
    (hsize : i.size = 1) (hby : i.bytes = bytes) (hzs : z.cells.size = 1)
    (v : Value) (n : Nat) (xs : List Value) (hs : a.eval s = v) (hown : w.ownsRow base e 1 v n xs) (u : Value) (keys : List K) (hx : a.eval x = u) (hsrc : RO w u keys)
    (h63 : n + keys.length ≤ maxLen) (hbytes : (n + keys.length) * bytes ≤ 140737488355328) (hbase : base ≤ w.heap.size)
    (h : ∀ v' w', w'.ownsRow base e 1 v' (n + keys.length) (xs ++ kvs keys) → w.grownBy w' v.ownBlock → wpList P ops Q rest (a.put o.dst v') w') :
    wpList P ops Q (o :: rest) a w := by
  refine wpList_plain hgd fun K hK => ?_
  obtain ⟨v', w', hr, h2, h3⟩ := run_append_ro (P := P) w base t o.type e i z bytes ht hi hz hsize hby hzs v n xs hown u keys hsrc h63 hbytes hbase
  unfold Oper.wp execOp
  simp only [ho, resolve, invoke, builtin, Sem.run_bind, Sem.run_pure, Result.andThen_ok, List.map_toArray, List.map_cons, List.map_nil, hs, hx, hr]
  exact hK _ _ (h v' w' h2 h3)

theorem front_any (w : World) (v : Value) (keys : List K) (x : K) (h : RO w v keys) :
    Calls Try.prog 74 #[.int .i64 x, v] w fun e w' => ∃ v', e = .returned v' ∧ w'.ownsRow w.heap.size 3 1 v' (keys.length + 1) (kvs (x :: keys)) ∧ Below w.heap.size w w' := by
  obtain ⟨i0, hi, hz0, hz1, hz2⟩ := info_parts Try.infoK
  have hb1 : Below w.heap.size w (w.alloc (.cells #[.int .i64 x] 3)) := (Below.refl _ _).alloc (Nat.le_refl _) _
  have h1 := h.below hb1
  have hle : keys.length ≤ 1048576 := by obtain ⟨_, _, _, hle, _⟩ := h; exact hle
  have oA : (w.alloc (.cells #[.int .i64 x] 3)).ownsRow w.heap.size 3 1 (.slice (some ⟨w.heap.size, 0, none⟩) 1 1) 1 [.int .i64 x] :=
    ⟨rfl, .inr ⟨w.heap.size, 1, #[.int .i64 x], rfl, Nat.le_refl _, heap_alloc_new w _, Nat.le_refl _, by simp only [maxLen]; omega, rfl, rfl⟩⟩
  have HB := Lib.hid hb1
  have OA := Lib.hid oA
  clear h hb1
  go_enter Try.func74, Try.ntmps74
  go_wp2_with (at_builtin; refine wpList_append_ro _ rfl _ _ 51 rfl w.heap.size 3 i0 _ 8 Try.underlying51 hi hz0 hz1 hz2 rfl _ 1 [.int .i64 x] rfl oA _ keys rfl h1 ?c1 ?c2 ?c3 ?_)
  try case c1 => simp only [maxLen]; omega
  try case c2 => omega
  try case c3 => simp
  intro v2 w2 hown2 hg2
  have HO2 := Lib.hid hown2
  have HB2 := Lib.hid (HB.out.grown hg2 (by simp) (fun k hk => (OA.out.lt k hk).1))
  clear hown2 hg2 oA h1
  go_wp2_with fail
  go_ret
  exact ⟨_, rfl, by have := HO2.out; rw [Nat.add_comm] at this; simpa [kvs] using this, HB2.out⟩

end Go.Proofs.Ythcdfdkhmlkneaa.arcI
