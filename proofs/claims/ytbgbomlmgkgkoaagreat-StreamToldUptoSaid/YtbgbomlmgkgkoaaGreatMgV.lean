/- vector: the free extents of a map of blocks, and Alloc. vector: Take; a vector's small methods; text. vector: Get, Set. vector: write, Fill, Load. vector: Fill, Load. vector: Load, Save. vector: New; the law's space. -/
import Derived.Test.YtbgbomlmgkgkoaaGreatMgS
import Derived.Test.YtbgbomlmgkgkoaaGreatRep
namespace Go.Proofs.YtbgbomlmgkgkoaaGreat.vc
open Go.RowKit Go.Proofs.YtbgbomlmgkgkoaaGreat.own Go.Proofs.YtbgbomlmgkgkoaaGreat.dv Go.Proofs.YtbgbomlmgkgkoaaGreat.po Go.Proofs.YtbgbomlmgkgkoaaGreat.arcI Go.Proofs.YtbgbomlmgkgkoaaGreat.st

/-! ### the plain law: runs of noughts -/
def runEnd (L : List Nat) (n : Nat) : Nat := n + ((L.drop n).takeWhile (fun v => v == 0)).length
theorem runEnd_le (L : List Nat) (n : Nat) (h : n ≤ L.length) : n ≤ runEnd L n ∧ runEnd L n ≤ L.length := by
  unfold runEnd
  have h1 := (List.takeWhile_prefix (fun v : Nat => v == 0) (l := L.drop n)).length_le
  rw [List.length_drop] at h1
  omega
theorem mem_tw (l : List Nat) : ∀ x ∈ l.takeWhile (fun v => v == 0), x = 0 := by
  induction l with
  | nil => intro x hx; cases hx
  | cons a l ih =>
    intro x hx
    by_cases ha : a = 0
    · subst ha
      have e : (0 :: l).takeWhile (fun v => v == 0) = 0 :: l.takeWhile (fun v => v == 0) := rfl
      rw [e] at hx
      rcases List.mem_cons.1 hx with h | h
      · exact h
      · exact ih x h
    · have e : (a :: l).takeWhile (fun v => v == 0) = [] := by simp [ha]
      rw [e] at hx; cases hx
theorem runEnd_zero (L : List Nat) (n k : Nat) (h1 : n ≤ k) (h2 : k < runEnd L n) : L[k]? = some 0 := by
  unfold runEnd at h2
  have hp := List.takeWhile_prefix (fun v : Nat => v == 0) (l := L.drop n)
  obtain ⟨t, ht⟩ := hp
  have e : (L.drop n)[k - n]? = ((L.drop n).takeWhile (fun v => v == 0))[k - n]? := by
    conv => lhs; rw [← ht]
    rw [List.getElem?_append_left (by omega)]
  rw [List.getElem?_drop, show n + (k - n) = k by omega] at e
  rw [e, List.getElem?_eq_getElem (by omega)]
  have hm : ((L.drop n).takeWhile (fun v => v == 0))[k - n]'(by omega) ∈ (L.drop n).takeWhile (fun v => v == 0) := List.getElem_mem _
  rw [mem_tw _ _ hm]
theorem runEnd_stop (L : List Nat) (n v : Nat) (h : L[runEnd L n]? = some v) : v ≠ 0 := by
  intro hv
  subst hv
  unfold runEnd at h
  rw [← List.getElem?_drop] at h
  have key : ∀ l : List Nat, l[(l.takeWhile (fun v => v == 0)).length]? ≠ some 0 := by
    intro l
    induction l with
    | nil => simp
    | cons a l ih =>
      by_cases ha : a = 0
      · subst ha; simpa using ih
      · simp [ha]
  exact key _ h
def runsF (L : List Nat) : Nat → Nat → List (Nat × Nat)
  | 0, _ => []
  | f + 1, n => if n < L.length then (if runEnd L n - n = 0 then [] else [(n, runEnd L n - n)]) ++ runsF L f (runEnd L n + 1) else []
def runs (L : List Nat) (n : Nat) : List (Nat × Nat) := runsF L (L.length + 1) n
theorem runsF_done (L : List Nat) (f n : Nat) (h : ¬ n < L.length) : runsF L f n = [] := by
  cases f with
  | zero => rfl
  | succ f => show (if n < L.length then _ else _) = _; rw [if_neg h]
theorem runsF_len (L : List Nat) : ∀ (f n : Nat), (runsF L f n).length ≤ f
  | 0, _ => Nat.le_refl _
  | f + 1, n => by
    show (if n < L.length then (if runEnd L n - n = 0 then [] else [(n, runEnd L n - n)]) ++ runsF L f (runEnd L n + 1) else []).length ≤ f + 1
    have := runsF_len L f (runEnd L n + 1)
    split
    · split
      · simp; omega
      · simp; omega
    · simp
/-- every run is free, and lies in the map -/
theorem runsF_free (L : List Nat) : ∀ (f n : Nat) (p : Nat × Nat), p ∈ runsF L f n → n ≤ p.1 ∧ 0 < p.2 ∧ p.1 + p.2 ≤ L.length ∧ ∀ k, p.1 ≤ k → k < p.1 + p.2 → L[k]? = some 0
  | 0, _, p, h => by cases h
  | f + 1, n, p, h => by
    have e : runsF L (f + 1) n = if n < L.length then (if runEnd L n - n = 0 then [] else [(n, runEnd L n - n)]) ++ runsF L f (runEnd L n + 1) else [] := rfl
    rw [e] at h
    by_cases hn : n < L.length
    · rw [if_pos hn] at h
      have hl := runEnd_le L n (by omega)
      rcases List.mem_append.1 h with h | h
      · by_cases h0 : runEnd L n - n = 0
        · rw [if_pos h0] at h; cases h
        · rw [if_neg h0] at h
          rw [List.mem_singleton] at h
          subst h
          exact ⟨Nat.le_refl _, by omega, by show n + (runEnd L n - n) ≤ _; omega, fun k h1 h2 => runEnd_zero L n k h1 (by have h2 : k < n + (runEnd L n - n) := h2; omega)⟩
      · obtain ⟨a, b, c, d⟩ := runsF_free L f _ p h
        exact ⟨by omega, b, c, d⟩
    · rw [if_neg hn] at h; cases h

theorem alloc_set2 (w : World) (a b v : Value) (t : TypeId) : (w.alloc (.cells #[a, b] t)).setCell ⟨w.heap.size, 1, none⟩ v = w.alloc (.cells #[a, v] t) := by
  have e : ((w.alloc (.cells #[a, b] t)).setCell ⟨w.heap.size, 1, none⟩ v).heap = (w.alloc (.cells #[a, v] t)).heap := by
    refine Array.ext_getElem? fun i => ?_
    by_cases hi : i = w.heap.size
    · subst hi
      rw [heap_setCell_same _ _ 1 _ _ _ (World.alloc_heap_new w _), World.alloc_heap_new]
      rfl
    · rw [Below.heap_setCell _ _ _ _ hi]
      by_cases hl : i < w.heap.size
      · rw [Below.heap_alloc _ _ _ hl, Below.heap_alloc _ _ _ hl]
      · rw [Array.getElem?_eq_none (by simp <;> omega), Array.getElem?_eq_none (by simp <;> omega)]
  show ({ (w.alloc (.cells #[a, b] t)) with heap := ((w.alloc (.cells #[a, b] t)).setCell ⟨w.heap.size, 1, none⟩ v).heap } : World) = _
  rw [e]
  rfl

/-! ### a map of blocks, as it is read -/
structure MIn (n₀ : Nat) (W : World) (Bs eb frm g cap : Nat) (L : List Nat) : Prop where
  hB : W.heap[Bs]? = some (.cells #[.pointer (some ⟨eb, 0, none⟩)] 39 (0, 0))
  c0 : W.cell? ⟨eb, 0, none⟩ = some (.int .i64 (frm : Int))
  c1 : W.cell? ⟨eb, 1, none⟩ = some (.slice (some ⟨g, 0, none⟩) L.length cap)
  cj : ∀ (j v : Nat), L[j]? = some v → W.cell? ⟨g, j, none⟩ = some (.int .u8 (v : Int))
  lB : Bs < n₀
  le : eb < n₀
  lg : g < n₀
theorem MIn.below {n₀ : Nat} {A B : World} {Bs eb frm g cap : Nat} {L : List Nat} (h : MIn n₀ A Bs eb frm g cap L) (hb : Below n₀ A B) : MIn n₀ B Bs eb frm g cap L :=
  ⟨(hb.block _ h.lB).trans h.hB, (hb.cell (p := ⟨eb, 0, none⟩) h.le).trans h.c0, (hb.cell (p := ⟨eb, 1, none⟩) h.le).trans h.c1, fun j v hj => (hb.cell (p := ⟨g, j, none⟩) h.lg).trans (h.cj j v hj), h.lB, h.le, h.lg⟩
/-- a stretch of a map of so many blocks -/
abbrev RX (L : List Nat) := { p : Nat × Nat // p.1 + p.2 ≤ L.length }
def encX {L : List Nat} (p : RX L) : Array Value := #[.agg #[.int .i64 (p.1.1 : Int), .int .i64 (p.1.2 : Int)]]

set_option maxRecDepth 100000 in
set_option maxHeartbeats 4000000 in
theorem sp1_in (F : Fence) (n : Nat) (h7 : F.fn 113) (hro : F.round = none) (hn : 1 ≤ n) (l Bs n₀ eb frm g cap : Nat) (L : List Nat) (hL : L.length ≤ 4096) (hfl : frm ≤ L.length) (J Jx : List (RX L) → World → Prop) (W : World) (hJa : ∀ pre w o, J pre w → J pre (w.alloc o))
    (hY : ∀ pre x W, J pre W → pre.length < L.length + 1 → YieldAt F (n - 1) Tryz.prog l (encX x) W fun e W' =>
      (e = .returned (.bool true) ∧ J (pre ++ [x]) W' ∧ Below n₀ W W') ∨ (e = .returned (.bool false) ∧ Jx (pre ++ [x]) W'))
    (hM : MIn n₀ W Bs eb frm g cap L) (hnw : n₀ ≤ W.heap.size) (h0 : J [] W) :
    CallsIn F n Tryz.prog 113 #[.func (.yield l) #[] #[], .pointer (some ⟨Bs, 0, none⟩)] W fun e W' => (∃ v, e = .returned v) ∧
      ((∃ ys, ys.map Subtype.val = runs L frm ∧ J ys W') ∨ (∃ pre, (∃ t, pre.map Subtype.val ++ t = runs L frm) ∧ Jx pre W')) := by
  have HM := Lib.hid hM
  have HY := Lib.hid hY
  have HJ := Lib.hid hJa
  have H0 := Lib.hid h0
  have kB : W.cell? ⟨Bs, 0, none⟩ = some (.pointer (some ⟨eb, 0, none⟩)) := by rw [cell_of_row _ _ _ _ _ _ hM.hB]; rfl
  have k0 := hM.c0
  clear hM hY hJa h0
  refine callsIn_of_wp Tryz.func113 rfl h7 ?_ hro
  simp only [Tryz.ntmps113, List.size_toArray, List.length_cons, List.length_nil, Nat.reduceAdd, Nat.reduceSub, Array.replicate_succ, Array.replicate_zero, List.push_toArray, List.append_toArray, List.nil_append, List.cons_append]
  gi_wp2
  gi_loopw [3] (fun i wr => ∃ (k f : Nat) (pre : List (RX L)), i = .int .i64 (k : Int) ∧ k ≤ L.length + 1 ∧ L.length ≤ k + f ∧ pre.map Subtype.val ++ runsF L f k = runs L frm ∧ J pre wr ∧ Below n₀ W wr) (fun i _ => L.length + 1 - (intOf i).toNat)
  case atStart => exact ⟨frm, L.length + 1, [], rfl, by omega, by omega, rfl, H0.out, Below.refl _ _⟩
  case round =>
    obtain ⟨k, f, pre, rfl, hk, hf, hp, hJ, hb⟩ := hrel
    have HP := Lib.hid hp
    have HJ1 := Lib.hid hJ
    have HB := Lib.hid hb
    have M1 := HM.out.below hb
    have kB : wr.cell? ⟨Bs, 0, none⟩ = some (.pointer (some ⟨eb, 0, none⟩)) := by rw [cell_of_row _ _ _ _ _ _ M1.hB]; rfl
    have k1 := M1.c1
    have HM1 := Lib.hid M1
    clear hp hJ hb M1 k0
    by_cases hlt : k < L.length
    · obtain ⟨f, rfl⟩ : ∃ g, f = g + 1 := ⟨f - 1, by omega⟩
      have hre := runEnd_le L k (by omega)
      gi_wp2
      generalize wr = wo at *
      obtain ⟨e, he⟩ : ∃ e, runEnd L k = e := ⟨_, rfl⟩
      have HZ := Lib.hid (runEnd_zero L k)
      have HS := Lib.hid (runEnd_stop L k)
      rw [he] at hre HZ HS
      have HE := Lib.hid he
      have M3 := HM1.out.below ((Below.refl n₀ wo).alloc (by have := HB.out.size; omega) (.cells #[.int .i64 (k : Int), .int .i64 0] 34))
      have G3 := Lib.hid (World.alloc_heap_new wo (.cells #[.int .i64 (k : Int), .int .i64 0] 34))
      have A3 : Hid ((wo.alloc (.cells #[.int .i64 (k : Int), .int .i64 0] 34)).setCell ⟨wo.heap.size, 1, none⟩ (.int .i64 ((e - k : Nat) : Int)) = wo.alloc (.cells #[.int .i64 (k : Int), .int .i64 ((e - k : Nat) : Int)] 34)) := Lib.hid (alloc_set2 _ _ _ _ _)
      have kB : (wo.alloc (.cells #[.int .i64 (k : Int), .int .i64 0] 34)).cell? ⟨Bs, 0, none⟩ = some (.pointer (some ⟨eb, 0, none⟩)) := by rw [cell_of_row _ _ _ _ _ _ M3.hB]; rfl
      have k1 := M3.c1
      have q0 : (wo.alloc (.cells #[.int .i64 (k : Int), .int .i64 0] 34)).cell? ⟨wo.heap.size, 0, none⟩ = some (.int .i64 (k : Int)) := by rw [cell_of_row _ _ _ _ _ _ G3.out]; rfl
      have q1 : (wo.alloc (.cells #[.int .i64 (k : Int), .int .i64 0] 34)).cell? ⟨wo.heap.size, 1, none⟩ = some (.int .i64 0) := by rw [cell_of_row _ _ _ _ _ _ G3.out]; rfl
      have qf : (wo.alloc (.cells #[.int .i64 (k : Int), .int .i64 0] 34)).frozen? ⟨wo.heap.size, 1, none⟩ = false := frozen_of_row _ _ _ _ _ G3.out
      have C3 := Lib.hid M3.cj
      clear M3 he
      generalize wo.alloc (.cells #[.int .i64 (k : Int), .int .i64 0] 34) = W3 at kB k1 q0 q1 qf C3 A3 G3 ⊢
      gi_loopw [3] (fun i w2 => ∃ j : Nat, i = .int .i64 (j : Int) ∧ k ≤ j ∧ j ≤ e ∧ w2 = W3) (fun i _ => e - (intOf i).toNat)
      case atStart => exact ⟨k, rfl, Nat.le_refl _, hre.1, rfl⟩
      case round =>
        obtain ⟨j, rfl, hj1, hj2, hw2⟩ := hrel
        subst hw2
        by_cases hje : j < e
        · have hjl : j < L.length := by omega
          have kj := C3.out j 0 (HZ.out j hj1 hje)
          gi_wp2
          go_roundw
          case rel => exact ⟨j + 1, by go_num, by omega, by omega, trivial⟩
          case measure => simp [intOf]; omega
        · obtain rfl : j = e := by omega
          have e1 : IntKind.i64.wrap ((j : Int) - (k : Int)) = ((j - k : Nat) : Int) := by rw [IntWalk.i64_in _ (by omega)]; omega
          have ER : runsF L (f + 1) k = (if j - k = 0 then [] else [(k, j - k)]) ++ runsF L f (j + 1) := by
            show (if k < L.length then (if runEnd L k - k = 0 then [] else [(k, runEnd L k - k)]) ++ runsF L f (runEnd L k + 1) else []) = _
            rw [if_pos hlt, HE.out]
          have JA := Lib.hid (HJ.out pre _ (.cells #[.int .i64 (k : Int), .int .i64 ((j - k : Nat) : Int)] 34) HJ1.out)
          rw [← A3.out] at JA
          have BA : Hid (Below n₀ W (wr.setCell ⟨wo.heap.size, 1, none⟩ (.int .i64 ((j - k : Nat) : Int)))) := Lib.hid (by
            rw [A3.out]
            exact HB.out.alloc (by have := HB.out.size; omega) _)
          by_cases hz : j = k
          · have PA : Hid (pre.map Subtype.val ++ runsF L f (j + 1) = runs L frm) := Lib.hid (by rw [← HP.out, ER, if_pos (by omega), List.nil_append])
            clear ER
            subst hz
            have e1 : IntKind.i64.wrap ((j : Int) - (j : Int)) = 0 := by rw [Int.sub_self]; rfl
            rw [Nat.sub_self] at JA BA
            obtain ⟨v, hv⟩ : ∃ v, L[j]? = some v := ⟨_, List.getElem?_eq_getElem hlt⟩
            have kj := C3.out j v hv
            have hv0 := HS.out v hv
            have hv1 : ¬ ((v : Int) = 0) := by omega
            have hv2 : decide ((v : Int) = 0) = false := decide_eq_false hv1
            clear hj1 hj2 hje
            gi_wp2
            refine ⟨fun _ h => (by cases h), ?_⟩
            gi_wp2
            go_roundw
            case rel => exact ⟨j + 1, f, pre, by go_num, by omega, by omega, PA.out, JA.out, BA.out⟩
            case measure => simp [intOf]; omega
          · have hz2 : 0 < j - k := by omega
            have hkj : k + (j - k) ≤ L.length := by omega
            have PB : Hid ((pre ++ [(⟨(k, j - k), hkj⟩ : RX L)]).map Subtype.val ++ runsF L f (j + 1) = runs L frm) := Lib.hid (by rw [← HP.out, ER, if_neg (by omega), List.map_append, List.append_assoc]; rfl)
            have hpl : pre.length < L.length + 1 := by
              have q := congrArg List.length PB.out
              have q2 := runsF_len L (L.length + 1) frm
              rw [List.length_append, List.length_map, List.length_append, List.length_singleton] at q
              unfold runs at q
              omega
            have Y := HY.out pre ⟨(k, j - k), hkj⟩ _ JA.out hpl
            obtain ⟨fn, tmps, assign, body, hy, hR⟩ := Y
            unfold encX at hy
            dsimp only at hy
            clear ER hpl
            by_cases hjl : j < L.length
            · obtain ⟨v, hv⟩ : ∃ v, L[j]? = some v := ⟨_, List.getElem?_eq_getElem hjl⟩
              have kj := C3.out j v hv
              have hv0 := HS.out v hv
              have hv1 : ¬ ((v : Int) = 0) := by omega
              have hv2 : decide ((v : Int) = 0) = false := decide_eq_false hv1
              gi_wp2
              refine hR.mono ?_
              rintro e5 W5 (⟨rfl, hJ5, hb5⟩ | ⟨rfl, hJx5⟩)
              · have J5 := Lib.hid hJ5
                have B5 := Lib.hid (BA.out.trans hb5)
                clear hJ5 hb5 hR
                gi_wp2
                go_roundw
                case rel => exact ⟨j + 1, f, pre ++ [⟨(k, j - k), hkj⟩], by go_num, by omega, by omega, PB.out, J5.out, B5.out⟩
                case measure => simp [intOf]; omega
              · have J5 := Lib.hid hJx5
                clear hJx5 hR
                gi_wp2
                refine bodyPost_ret (results_none rfl _ _ _) rfl ?_
                exact ⟨⟨_, rfl⟩, .inr ⟨_, ⟨runsF L f (j + 1), PB.out⟩, J5.out⟩⟩
            · gi_wp2
              refine hR.mono ?_
              rintro e5 W5 (⟨rfl, hJ5, hb5⟩ | ⟨rfl, hJx5⟩)
              · have J5 := Lib.hid hJ5
                have B5 := Lib.hid (BA.out.trans hb5)
                clear hJ5 hb5 hR
                gi_wp2
                go_roundw
                case rel => exact ⟨j + 1, f, pre ++ [⟨(k, j - k), hkj⟩], by go_num, by omega, by omega, PB.out, J5.out, B5.out⟩
                case measure => simp [intOf]; omega
              · have J5 := Lib.hid hJx5
                clear hJx5 hR
                gi_wp2
                refine bodyPost_ret (results_none rfl _ _ _) rfl ?_
                exact ⟨⟨_, rfl⟩, .inr ⟨_, ⟨runsF L f (j + 1), PB.out⟩, J5.out⟩⟩
    · gi_wp2
      go_end0
      refine ⟨⟨_, rfl⟩, .inl ⟨pre, ?_, HJ1.out⟩⟩
      have := HP.out
      rw [runsF_done L f k hlt, List.append_nil] at this
      exact this

/-- a stretch of a list is set -/
def setL (L : List Nat) (s k v : Nat) : List Nat := L.take s ++ List.replicate (min k (L.length - s)) v ++ L.drop (s + k)
theorem setL_len (L : List Nat) (s k v : Nat) (h : s + k ≤ L.length) : (setL L s k v).length = L.length := by
  unfold setL
  rw [List.length_append, List.length_append, List.length_take, List.length_replicate, List.length_drop]; omega
theorem setL_get (L : List Nat) (s k v : Nat) (h : s + k ≤ L.length) (j : Nat) : (setL L s k v)[j]? = if s ≤ j ∧ j < s + k then some v else L[j]? := by
  unfold setL
  have hm : min k (L.length - s) = k := by omega
  rw [hm, List.append_assoc]
  by_cases h1 : j < s
  · rw [List.getElem?_append_left (by rw [List.length_take]; omega), List.getElem?_take, if_pos h1, if_neg (by omega)]
  · rw [List.getElem?_append_right (by rw [List.length_take]; omega), List.length_take, show min s L.length = s by omega]
    by_cases h2 : j < s + k
    · rw [List.getElem?_append_left (by rw [List.length_replicate]; omega), List.getElem?_replicate, if_pos (by omega), if_pos (by omega)]
    · rw [List.getElem?_append_right (by rw [List.length_replicate]; omega), List.length_replicate, List.getElem?_drop, if_neg (by omega)]
      congr 1; omega

set_option maxRecDepth 100000 in
set_option maxHeartbeats 3200000 in
theorem set_any (x : Nat → Nat) (c : Nat) (w : World) (eb g cap len s k v : Nat) (cur : Array Value) (hc1 : w.cell? ⟨eb, 1, none⟩ = some (.slice (some ⟨g, 0, none⟩) len cap)) (hg : w.heap[g]? = some (.cells cur 215 (0, 0))) (hx : x g = c) (hne : eb ≠ g) (hs : s + k ≤ len) (hl : len ≤ cur.size) (hlm : len ≤ 4096) :
    Calls Tryz.prog 116 #[.pointer (some ⟨eb, 0, none⟩), .agg #[.int .i64 (s : Int), .int .i64 (k : Int)], .int .u8 (v : Int)] w fun e w' => (∃ r, e = .returned r) ∧ ∃ x' cur', Fr x x' (fun e => e = c) w w' ∧ w'.heap[g]? = some (.cells cur' 215 (0, 0)) ∧ ∀ q, cur'[q]? = if s ≤ q ∧ q < s + k then some (.int .u8 (v : Int)) else cur[q]? := by
  have leb := World.block_lt_of_cell? _ _ hc1
  have lg := lt_of_block hg
  have hb0 : Below w.heap.size w (w.alloc (.cells #[.int .i64 (s : Int), .int .i64 (k : Int)] 34)) := (Below.refl _ w).alloc (Nat.le_refl _) _
  have F0 : Hid (Fr x (paint x w.heap.size c) (fun e => e = c) w (w.alloc (.cells #[.int .i64 (s : Int), .int .i64 (k : Int)] 34))) := Lib.hid (Fr.of_below hb0 rfl)
  have X0 : Hid (paint x w.heap.size c g = c) := Lib.hid (by rw [paint_old lg]; exact hx)
  have G0 := Lib.hid ((hb0.block _ lg).trans hg)
  have T0 := Lib.hid (World.alloc_heap_new w (.cells #[.int .i64 (s : Int), .int .i64 (k : Int)] 34))
  have C0 := Lib.hid ((hb0.cell (p := ⟨eb, 1, none⟩) leb).trans hc1)
  clear hc1 hg hx hb0
  go_enter Tryz.func116, Tryz.ntmps116
  go_upto_region 1 with fail
  generalize w.alloc _ = W1 at F0 G0 T0 C0 ⊢
  generalize paint x w.heap.size c = x1 at F0 X0
  generalize w.heap.size = tb at T0 lg leb ⊢
  have t1 : W1.cell? ⟨tb, 1, none⟩ = some (.int .i64 (k : Int)) := by rw [cell_of_row _ _ _ _ _ _ T0.out]; rfl
  go_wp2_with fail
  clear t1
  go_loopw [9] (fun i wr => ∃ (j : Nat) (cur' : Array Value), i = .int .i64 (j : Int) ∧ j ≤ k ∧ Fr x1 x1 (fun e => e = c) W1 wr ∧ wr.heap[g]? = some (.cells cur' 215 (0, 0)) ∧ cur'.size = cur.size ∧ (∀ q, cur'[q]? = if s ≤ q ∧ q < s + j then some (.int .u8 (v : Int)) else cur[q]?) ∧ wr.cell? ⟨eb, 1, none⟩ = some (.slice (some ⟨g, 0, none⟩) len cap) ∧ wr.cell? ⟨tb, 0, none⟩ = some (.int .i64 (s : Int))) (fun i _ => k - (intOf i).toNat)
  case atStart => exact ⟨0, cur, rfl, by omega, Fr.refl _ _ _, G0.out, rfl, fun q => by rw [if_neg (by omega)], C0.out, by rw [cell_of_row _ _ _ _ _ _ T0.out]; rfl⟩
  case round =>
    obtain ⟨j, cur', rfl, hj, hF, hG, hsz, hq, c1, t0⟩ := hrel
    have FF := Lib.hid hF
    have GG := Lib.hid hG
    have HQ := Lib.hid hq
    have HZ := Lib.hid hsz
    by_cases hlt : j < k
    · have kj : (wr.cell? ⟨g, s + j, none⟩).isSome = true := by
        rw [cell_of_row _ _ _ _ _ _ hG, Array.getElem?_eq_getElem (by omega)]; rfl
      obtain ⟨v0, hv0⟩ := Option.isSome_iff_exists.1 kj
      have kf : wr.frozen? ⟨g, s + j, none⟩ = false := frozen_of_row _ _ _ _ _ hG
      have e1 : IntKind.i64.wrap ((s : Int) + (j : Int)) = ((s + j : Nat) : Int) := by rw [IntWalk.i64_in _ (by omega)]; omega
      have b1 : (0 : Int) ≤ ((s + j : Nat) : Int) := by omega
      have b2 : ((s + j : Nat) : Int) < (len : Int) := by omega
      have b3 : s + j < len := by omega
      clear hF hG hq hsz kj
      go_upto_region 4 with fail
      have HV : Hid (∀ q, (cur'.setIfInBounds (s + j) (.int .u8 (v : Int)))[q]? = if s ≤ q ∧ q < s + (j + 1) then some (.int .u8 (v : Int)) else cur[q]?) := Lib.hid (fun q => by
        by_cases hq : q = s + j
        · subst hq
          rw [Array.getElem?_setIfInBounds_self_of_lt (by rw [HZ.out]; omega), if_pos (by omega)]
        · rw [Array.getElem?_setIfInBounds_ne (fun e => hq e.symm), HQ.out q]
          by_cases hq2 : s ≤ q ∧ q < s + j
          · rw [if_pos hq2, if_pos (by omega)]
          · rw [if_neg hq2, if_neg (by omega)])
      have FN : Hid (Fr x1 x1 (fun e => e = c) W1 (wr.drew.setCell ⟨g, s + j, none⟩ (.int .u8 (v : Int)))) := Lib.hid (FF.out.trans (Fr.same rfl rfl rfl (by simp) (fun b _ hC => (Below.heap_setCell wr.drew _ _ _ (by rintro rfl; exact hC X0.out)))))
      have GN : Hid ((wr.drew.setCell ⟨g, s + j, none⟩ (.int .u8 (v : Int))).heap[g]? = some (.cells (cur'.setIfInBounds (s + j) (.int .u8 (v : Int))) 215 (0, 0))) := Lib.hid (heap_setCell_same wr.drew g (s + j) _ _ _ GG.out)
      have C1N : Hid ((wr.drew.setCell ⟨g, s + j, none⟩ (.int .u8 (v : Int))).cell? ⟨eb, 1, none⟩ = some (.slice (some ⟨g, 0, none⟩) len cap)) := Lib.hid ((World.cell?_setCell_far _ _ _ _ hne.symm).trans c1)
      have T0N : Hid ((wr.drew.setCell ⟨g, s + j, none⟩ (.int .u8 (v : Int))).cell? ⟨tb, 0, none⟩ = some (.int .i64 (s : Int))) := Lib.hid ((World.cell?_setCell_far _ _ _ _ (show g ≠ tb by omega)).trans t0)
      go_region
      all_goals
        go_wp2_with fail
        go_roundw
        case rel => exact ⟨j + 1, _, by go_num, by omega, FN.out, GN.out, by rw [Array.size_setIfInBounds]; exact HZ.out, HV.out, C1N.out, T0N.out⟩
        case measure => simp [intOf]; omega
    · obtain rfl : j = k := by omega
      clear hF hG hq hsz
      go_wp2_with fail
      go_end0
      exact ⟨⟨_, rfl⟩, x1, cur', F0.out.trans FF.out, GG.out, HQ.out⟩

attribute [local go_sem] Oper.semAt_some
theorem ci_round {n : Nat} {P : Program} {f : FuncId} {args : Array Value} {w : World} {R : Ending → World → Prop} (l : Nat) (h : CallsIn Fence.wide n P f args w R) : CallsIn (Fence.wide.inRound l) n P f args w R := h

/-! ### Alloc -/
/-- the first run that is long enough -/
def firstFit (L : List Nat) (frm k : Nat) : Option Nat := ((runs L frm).find? (fun p => k ≤ p.2)).map Prod.fst
theorem firstFit_none {L : List Nat} {frm k : Nat} (h : ∀ p ∈ runs L frm, p.2 < k) : firstFit L frm k = none := by
  unfold firstFit
  rw [List.find?_eq_none.2 (fun p hp => by have := h p hp; simp; omega)]; rfl
theorem firstFit_some {L : List Nat} {frm k : Nat} {ini t : List (Nat × Nat)} {last : Nat × Nat} (h : (ini ++ [last]) ++ t = runs L frm) (h1 : ∀ p ∈ ini, p.2 < k) (h2 : k ≤ last.2) : firstFit L frm k = some last.1 := by
  unfold firstFit
  rw [← h, List.append_assoc, List.find?_append, List.find?_eq_none.2 (fun p hp => by have := h1 p hp; simp; omega)]
  simp [h2]
theorem firstFit_free {L : List Nat} {frm k s : Nat} (h : firstFit L frm k = some s) : frm ≤ s ∧ s + k ≤ L.length ∧ ∀ j, s ≤ j → j < s + k → L[j]? = some 0 := by
  unfold firstFit at h
  obtain ⟨p, hp, rfl⟩ := Option.map_eq_some_iff.1 h
  have hm := List.mem_of_find?_eq_some hp
  have hk := List.find?_some hp
  have hk : k ≤ p.2 := by simpa using hk
  obtain ⟨a, b, c, d⟩ := runsF_free L _ _ p hm
  exact ⟨a, by omega, fun j h1 h2 => d j h1 (by omega)⟩

theorem sp_in (F : Fence) (n : Nat) (h6 : F.fn 76) (hro : F.round = none) (eb : Nat) (w : World) :
    CallsIn F n Tryz.prog 76 #[.pointer (some ⟨eb, 0, none⟩)] w fun e w' => e = .returned (.func (.func 113) #[] #[.pointer (some ⟨w.heap.size, 0, none⟩)]) ∧ w' = w.alloc (.cells #[.pointer (some ⟨eb, 0, none⟩)] 39) := by
  refine callsIn_of_wp Tryz.func76 rfl h6 ?_ hro
  simp only [Tryz.ntmps76, List.size_toArray, List.length_cons, List.length_nil, Nat.reduceAdd, Nat.reduceSub, Array.replicate_succ, Array.replicate_zero, List.push_toArray, List.append_toArray, List.nil_append, List.cons_append]
  gi_wp2
  go_ret
  exact ⟨rfl, rfl⟩
theorem sp_stops (F : Fence) (n : Nat) (h8 : F.fn 113) (hro : F.round = none) (hn : 1 ≤ n) (Bs n₀ eb frm g cap : Nat) (L : List Nat) (hL : L.length ≤ 4096) (hfl : frm ≤ L.length) (w : World) (hn₀ : n₀ ≤ w.heap.size) (hM : MIn n₀ w Bs eb frm g cap L) :
    SeqStopsK F n Tryz.prog 113 #[.pointer (some ⟨Bs, 0, none⟩)] (encX (L := L)) (Below n₀) (fun ys => ys.map Subtype.val = runs L frm) (fun pre => ∃ t, pre.map Subtype.val ++ t = runs L frm) (L.length + 1) w := fun l J Jx W hW hA _ hY h0 =>
  sp1_in F n h8 hro hn l Bs n₀ eb frm g cap L hL hfl J Jx W (fun pre w o hj => hA pre w _ none hj (World.grownBy_alloc w o none) (fun r e => by cases e)) hY (hM.below (hW.mono hn₀)) (Nat.le_trans hn₀ hW.size) h0

theorem EIs_below {x x' : Nat → Nat} {e0 : Nat} {w W : World} {eb frm : Nat} {L : List Nat} (h : EIs x e0 w eb frm L) (hb : Below w.heap.size w W) (hx : ∀ b, b < w.heap.size → x' b = x b) : EIs x' e0 W eb frm L := by
  obtain ⟨v, h0, h1, h2, h3⟩ := h
  exact ⟨v, (hb.block _ (lt_of_block h0)).trans h0, (hx _ (lt_of_block h0)).trans h1, own_below h2 hb, fun b hb' => (hx _ (h2.lt b hb').2).trans (h3 b hb')⟩
/-- what stands where an extent was found -/
structure ADone (w : World) (n1 g s k : Nat) (cur : Array Value) (W : World) : Prop where
  gr : w.grownBy W (some g)
  c2 : W.cell? ⟨n1 + 2, 0, none⟩ = some (.int .i64 (s : Int))
  c3 : W.cell? ⟨n1 + 2, 1, none⟩ = some (.int .i64 (k : Int))
  ce : W.cell? ⟨n1 + 3, 0, none⟩ = some (.int .i64 0)
  cu : ∃ cur', W.heap[g]? = some (.cells cur' 215 (0, 0)) ∧ ∀ q, cur'[q]? = if s ≤ q ∧ q < s + k then some (.int .u8 1) else cur[q]?
theorem ADone.own {w : World} {n1 g s k : Nat} {cur : Array Value} {B : Nat} (hB : w.heap.size ≤ B) (hg : g < w.heap.size) {W W' : World} {row : Option Nat} (h : ADone w n1 g s k cur W) (hk : W.grownBy W' row) (hr : ∀ r, row = some r → B ≤ r ∧ ∃ o : Obj, W.heap[r]? = some o ∧ o.isCells = false) : ADone w n1 g s k cur W' := by
  obtain ⟨cur', h1, h2⟩ := h.cu
  refine ⟨⟨hk.os.trans h.gr.os, hk.tape.trans h.gr.tape, hk.output.trans h.gr.output, Nat.le_trans h.gr.size hk.size, fun j hj hjg => ?_⟩, cell_kept h.c2 hk (fun r e => (hr r e).2), cell_kept h.c3 hk (fun r e => (hr r e).2), cell_kept h.ce hk (fun r e => (hr r e).2), cur', ?_, h2⟩
  · rw [hk.block j (by have := h.gr.size; omega) (fun e => by have := (hr j e.symm).1; omega)]
    exact h.gr.block j hj hjg
  · rw [hk.block g (by have := h.gr.size; omega) (fun e => by have := (hr g e.symm).1; omega)]
    exact h1

theorem ADone.fin {x : Nat → Nat} {e0 eb frm : Nat} {L : List Nat} {w : World} {n1 g s k cap : Nat} {cur : Array Value} {W : World} (h : ADone w n1 g s k cur W) (hb : w.heap[eb]? = some (.cells #[.int .i64 frm, .slice (some ⟨g, 0, none⟩) L.length cap, .slice none 0 0, .bool false] 121 (0, 0))) (hx : x eb = e0) (hxg : x g = e0 + 1) (hlg : g < w.heap.size)
    (hnc : L.length ≤ cap) (hcm : cap ≤ maxLen) (hcs : cur.size = cap) (htake : cur.toList.take L.length = isv L) (hs : s + k ≤ L.length) : ∃ x', Fr x x' (EC e0) w W ∧ EIs x' e0 W eb frm (setL L s k 1) := by
  obtain ⟨cur', h1, h2⟩ := h.cu
  have leb := lt_of_block hb
  have hne : eb ≠ g := by rintro rfl; omega
  have hsz : cur'.size = cur.size := by
    have a : cur'.size ≤ cur.size := by
      have := h2 cur.size
      rw [if_neg (by omega), Array.getElem?_eq_none (Nat.le_refl _)] at this
      exact Array.getElem?_eq_none_iff.1 this
    by_cases h0 : cur.size = 0
    · omega
    · have := h2 (cur.size - 1)
      have hso : (cur'[cur.size - 1]?).isSome = true := by
        rw [this]
        split
        · rfl
        · rw [Array.getElem?_eq_getElem (by omega)]; rfl
      obtain ⟨v, hv⟩ := Option.isSome_iff_exists.1 hso
      have := (Array.getElem?_eq_some_iff.1 hv).1
      omega
  have hlen := setL_len L s k 1 hs
  refine ⟨paint x w.heap.size (e0 + 1), ⟨h.gr.os, h.gr.tape, h.gr.output, h.gr.size, fun b hb => paint_old hb, fun b h3 h4 => ?_, fun b hb hC => h.gr.block b hb (fun e => by have := Option.some.inj e; subst this; exact hC (by rw [hxg]; exact ⟨by omega, by omega⟩))⟩, .slice (some ⟨g, 0, none⟩) L.length cap, ?_, ?_, ⟨?_, .inr ⟨g, cap, cur', by rw [hlen], Nat.zero_le _, h1, by rw [hlen]; exact hnc, hcm, by rw [hsz, hcs]; omega, ?_⟩⟩, fun b hb => ?_⟩
  · rw [paint_new h3]; exact ⟨by omega, by omega⟩
  · exact (h.gr.block eb leb (fun e => hne (Option.some.inj e))).trans hb
  · rw [paint_old leb]; exact hx
  · simp [isv]
  · rw [hlen, Nat.mul_one]
    refine List.ext_getElem? fun j => ?_
    rw [List.getElem?_take]
    have e1 : (isv (setL L s k 1))[j]? = ((setL L s k 1)[j]?).map (fun (n : Nat) => Value.int .u8 (n : Int)) := by unfold isv; rw [List.getElem?_map]
    have e2 : (isv L)[j]? = (L[j]?).map (fun (n : Nat) => Value.int .u8 (n : Int)) := by unfold isv; rw [List.getElem?_map]
    rw [e1, setL_get L s k 1 hs j]
    by_cases hj : j < L.length
    · rw [if_pos hj, Array.getElem?_toList, h2 j]
      by_cases hq : s ≤ j ∧ j < s + k
      · rw [if_pos hq, if_pos hq]; rfl
      · rw [if_neg hq, if_neg hq, ← e2, ← htake, List.getElem?_take, if_pos hj, Array.getElem?_toList]
    · rw [if_neg hj, if_neg (by omega), List.getElem?_eq_none (by omega)]; rfl
  · have : b = g := by simp [Value.ownBlock] at hb; omega
    subst this
    rw [paint_old hlg]; exact hxg

set_option maxRecDepth 100000 in
set_option maxHeartbeats 4000000 in
theorem Alloc_any (x : Nat → Nat) (e0 : Nat) (w : World) (eb frm k : Nat) (L : List Nat) (h : EIs x e0 w eb frm L) (hL : 0 < L.length ∧ L.length ≤ 4096) (hfl : frm ≤ L.length) (hk : 1 ≤ k ∧ k ≤ 4611686018427387904) :
    Calls Tryz.prog 86 #[.pointer (some ⟨eb, 0, none⟩), .int .i64 (k : Int)] w fun e w' =>
      (∀ s, firstFit L frm k = some s → e = .returned (.tuple #[.agg #[.int .i64 (s : Int), .int .i64 (k : Int)], .int .i64 0]) ∧ ∃ x', Fr x x' (EC e0) w w' ∧ EIs x' e0 w' eb frm (setL L s k 1)) ∧
      (firstFit L frm k = none → e = .returned (.tuple #[.agg #[.int .i64 0, .int .i64 0], .int .i64 3]) ∧ ∃ x', Fr x x' (EC e0) w w' ∧ EIs x' e0 w' eb frm L) := by
  have H := Lib.hid h
  obtain ⟨v, hb, hx, ho, hc⟩ := h
  rcases ho.2 with ⟨hv, hz⟩ | ⟨g, cap, cur, hv, hbg, hg, hnc, hcm, hcs, htake⟩
  · omega
  subst hv
  have leb := lt_of_block hb
  have lg := lt_of_block hg
  have c0 : w.cell? ⟨eb, 0, none⟩ = some (.int .i64 (frm : Int)) := by rw [cell_of_row _ _ _ _ _ _ hb]; rfl
  have c1 : w.cell? ⟨eb, 1, none⟩ = some (.slice (some ⟨g, 0, none⟩) L.length cap) := by rw [cell_of_row _ _ _ _ _ _ hb]; rfl
  have cj : ∀ (j v : Nat), L[j]? = some v → w.cell? ⟨g, j, none⟩ = some (.int .u8 (v : Int)) := fun j v hj => by
    have hjl := (List.getElem?_eq_some_iff.1 hj).1
    have q : (cur.toList.take (L.length * 1))[j]? = (isv L)[j]? := by rw [htake]
    rw [Nat.mul_one, List.getElem?_take, if_pos hjl] at q
    rw [cell_of_row _ _ _ _ _ _ hg, ← Array.getElem?_toList, q]
    simp [isv, hj]
  have C1 := Lib.hid c1
  have C0 := Lib.hid c0
  have CJ := Lib.hid cj
  have HG := Lib.hid hg
  have XG := Lib.hid (hc g rfl)
  have CS : Hid (L.length ≤ cur.size) := Lib.hid (by omega)
  have HBE := Lib.hid hb
  have XE := Lib.hid hx
  have HCS : Hid (cur.size = cap) := Lib.hid (by omega)
  have HTK : Hid (cur.toList.take L.length = isv L) := Lib.hid (by rw [← htake, Nat.mul_one])
  clear hb hx ho hc hg hcs htake c0 c1 cj
  refine callsIn_wide (n := 5) |>.1 ?_
  refine callsIn_of_wp_marks Tryz.func86 rfl trivial ?_ rfl
  simp only [Tryz.ntmps86, List.size_toArray, List.length_cons, List.length_nil, Nat.reduceAdd, Nat.reduceSub, Array.replicate_succ, Array.replicate_zero, List.push_toArray, List.append_toArray, List.nil_append, List.cons_append]
  gi_wp2_with fail
  refine ⟨trivial, ?_⟩
  refine (sp_in Fence.wide 4 trivial rfl eb _).mono ?_
  rintro e w' ⟨rfl, rfl⟩
  have kk : decide ((k : Int) < 1) = false := decide_eq_false (by omega)
  gi_wp2_with fail
  obtain ⟨n1, hn1⟩ : ∃ n1, w.heap.size = n1 := ⟨_, rfl⟩
  obtain ⟨W0, hW0⟩ : ∃ W0, (((((w.alloc (.cells #[.pointer (some ⟨eb, 0, none⟩)] 39)).alloc (.cells #[.int .i64 (k : Int)] 3)).alloc (.cells #[.int .i64 0, .int .i64 0] 34)).alloc (.cells #[.int .i64 0] 37)).alloc (.cells #[.pointer (some ⟨eb, 0, none⟩)] 39)) = W0 := ⟨_, rfl⟩
  have P0 : W0.heap[n1]? = some (.cells #[.pointer (some ⟨eb, 0, none⟩)] 39 (0, 0)) := by
    rw [← hW0, ← hn1, Below.heap_alloc _ _ _ (by simp <;> omega), Below.heap_alloc _ _ _ (by simp <;> omega), Below.heap_alloc _ _ _ (by simp <;> omega), Below.heap_alloc _ _ _ (by simp)]; exact World.alloc_heap_new w _
  have P1 : W0.heap[n1 + 1]? = some (.cells #[.int .i64 (k : Int)] 3 (0, 0)) := by
    have q := World.alloc_heap_new (w.alloc (.cells #[.pointer (some ⟨eb, 0, none⟩)] 39)) (.cells #[.int .i64 (k : Int)] 3)
    rw [World.size_alloc] at q
    rw [← hW0, ← hn1, Below.heap_alloc _ _ _ (by simp <;> omega), Below.heap_alloc _ _ _ (by simp <;> omega), Below.heap_alloc _ _ _ (by simp)]; exact q
  have P2 : W0.heap[n1 + 2]? = some (.cells #[.int .i64 0, .int .i64 0] 34 (0, 0)) := by
    have q := World.alloc_heap_new ((w.alloc (.cells #[.pointer (some ⟨eb, 0, none⟩)] 39)).alloc (.cells #[.int .i64 (k : Int)] 3)) (.cells #[.int .i64 0, .int .i64 0] 34)
    rw [World.size_alloc, World.size_alloc] at q
    rw [← hW0, ← hn1, Below.heap_alloc _ _ _ (by simp <;> omega), Below.heap_alloc _ _ _ (by simp)]; exact q
  have P3 : W0.heap[n1 + 3]? = some (.cells #[.int .i64 0] 37 (0, 0)) := by
    have q := World.alloc_heap_new (((w.alloc (.cells #[.pointer (some ⟨eb, 0, none⟩)] 39)).alloc (.cells #[.int .i64 (k : Int)] 3)).alloc (.cells #[.int .i64 0, .int .i64 0] 34)) (.cells #[.int .i64 0] 37)
    rw [World.size_alloc, World.size_alloc, World.size_alloc] at q
    rw [← hW0, ← hn1, Below.heap_alloc _ _ _ (by simp)]; exact q
  have P4 : W0.heap[n1 + 4]? = some (.cells #[.pointer (some ⟨eb, 0, none⟩)] 39 (0, 0)) := by
    have q := World.alloc_heap_new ((((w.alloc (.cells #[.pointer (some ⟨eb, 0, none⟩)] 39)).alloc (.cells #[.int .i64 (k : Int)] 3)).alloc (.cells #[.int .i64 0, .int .i64 0] 34)).alloc (.cells #[.int .i64 0] 37)) (.cells #[.pointer (some ⟨eb, 0, none⟩)] 39)
    rw [World.size_alloc, World.size_alloc, World.size_alloc, World.size_alloc] at q
    rw [← hW0, ← hn1]; exact q
  have hsz : W0.heap.size = n1 + 5 := by rw [← hW0, ← hn1]; simp
  have hB0 : Below n1 w W0 := by
    rw [← hW0, ← hn1]
    exact (((((Below.refl _ w).alloc (Nat.le_refl _) _).alloc (by simp) _).alloc (by simp <;> omega) _).alloc (by simp <;> omega) _).alloc (by simp <;> omega) _
  rw [hn1]
  rw [hn1] at leb lg
  rw [hW0]
  have HN1 := Lib.hid hn1
  clear hW0 hn1
  rw [show n1 + 1 + 1 + 1 + 1 = n1 + 4 from rfl, show n1 + 1 + 1 + 1 = n1 + 3 from rfl, show n1 + 1 + 1 = n1 + 2 from rfl]
  have M0 : MIn (n1 + 5) W0 (n1 + 4) eb frm g cap L := ⟨P4, (hB0.cell (p := ⟨eb, 0, none⟩) leb).trans C0.out, (hB0.cell (p := ⟨eb, 1, none⟩) leb).trans C1.out, fun j v hj => (hB0.cell (p := ⟨g, j, none⟩) lg).trans (CJ.out j v hj), by omega, by omega, by omega⟩
  have MM := Lib.hid M0
  have Q0 := Lib.hid P0
  have Q1 := Lib.hid P1
  have Q2 := Lib.hid P2
  have Q3 := Lib.hid P3
  have BB := Lib.hid hB0
  have HG0 := Lib.hid ((hB0.block _ lg).trans HG.out)
  clear P0 P1 P2 P3 P4 hB0 M0
  refine wpIn_rangeFunc_ownH rfl (by omega) (gf := 113) (lb := #[.pointer (some ⟨n1 + 4, 0, none⟩)]) rfl trivial (enters_of Tryz.func113 (by kernel_rfl) rfl)
    (sp_stops Fence.wide 4 trivial rfl (by omega) (n1 + 4) (n1 + 5) eb frm g cap L hL.2 hfl W0 (by omega) MM.out) belowK_t (belowK_b (by omega)) (Below.refl _ _) (fun _ => rfl)
    (fun (pre : List (RX L)) W => (∀ p ∈ pre, p.1.2 < k) ∧ Below (n1 + 5) W0 W)
    (fun c (pre : List (RX L)) W => c = .ret ∧ ∃ (ini : List (RX L)) (last : RX L), pre = ini ++ [last] ∧ (∀ p ∈ ini, p.1.2 < k) ∧ k ≤ last.1.2 ∧ ADone w n1 g last.1.1 k cur W)
    (fun pre A B row hs hg hr => ⟨hs.1, hs.2.grown hg (by have := hs.2.size; omega) (fun r e => by have := (hr r e).1; omega)⟩)
    (fun c pre A B row hs hg hr => by
      obtain ⟨hc, ini, last, e1, e2, e3, e4⟩ := hs
      exact ⟨hc, ini, last, e1, e2, e3, e4.own (B := W0.heap.size) (by have := HN1.out; omega) (by have := HN1.out; omega) hg hr⟩)
    ⟨fun p hp => (by cases hp), Below.refl _ _⟩
    (fun (p : RX L) a' W => ∃ Bx, n1 + 5 ≤ Bx ∧ W.heap[Bx]? = some (.cells #[.int .i64 (p.1.1 : Int), .int .i64 (p.1.2 : Int)] 34 (0, 0)) ∧ a' = ({ tmps := #[.pointer (some ⟨eb, 0, none⟩), .int .i64 (k : Int), .pointer (some ⟨n1, 0, none⟩), .pointer (some ⟨n1 + 1, 0, none⟩), .pointer (some ⟨n1 + 2, 0, none⟩), .pointer (some ⟨n1 + 3, 0, none⟩), .pointer (some ⟨Bx, 0, none⟩), .bool false, .pointer (some ⟨eb, 0, none⟩), .bool false, undef, .bool false, .int .i64 (k : Int), .bool false, undef, .pointer (some ⟨eb, 0, none⟩), .func (.func 113) #[] #[.pointer (some ⟨n1 + 4, 0, none⟩)], .agg #[.int .i64 (p.1.1 : Int), .int .i64 (p.1.2 : Int)], undef, undef, undef, undef, undef, undef, undef, undef, undef, undef, undef], defers := [] } : Act))
    (fun p a' _ X Y row hs hg hr => by
      obtain ⟨Bx, h1, h2, h4⟩ := hs
      refine ⟨Bx, h1, ?_, h4⟩
      rw [hg.block Bx (lt_of_block h2) (fun e => by
        obtain ⟨-, o, ho, hoc⟩ := hr Bx e.symm
        rw [h2] at ho
        have := Option.some.inj ho
        subst this
        cases hoc)]
      exact h2)
    ?assign ?body ?done ?stop
  case assign =>
    rintro l pre p W K ⟨hp, hB1⟩ hK
    unfold encX
    have HSZ := Lib.hid hsz
    clear hsz hL hfl hk hnc hcm kk
    gi_wp2
    have hsz := HSZ.out
    have hc := World.alloc_heap_new W (.cells #[Value.int IntKind.i64 (p.1.1 : Int), Value.int IntKind.i64 (p.1.2 : Int)] 34)
    exact hK _ _ ((KeepsOthers.alloc _ _).from _) ((Below.refl _ W).alloc (by have := hB1.size; omega) _) ⟨hp, hB1.alloc (by have := hB1.size; omega) _⟩ ⟨W.heap.size, by have := hB1.size; omega, hc, rfl⟩
  case body =>
    rintro l pre p a' W hl ⟨r, hr⟩ ⟨hp, hB1⟩ ⟨Bx, hBx, hc1, rfl⟩ hlt
    have HB1 := Lib.hid hB1
    have HC1 := Lib.hid hc1
    have HR := Lib.hid hr
    have cP := (hB1.cell (p := ⟨n1 + 1, 0, none⟩) (by show n1 + 1 < n1 + 5; omega)).trans (show W0.cell? ⟨n1 + 1, 0, none⟩ = some (.int .i64 (k : Int)) by rw [cell_of_row _ _ _ _ _ _ Q1.out]; rfl)
    have cQ := (hB1.cell (p := ⟨n1, 0, none⟩) (by show n1 < n1 + 5; omega)).trans (show W0.cell? ⟨n1, 0, none⟩ = some (.pointer (some ⟨eb, 0, none⟩)) by rw [cell_of_row _ _ _ _ _ _ Q0.out]; rfl)
    have cx0 : W.cell? ⟨Bx, 0, none⟩ = some (.int .i64 (p.1.1 : Int)) := by rw [cell_of_row _ _ _ _ _ _ hc1]; rfl
    have cx1 : W.cell? ⟨Bx, 1, none⟩ = some (.int .i64 (p.1.2 : Int)) := by rw [cell_of_row _ _ _ _ _ _ hc1]; rfl
    have fx1 : W.frozen? ⟨Bx, 1, none⟩ = false := frozen_of_row _ _ _ _ _ hc1
    obtain ⟨⟨p1, p2⟩, hpl⟩ := p
    dsimp only at cx0 cx1 HC1 hpl ⊢
    have HPL := Lib.hid hpl
    have HSZ := Lib.hid hsz
    have HL := Lib.hid hl
    have HPP := Lib.hid hp
    clear hB1 hc1 hr hsz hfl hk hnc hcm kk hlt hl hp
    by_cases hy : k ≤ p2
    · have d1 : decide ((k : Int) ≤ (p2 : Int)) = true := decide_eq_true (by omega)
      have hbe : Bx ≠ eb := by have := HSZ.out; omega
      have hbg : Bx ≠ g := by have := HSZ.out; omega
      have M1 := MM.out.below HB1.out
      have g1 := (HB1.out.block g (by omega)).trans HG0.out
      have hlb := lt_of_block HC1.out
      have hl2 := HPL.out
      have hneg : eb ≠ g := by rintro rfl; have := XE.out; have := XG.out; omega
      have HXR := Lib.hid HB1.out
      have Z2 := (HB1.out.block (n1 + 2) (by omega)).trans Q2.out
      have Z3 := (HB1.out.block (n1 + 3) (by omega)).trans Q3.out
      have HNW : Hid (n1 + 5 ≤ W.heap.size) := Lib.hid (by have := HB1.out.size; have := HSZ.out; omega)
      have HG1 := Lib.hid g1
      have HZ2 := Lib.hid Z2
      have HZ3 := Lib.hid Z3
      clear g1 Z2 Z3
      gi_wp2
      refine ⟨trivial, ?_⟩
      refine (ci_round l (callsIn_wide.2 (set_any (fun b => if b = g then 1 else 0) 1 (W.setCell ⟨Bx, 1, none⟩ (.int .i64 (k : Int))) eb g cap L.length p1 k 1 cur ((World.cell?_setCell_far _ _ _ _ hbe).trans M1.c1) ((Below.heap_setCell _ _ _ _ hbg.symm).trans HG1.out) (if_pos rfl) hneg (by omega) CS.out hL.2))).mono ?_
      rintro e5 W5 ⟨⟨r5, rfl⟩, x5, cur5, f5, g5, q5⟩
      have old5 : ∀ b, b < W.heap.size → b ≠ g → W5.heap[b]? = (W.setCell ⟨Bx, 1, none⟩ (.int .i64 (k : Int))).heap[b]? := fun b hb hbg => f5.old b (by simpa using hb) (by show ¬ ((if b = g then 1 else 0) = 1); rw [if_neg hbg]; omega)
      have X5 : W5.heap[Bx]? = some (.cells #[.int .i64 (p1 : Int), .int .i64 (k : Int)] 34 (0, 0)) := (old5 Bx hlb hbg).trans (by rw [heap_setCell_same _ Bx 1 _ _ _ HC1.out]; rfl)
      have Y2 : W5.heap[n1 + 2]? = _ := (old5 (n1 + 2) (by have := HNW.out; omega) (by omega)).trans ((Below.heap_setCell _ _ _ _ (show n1 + 2 ≠ Bx by omega)).trans HZ2.out)
      have Y3 : W5.heap[n1 + 3]? = _ := (old5 (n1 + 3) (by have := HNW.out; omega) (by omega)).trans ((Below.heap_setCell _ _ _ _ (show n1 + 3 ≠ Bx by omega)).trans HZ3.out)
      have cx0 : W5.cell? ⟨Bx, 0, none⟩ = some (.int .i64 (p1 : Int)) := by rw [cell_of_row _ _ _ _ _ _ X5]; rfl
      have cx1 : W5.cell? ⟨Bx, 1, none⟩ = some (.int .i64 (k : Int)) := by rw [cell_of_row _ _ _ _ _ _ X5]; rfl
      have y20 : W5.cell? ⟨n1 + 2, 0, none⟩ = some (.int .i64 0) := by rw [cell_of_row _ _ _ _ _ _ Y2]; rfl
      have y21 : W5.cell? ⟨n1 + 2, 1, none⟩ = some (.int .i64 0) := by rw [cell_of_row _ _ _ _ _ _ Y2]; rfl
      have y30 : W5.cell? ⟨n1 + 3, 0, none⟩ = some (.int .i64 0) := by rw [cell_of_row _ _ _ _ _ _ Y3]; rfl
      have fy : ∀ j, W5.frozen? ⟨n1 + 2, j, none⟩ = false := fun j => frozen_of_row _ _ _ _ _ Y2
      have fy0 := fy 0
      have fy1 := fy 1
      have fz : W5.frozen? ⟨n1 + 3, 0, none⟩ = false := frozen_of_row _ _ _ _ _ Y3
      have HO5 := Lib.hid old5
      have HF5 := Lib.hid f5
      have HG5 := Lib.hid g5
      have HQ5 := Lib.hid q5
      have HY2 := Lib.hid Y2
      have HY3 := Lib.hid Y3
      have HBE2 := Lib.hid hbg
      clear old5 f5 g5 q5 X5 Y2 Y3 fy
      gi_wp2
      have R2 : ((((W5.setCell ⟨n1 + 2, 0, none⟩ (.int .i64 (p1 : Int))).setCell ⟨n1 + 2, 1, none⟩ (.int .i64 (k : Int))).setCell ⟨n1 + 3, 0, none⟩ (.int .i64 0))).heap[n1 + 2]? = some (.cells #[.int .i64 (p1 : Int), .int .i64 (k : Int)] 34 (0, 0)) := by
        rw [Below.heap_setCell _ _ _ _ (show n1 + 2 ≠ n1 + 3 by omega), heap_setCell_same _ (n1 + 2) 1 _ _ _ (heap_setCell_same W5 (n1 + 2) 0 _ _ _ HY2.out)]; rfl
      have R3 : ((((W5.setCell ⟨n1 + 2, 0, none⟩ (.int .i64 (p1 : Int))).setCell ⟨n1 + 2, 1, none⟩ (.int .i64 (k : Int))).setCell ⟨n1 + 3, 0, none⟩ (.int .i64 0))).heap[n1 + 3]? = some (.cells #[.int .i64 0] 37 (0, 0)) := by
        rw [heap_setCell_same _ (n1 + 3) 0 _ _ _ ((Below.heap_setCell _ _ _ _ (show n1 + 3 ≠ n1 + 2 by omega)).trans ((Below.heap_setCell _ _ _ _ (show n1 + 3 ≠ n1 + 2 by omega)).trans HY3.out))]; rfl
      have RO : ∀ b, b ≠ n1 + 2 → b ≠ n1 + 3 → ((((W5.setCell ⟨n1 + 2, 0, none⟩ (.int .i64 (p1 : Int))).setCell ⟨n1 + 2, 1, none⟩ (.int .i64 (k : Int))).setCell ⟨n1 + 3, 0, none⟩ (.int .i64 0))).heap[b]? = W5.heap[b]? := fun b h2 h3 => by
        rw [Below.heap_setCell _ _ _ _ h3, Below.heap_setCell _ _ _ _ h2, Below.heap_setCell _ _ _ _ h2]
      have hfs := HF5.out.size
      have hws : W.heap.size ≤ W5.heap.size := by simpa using hfs
      refine ⟨⟨by simpa using hws, fun q o hq ho hoc => ?_⟩, rfl, pre, ⟨(p1, p2), hpl⟩, rfl, HPP.out, hy, ⟨?_, by rw [cell_of_row _ _ _ _ _ _ R2]; rfl, by rw [cell_of_row _ _ _ _ _ _ R2]; rfl, by rw [cell_of_row _ _ _ _ _ _ R3]; rfl, cur5, ?_, HQ5.out⟩⟩
      · have hsz := HSZ.out
        have hqb : q ≠ Bx := by
          rintro rfl
          rw [HC1.out] at ho
          have := Option.some.inj ho
          subst this
          cases hoc
        rw [RO q (by omega) (by omega), HO5.out q (lt_of_block ho) (by omega), Below.heap_setCell _ _ _ _ hqb]
        exact ho
      · have hn := HN1.out
        have hbs := BB.out.size
        have hb1s := HB1.out.size
        refine ⟨HF5.out.os.trans (HB1.out.os.trans BB.out.os), HF5.out.tape.trans (HB1.out.tape.trans BB.out.tape), HF5.out.output.trans (HB1.out.output.trans BB.out.output), by simp; omega, fun j hj hjg => ?_⟩
        have hjg2 : j ≠ g := fun e => hjg (by rw [e])
        rw [RO j (by omega) (by omega), HO5.out j (by omega) hjg2, Below.heap_setCell _ _ _ _ (show j ≠ Bx by omega), HB1.out.block j (by omega), BB.out.block j (by omega)]
      · rw [RO g (by omega) (by omega)]; exact HG5.out
    · have d1 : decide ((k : Int) ≤ (p2 : Int)) = false := decide_eq_false (by omega)
      have hy2 : p2 < k := by omega
      gi_wp2
      exact ⟨KeepsFrom.refl _ _, Below.refl _ _, fun q hq => (List.mem_append.1 hq).elim (HPP.out q) (fun e => by rw [List.mem_singleton] at e; subst e; exact hy2), HB1.out⟩
  case done =>
    rintro dd ys W hD hys ⟨hp, hB⟩ hK
    have NF := Lib.hid (firstFit_none (L := L) (frm := frm) (k := k) (fun q hq => by
      rw [← hys] at hq
      obtain ⟨q', hq', rfl⟩ := List.mem_map.1 hq
      exact hp q' hq'))
    have HB := Lib.hid hB
    have HK := Lib.hid hK
    have g2 := (hB.block (n1 + 2) (by omega)).trans Q2.out
    have g3 := (hB.block (n1 + 3) (by omega)).trans Q3.out
    have c20 : W.cell? ⟨n1 + 2, 0, none⟩ = some (.int .i64 0) := by rw [cell_of_row _ _ _ _ _ _ g2]; rfl
    have c21 : W.cell? ⟨n1 + 2, 1, none⟩ = some (.int .i64 0) := by rw [cell_of_row _ _ _ _ _ _ g2]; rfl
    have c30 : W.cell? ⟨n1 + 3, 0, none⟩ = some (.int .i64 0) := by rw [cell_of_row _ _ _ _ _ _ g3]; rfl
    have f2 : ∀ j, W.frozen? ⟨n1 + 2, j, none⟩ = false := fun j => frozen_of_row _ _ _ _ _ g2
    have f20 := f2 0
    have f21 := f2 1
    have f30 : W.frozen? ⟨n1 + 3, 0, none⟩ = false := frozen_of_row _ _ _ _ _ g3
    clear hp hB hys g2 g3 f2 hK
    gi_wp2_with fail
    have hK1 := (KeepsOthers.setCell W ⟨n1 + 2, 0, none⟩ (.int .i64 0)).same dd _ HK.out rfl
    have hK2 := (KeepsOthers.setCell _ ⟨n1 + 2, 1, none⟩ (.int .i64 0)).same dd _ hK1 rfl
    have hK3 := (KeepsOthers.setCell _ ⟨n1 + 3, 0, none⟩ (.int .i64 3)).same dd _ hK2 rfl
    refine ⟨by simp, .inl ⟨_, _, rfl, run_takeDeferred hK3, ?_⟩⟩
    have BF : Below n1 w (((((W.setCell ⟨n1 + 2, 0, none⟩ (.int .i64 0)).setCell ⟨n1 + 2, 1, none⟩ (.int .i64 0)).setCell ⟨n1 + 3, 0, none⟩ (.int .i64 3))).putObj dd (.deferred none)) := (((((BB.out.trans (HB.out.mono (by omega))).setCell (p := ⟨n1 + 2, 0, none⟩) (by show n1 ≤ n1 + 2; omega) _).setCell (p := ⟨n1 + 2, 1, none⟩) (by show n1 ≤ n1 + 2; omega) _).setCell (p := ⟨n1 + 3, 0, none⟩) (by show n1 ≤ n1 + 3; omega) _)).trans (belowK_b (w := W0) (by omega) _ dd _ _ hD hK3 rfl rfl)
    have d20 := cell_kept (show (((W.setCell ⟨n1 + 2, 0, none⟩ (.int .i64 0)).setCell ⟨n1 + 2, 1, none⟩ (.int .i64 0)).setCell ⟨n1 + 3, 0, none⟩ (.int .i64 3)).cell? ⟨n1 + 2, 0, none⟩ = some (.int .i64 0) by simp [go_sem, *]) (grownBy_putObj' _ dd (.deferred none)) (fun r e => by cases e; exact ⟨_, hK3, rfl⟩)
    have d21 := cell_kept (show (((W.setCell ⟨n1 + 2, 0, none⟩ (.int .i64 0)).setCell ⟨n1 + 2, 1, none⟩ (.int .i64 0)).setCell ⟨n1 + 3, 0, none⟩ (.int .i64 3)).cell? ⟨n1 + 2, 1, none⟩ = some (.int .i64 0) by simp [go_sem, *]) (grownBy_putObj' _ dd (.deferred none)) (fun r e => by cases e; exact ⟨_, hK3, rfl⟩)
    have d30 := cell_kept (show (((W.setCell ⟨n1 + 2, 0, none⟩ (.int .i64 0)).setCell ⟨n1 + 2, 1, none⟩ (.int .i64 0)).setCell ⟨n1 + 3, 0, none⟩ (.int .i64 3)).cell? ⟨n1 + 3, 0, none⟩ = some (.int .i64 3) by simp [go_sem, *]) (grownBy_putObj' _ dd (.deferred none)) (fun r e => by cases e; exact ⟨_, hK3, rfl⟩)
    have BF := Lib.hid BF
    generalize World.putObj _ dd (.deferred none) = WF at d20 d21 d30 BF ⊢
    refine ⟨.tuple #[.agg #[.int .i64 0, .int .i64 0], .int .i64 3], ?_, ?_, ?_⟩
    · simp [results, Tryz.f86, go_sem, d20, d21, d30]
    · intro s hs
      rw [NF.out] at hs
      cases hs
    · intro _
      have bf : Below w.heap.size w WF := by rw [HN1.out]; exact BF.out
      exact ⟨rfl, paint x w.heap.size (e0 + 1), Fr.of_below bf (show EC e0 (e0 + 1) from ⟨by omega, by omega⟩), EIs_below H.out bf (fun b hb => paint_old hb)⟩
  case stop =>
    rintro dd c pre W hD ⟨t, ht⟩ ⟨rfl, ini, last, e1, e2, e3, hA⟩ hK
    have hK := hK
    have FS := Lib.hid (firstFit_some (L := L) (frm := frm) (k := k) (ini := ini.map Subtype.val) (t := t) (last := last.1) (by rw [← ht, e1, List.map_append]; rfl) (fun q hq => by
      obtain ⟨q', hq', rfl⟩ := List.mem_map.1 hq
      exact e2 q' hq') e3)
    have hin : last.1.1 + k ≤ L.length := by have := last.2; omega
    obtain ⟨s0, hs0⟩ : ∃ s0, last.1.1 = s0 := ⟨_, rfl⟩
    rw [hs0] at FS hin hA
    have hA2 := hA.own (B := W0.heap.size) (by have := HN1.out; omega) (by have := HN1.out; omega) (grownBy_putObj' W dd (.deferred none)) (fun r e => by cases e; exact ⟨hD, _, hK, rfl⟩)
    have c2 := hA2.c2
    have c3 := hA2.c3
    have ce := hA2.ce
    have HA2 := Lib.hid hA2
    clear ht e1 e2 e3 hs0 hA hA2
    gi_wp2
    refine ⟨by simp, .inl ⟨_, _, rfl, run_takeDeferred hK, ?_⟩⟩
    refine ⟨.tuple #[.agg #[.int .i64 (s0 : Int), .int .i64 (k : Int)], .int .i64 0], ?_, ?_, ?_⟩
    · simp [results, Tryz.f86, go_sem, c2, c3, ce]
    · intro s hs
      rw [FS.out] at hs
      obtain rfl := Option.some.inj hs
      exact ⟨rfl, HA2.out.fin HBE.out XE.out XG.out (by have := HN1.out; omega) hnc hcm HCS.out HTK.out hin⟩
    · intro hs
      rw [FS.out] at hs
      cases hs

end Go.Proofs.YtbgbomlmgkgkoaaGreat.vc

namespace Go.Proofs.YtbgbomlmgkgkoaaGreat.vc
open Go.RowKit Go.Proofs.YtbgbomlmgkgkoaaGreat.own Go.Proofs.YtbgbomlmgkgkoaaGreat.dv Go.Proofs.YtbgbomlmgkgkoaaGreat.po Go.Proofs.YtbgbomlmgkgkoaaGreat.arcI Go.Proofs.YtbgbomlmgkgkoaaGreat.st

set_option maxRecDepth 100000 in
set_option maxHeartbeats 1600000 in
theorem Take_c (x : Nat → Nat) (e0 z : Nat) (hz : ¬ EC e0 z) (w : World) (sb eb frm k s : Nat) (L : List Nat) (hc : w.cell? ⟨sb, 1, none⟩ = some (.pointer (some ⟨eb, 0, none⟩))) (h : EIs x e0 w eb frm L) (hL : 0 < L.length ∧ L.length ≤ 4096) (hfl : frm ≤ L.length) (hk : 1 ≤ k ∧ k ≤ 4611686018427387904) (hf : firstFit L frm k = some s) :
    Calls Tryz.prog 38 #[.pointer (some ⟨sb, 0, none⟩), .int .i64 (k : Int)] w fun e w' => e = .returned (.tuple #[.agg #[.int .i64 (s : Int), .int .i64 (k : Int)], .int .i64 0]) ∧ ∃ x', Fr x x' (fun e => EC e0 e ∨ e = z) w w' ∧ EIs x' e0 w' eb frm (setL L s k 1) := by
  have H := Lib.hid h
  have hb0 : Below w.heap.size w (w.alloc (.cells #[.int .i64 0, .int .i64 0] 34)) := (Below.refl _ w).alloc (Nat.le_refl _) _
  have f0 : Fr x (paint x w.heap.size z) (fun e => e = z) w (w.alloc (.cells #[.int .i64 0, .int .i64 0] 34)) := Fr.of_below hb0 rfl
  have E0 := Lib.hid (EIs_below H.out hb0 (x' := paint x w.heap.size z) (fun b hb => paint_old hb))
  have G0 := Lib.hid (World.alloc_heap_new w (.cells #[.int .i64 0, .int .i64 0] 34))
  have hc := (hb0.cell (p := ⟨sb, 1, none⟩) (World.block_lt_of_cell? _ _ hc)).trans hc
  have F0 := Lib.hid f0
  have X0 : Hid (paint x w.heap.size z w.heap.size = z) := Lib.hid (paint_new (Nat.le_refl _))
  have FF := Lib.hid hf
  clear h hb0 f0 hf
  go_enter Tryz.func38, Tryz.ntmps38
  go_upto_region 1 with fail
  generalize w.alloc _ = W1 at E0 G0 F0 hc ⊢
  generalize paint x w.heap.size z = x1 at E0 F0 X0
  generalize hnq : w.heap.size = q at G0 X0 ⊢
  have HNQ := Lib.hid hnq
  clear hnq
  go_wp2_with fail
  refine (Alloc_any x1 e0 W1 eb frm k L E0.out hL hfl hk).mono ?_
  rintro e w2 ⟨ha, -⟩
  obtain ⟨rfl, x2, f2, e2⟩ := ha s FF.out
  have g2 := (f2.old q (lt_of_block G0.out) (by rw [X0.out]; exact hz)).trans G0.out
  have F2 := Lib.hid ((F0.out.mono (D := fun e => EC e0 e ∨ e = z) (fun e he => .inr he)).trans (f2.mono (fun e he => .inl he)))
  have X2 := Lib.hid ((f2.col q (lt_of_block G0.out)).trans X0.out)
  have E2 := Lib.hid e2
  have q0 : w2.cell? ⟨q, 0, none⟩ = some (.int .i64 0) := by rw [cell_of_row _ _ _ _ _ _ g2]; rfl
  have q1 : w2.cell? ⟨q, 1, none⟩ = some (.int .i64 0) := by rw [cell_of_row _ _ _ _ _ _ g2]; rfl
  have qf : ∀ j, w2.frozen? ⟨q, j, none⟩ = false := fun j => frozen_of_row _ _ _ _ _ g2
  have qf0 := qf 0
  have qf1 := qf 1
  clear ha f2 e2 g2 qf E0 G0 F0 hc X0
  go_wp2_with fail
  refine bodyPost_ret (v := .tuple #[.agg #[.int .i64 (s : Int), .int .i64 (k : Int)], .int .i64 0]) (by simp [results, Tryz.f38, go_sem, q0, q1]) rfl ?_
  have f3 : Fr x2 x2 (fun e => e = z) w2 ((w2.setCell ⟨q, 0, none⟩ (.int .i64 (s : Int))).setCell ⟨q, 1, none⟩ (.int .i64 (k : Int))) := Fr.same rfl rfl rfl (by simp) (fun b _ hC => by
    have hne : b ≠ q := by rintro rfl; exact hC X2.out
    rw [Below.heap_setCell _ _ _ _ hne, Below.heap_setCell _ _ _ _ hne])
  exact ⟨rfl, x2, F2.out.trans (f3.mono (fun e he => .inr he)), E2.out.frame f3 (fun e he hc => by subst hc; exact hz he)⟩

theorem Take_any (x : Nat → Nat) (c0 d0 e0 z : Nat) (hz : ¬ EC e0 z) (w : World) (sb db eb N m nb frm k s : Nat) (V : Int → ByteArray) (L : List Nat) (hv : VV x c0 d0 w sb db eb N m nb V) (h : EIs x e0 w eb frm L) (hL : 0 < L.length ∧ L.length ≤ 4096) (hfl : frm ≤ L.length) (hk : 1 ≤ k ∧ k ≤ 4611686018427387904) (hf : firstFit L frm k = some s) :
    Calls Tryz.prog 38 #[.pointer (some ⟨sb, 0, none⟩), .int .i64 (k : Int)] w fun e w' => e = .returned (.tuple #[.agg #[.int .i64 (s : Int), .int .i64 (k : Int)], .int .i64 0]) ∧ ∃ x', Fr x x' (fun e => EC e0 e ∨ e = z) w w' ∧ EIs x' e0 w' eb frm (setL L s k 1) :=
  Take_c x e0 z hz w sb eb frm k s L hv.cells h hL hfl hk hf

/-! ### a vector in memory -/
def vcCells (n wd ea st ln sb : Nat) (cl : Bool) : Array Value := #[.int .i64 (n : Int), .int .i64 (wd : Int), .int .i64 (ea : Int), .int .i64 (st : Int), .int .i64 (ln : Int), .pointer (some ⟨sb, 0, none⟩), .bool cl]
def VI (w : World) (vb n wd ea st ln sb : Nat) (cl : Bool) : Prop := w.heap[vb]? = some (.cells (vcCells n wd ea st ln sb cl) 171 (0, 0))
theorem VI.cells {w : World} {vb n wd ea st ln sb : Nat} {cl : Bool} (h : VI w vb n wd ea st ln sb cl) : w.cell? ⟨vb, 0, none⟩ = some (.int .i64 (n : Int)) ∧ w.cell? ⟨vb, 1, none⟩ = some (.int .i64 (wd : Int)) ∧ w.cell? ⟨vb, 2, none⟩ = some (.int .i64 (ea : Int)) ∧ w.cell? ⟨vb, 3, none⟩ = some (.int .i64 (st : Int)) ∧ w.cell? ⟨vb, 4, none⟩ = some (.int .i64 (ln : Int)) ∧
    w.cell? ⟨vb, 5, none⟩ = some (.pointer (some ⟨sb, 0, none⟩)) ∧ w.cell? ⟨vb, 6, none⟩ = some (.bool cl) ∧ ∀ j, w.frozen? ⟨vb, j, none⟩ = false := by
  refine ⟨?_, ?_, ?_, ?_, ?_, ?_, ?_, fun j => frozen_of_row _ _ _ _ _ h⟩ <;> (rw [cell_of_row _ _ _ _ _ _ h]; rfl)
theorem VI.frame {w w' : World} {vb n wd ea st ln sb : Nat} {cl : Bool} (h : VI w vb n wd ea st ln sb cl) (e : w'.heap[vb]? = w.heap[vb]?) : VI w' vb n wd ea st ln sb cl := e.trans h
theorem VI.lt {w : World} {vb n wd ea st ln sb : Nat} {cl : Bool} (h : VI w vb n wd ea st ln sb cl) : vb < w.heap.size := lt_of_block h
theorem vready_any (w : World) (vb n wd ea st ln sb : Nat) (h : VI w vb n wd ea st ln sb false) : Calls Tryz.prog 103 #[.pointer (some ⟨vb, 0, none⟩)] w fun e w' => e = .returned (.int .i64 0) ∧ w = w' := by
  obtain ⟨-, -, -, -, -, -, c6, -⟩ := h.cells
  clear h
  go_enter Tryz.func103, Tryz.ntmps103
  go_wp2_with fail
  go_ret
  exact ⟨rfl, rfl⟩
def shV (n wd ea : Nat) : Value := .agg #[.int .i64 (n : Int), .int .i64 (wd : Int), .int .i64 (ea : Int)]
set_option maxRecDepth 100000 in
theorem blocks_any (w : World) (n wd ea k : Nat) (hn : n ≤ 4194304) (he : 1 ≤ ea ∧ ea ≤ 4096) (hk : max 1 ((n + ea - 1) / ea) = k) :
    Calls Tryz.prog 77 #[shV n wd ea] w fun e w' => e = .returned (.int .i64 (k : Int)) ∧ Below w.heap.size w w' := by
  have b1 : IntKind.i64.wrap ((n : Int) + (ea : Int)) = (n : Int) + (ea : Int) := IntWalk.i64_in _ (by omega)
  have b2 : IntKind.i64.wrap ((n : Int) + (ea : Int) - 1) = (n : Int) + (ea : Int) - 1 := IntWalk.i64_in _ (by omega)
  obtain ⟨q, hq⟩ : ∃ q, (n + ea - 1) / ea = q := ⟨_, rfl⟩
  have b3 : Int.tdiv ((n : Int) + (ea : Int) - 1) (ea : Int) = (q : Int) := by
    rw [show (n : Int) + (ea : Int) - 1 = ((n + ea - 1 : Nat) : Int) by omega, ← Int.ofNat_tdiv, hq]
  have hql : q ≤ n + ea - 1 := by rw [← hq]; exact Nat.div_le_self _ _
  have b4 : IntKind.i64.wrap (q : Int) = (q : Int) := IntWalk.i64_in _ (by omega)
  have z0 : ¬ ((ea : Int) = 0) := by omega
  have z1 : ¬ (ea = 0) := by omega
  rw [hq] at hk
  have HK := Lib.hid hk
  clear hk hq
  unfold shV
  go_enter Tryz.func77, Tryz.ntmps77
  go_wp2_with fail
  have ek : max (1 : Int) (q : Int) = (k : Int) := by have := HK.out; omega
  rw [ek]
  go_ret
  exact ⟨rfl, (Below.refl _ w).alloc (Nat.le_refl _) _⟩

def WdOk (wd : Nat) : Prop := wd = 1 ∨ wd = 2 ∨ wd = 4 ∨ wd = 8
set_option maxRecDepth 100000 in
theorem fits_any (w : World) (n wd ea v : Nat) (hw : WdOk wd) (hv : v < 256 ^ wd) :
    Calls Tryz.prog 105 #[shV n wd ea, .int .u64 (v : Int)] w fun e w' => e = .returned (.bool true) ∧ Below w.heap.size w w' := by
  unfold shV
  rcases hw with rfl | rfl | rfl | rfl
  · have d1 : decide ((v : Int) < 256) = true := decide_eq_true (by omega)
    clear hv
    go_enter Tryz.func105, Tryz.ntmps105
    go_wp2_with fail
    go_ret
    exact ⟨rfl, (Below.refl _ w).alloc (Nat.le_refl _) _⟩
  · have d1 : decide ((v : Int) < 65536) = true := decide_eq_true (by omega)
    clear hv
    go_enter Tryz.func105, Tryz.ntmps105
    go_wp2_with fail
    go_ret
    exact ⟨rfl, (Below.refl _ w).alloc (Nat.le_refl _) _⟩
  · have d1 : decide ((v : Int) < 4294967296) = true := decide_eq_true (by omega)
    clear hv
    go_enter Tryz.func105, Tryz.ntmps105
    go_wp2_with fail
    go_ret
    exact ⟨rfl, (Below.refl _ w).alloc (Nat.le_refl _) _⟩
  · clear hv
    go_enter Tryz.func105, Tryz.ntmps105
    go_wp2_with fail
    go_ret
    exact ⟨rfl, (Below.refl _ w).alloc (Nat.le_refl _) _⟩

set_option maxRecDepth 100000 in
set_option maxHeartbeats 1600000 in
theorem text_any (w : World) (m wd ea n : Nat) (hw : 1 ≤ wd ∧ wd ≤ 8) :
    Calls Tryz.prog 106 #[shV m wd ea, .int .u64 (n : Int)] w fun e w' => e = .returned (.string ⟨(bytesN n wd).toArray⟩) ∧ Below w.heap.size w w' := by
  obtain ⟨i0, hi, hz0, hz1, hz2⟩ := info_parts Tryz.infoByte9
  have hb0 : Below w.heap.size w (w.alloc (.cells #[.int .i64 (m : Int), .int .i64 (wd : Int), .int .i64 (ea : Int)] 169)) := (Below.refl _ w).alloc (Nat.le_refl _) _
  have T0 := Lib.hid (World.alloc_heap_new w (.cells #[.int .i64 (m : Int), .int .i64 (wd : Int), .int .i64 (ea : Int)] 169))
  have B0 := Lib.hid hb0
  clear hb0
  unfold shV
  go_enter Tryz.func106, Tryz.ntmps106
  go_upto_region 1 with fail
  generalize w.alloc _ = W0 at T0 B0 ⊢
  generalize hnq : w.heap.size = tb at T0 B0 ⊢
  have HNQ := Lib.hid hnq
  clear hnq
  have t1 : W0.cell? ⟨tb, 1, none⟩ = some (.int .i64 (wd : Int)) := by rw [cell_of_row _ _ _ _ _ _ T0.out]; rfl
  obtain ⟨w1, hrun, hown, hg⟩ := run_make_full (P := Tryz.prog) W0 0 55 5 i0 _ 1 (by kernel_rfl) hi hz0 hz1 .i64 .i64 wd (by rw [hz2]; omega) (by simp only [maxLen]; omega) (Nat.zero_le _)
  have B1 := Lib.hid (show Below W0.heap.size W0 w1 from ⟨hg.os, hg.tape, hg.output, hg.size, fun k hk => hg.block k hk (by simp)⟩)
  have R1 : Hid (∃ cs : Array Value, w1.heap[W0.heap.size]? = some (.cells cs 5 (0, 0)) ∧ cs.size = wd) := Lib.hid (by
    rcases hown.2 with ⟨hv, -⟩ | ⟨g, cap, cur, hv, -, hgc, h1, h2, h3, -⟩
    · cases hv
    · have e := Value.slice.inj hv
      have e1 := e.1
      have e2 := e.2.2
      simp at e1
      subst e1
      exact ⟨cur, hgc, by omega⟩)
  have htb : tb < W0.heap.size := lt_of_block T0.out
  have BW := Lib.hid (B0.out.trans (B1.out.mono (by have := B0.out.size; omega)))
  have T1 := Lib.hid ((B1.out.block _ htb).trans T0.out)
  obtain ⟨gb, hgb⟩ : ∃ gb, W0.heap.size = gb := ⟨_, rfl⟩
  have hgl : tb < gb := by omega
  rw [hgb] at hrun R1
  clear hown hg hgb
  go_wp2_with fail
  clear hrun t1
  go_loopw [12] (fun i wr => ∃ k : Nat, i = .int .i64 k ∧ k ≤ wd ∧ Below tb w wr ∧ wr.cell? ⟨tb, 1, none⟩ = some (.int .i64 (wd : Int)) ∧ ∃ cs : Array Value, wr.heap[gb]? = some (.cells cs 5 (0, 0)) ∧ cs.size = wd ∧ ∀ j, j < k → cs[j]? = some (.int .u8 ((n / 2 ^ (8 * (wd - 1 - j)) % 256 : Nat) : Int))) (fun i _ => wd - (intOf i).toNat)
  case atStart => obtain ⟨cs, h1, h2⟩ := R1.out; exact ⟨0, rfl, by omega, BW.out, by rw [cell_of_row _ _ _ _ _ _ T1.out]; rfl, cs, h1, h2, fun j hj => absurd hj (Nat.not_lt_zero _)⟩
  case round =>
    obtain ⟨k, rfl, hk, hb, t1, cs, hcs, hsz, hv⟩ := hrel
    have BB := Lib.hid hb
    have CS := Lib.hid hcs
    have HV := Lib.hid hv
    have HS := Lib.hid hsz
    by_cases hlt : k < wd
    · have kc : (wr.cell? ⟨gb, k, none⟩).isSome = true := by rw [cell_of_row _ _ _ _ _ _ hcs]; simp; omega
      obtain ⟨v0, hv0⟩ := Option.isSome_iff_exists.1 kc
      have kf : wr.frozen? ⟨gb, k, none⟩ = false := frozen_of_row _ _ _ _ _ hcs
      have hne : gb ≠ tb := by omega
      have T1N : Hid (∀ v, (wr.setCell ⟨gb, k, none⟩ v).cell? ⟨tb, 1, none⟩ = some (.int .i64 (wd : Int))) := Lib.hid (fun v => (World.cell?_setCell_far _ _ _ _ hne).trans t1)
      have GL := Lib.hid hgl
      clear hb hcs hv kc hne hgl hsz
      go_wp2_with fail
      go_roundw
      case rel =>
        have E : ((n : Int) / 2 ^ (8 * (wd - 1 - k)) % 256) = ((n / 2 ^ (8 * (wd - 1 - k)) % 256 : Nat) : Int) := by simp
        rw [E]
        refine ⟨k + 1, by go_num, by omega, BB.out.setCell (p := ⟨gb, k, none⟩) (by have := GL.out; show tb ≤ gb; omega) _, T1N.out _, _, heap_setCell_same wr _ k _ _ _ CS.out, by simp [HS.out], fun j hj => ?_⟩
        by_cases hjk : j = k
        · subst hjk; rw [Array.getElem?_setIfInBounds_self_of_lt (by have := HS.out; omega)]
        · rw [Array.getElem?_setIfInBounds_ne (fun e => hjk e.symm)]; exact HV.out j (by omega)
      case measure => simp [intOf]; omega
    · obtain rfl : k = wd := by omega
      have hcv := run_convert_bytes_back (P := Tryz.prog) wr 55 9 5 ⟨gb, 0, none⟩ k (bytesN n k) (by kernel_rfl) (by kernel_rfl) (by kernel_rfl) (fun j hj => by
        rw [bytesN_len] at hj
        rw [Addr.add_lit, Nat.zero_add, cell_of_row _ _ _ _ _ _ hcs, hv j hj]
        have : (bytesN n k)[j]'(by rw [bytesN_len]; exact hj) = UInt8.ofNat (n / 2 ^ (8 * (k - 1 - j)) % 256) := by simp [bytesN]
        rw [this]
        have h256 : n / 2 ^ (8 * (k - 1 - j)) % 256 < 256 := Nat.mod_lt _ (by decide)
        rw [UInt8.toNat_ofNat', Nat.mod_eq_of_lt h256])
      rw [bytesN_len] at hcv
      clear hb hcs hv hsz
      go_wp2_with fail
      go_ret
      exact ⟨rfl, by rw [HNQ.out]; exact BB.out⟩

set_option maxRecDepth 100000 in
theorem at_any (w : World) (vb n wd ea st ln sb i : Nat) (h : VI w vb n wd ea st ln sb false) (hi : i ≤ 4194304) (he : 1 ≤ ea ∧ ea ≤ 4096) (hw : 1 ≤ wd ∧ wd ≤ 8) (hs : st ≤ 4096) :
    Calls Tryz.prog 104 #[.pointer (some ⟨vb, 0, none⟩), .int .i64 (i : Int)] w fun e w' => e = .returned (.tuple #[.int .i64 ((st + i / ea : Nat) : Int), .int .i64 ((i % ea * wd : Nat) : Int)]) ∧ Below w.heap.size w w' := by
  obtain ⟨-, c1, c2, c3, -, -, -, -⟩ := h.cells
  obtain ⟨q, hq⟩ : ∃ q, i / ea = q := ⟨_, rfl⟩
  obtain ⟨r, hr⟩ : ∃ r, i % ea = r := ⟨_, rfl⟩
  obtain ⟨p, hp⟩ : ∃ p, r * wd = p := ⟨_, rfl⟩
  have hql : q ≤ i := by rw [← hq]; exact Nat.div_le_self _ _
  have hrl : r < ea := by rw [← hr]; exact Nat.mod_lt _ (by omega)
  have hpl : p ≤ 32768 := by rw [← hp]; have := Nat.mul_le_mul (show r ≤ 4096 by omega) hw.2; omega
  have e1 : Int.tdiv (i : Int) (ea : Int) = (q : Int) := by rw [← Int.ofNat_tdiv, hq]
  have e2 : Int.tmod (i : Int) (ea : Int) = (r : Int) := by rw [← Int.ofNat_tmod, hr]
  have e3 : IntKind.i64.wrap (q : Int) = (q : Int) := IntWalk.i64_in _ (by omega)
  have e4 : IntKind.i64.wrap ((st : Int) + (q : Int)) = (st : Int) + (q : Int) := IntWalk.i64_in _ (by omega)
  have e5 : IntKind.i64.wrap ((r : Int) * (wd : Int)) = (p : Int) := by rw [← Int.natCast_mul, hp]; exact IntWalk.i64_in _ (by omega)
  have z0 : ¬ ((ea : Int) = 0) := by omega
  have z1 : ¬ (ea = 0) := by omega
  have HQ := Lib.hid hq
  have HR := Lib.hid hr
  have HP := Lib.hid hp
  clear h hq hr hp
  go_enter Tryz.func104, Tryz.ntmps104
  go_upto_region 1 with fail
  go_quiet (fail)
  go_wp2_with fail
  refine bodyPost_ret (v := .tuple #[.int .i64 ((st : Int) + (q : Int)), .int .i64 (p : Int)]) (by simp [results, Tryz.f104, go_sem]) rfl ?_
  exact ⟨by rw [HQ.out, HR.out, HP.out, Int.natCast_add], ⟨rfl, rfl, rfl, Nat.le_refl _, fun _ _ => rfl⟩⟩

end Go.Proofs.YtbgbomlmgkgkoaaGreat.vc

namespace Go.Proofs.YtbgbomlmgkgkoaaGreat.vc
open Go.RowKit Go.Proofs.YtbgbomlmgkgkoaaGreat.own Go.Proofs.YtbgbomlmgkgkoaaGreat.dv Go.Proofs.YtbgbomlmgkgkoaaGreat.po Go.Proofs.YtbgbomlmgkgkoaaGreat.arcI Go.Proofs.YtbgbomlmgkgkoaaGreat.st

/-! ### the numbers of a vector, by what the blocks have -/
def VN (V : Int → ByteArray) (st sz wd n : Nat) (g : Nat → Nat) : Prop := ∀ i, i < n → readL V st sz (i * wd) wd = bytesN (g i) wd
theorem place_div (i ea wd : Nat) (hw : 0 < wd) : (i * wd) / (ea * wd) = i / ea := Nat.mul_div_mul_right _ _ hw
theorem place_mod (i ea wd : Nat) : (i * wd) % (ea * wd) = i % ea * wd := Nat.mul_mod_mul_right _ _ _
theorem place_fit {i ea wd : Nat} (he : 0 < ea) : i % ea * wd + wd ≤ ea * wd := by
  have := Nat.mod_lt i he
  have q := Nat.mul_le_mul (show i % ea + 1 ≤ ea by omega) (Nat.le_refl wd)
  rw [Nat.add_mul, Nat.one_mul] at q
  exact q
theorem get_read {V : Int → ByteArray} {st sz ea wd i : Nat} (hs : ea * wd = sz) (he : 0 < ea) (hw : 0 < wd) (hV : (V ((st : Int) + ((i / ea : Nat) : Int))).size = sz) : readL V st sz (i * wd) wd = ((V ((st : Int) + ((i / ea : Nat) : Int))).data.toList.drop (i % ea * wd)).take wd := by
  subst hs
  have q := readL_chunk (V := V) (st := st) (sz := ea * wd) (off := i * wd) (k := wd) (Nat.mul_pos he hw) (by rw [place_div _ _ _ hw]; exact hV) (by rw [place_mod]; exact place_fit he)
  rw [place_div _ _ _ hw, place_mod] at q
  exact q
/-- a number is set -/
theorem set_read {V : Int → ByteArray} {st sz ea wd i n : Nat} {g : Nat → Nat} {v : Nat} {t : ByteArray} (hs : ea * wd = sz) (he : 0 < ea) (hw : 0 < wd) (hN : VN V st sz wd n g) (hV : ∀ k, (V k).size = sz)
    (ht : t.data.toList = (V ((st : Int) + ((i / ea : Nat) : Int))).data.toList.take (i % ea * wd) ++ bytesN v wd ++ (V ((st : Int) + ((i / ea : Nat) : Int))).data.toList.drop (i % ea * wd + wd)) :
    VN (fun k => if k = (st : Int) + ((i / ea : Nat) : Int) then t else V k) st sz wd n (fun j => if j = i then v else g j) ∧ t.size = sz := by
  have hl : (V ((st : Int) + ((i / ea : Nat) : Int))).data.toList.length = sz := by rw [Array.length_toList]; exact hV _
  have hf := place_fit (i := i) (wd := wd) he
  rw [hs] at hf
  have htl : t.data.toList.length = sz := by
    rw [ht, List.length_append, List.length_append, List.length_take, List.length_drop, bytesN_len, hl]; omega
  have hts : t.size = sz := by rw [← htl, Array.length_toList]; rfl
  refine ⟨fun j hj => ?_, hts⟩
  have hsize : ((fun k => if k = (st : Int) + ((i / ea : Nat) : Int) then t else V k) ((st : Int) + ((j / ea : Nat) : Int))).size = sz := by
    show (if (st : Int) + ((j / ea : Nat) : Int) = (st : Int) + ((i / ea : Nat) : Int) then t else V _).size = sz
    split
    · exact hts
    · exact hV _
  rw [get_read hs he hw hsize]
  show ((if (st : Int) + ((j / ea : Nat) : Int) = (st : Int) + ((i / ea : Nat) : Int) then t else V ((st : Int) + ((j / ea : Nat) : Int))).data.toList.drop (j % ea * wd)).take wd = bytesN (if j = i then v else g j) wd
  by_cases hb : j / ea = i / ea
  · rw [hb, if_pos rfl, ht]
    by_cases hji : j = i
    · subst hji
      rw [if_pos rfl, List.append_assoc, List.drop_left' (by rw [List.length_take, hl]; omega)]
      exact List.take_left' (bytesN_len _ _)
    · rw [if_neg hji]
      have old := hN j hj
      rw [get_read hs he hw (hV _), hb] at old
      rw [← old]
      have hdj := Nat.div_add_mod j ea
      have hdi := Nat.div_add_mod i ea
      have hne : j % ea ≠ i % ea := fun e => hji (by rw [← hdj, ← hdi, hb, e])
      have hfj := place_fit (i := j) (wd := wd) he
      rw [hs] at hfj
      refine List.ext_getElem? fun q => ?_
      rw [List.getElem?_take, List.getElem?_take]
      by_cases hq : q < wd
      · rw [if_pos hq, if_pos hq, List.getElem?_drop, List.getElem?_drop]
        rcases Nat.lt_or_ge (j % ea) (i % ea) with hlt | hge
        · have q2 := Nat.mul_le_mul (show j % ea + 1 ≤ i % ea by omega) (Nat.le_refl wd)
          rw [Nat.add_mul, Nat.one_mul] at q2
          rw [List.append_assoc, List.getElem?_append_left (by rw [List.length_take, hl]; omega), List.getElem?_take, if_pos (by omega)]
        · have q2 := Nat.mul_le_mul (show i % ea + 1 ≤ j % ea by omega) (Nat.le_refl wd)
          rw [Nat.add_mul, Nat.one_mul] at q2
          rw [List.getElem?_append_right (by rw [List.length_append, List.length_take, bytesN_len, hl]; omega), List.length_append, List.length_take, bytesN_len, hl, List.getElem?_drop]
          congr 1
          omega
      · rw [if_neg hq, if_neg hq]
  · rw [if_neg (by omega)]
    have hji : j ≠ i := fun e => hb (by rw [e])
    rw [if_neg hji]
    have old := hN j hj
    rw [get_read hs he hw (hV _)] at old
    exact old

def GC (c0 d0 t : Nat) : Nat → Prop := fun e => PC c0 d0 e ∨ e = t
set_option maxRecDepth 100000 in
set_option maxHeartbeats 3200000 in
theorem Get_any (x : Nat → Nat) (c0 d0 t0 : Nat) (w : World) (vb n wd ea st ln sb db eb N m nb i : Nat) (V : Int → ByteArray) (g : Nat → Nat) (hv : VV x c0 d0 w sb db eb N m nb V) (hvi : VI w vb n wd ea st ln sb false) (hcd : c0 + 9 < d0 ∨ d0 + 2 < c0) (ht : ¬ PC c0 d0 t0) (hxv : ¬ PC c0 d0 (x vb)) (hwd : WdOk wd) (hea : ea * wd = 512 * m) (hn : n ≤ 4096) (hnl : n ≤ ln * ea) (hst : st + ln ≤ nb ∧ nb ≤ 4096) (hi : i < n) (hN : N + 8 < 1099511627776) (hVN : VN V st (512 * m) wd n g) (hg : g i < 256 ^ wd) :
    Calls Tryz.prog 61 #[.pointer (some ⟨vb, 0, none⟩), .int .i64 (i : Int)] w fun e w' => e = .returned (.tuple #[.int .u64 (g i : Int), .int .i64 0]) ∧ ∃ x', Fr x x' (GC c0 d0 t0) w w' ∧ VV x' c0 d0 w' sb db eb (N + 8) m nb V := by
  have hm := hv.size
  have hV := hv.text
  have hw8 : 1 ≤ wd ∧ wd ≤ 8 := by rcases hwd with rfl | rfl | rfl | rfl <;> omega
  have he1 : 1 ≤ ea ∧ ea ≤ 4096 := by
    constructor
    · rcases Nat.eq_zero_or_pos ea with h | h
      · subst h; rw [Nat.zero_mul] at hea; omega
      · exact h
    · have := Nat.mul_le_mul (Nat.le_refl ea) hw8.1; omega
  have hq : i / ea < ln := Nat.div_lt_of_lt_mul (by rw [Nat.mul_comm]; omega)
  have hfit := place_fit (i := i) (wd := wd) he1.1
  have hR := hVN i hi
  rw [get_read hea he1.1 hw8.1 (hV _)] at hR
  rw [hea] at hfit
  have V0 := Lib.hid hv
  have I0 := Lib.hid hvi
  have A0 := Lib.hid (at_any w vb n wd ea st ln sb i hvi (by omega) he1 hw8 (by omega))
  have RD := Lib.hid (vready_any w vb n wd ea st ln sb hvi)
  obtain ⟨c0', c1', -, -, -, c5', -, -⟩ := hvi.cells
  obtain ⟨q, hqq⟩ : ∃ q, st + i / ea = q := ⟨_, rfl⟩
  obtain ⟨r, hrr⟩ : ∃ r, i % ea * wd = r := ⟨_, rfl⟩
  obtain ⟨sz, hsz⟩ : ∃ sz, 512 * m = sz := ⟨_, rfl⟩
  obtain ⟨t, htt⟩ : ∃ t, V ((q : Nat) : Int) = t := ⟨_, rfl⟩
  have hq2 : q < nb := by omega
  have hts : t.size = sz := by rw [← htt, hV, hsz]
  rw [← Int.natCast_add, hqq, htt, hrr] at hR
  rw [hqq, hrr] at A0
  rw [hrr, hsz] at hfit
  have HR := Lib.hid hR
  have HT := Lib.hid htt
  have hsz4 : sz ≤ 4096 := by omega
  have d1 : decide ((i : Int) < 0) = false := decide_eq_false (by omega)
  have d2 : decide ((n : Int) ≤ (i : Int)) = false := decide_eq_false (by omega)
  have d3 : decide (n ≤ i) = false := decide_eq_false (by omega)
  clear hv hvi hVN hR hqq hrr hsz htt hV hea hq
  go_enter Tryz.func61, Tryz.ntmps61
  go_wp2_with fail
  refine RD.out.mono ?_
  rintro e w1 ⟨rfl, rfl⟩
  go_wp2_with fail
  refine A0.out.mono ?_
  rintro e w1 ⟨rfl, hb1⟩
  have f1 : Fr x (paint x w.heap.size t0) (fun e => e = t0) w w1 := Fr.of_below hb1 rfl
  have V1 := Lib.hid (V0.out.frame f1 (fun e he hc => by subst hc; exact ht (PD_PC c0 d0 _ he)))
  have I1 := I0.out.frame (hb1.block _ I0.out.lt)
  have X1 : Hid (¬ PC c0 d0 (paint x w.heap.size t0 vb)) := Lib.hid (by rw [paint_old I0.out.lt]; exact hxv)
  have F1 := Lib.hid (f1.mono (D := GC c0 d0 t0) (fun e he => .inr he))
  obtain ⟨-, k1, -, -, -, k5, -, -⟩ := I1.cells
  have HI1 := Lib.hid I1
  clear hb1 f1 I1 V0 I0 A0 RD c0' c1' c5'
  generalize paint x w.heap.size t0 = x1 at V1 X1 F1
  go_wp2_with fail
  refine (V1.out.read hcd (no := (q : Int)) (by omega) (by omega) hN).mono ?_
  rintro e w2 ⟨rfl, x2, f2, v2⟩
  have F2 := Lib.hid (F1.out.trans (f2.mono (D := GC c0 d0 t0) (fun e he => .inl he)))
  have V2 := Lib.hid v2
  have I2 := HI1.out.frame (f2.old _ HI1.out.lt X1.out)
  obtain ⟨-, k1', -, -, -, -, -, -⟩ := I2.cells
  rw [HT.out]
  have e1 : IntKind.i64.wrap ((r : Int) + (wd : Int)) = (r : Int) + (wd : Int) := IntWalk.i64_in _ (by omega)
  obtain ⟨u, hu⟩ : ∃ u, t.extract r (r + wd) = u := ⟨_, rfl⟩
  have hus : u.size = wd := by rw [← hu, ByteArray.size_extract]; omega
  have UL : u.data.toList = bytesN (g i) wd := by rw [← hu, extract_list, Nat.add_sub_cancel_left]; exact HR.out
  have NB : Hid (numB u.data.toList = g i) := Lib.hid (by rw [UL]; exact numB_bytesN wd _ hg)
  have e2 : (((r : Int) + (wd : Int))).toNat = r + wd := by omega
  have hcv := fun W : World => run_bytes_of_string (P := Tryz.prog) W 9 55 5 u Tryz.underlying9 Tryz.underlying55 Tryz.underlying5
  have hbd1 : (r : Int) + (wd : Int) ≤ (sz : Int) := by omega
  have hbd2 : r + wd ≤ sz := by omega
  have hbd3 : (r : Int) ≤ (r : Int) + (wd : Int) := by omega
  clear f2 v2 I2 HI1 X1 F1 V1 k1 k5 UL
  go_wp2_with fail
  clear hcv e2 hu
  obtain ⟨gc, hgc⟩ : ∃ gc, grownCap w2 wd 0 5 = gc := ⟨_, rfl⟩
  have hgl : wd ≤ gc := by rw [← hgc]; exact grownCap_ge _ _ _ _
  rw [hgc]
  clear hgc
  have BR2 : Hid (BR ((w2.alloc (.cells (bytesRow u gc) 5 ((bytesRow u gc).size, (bytesRow u gc).size + 1))).drew) w2.heap.size u.data.toList) := Lib.hid (BR.made w2 u gc 5)
  have B2 : Hid (Below w2.heap.size w2 ((w2.alloc (.cells (bytesRow u gc) 5 ((bytesRow u gc).size, (bytesRow u gc).size + 1))).drew)) := Lib.hid ((Below.refl _ w2).alloc (Nat.le_refl _) _).drew
  change Code.wp _ _ _ _ ((World.alloc w2 _).drew)
  generalize (w2.alloc _).drew = W2 at BR2 B2 ⊢
  have hl : u.data.toList.length = wd := by rw [Array.length_toList]; exact hus
  have HL := Lib.hid hl
  clear hl hus
  go_loop [11, 60] (fun n i => ∃ k v : Nat, k ≤ wd ∧ i = .int .i64 k ∧ n = .int .u64 v ∧ v = numB (u.data.toList.take k)) (fun _ i => wd - (intOf i).toNat)
  case atStart => exact ⟨0, 0, Nat.zero_le _, rfl, rfl, rfl⟩
  case round =>
    obtain ⟨k, v, hk, rfl, rfl, hv⟩ := hrel
    by_cases hlt : k < wd
    · have hv7 : v < 72057594037927936 := by rw [hv]; exact numB_small _ k (by omega)
      have hkl : k < u.data.toList.length := by rw [HL.out]; exact hlt
      have HS : Hid (256 * v + (u.data.toList[k]'hkl).toNat = numB (u.data.toList.take (k + 1))) := Lib.hid (by rw [numB_take _ k hkl, hv, Nat.mul_comm])
      obtain ⟨hcell, -⟩ := BR2.out k hkl
      obtain ⟨b, hb⟩ : ∃ b, (u.data.toList[k]'hkl).toNat = b := ⟨_, rfl⟩
      have hb2 : b < 256 := by rw [← hb]; exact UInt8.toNat_lt _
      rw [hb] at HS hcell
      clear hv hb
      have HO : Hid (bits BinOp.or IntKind.u64 ((v : Int) * 256) (b : Int) = ((256 * v + b : Nat) : Int)) := Lib.hid (by
        have h1 := (bits_nat .u64 64 (by decide) wraps9_64 (v * 2 ^ 8) b (by omega) (by omega)).2
        have h2 : v * 2 ^ 8 ||| b = 256 * v + b := by
          rw [Nat.mul_comm v, ← Nat.two_pow_add_eq_or_of_lt (i := 8) hb2]
        rw [h2] at h1
        rw [← h1]
        congr 1)
      go_wp2
      rw [HO.out]
      refine ⟨⟨k + 1, 256 * v + b, by omega, by go_num, rfl, HS.out⟩, ?_⟩
      simp [intOf]
      omega
    · have E : Hid (v = g i) := Lib.hid (by rw [hv, List.take_of_length_le (by rw [HL.out]; omega)]; exact NB.out)
      clear hv
      go_wp2
      refine bodyPost_ret (v := .tuple #[.int .u64 (v : Int), .int .i64 0]) (by simp [results, Tryz.f61, go_sem]) rfl ?_
      have f3 : Fr x2 (paint x2 w2.heap.size t0) (fun e => e = t0) w2 W2 := Fr.of_below B2.out rfl
      exact ⟨by rw [E.out], _, F2.out.trans (f3.mono (fun e he => .inr he)), V2.out.frame f3 (fun e he hc => by subst hc; exact ht (PD_PC c0 d0 _ he))⟩

set_option maxRecDepth 100000 in
set_option maxHeartbeats 6400000 in
theorem Set_any (x : Nat → Nat) (c0 d0 t0 : Nat) (w : World) (vb n wd ea st ln sb db eb N m nb i v : Nat) (V : Int → ByteArray) (g : Nat → Nat) (hv : VV x c0 d0 w sb db eb N m nb V) (hvi : VI w vb n wd ea st ln sb false) (hcd : c0 + 9 < d0 ∨ d0 + 2 < c0) (ht : ¬ PC c0 d0 t0) (hxv : ¬ PC c0 d0 (x vb)) (hwd : WdOk wd) (hea : ea * wd = 512 * m) (hn : n ≤ 4096) (hnl : n ≤ ln * ea) (hst : st + ln ≤ nb ∧ nb ≤ 4096) (hi : i < n) (hN : N + 16 < 1099511627776) (hVN : VN V st (512 * m) wd n g) (hvl : v < 256 ^ wd) :
    Calls Tryz.prog 62 #[.pointer (some ⟨vb, 0, none⟩), .int .i64 (i : Int), .int .u64 (v : Int)] w fun e w' => e = .returned (.int .i64 0) ∧ ∃ x' V', Fr x x' (GC c0 d0 t0) w w' ∧ VV x' c0 d0 w' sb db eb (N + 16) m nb V' ∧ VN V' st (512 * m) wd n (fun j => if j = i then v else g j) ∧ ∀ k, (k < (st : Int) ∨ (st : Int) + (ln : Int) ≤ k) → V' k = V k := by
  have hm := hv.size
  have hV := hv.text
  have hw8 : 1 ≤ wd ∧ wd ≤ 8 := by rcases hwd with rfl | rfl | rfl | rfl <;> omega
  have he1 : 1 ≤ ea ∧ ea ≤ 4096 := by
    constructor
    · rcases Nat.eq_zero_or_pos ea with h | h
      · subst h; rw [Nat.zero_mul] at hea; omega
      · exact h
    · have := Nat.mul_le_mul (Nat.le_refl ea) hw8.1; omega
  have hq : i / ea < ln := Nat.div_lt_of_lt_mul (by rw [Nat.mul_comm]; omega)
  have hfit := place_fit (i := i) (wd := wd) he1.1
  rw [hea] at hfit
  have V0 := Lib.hid hv
  have I0 := Lib.hid hvi
  have A0 := Lib.hid (fun W (h : VI W vb n wd ea st ln sb false) => at_any W vb n wd ea st ln sb i h (by omega) he1 hw8 (by omega))
  have RD := Lib.hid (vready_any w vb n wd ea st ln sb hvi)
  have FT := Lib.hid (fun W => fits_any W n wd ea v hwd hvl)
  have TX := Lib.hid (fun W => text_any W n wd ea v hw8)
  unfold shV at FT TX
  have SR := Lib.hid (fun (t : ByteArray) ht => set_read (V := V) (st := st) (n := n) (i := i) (g := g) (v := v) (t := t) hea he1.1 hw8.1 hVN hV ht)
  obtain ⟨c0', c1', c2', -, -, -, -, -⟩ := hvi.cells
  obtain ⟨q, hqq⟩ : ∃ q, st + i / ea = q := ⟨_, rfl⟩
  obtain ⟨r, hrr⟩ : ∃ r, i % ea * wd = r := ⟨_, rfl⟩
  obtain ⟨sz, hsz⟩ : ∃ sz, 512 * m = sz := ⟨_, rfl⟩
  obtain ⟨t, htt⟩ : ∃ t, V ((q : Nat) : Int) = t := ⟨_, rfl⟩
  have hq2 : q < nb := by omega
  have hqs : st ≤ q ∧ q < st + ln := by rw [← hqq]; exact ⟨Nat.le_add_right _ _, Nat.add_lt_add_left hq _⟩
  have hts : t.size = sz := by rw [← htt, hV, hsz]
  rw [← Int.natCast_add, hqq, htt, hrr] at SR
  rw [hqq, hrr] at A0
  rw [hrr, hsz] at hfit
  have HT := Lib.hid htt
  have HSZ := Lib.hid hsz
  have hsz4 : sz ≤ 4096 := by omega
  have d1 : decide ((i : Int) < 0) = false := decide_eq_false (by omega)
  have d2 : decide ((n : Int) ≤ (i : Int)) = false := decide_eq_false (by omega)
  have d3 : decide (n ≤ i) = false := decide_eq_false (by omega)
  clear hv hvi hVN hqq hrr hsz htt hV hea hq hvl
  go_enter Tryz.func62, Tryz.ntmps62
  go_wp2_with fail
  refine RD.out.mono ?_
  rintro e w1 ⟨rfl, rfl⟩
  go_wp2_with fail
  refine (FT.out _).mono ?_
  rintro e w1 ⟨rfl, hb1⟩
  have I1 := I0.out.frame (hb1.block _ I0.out.lt)
  have HI1 := Lib.hid I1
  have B1 := Lib.hid hb1
  clear hb1 I1 c0' c1' c2'
  go_wp2_with fail
  refine (A0.out _ HI1.out).mono ?_
  rintro e w2 ⟨rfl, hb2⟩
  have B2 := Lib.hid (B1.out.trans (hb2.mono B1.out.size))
  clear hb2
  have f1 : Fr x (paint x w.heap.size t0) (fun e => e = t0) w w2 := Fr.of_below B2.out rfl
  have V1 := Lib.hid (V0.out.frame f1 (fun e he hc => by subst hc; exact ht (PD_PC c0 d0 _ he)))
  have I2 := I0.out.frame (B2.out.block _ I0.out.lt)
  have X1 : Hid (¬ PC c0 d0 (paint x w.heap.size t0 vb)) := Lib.hid (by rw [paint_old I0.out.lt]; exact hxv)
  have F1 := Lib.hid (f1.mono (D := GC c0 d0 t0) (fun e he => .inr he))
  obtain ⟨-, -, -, -, -, k5, -, -⟩ := I2.cells
  have HI2 := Lib.hid I2
  clear f1 I2 V0 I0 A0 RD HI1 B1 B2
  generalize paint x w.heap.size t0 = x1 at V1 X1 F1
  go_wp2_with fail
  refine (V1.out.read hcd (no := (q : Int)) (by omega) (by omega) (by omega)).mono ?_
  rintro e w3 ⟨rfl, x2, f2, v2⟩
  have F2 := Lib.hid (F1.out.trans (f2.mono (D := GC c0 d0 t0) (fun e he => .inl he)))
  have V2 := Lib.hid v2
  have I3 := Lib.hid (HI2.out.frame (f2.old _ HI2.out.lt X1.out))
  have X2 : Hid (¬ PC c0 d0 (x2 vb)) := Lib.hid (by rw [f2.col _ HI2.out.lt]; exact X1.out)
  rw [HT.out]
  clear f2 v2 HI2 X1 F1 V1 k5
  go_upto_region 10 with fail
  obtain ⟨A, hA⟩ : ∃ A, t.extract 0 r = A := ⟨_, rfl⟩
  obtain ⟨C, hC⟩ : ∃ C, t.extract (r + wd) sz = C := ⟨_, rfl⟩
  obtain ⟨B, hB⟩ : ∃ B : ByteArray, B = ⟨(bytesN v wd).toArray⟩ := ⟨_, rfl⟩
  have hAs : A.size = r := by rw [← hA, ByteArray.size_extract]; omega
  have hCs : C.size = sz - (r + wd) := by rw [← hC, ByteArray.size_extract]; omega
  have hBs : B.size = wd := by
    have q : B.data.toList.length = B.size := Array.length_toList
    rw [← q, hB]; exact bytesN_len _ _
  rw [← hB] at TX
  have htl : t.data.toList.length = sz := by rw [Array.length_toList]; exact hts
  have TN := Lib.hid (SR.out (A ++ B ++ C) (by
    rw [ByteArray.data_append, ByteArray.data_append, Array.toList_append, Array.toList_append, ← hA, ← hC, hB, extract_list, extract_list, List.drop_zero, Nat.sub_zero, List.take_of_length_le (l := t.data.toList.drop (r + wd)) (by rw [List.length_drop, htl]; exact Nat.le_refl _)]))
  have TSZ : Hid ((A ++ B ++ C).size = 512 * m) := Lib.hid TN.out.2
  have e1 : IntKind.i64.wrap ((r : Int) + (wd : Int)) = (r : Int) + (wd : Int) := IntWalk.i64_in _ (by omega)
  have e2 : ((r : Int) + (wd : Int)).toNat = r + wd := by omega
  have hbd1 : (r : Int) + (wd : Int) ≤ (sz : Int) := by omega
  have hbd2 : r + wd ≤ sz := by omega
  have hbd3 : (r : Int) ≤ (sz : Int) := by omega
  have hbd4 : r ≤ sz := by omega
  have hbd5 : (0 : Int) ≤ (r : Int) + (wd : Int) := by omega
  have g1 : ¬ (9223372036854775807 : Int) < (A.size : Int) + (B.size : Int) := by omega
  have g2 : ¬ (9223372036854775807 : Int) < (A.size : Int) + (B.size : Int) + (C.size : Int) := by omega
  have g3 : ¬ 9223372036854775807 < A.size + B.size := by omega
  have g4 : ¬ 9223372036854775807 < A.size + B.size + C.size := by omega
  have g5 : ¬ (((A.size + B.size : Nat) : Int) > IntKind.i64.max) := by
    have : IntKind.i64.max = 9223372036854775807 := by decide
    omega
  have g6 : ¬ ((((A ++ B).size + C.size : Nat) : Int) > IntKind.i64.max) := by
    have : IntKind.i64.max = 9223372036854775807 := by decide
    rw [ByteArray.size_append]
    omega
  have KC : Hid (∀ W, Below w3.heap.size w3 W → W.cell? ⟨vb, 0, none⟩ = some (.int .i64 (n : Int)) ∧ W.cell? ⟨vb, 1, none⟩ = some (.int .i64 (wd : Int)) ∧ W.cell? ⟨vb, 2, none⟩ = some (.int .i64 (ea : Int)) ∧ W.cell? ⟨vb, 5, none⟩ = some (.pointer (some ⟨sb, 0, none⟩))) := Lib.hid (fun W hb => by
    obtain ⟨q0, q1, q2, -, -, q5, -, -⟩ := (I3.out.frame (hb.block _ I3.out.lt)).cells
    exact ⟨q0, q1, q2, q5⟩)
  have KV : Hid (∀ W, Below w3.heap.size w3 W → VV (paint x2 w3.heap.size t0) c0 d0 W sb db eb (N + 8) m nb V ∧ Fr x2 (paint x2 w3.heap.size t0) (fun e => e = t0) w3 W) := Lib.hid (fun W hb => by
    have f : Fr x2 (paint x2 w3.heap.size t0) (fun e => e = t0) w3 W := Fr.of_below hb rfl
    exact ⟨V2.out.frame f (fun e he hc => by subst hc; exact ht (PD_PC c0 d0 _ he)), f⟩)
  have X3 : Hid (¬ PC c0 d0 (paint x2 w3.heap.size t0 vb)) := Lib.hid (by rw [paint_old I3.out.lt]; exact X2.out)
  generalize paint x2 w3.heap.size t0 = x3 at KV X3
  have B0 : Hid (Below w3.heap.size w3 w3.drew) := Lib.hid (Below.refl _ _).drew
  have R2 := KC.out _ B0.out
  have hq0 : (0 : Int) ≤ (q : Int) := by omega
  have hq3 : (q : Int) < nb := by omega
  have hN2 : N + 8 + 8 < 1099511627776 := by omega
  have HB := Lib.hid hB
  clear hB hAs hBs hCs htl
  go_region_held3 (fun w' => w'.cell? ⟨vb, 0, none⟩ = some (.int .i64 (n : Int)) ∧ w'.cell? ⟨vb, 1, none⟩ = some (.int .i64 (wd : Int)) ∧ w'.cell? ⟨vb, 2, none⟩ = some (.int .i64 (ea : Int)) ∧ w'.cell? ⟨vb, 5, none⟩ = some (.pointer (some ⟨sb, 0, none⟩)))
    (first
    | (with_reducible assumption)
    | (exact R2)
    | (exact KC.out _ B0.out))
    (first
    | (go_at_call 106; with_reducible refine Calls.mono (TX.out _) ?_; rintro e wx ⟨rfl, kx⟩; have B0 : Hid (Below w3.heap.size w3 wx) := Lib.hid (B0.out.trans (kx.mono B0.out.size)); clear kx R2; have R2 := KC.out _ B0.out)
    | (go_at_call 83; have q1 := (KV.out _ B0.out).1; have q2 := q1.write hcd hq0 hq3 TSZ.out hN2; with_reducible refine Calls.mono q2 ?_; clear q1 q2 R2; rintro e w8 ⟨rfl, x8, f8, v8⟩; have V8 := Lib.hid v8; have F8 := Lib.hid f8; have F9 := Lib.hid (KV.out _ B0.out).2; have R2 := (by (obtain ⟨q0, q1, q2, -, -, q5, -, -⟩ := ((I3.out.frame (B0.out.block _ I3.out.lt)).frame (F8.out.old _ (Nat.lt_of_lt_of_le I3.out.lt B0.out.size) X3.out)).cells; exact ⟨q0, q1, q2, q5⟩) : w8.cell? ⟨vb, 0, none⟩ = some (.int .i64 (n : Int)) ∧ w8.cell? ⟨vb, 1, none⟩ = some (.int .i64 (wd : Int)) ∧ w8.cell? ⟨vb, 2, none⟩ = some (.int .i64 (ea : Int)) ∧ w8.cell? ⟨vb, 5, none⟩ = some (.pointer (some ⟨sb, 0, none⟩))); clear v8 f8))
  all_goals
    go_wp2_with fail
    go_ret
    refine ⟨rfl, x8, _, F2.out.trans ((F9.out.mono (fun e he => .inr he)).trans (F8.out.mono (fun e he => .inl he))), V8.out, TN.out.1, fun k hk => ?_⟩
    show (if k = (q : Int) then A ++ B ++ C else V k) = V k
    rw [if_neg (by omega)]

end Go.Proofs.YtbgbomlmgkgkoaaGreat.vc

namespace Go.Proofs.YtbgbomlmgkgkoaaGreat.vc
open Go.RowKit Go.Proofs.YtbgbomlmgkgkoaaGreat.own Go.Proofs.YtbgbomlmgkgkoaaGreat.dv Go.Proofs.YtbgbomlmgkgkoaaGreat.po Go.Proofs.YtbgbomlmgkgkoaaGreat.arcI Go.Proofs.YtbgbomlmgkgkoaaGreat.st

/-- what stands while a vector is written: the space, the vector, what the closure has caught -/
structure WRr (x : Nat → Nat) (c0 d0 t0 : Nat) (w : World) (vb n wd ea st ln sb db eb N m nb : Nat) (CAP : List (Nat × Array Value × TypeId)) (V : Int → ByteArray) (wr : World) : Prop where
  ex : ∃ x', Fr x x' (GC c0 d0 t0) w wr ∧ VV x' c0 d0 wr sb db eb N m nb V ∧ VI wr vb n wd ea st ln sb false ∧ x' vb = x vb ∧ ∀ p ∈ CAP, wr.heap[p.1]? = some (.cells p.2.1 p.2.2 (0, 0)) ∧ x' p.1 = x p.1
section
variable {x : Nat → Nat} {c0 d0 t0 : Nat} {w : World} {vb n wd ea st ln sb db eb N m nb : Nat} {CAP : List (Nat × Array Value × TypeId)} {V : Int → ByteArray} {wr : World}
theorem WRr.vi (h : WRr x c0 d0 t0 w vb n wd ea st ln sb db eb N m nb CAP V wr) : VI wr vb n wd ea st ln sb false := by obtain ⟨x', f, v, i, -⟩ := h; exact i
theorem WRr.cap (h : WRr x c0 d0 t0 w vb n wd ea st ln sb db eb N m nb CAP V wr) : ∀ p ∈ CAP, wr.heap[p.1]? = some (.cells p.2.1 p.2.2 (0, 0)) := by obtain ⟨x', f, v, i, -, c⟩ := h; exact fun p hp => (c p hp).1
theorem WRr.mono (h : WRr x c0 d0 t0 w vb n wd ea st ln sb db eb N m nb CAP V wr) {N' : Nat} (hN : N ≤ N') : WRr x c0 d0 t0 w vb n wd ea st ln sb db eb N' m nb CAP V wr := by obtain ⟨x', f, v, i⟩ := h; exact ⟨x', f, v.mono hN, i⟩
theorem WRr.Size (h : WRr x c0 d0 t0 w vb n wd ea st ln sb db eb N m nb CAP V wr) : Calls Tryz.prog 16 #[.pointer (some ⟨sb, 0, none⟩)] wr fun e w' => e = .returned (.int .i64 ((512 * m : Nat) : Int)) ∧ wr = w' := by obtain ⟨x', f, v, i⟩ := h; exact v.Size
theorem WRr.text (h : WRr x c0 d0 t0 w vb n wd ea st ln sb db eb N m nb CAP V wr) : 1 ≤ m ∧ m ≤ 8 := by obtain ⟨x', f, v, i⟩ := h; exact v.size
theorem WRr.below (h : WRr x c0 d0 t0 w vb n wd ea st ln sb db eb N m nb CAP V wr) (ht : ¬ PC c0 d0 t0) {W : World} (hb : Below wr.heap.size wr W) : WRr x c0 d0 t0 w vb n wd ea st ln sb db eb N m nb CAP V W := by
  obtain ⟨x', f, v, i, e, c⟩ := h
  have f2 : Fr x' (paint x' wr.heap.size t0) (fun e => e = t0) wr W := Fr.of_below hb rfl
  exact ⟨_, f.trans (f2.mono (fun e he => .inr he)), v.frame f2 (fun e he hc => by subst hc; exact ht (PD_PC c0 d0 _ he)), i.frame (hb.block _ i.lt), (paint_old i.lt).trans e, fun p hp => ⟨(hb.block _ (lt_of_block (c p hp).1)).trans (c p hp).1, (paint_old (lt_of_block (c p hp).1)).trans (c p hp).2⟩⟩
theorem WRr.write (h : WRr x c0 d0 t0 w vb n wd ea st ln sb db eb N m nb CAP V wr) (hcd : c0 + 9 < d0 ∨ d0 + 2 < c0) {no : Int} (h0 : 0 ≤ no) (h1 : no < nb) (hxv : ¬ PC c0 d0 (x vb)) (_ : x vb ≠ t0) (hcap : ∀ p ∈ CAP, ¬ PC c0 d0 (x p.1)) {u : ByteArray} (hu : u.size = 512 * m) (hN : N + 8 < 1099511627776) :
    Calls Tryz.prog 83 #[.pointer (some ⟨sb, 0, none⟩), .int .i64 no, .string u] wr fun e w' => e = .returned (.int .i64 0) ∧ WRr x c0 d0 t0 w vb n wd ea st ln sb db eb (N + 8) m nb CAP (fun k => if k = no then u else V k) w' := by
  obtain ⟨x', f, v, i, e, c⟩ := h
  refine (v.write hcd h0 h1 hu hN).mono ?_
  rintro e2 w' ⟨rfl, x2, f2, v2⟩
  exact ⟨rfl, x2, f.trans (f2.mono (fun e he => .inl he)), v2, i.frame (f2.old _ i.lt (by rw [e]; exact hxv)), (f2.col _ i.lt).trans e, fun p hp => ⟨(f2.old _ (lt_of_block (c p hp).1) (by rw [(c p hp).2]; exact hcap p hp)).trans (c p hp).1, (f2.col _ (lt_of_block (c p hp).1)).trans (c p hp).2⟩⟩
theorem WRr.start (hv : VV x c0 d0 w sb db eb N m nb V) (hvi : VI w vb n wd ea st ln sb false) (hc : ∀ p ∈ CAP, w.heap[p.1]? = some (.cells p.2.1 p.2.2 (0, 0))) : WRr x c0 d0 t0 w vb n wd ea st ln sb db eb N m nb CAP V w := ⟨x, Fr.refl _ _ _, hv, hvi, rfl, fun p hp => ⟨hc p hp, rfl⟩⟩
end

def zer (k : Nat) : ByteArray := ⟨(List.replicate k (0 : UInt8)).toArray⟩
theorem zer_size (k : Nat) : (zer k).size = k := by
  show (List.replicate k (0 : UInt8)).toArray.size = k
  simp
set_option maxRecDepth 100000 in
set_option maxHeartbeats 6400000 in
theorem vwrite_any (x : Nat → Nat) (c0 d0 t0 : Nat) (w : World) (vb n wd ea st ln sb db eb N m nb k fl : Nat) (caps : Array Value) (CAP : List (Nat × Array Value × TypeId)) (TB : Nat → ByteArray) (V : Int → ByteArray) (h : WRr x c0 d0 t0 w vb n wd ea st ln sb db eb N m nb CAP V w) (hcd : c0 + 9 < d0 ∨ d0 + 2 < c0) (ht : ¬ PC c0 d0 t0) (hxv : ¬ PC c0 d0 (x vb)) (hxt : x vb ≠ t0) (hcap : ∀ p ∈ CAP, ¬ PC c0 d0 (x p.1))
    (hn : n ≤ 4194304) (he : 1 ≤ ea ∧ ea ≤ 4096) (hk : max 1 ((n + ea - 1) / ea) = k) (hkl : k ≤ ln) (hst : st + ln ≤ nb ∧ nb ≤ 4096) (hTB : ∀ b, b < k → (TB b).size ≤ 512 * m) (hN : N + 8 * 4097 < 1099511627776)
    (hen : ∀ args W, (callFunc fl args).run Tryz.prog W = .ok (.enter fl args) W)
    (hfl : ∀ W b, (∀ p ∈ CAP, W.heap[p.1]? = some (.cells p.2.1 p.2.2 (0, 0))) → b < k → Calls Tryz.prog fl (#[.int .i64 (b : Int)] ++ caps) W fun e w' => e = .returned (.string (TB b)) ∧ W = w') :
    Calls Tryz.prog 108 #[.pointer (some ⟨vb, 0, none⟩), .func (.func fl) #[] caps] w fun e w' => e = .returned (.int .i64 0) ∧ ∃ V', WRr x c0 d0 t0 w vb n wd ea st ln sb db eb (N + 8 * k) m nb CAP V' w' ∧ ∀ j, V' j = if (st : Int) ≤ j ∧ j < (st : Int) + (k : Int) then TB (j - (st : Int)).toNat ++ zer (512 * m - (TB (j - (st : Int)).toNat).size) else V j := by
  obtain ⟨i0, hi, hz0, hz1, hz2⟩ := info_parts Tryz.infoByte9
  have hm := h.text
  have H := Lib.hid h
  have HTB := Lib.hid hTB
  have HFL := Lib.hid hfl
  obtain ⟨c0', c1', c2', -, -, -, -, -⟩ := h.vi.cells
  have BK := Lib.hid (blocks_any w n wd ea k hn he hk)
  unfold shV at BK
  obtain ⟨sz, hsz⟩ : ∃ sz, 512 * m = sz := ⟨_, rfl⟩
  have HSZ := Lib.hid hsz
  have hszl : sz ≤ 4096 := by omega
  have hkl2 : k ≤ 4096 := by omega
  have HI := Lib.hid hi
  clear h hTB hfl hk hsz hi
  rw [HSZ.out] at HTB ⊢
  go_enter Tryz.func108, Tryz.ntmps108
  go_wp2_with fail
  refine BK.out.mono ?_
  rintro e w1 ⟨rfl, hb1⟩
  have H1 := Lib.hid (H.out.below ht hb1)
  clear hb1 H BK c0' c1' c2'
  go_wp2_with fail
  go_loopw [13] (fun i wr => ∃ (b : Nat) (V' : Int → ByteArray), i = .int .i64 (b : Int) ∧ b ≤ k ∧ WRr x c0 d0 t0 w vb n wd ea st ln sb db eb (N + 8 * b) m nb CAP V' wr ∧ ∀ j, V' j = if (st : Int) ≤ j ∧ j < (st : Int) + (b : Int) then TB (j - (st : Int)).toNat ++ zer (sz - (TB (j - (st : Int)).toNat).size) else V j) (fun i _ => k - (intOf i).toNat)
  case atStart => exact ⟨0, V, rfl, by omega, H1.out, fun j => by rw [if_neg (by omega)]⟩
  case round =>
    obtain ⟨b, V', rfl, hb, hW, hV⟩ := hrel
    have HW := Lib.hid hW
    have HV := Lib.hid hV
    obtain ⟨-, -, -, c3', -, c5', -, -⟩ := hW.vi.cells
    have CL := Lib.hid (hW.cap)
    clear hW hV
    by_cases hlt : b < k
    · obtain ⟨t, htb⟩ : ∃ t, TB b = t := ⟨_, rfl⟩
      have hts : t.size ≤ sz := by rw [← htb]; exact HTB.out b hlt
      have FB := Lib.hid (HFL.out wr b CL.out hlt)
      rw [htb] at FB
      have HT := Lib.hid htb
      clear htb
      go_wp2_with fail
      refine FB.out.mono ?_
      rintro e w5 ⟨rfl, rfl⟩
      clear FB CL
      obtain ⟨zk, hzk⟩ : ∃ zk, sz - t.size = zk := ⟨_, rfl⟩
      have hzk2 : zk ≤ 4096 := by omega
      have e1 : IntKind.i64.wrap ((st : Int) + (b : Int)) = (st : Int) + (b : Int) := IntWalk.i64_in _ (by omega)
      have e2 : IntKind.i64.wrap ((sz : Int) - (t.size : Int)) = (zk : Int) := by rw [IntWalk.i64_in _ (by omega)]; omega
      have SZ : Hid (∀ W, Below wr.heap.size wr W → Calls Tryz.prog 16 #[.pointer (some ⟨sb, 0, none⟩)] W fun e w' => e = .returned (.int .i64 (sz : Int)) ∧ W = w') := Lib.hid (fun W hb => by
        have q := (HW.out.below ht hb).Size
        rw [HSZ.out] at q
        exact q)
      have B0 : Hid (Below wr.heap.size wr wr.drew) := Lib.hid (Below.refl _ _).drew
      obtain ⟨w4, hrun, hown, hgr⟩ := run_make_full (P := Tryz.prog) wr.drew wr.drew.heap.size 55 5 i0 _ 1 (by kernel_rfl) HI.out hz0 hz1 .i64 .i64 zk (by rw [hz2]; omega) (by simp only [maxLen]; omega) (Nat.le_refl _)
      have hzz : wr.drew.heap.size = wr.heap.size := rfl
      rw [hzz] at hrun hown
      have ecs : (madeCells (Value.int .u8 0).cells (zk * 1)).toList = bv (List.replicate zk 0) := by
        rw [show (Value.int .u8 0).cells = #[.int .u8 0] from rfl, toList_madeCells_one]
        simp [bv]
      rw [ecs] at hown
      have hcv := row_text (W := w4) (l := List.replicate zk 0) (by rw [List.length_replicate]; exact own_base hown (Nat.zero_le _))
      change _ = Result.ok (Value.string (zer zk)) w4 at hcv
      have B4 : Below wr.heap.size wr w4 := (⟨hgr.os, hgr.tape, hgr.output, hgr.size, fun k hk => hgr.block k hk (by simp)⟩ : Below wr.heap.size wr w4)
      have R4 := Lib.hid (HW.out.below ht B4)
      have K4 : Hid (w4.cell? ⟨vb, 5, none⟩ = some (.pointer (some ⟨sb, 0, none⟩)) ∧ w4.cell? ⟨vb, 3, none⟩ = some (.int .i64 (st : Int))) := Lib.hid (by
        obtain ⟨-, -, -, q3, -, q5, -, -⟩ := R4.out.vi.cells
        exact ⟨q5, q3⟩)
      obtain ⟨Z, hZ⟩ : ∃ Z, zer zk = Z := ⟨_, rfl⟩
      have hZs : Z.size = zk := by rw [← hZ]; exact zer_size zk
      rw [hZ] at hcv
      have HZ := Lib.hid hZ
      have TSZ : Hid ((t ++ Z).size = 512 * m) := Lib.hid (by rw [ByteArray.size_append, HSZ.out]; omega)
      have g1 : ¬ (9223372036854775807 : Int) < (t.size : Int) + (Z.size : Int) := by omega
      have g3 : ¬ 9223372036854775807 < t.size + Z.size := by omega
      have g5 : ¬ (((t.size + Z.size : Nat) : Int) > IntKind.i64.max) := by
        have : IntKind.i64.max = 9223372036854775807 := by decide
        omega
      have hq0 : (0 : Int) ≤ (st : Int) + (b : Int) := by omega
      have hq3 : (st : Int) + (b : Int) < nb := by omega
      have hN2 : N + 8 * b + 8 < 1099511627776 := by omega
      have HZK : Hid (sz - t.size = zk) := Lib.hid hzk
      clear hown hgr ecs hzz B4 hZ hZs hzk
      go_upto_region 5 with fail
      refine wp_region_held_drew (S := fun w' => w'.cell? ⟨vb, 5, none⟩ = some (.pointer (some ⟨sb, 0, none⟩)) ∧ w'.cell? ⟨vb, 3, none⟩ = some (.int .i64 (st : Int))) (by kernel_rfl) ?_ (fun hHeld => ?_)
      · exact ⟨c5', c3'⟩
      refine wpAnyH_take (i := 0) (v := ?_) rfl (by kernel_rfl) (by kernel_rfl) (by kernel_rfl) (fun _ _ _ h => h) (Or.inl ⟨by rfl, ?_⟩) (by assumption) ?_
      rotate_left
      · intro w hSw; (try dsimp only at hSw); go_simp; (try with_reducible rfl)
      try simp only [Act.put, List.setIfInBounds_toArray, List.set_cons_zero, List.set_cons_succ, List.getElem_toArray, List.getElem_cons_zero]
      refine wpAnyH_take (i := 1) (v := ?_) rfl (by kernel_rfl) (by kernel_rfl) (by kernel_rfl) (fun _ _ _ h => h) (Or.inl ⟨by rfl, ?_⟩) (by assumption) ?_
      rotate_left
      · intro w hSw; (try dsimp only at hSw); go_simp; (try with_reducible rfl)
      try simp only [Act.put, List.setIfInBounds_toArray, List.set_cons_zero, List.set_cons_succ, List.getElem_toArray, List.getElem_cons_zero, List.getElem_cons_succ]
      refine wpAnyH_take (i := 2) (v := ?_) rfl (by kernel_rfl) (by kernel_rfl) (by kernel_rfl) (fun _ _ _ h => h) (Or.inl ⟨by rfl, ?_⟩) (by assumption) ?_
      rotate_left
      · intro w hSw; (try dsimp only at hSw); go_simp; (try with_reducible rfl)
      try simp only [Act.put, List.setIfInBounds_toArray, List.set_cons_zero, List.set_cons_succ, List.getElem_toArray, List.getElem_cons_zero, List.getElem_cons_succ]
      refine wpAnyH_take (i := 3) (v := ?_) rfl (by kernel_rfl) (by kernel_rfl) (by kernel_rfl) (fun _ _ _ h => h) (Or.inl ⟨by rfl, ?_⟩) (by assumption) ?_
      rotate_left
      · intro w hSw; (try dsimp only at hSw); go_simp; (try with_reducible rfl)
      try simp only [Act.put, List.setIfInBounds_toArray, List.set_cons_zero, List.set_cons_succ, List.getElem_toArray, List.getElem_cons_zero, List.getElem_cons_succ]
      refine wpAnyH_take (i := 4) (v := ?_) rfl (by kernel_rfl) (by kernel_rfl) (by kernel_rfl) (fun _ _ _ h => h) (Or.inl ⟨by rfl, ?_⟩) (by assumption) ?_
      rotate_left
      · intro w hSw; (try dsimp only at hSw); go_simp; (try with_reducible rfl)
      try simp only [Act.put, List.setIfInBounds_toArray, List.set_cons_zero, List.set_cons_succ, List.getElem_toArray, List.getElem_cons_zero, List.getElem_cons_succ]
      refine wpAnyH_take (i := 5) (v := ?_) rfl (by kernel_rfl) (by kernel_rfl) (by kernel_rfl) (fun _ _ _ h => h) (Or.inl ⟨by rfl, ?_⟩) (by assumption) ?_
      rotate_left
      · intro w hSw; (try dsimp only at hSw); go_simp; (try with_reducible rfl)
      try simp only [Act.put, List.setIfInBounds_toArray, List.set_cons_zero, List.set_cons_succ, List.getElem_toArray, List.getElem_cons_zero, List.getElem_cons_succ]
      refine wpAnyH_take (i := 6) (v := ?_) rfl (by kernel_rfl) (by kernel_rfl) (by kernel_rfl) (fun _ _ _ h => h) (Or.inl ⟨by rfl, ?_⟩) (by assumption) ?_
      rotate_left
      · intro w hSw; (try dsimp only at hSw); go_simp; (try with_reducible rfl)
      try simp only [Act.put, List.setIfInBounds_toArray, List.set_cons_zero, List.set_cons_succ, List.getElem_toArray, List.getElem_cons_zero, List.getElem_cons_succ]
      refine wpAnyH_take (i := 7) (v := ?_) rfl (by kernel_rfl) (by kernel_rfl) (by kernel_rfl) (fun _ _ _ h => h) (Or.inl ⟨by rfl, ?_⟩) (by assumption) ?_
      rotate_left
      · intro w hSw; (try dsimp only at hSw); go_simp; (try with_reducible rfl)
      try simp only [Act.put, List.setIfInBounds_toArray, List.set_cons_zero, List.set_cons_succ, List.getElem_toArray, List.getElem_cons_zero, List.getElem_cons_succ]
      refine wpAnyH_take (i := 8) (v := ?_) rfl (by kernel_rfl) (by kernel_rfl) (by kernel_rfl) (fun _ _ _ h => h) (Or.inl ⟨by rfl, ?_⟩) (by assumption) ?_
      rotate_left
      · intro w hSw; (try dsimp only at hSw); go_simp; (try with_reducible rfl)
      try simp only [Act.put, List.setIfInBounds_toArray, List.set_cons_zero, List.set_cons_succ, List.getElem_toArray, List.getElem_cons_zero, List.getElem_cons_succ]
      refine wpAnyH_take (i := 9) (v := ?_) rfl (by kernel_rfl) (by kernel_rfl) (by kernel_rfl) (fun _ _ _ h => h) (Or.inl ⟨by rfl, ?_⟩) (by assumption) ?_
      rotate_left
      · intro w hSw; (try dsimp only at hSw); go_simp; (try with_reducible rfl)
      try simp only [Act.put, List.setIfInBounds_toArray, List.set_cons_zero, List.set_cons_succ, List.getElem_toArray, List.getElem_cons_zero, List.getElem_cons_succ]
      refine wpAnyH_take (i := 10) (v := ?_) rfl (by kernel_rfl) (by kernel_rfl) (by kernel_rfl) (fun _ _ _ h => h) (Or.inl ⟨by rfl, ?_⟩) (by assumption) ?_
      rotate_left
      · intro w hSw; (try dsimp only at hSw); go_simp; (try with_reducible rfl)
      try simp only [Act.put, List.setIfInBounds_toArray, List.set_cons_zero, List.set_cons_succ, List.getElem_toArray, List.getElem_cons_zero, List.getElem_cons_succ]
      refine wpAnyH_take (i := 11) (v := ?_) rfl (by kernel_rfl) (by kernel_rfl) (by kernel_rfl) (fun _ _ _ h => h) (Or.inl ⟨by rfl, ?_⟩) (by assumption) ?_
      rotate_left
      · intro w hSw; (try dsimp only at hSw); go_simp; (try with_reducible rfl)
      try simp only [Act.put, List.setIfInBounds_toArray, List.set_cons_zero, List.set_cons_succ, List.getElem_toArray, List.getElem_cons_zero, List.getElem_cons_succ]
      refine wpAnyH_take (i := 12) (v := ?_) rfl (by kernel_rfl) (by kernel_rfl) (by kernel_rfl) (fun _ _ _ h => h) (Or.inl ⟨by rfl, ?_⟩) (by assumption) ?_
      rotate_left
      · intro w hSw; (try dsimp only at hSw); go_simp; (try with_reducible rfl)
      try simp only [Act.put, List.setIfInBounds_toArray, List.set_cons_zero, List.set_cons_succ, List.getElem_toArray, List.getElem_cons_zero, List.getElem_cons_succ]
      refine wpAnyH_take (i := 13) (v := ?_) rfl (by kernel_rfl) (by kernel_rfl) (by kernel_rfl) (fun _ _ _ h => h) (Or.inl ⟨by rfl, ?_⟩) (by assumption) ?_
      rotate_left
      · intro w hSw; (try dsimp only at hSw); go_simp; (try with_reducible rfl)
      try simp only [Act.put, List.setIfInBounds_toArray, List.set_cons_zero, List.set_cons_succ, List.getElem_toArray, List.getElem_cons_zero, List.getElem_cons_succ]
      refine wpAnyH_take (i := 14) (v := ?_) rfl (by kernel_rfl) (by kernel_rfl) (by kernel_rfl) (fun _ _ _ h => h) (Or.inl ⟨by rfl, ?_⟩) (by assumption) ?_
      rotate_left
      · intro w hSw; (try dsimp only at hSw); go_simp; (try with_reducible rfl)
      try simp only [Act.put, List.setIfInBounds_toArray, List.set_cons_zero, List.set_cons_succ, List.getElem_toArray, List.getElem_cons_zero, List.getElem_cons_succ]
      refine wpAnyH_take (i := 15) (v := ?_) rfl (by kernel_rfl) (by kernel_rfl) (by kernel_rfl) (fun _ _ _ h => h) (Or.inl ⟨by rfl, ?_⟩) (by assumption) ?_
      rotate_left
      · intro w hSw; (try dsimp only at hSw); go_simp; (try with_reducible rfl)
      try simp only [Act.put, List.setIfInBounds_toArray, List.set_cons_zero, List.set_cons_succ, List.getElem_toArray, List.getElem_cons_zero, List.getElem_cons_succ]
      refine wpAnyH_take (i := 17) (v := ?_) rfl (by kernel_rfl) (by kernel_rfl) (by kernel_rfl) (fun _ _ _ h => h) (Or.inl ⟨by rfl, ?_⟩) (by assumption) ?_
      rotate_left
      · intro w hSw; (try dsimp only at hSw); go_simp; (try with_reducible rfl)
      try simp only [Act.put, List.setIfInBounds_toArray, List.set_cons_zero, List.set_cons_succ, List.getElem_toArray, List.getElem_cons_zero, List.getElem_cons_succ]
      refine wpAnyH_take (i := 18) (v := ?_) rfl (by kernel_rfl) (by kernel_rfl) (by kernel_rfl) (fun _ _ _ h => h) (Or.inl ⟨by rfl, ?_⟩) (by assumption) ?_
      rotate_left
      · intro w hSw; (try dsimp only at hSw); go_simp; (try with_reducible rfl)
      try simp only [Act.put, List.setIfInBounds_toArray, List.set_cons_zero, List.set_cons_succ, List.getElem_toArray, List.getElem_cons_zero, List.getElem_cons_succ]
      refine wpAnyH_ready (rs := [16]) (by kernel_rfl) (by simp) ?_
      refine AllReadyH.cons rfl (fun K hK => ?_) AllReadyH.nil
      go_simp
      with_reducible refine Calls.mono (SZ.out _ B0.out) ?_
      rintro e w8 ⟨rfl, rfl⟩
      go_wp2_with fail
      refine hK.out _ _ ?_ (fun hHeld2 => ?_)
      · exact hHeld
      clear hK K hHeld
      try simp only [Act.put, List.setIfInBounds_toArray, List.set_cons_zero, List.set_cons_succ, List.getElem_toArray, List.getElem_cons_zero, List.getElem_cons_succ]
      refine wpAnyH_take (i := 19) (v := ?_) rfl (by kernel_rfl) (by kernel_rfl) (by kernel_rfl) (fun _ _ _ h => h) (Or.inl ⟨by rfl, ?_⟩) (by assumption) ?_
      rotate_left
      · intro w hSw; (try dsimp only at hSw); go_simp; (try with_reducible rfl)
      try simp only [Act.put, List.setIfInBounds_toArray, List.set_cons_zero, List.set_cons_succ, List.getElem_toArray, List.getElem_cons_zero, List.getElem_cons_succ]
      refine wpAnyH_ready (rs := [20]) (by kernel_rfl) (by simp) ?_
      refine AllReadyH.cons rfl (fun K hK => ?_) AllReadyH.nil
      go_simp
      refine hK.out _ _ ?_ (fun hHeld3 => ?_)
      · exact K4.out
      clear hK K hHeld2
      try simp only [Act.put, List.setIfInBounds_toArray, List.set_cons_zero, List.set_cons_succ, List.getElem_toArray, List.getElem_cons_zero, List.getElem_cons_succ]
      refine wpAnyH_ready (rs := [21]) (by kernel_rfl) (by simp) ?_
      refine AllReadyH.cons rfl (fun K hK => ?_) AllReadyH.nil
      go_simp
      refine hK.out _ _ ?_ (fun hHeld4 => ?_)
      · exact hHeld3
      clear hK K hHeld3
      try simp only [Act.put, List.setIfInBounds_toArray, List.set_cons_zero, List.set_cons_succ, List.getElem_toArray, List.getElem_cons_zero, List.getElem_cons_succ]
      refine wpAnyH_take (i := 22) (v := ?_) rfl (by kernel_rfl) (by kernel_rfl) (by kernel_rfl) (fun _ _ _ h => h) (Or.inl ⟨by rfl, ?_⟩) (by assumption) ?_
      rotate_left
      · intro w hSw; (try dsimp only at hSw); go_simp; (try with_reducible rfl)
      try simp only [Act.put, List.setIfInBounds_toArray, List.set_cons_zero, List.set_cons_succ, List.getElem_toArray, List.getElem_cons_zero, List.getElem_cons_succ]
      refine wpAnyH_ready (rs := [23]) (by kernel_rfl) (by simp) ?_
      refine AllReadyH.cons rfl (fun K hK => ?_) AllReadyH.nil
      go_simp
      with_reducible refine Calls.mono (R4.out.write hcd hq0 hq3 hxv hxt hcap TSZ.out hN2) ?_
      rintro e w8 ⟨rfl, r8⟩
      have R8 := Lib.hid r8
      clear r8
      go_wp2_with fail
      refine hK.out _ _ ?_ (fun hHeld5 => ?_)
      · obtain ⟨-, -, -, q3, -, q5, -, -⟩ := R8.out.vi.cells
        exact ⟨q5, q3⟩
      clear hK K hHeld4
      try simp only [Act.put, List.setIfInBounds_toArray, List.set_cons_zero, List.set_cons_succ, List.getElem_toArray, List.getElem_cons_zero, List.getElem_cons_succ]
      refine wpAnyH_take (i := 24) (v := ?_) rfl (by kernel_rfl) (by kernel_rfl) (by kernel_rfl) (fun _ _ _ h => h) (Or.inl ⟨by rfl, ?_⟩) (by assumption) ?_
      rotate_left
      · intro w hSw; (try dsimp only at hSw); go_simp; (try with_reducible rfl)
      try simp only [Act.put, List.setIfInBounds_toArray, List.set_cons_zero, List.set_cons_succ, List.getElem_toArray, List.getElem_cons_zero, List.getElem_cons_succ]
      refine wpAnyH_done (by kernel_rfl) ?_ _
      go_wp2_with fail
      go_roundw
      case rel =>
        refine ⟨b + 1, _, by go_num, by omega, R8.out.mono (by omega), fun j => ?_⟩
        show (if j = (st : Int) + (b : Int) then t ++ Z else V' j) = _
        by_cases hj : j = (st : Int) + (b : Int)
        · subst hj
          rw [if_pos rfl, if_pos (by omega), show ((st : Int) + (b : Int) - (st : Int)).toNat = b by omega, HT.out, HZK.out, HZ.out]
        · rw [if_neg hj, HV.out j]
          by_cases hj2 : (st : Int) ≤ j ∧ j < (st : Int) + (b : Int)
          · rw [if_pos hj2, if_pos (by omega)]
          · rw [if_neg hj2, if_neg (by omega)]
      case measure => simp [intOf]; omega
    · obtain rfl : b = k := by omega
      go_wp2_with fail
      go_ret
      exact ⟨rfl, V', HW.out, HV.out⟩

end Go.Proofs.YtbgbomlmgkgkoaaGreat.vc

namespace Go.Proofs.YtbgbomlmgkgkoaaGreat.vc
open Go.RowKit Go.Proofs.YtbgbomlmgkgkoaaGreat.own Go.Proofs.YtbgbomlmgkgkoaaGreat.dv Go.Proofs.YtbgbomlmgkgkoaaGreat.po Go.Proofs.YtbgbomlmgkgkoaaGreat.arcI Go.Proofs.YtbgbomlmgkgkoaaGreat.st

theorem rep_slice (l : List UInt8) (c j : Nat) (hj : j < c) : ((Lib.repeatL l c).drop (j * l.length)).take l.length = l := by
  obtain ⟨d, rfl⟩ : ∃ d, c = j + (1 + d) := ⟨c - j - 1, by omega⟩
  rw [Lib.repeatL_add, Lib.repeatL_add, Lib.repeatL_one, List.drop_left' (Lib.repeatL_length l j)]
  exact List.take_left' rfl
theorem kcover {n ea k : Nat} (he : 1 ≤ ea) (hk : max 1 ((n + ea - 1) / ea) = k) : n ≤ k * ea ∧ 1 ≤ k := by
  obtain ⟨q, hq⟩ : ∃ q, (n + ea - 1) / ea = q := ⟨_, rfl⟩
  have h2 : n + ea - 1 < q * ea + ea := by rw [← hq]; exact Nat.lt_div_mul_add (by omega)
  rw [hq] at hk
  have := Nat.mul_le_mul (show q ≤ k by omega) (Nat.le_refl ea)
  exact ⟨by omega, by omega⟩
theorem fill_read {V V' : Int → ByteArray} {st sz ea wd n k v : Nat} {full : ByteArray} (hs : ea * wd = sz) (he : 0 < ea) (hw : 0 < wd) (hcov : n ≤ k * ea) (hf : full.data.toList = Lib.repeatL (bytesN v wd) ea)
    (hV : ∀ j, V' j = if (st : Int) ≤ j ∧ j < (st : Int) + (k : Int) then full ++ zer (sz - full.size) else V j) : VN V' st sz wd n (fun _ => v) := by
  have hfl : full.size = sz := by
    have q : full.data.toList.length = full.size := Array.length_toList
    rw [← q, hf, Lib.repeatL_length, bytesN_len, hs]
  have hfz : full ++ zer (sz - full.size) = full := by
    rw [hfl, Nat.sub_self]
    show full ++ (⟨#[]⟩ : ByteArray) = full
    exact ByteArray.append_empty
  rw [hfz] at hV
  intro i hi
  have hik : i / ea < k := Nat.div_lt_of_lt_mul (by rw [Nat.mul_comm]; omega)
  have hb : V' ((st : Int) + ((i / ea : Nat) : Int)) = full := by
    generalize i / ea = q at hik ⊢
    rw [hV, if_pos (by omega)]
  rw [get_read hs he hw (by rw [hb]; exact hfl), hb, hf]
  have q := rep_slice (bytesN v wd) ea (i % ea) (Nat.mod_lt _ he)
  rw [bytesN_len] at q
  exact q

set_option maxRecDepth 100000 in
set_option maxHeartbeats 6400000 in
theorem vFill_any (x : Nat → Nat) (c0 d0 t0 : Nat) (w : World) (vb n wd ea st ln sb db eb N m nb k v : Nat) (V : Int → ByteArray) (hv : VV x c0 d0 w sb db eb N m nb V) (hvi : VI w vb n wd ea st ln sb false) (hcd : c0 + 9 < d0 ∨ d0 + 2 < c0) (ht : ¬ PC c0 d0 t0) (hxv : ¬ PC c0 d0 (x vb)) (hxt : x vb ≠ t0) (hwd : WdOk wd) (hea : ea * wd = 512 * m) (hn : n ≤ 4096) (hk : max 1 ((n + ea - 1) / ea) = k) (hkl : k ≤ ln) (hst : st + ln ≤ nb ∧ nb ≤ 4096) (hN : N + 8 * 4097 < 1099511627776) (hvl : v < 256 ^ wd) :
    Calls Tryz.prog 63 #[.pointer (some ⟨vb, 0, none⟩), .int .u64 (v : Int)] w fun e w' => e = .returned (.int .i64 0) ∧ ∃ x' V', Fr x x' (GC c0 d0 t0) w w' ∧ VV x' c0 d0 w' sb db eb (N + 8 * k) m nb V' ∧ VN V' st (512 * m) wd n (fun _ => v) ∧ ∀ j, (j < (st : Int) ∨ (st : Int) + (ln : Int) ≤ j) → V' j = V j := by
  have hm := hv.size
  have hw8 : 1 ≤ wd ∧ wd ≤ 8 := by rcases hwd with rfl | rfl | rfl | rfl <;> omega
  have he1 : 1 ≤ ea ∧ ea ≤ 4096 := by
    constructor
    · rcases Nat.eq_zero_or_pos ea with h | h
      · subst h; rw [Nat.zero_mul] at hea; omega
      · exact h
    · have := Nat.mul_le_mul (Nat.le_refl ea) hw8.1; omega
  have V0 := Lib.hid hv
  have I0 := Lib.hid hvi
  have RD := Lib.hid (vready_any w vb n wd ea st ln sb hvi)
  have FT := Lib.hid (fun W => fits_any W n wd ea v hwd hvl)
  have TX := Lib.hid (fun W => text_any W n wd ea v hw8)
  unfold shV at FT TX
  obtain ⟨B, hB⟩ : ∃ B : ByteArray, B = ⟨(bytesN v wd).toArray⟩ := ⟨_, rfl⟩
  have hBs : B.size = wd := by
    have q : B.data.toList.length = B.size := Array.length_toList
    rw [← q, hB]; exact bytesN_len _ _
  rw [← hB] at TX
  have hml : B.size * ea ≤ 4096 := by rw [hBs, Nat.mul_comm]; omega
  obtain ⟨full, hfu⟩ : ∃ full : ByteArray, full = ⟨(Lib.repeatL B.data.toList ea).toArray⟩ := ⟨_, rfl⟩
  have RP := Lib.hid (fun W => Go.Proofs.Tryz.strings_Repeat B ea W (by omega) (by omega))
  rw [← hfu] at RP
  have HFU := Lib.hid hfu
  have HB := Lib.hid hB
  obtain ⟨c0', c1', c2', -, -, -, -, -⟩ := hvi.cells
  have HEA := Lib.hid hea
  have HK := Lib.hid hk
  clear hv hvi hB hBs hfu hvl hea hk hml
  go_enter Tryz.func63, Tryz.ntmps63
  go_wp2_with fail
  refine RD.out.mono ?_
  rintro e w1 ⟨rfl, rfl⟩
  go_wp2_with fail
  refine (FT.out _).mono ?_
  rintro e w1 ⟨rfl, hb1⟩
  have BW1 := Lib.hid hb1
  have I1 := Lib.hid (I0.out.frame (hb1.block _ I0.out.lt))
  have KC : Hid (∀ W, Below w1.heap.size w1 W → W.cell? ⟨vb, 0, none⟩ = some (.int .i64 (n : Int)) ∧ W.cell? ⟨vb, 1, none⟩ = some (.int .i64 (wd : Int)) ∧ W.cell? ⟨vb, 2, none⟩ = some (.int .i64 (ea : Int))) := Lib.hid (fun W hb => by
    obtain ⟨q0, q1, q2, -, -, -, -, -⟩ := (I1.out.frame (hb.block _ I1.out.lt)).cells
    exact ⟨q0, q1, q2⟩)
  clear hb1 c0' c1' c2' RD FT
  go_upto_region 6 with fail
  go_cut [6] from 19 to 33 (fun s6 wc => ∃ bx, s6 = .pointer (some ⟨bx, 0, none⟩) ∧ wc.heap[bx]? = some (.cells #[.string full] 9 (0, 0)) ∧ w1.heap.size ≤ bx ∧ Below w1.heap.size w1 wc)
  case first => as_aux_lemma =>
    go_upto_region 6 with fail
    refine wp_region_held_drew (S := fun w' => w'.cell? ⟨vb, 0, none⟩ = some (.int .i64 (n : Int)) ∧ w'.cell? ⟨vb, 1, none⟩ = some (.int .i64 (wd : Int)) ∧ w'.cell? ⟨vb, 2, none⟩ = some (.int .i64 (ea : Int))) (by kernel_rfl) ?_ (fun hH0 => ?_)
    · exact KC.out _ (Below.refl _ _).drew
    have B0 : Hid (Below w1.heap.size w1 w1.drew) := Lib.hid (Below.refl _ _).drew
    refine wpAnyH_take (i := 0) (v := ?_) rfl (by kernel_rfl) (by kernel_rfl) (by kernel_rfl) (fun _ _ _ h => h) (Or.inl ⟨by rfl, ?_⟩) (by assumption) ?_
    rotate_left
    · intro w hSw; (try dsimp only at hSw); go_simp; (try with_reducible rfl)
    try simp only [Act.put, List.setIfInBounds_toArray, List.set_cons_zero, List.set_cons_succ, List.getElem_toArray, List.getElem_cons_zero]
    refine wpAnyH_take (i := 1) (v := ?_) rfl (by kernel_rfl) (by kernel_rfl) (by kernel_rfl) (fun _ _ _ h => h) (Or.inl ⟨by rfl, ?_⟩) (by assumption) ?_
    rotate_left
    · intro w hSw; (try dsimp only at hSw); go_simp; (try with_reducible rfl)
    try simp only [Act.put, List.setIfInBounds_toArray, List.set_cons_zero, List.set_cons_succ, List.getElem_toArray, List.getElem_cons_zero, List.getElem_cons_succ]
    refine wpAnyH_take (i := 2) (v := ?_) rfl (by kernel_rfl) (by kernel_rfl) (by kernel_rfl) (fun _ _ _ h => h) (Or.inl ⟨by rfl, ?_⟩) (by assumption) ?_
    rotate_left
    · intro w hSw; (try dsimp only at hSw); go_simp; (try with_reducible rfl)
    try simp only [Act.put, List.setIfInBounds_toArray, List.set_cons_zero, List.set_cons_succ, List.getElem_toArray, List.getElem_cons_zero, List.getElem_cons_succ]
    refine wpAnyH_take (i := 3) (v := ?_) rfl (by kernel_rfl) (by kernel_rfl) (by kernel_rfl) (fun _ _ _ h => h) (Or.inl ⟨by rfl, ?_⟩) (by assumption) ?_
    rotate_left
    · intro w hSw; (try dsimp only at hSw); go_simp; (try with_reducible rfl)
    try simp only [Act.put, List.setIfInBounds_toArray, List.set_cons_zero, List.set_cons_succ, List.getElem_toArray, List.getElem_cons_zero, List.getElem_cons_succ]
    refine wpAnyH_take (i := 4) (v := ?_) rfl (by kernel_rfl) (by kernel_rfl) (by kernel_rfl) (fun _ _ _ h => h) (Or.inl ⟨by rfl, ?_⟩) (by assumption) ?_
    rotate_left
    · intro w hSw; (try dsimp only at hSw); go_simp; (try with_reducible rfl)
    try simp only [Act.put, List.setIfInBounds_toArray, List.set_cons_zero, List.set_cons_succ, List.getElem_toArray, List.getElem_cons_zero, List.getElem_cons_succ]
    refine wpAnyH_take (i := 6) (v := ?_) rfl (by kernel_rfl) (by kernel_rfl) (by kernel_rfl) (fun _ _ _ h => h) (Or.inl ⟨by rfl, ?_⟩) (by assumption) ?_
    rotate_left
    · intro w hSw; (try dsimp only at hSw); go_simp; (try with_reducible rfl)
    try simp only [Act.put, List.setIfInBounds_toArray, List.set_cons_zero, List.set_cons_succ, List.getElem_toArray, List.getElem_cons_zero, List.getElem_cons_succ]
    refine wpAnyH_take (i := 7) (v := ?_) rfl (by kernel_rfl) (by kernel_rfl) (by kernel_rfl) (fun _ _ _ h => h) (Or.inl ⟨by rfl, ?_⟩) (by assumption) ?_
    rotate_left
    · intro w hSw; (try dsimp only at hSw); go_simp; (try with_reducible rfl)
    try simp only [Act.put, List.setIfInBounds_toArray, List.set_cons_zero, List.set_cons_succ, List.getElem_toArray, List.getElem_cons_zero, List.getElem_cons_succ]
    refine wpAnyH_take (i := 8) (v := ?_) rfl (by kernel_rfl) (by kernel_rfl) (by kernel_rfl) (fun _ _ _ h => h) (Or.inl ⟨by rfl, ?_⟩) (by assumption) ?_
    rotate_left
    · intro w hSw; (try dsimp only at hSw); go_simp; (try with_reducible rfl)
    try simp only [Act.put, List.setIfInBounds_toArray, List.set_cons_zero, List.set_cons_succ, List.getElem_toArray, List.getElem_cons_zero, List.getElem_cons_succ]
    refine wpAnyH_take (i := 9) (v := ?_) rfl (by kernel_rfl) (by kernel_rfl) (by kernel_rfl) (fun _ _ _ h => h) (Or.inl ⟨by rfl, ?_⟩) (by assumption) ?_
    rotate_left
    · intro w hSw; (try dsimp only at hSw); go_simp; (try with_reducible rfl)
    try simp only [Act.put, List.setIfInBounds_toArray, List.set_cons_zero, List.set_cons_succ, List.getElem_toArray, List.getElem_cons_zero, List.getElem_cons_succ]
    refine wpAnyH_take (i := 10) (v := ?_) rfl (by kernel_rfl) (by kernel_rfl) (by kernel_rfl) (fun _ _ _ h => h) (Or.inl ⟨by rfl, ?_⟩) (by assumption) ?_
    rotate_left
    · intro w hSw; (try dsimp only at hSw); go_simp; (try with_reducible rfl)
    try simp only [Act.put, List.setIfInBounds_toArray, List.set_cons_zero, List.set_cons_succ, List.getElem_toArray, List.getElem_cons_zero, List.getElem_cons_succ]
    refine wpAnyH_ready (rs := [5, 12]) (by kernel_rfl) (by simp) ?_
    refine AllReadyH.cons rfl (fun K hK => ?_) (AllReadyH.cons rfl (fun K hK => ?_) AllReadyH.nil)
    · go_simp
      with_reducible refine Calls.mono (TX.out _) ?_
      rintro e wt1 ⟨rfl, kt1⟩
      have B1 : Hid (Below w1.heap.size w1 wt1) := Lib.hid (B0.out.trans (kt1.mono B0.out.size))
      go_wp2_with fail
      refine hK.out _ _ ?_ (fun hH1 => ?_)
      · exact KC.out _ B1.out
      clear hK K hH0
      try simp only [Act.put, List.setIfInBounds_toArray, List.set_cons_zero, List.set_cons_succ, List.getElem_toArray, List.getElem_cons_zero, List.getElem_cons_succ]
      refine wpAnyH_ready (rs := [11, 12]) (by kernel_rfl) (by simp) ?_
      refine AllReadyH.cons rfl (fun K hK => ?_) (AllReadyH.cons rfl (fun K hK => ?_) AllReadyH.nil)
      · go_simp
        with_reducible refine Calls.mono (RP.out _) ?_
        rintro e wr1 ⟨rfl, kr1⟩
        have B2 : Hid (Below w1.heap.size w1 wr1) := Lib.hid (B1.out.trans (kr1.mono B1.out.size))
        go_wp2_with fail
        refine hK.out _ _ ?_ (fun hH2 => ?_)
        · exact KC.out _ B2.out
        clear hK K hH1
        try simp only [Act.put, List.setIfInBounds_toArray, List.set_cons_zero, List.set_cons_succ, List.getElem_toArray, List.getElem_cons_zero, List.getElem_cons_succ]
        refine wpAnyH_ready (rs := [12]) (by kernel_rfl) (by simp) ?_
        refine AllReadyH.cons rfl (fun K hK => ?_) AllReadyH.nil
        go_simp
        have B3 : Hid (Below w1.heap.size w1 (wr1.alloc (.cells #[.string ⟨#[]⟩] 9))) := Lib.hid (B2.out.alloc B2.out.size _)
        have G3 := Lib.hid (World.alloc_heap_new wr1 (.cells #[.string ⟨#[]⟩] 9))
        refine hK.out _ _ ?_ (fun hH3 => ?_)
        · exact KC.out _ B3.out
        clear hK K hH2
        try simp only [Act.put, List.setIfInBounds_toArray, List.set_cons_zero, List.set_cons_succ, List.getElem_toArray, List.getElem_cons_zero, List.getElem_cons_succ]
        have HBX : Hid (w1.heap.size ≤ wr1.heap.size) := Lib.hid B2.out.size
        have gg := G3.out
        have gc : (wr1.alloc (.cells #[.string ⟨#[]⟩] 9)).cell? ⟨wr1.heap.size, 0, none⟩ = some (.string ⟨#[]⟩) := by rw [cell_of_row _ _ _ _ _ _ gg]; rfl
        have gf : (wr1.alloc (.cells #[.string ⟨#[]⟩] 9)).frozen? ⟨wr1.heap.size, 0, none⟩ = false := frozen_of_row _ _ _ _ _ gg
        have GN := Lib.hid (World.alloc_heap_new wr1 (.cells #[.string full] 9))
        have BN : Hid (Below w1.heap.size w1 (wr1.alloc (.cells #[.string full] 9))) := Lib.hid (B2.out.alloc B2.out.size _)
        clear gg
        refine wpAnyH_ready (rs := [13]) (by kernel_rfl) (by simp) ?_
        refine AllReadyH.cons rfl (fun K hK => ?_) AllReadyH.nil
        go_simp
        refine hK.out _ _ ?_ (fun hHz => ?_)
        · exact KC.out _ BN.out
        clear hK K hH3 gc gf
        try simp only [Act.put, List.setIfInBounds_toArray, List.set_cons_zero, List.set_cons_succ, List.getElem_toArray, List.getElem_cons_zero, List.getElem_cons_succ]
        refine wpAnyH_done (by kernel_rfl) ?_ _
        go_wp2_with fail
        go_meet
        case rel => exact ⟨wr1.heap.size, rfl, GN.out, HBX.out, BN.out⟩
      · go_simp
        have B2 : Hid (Below w1.heap.size w1 (wt1.alloc (.cells #[.string ⟨#[]⟩] 9))) := Lib.hid (B1.out.alloc B1.out.size _)
        have G2 := Lib.hid (World.alloc_heap_new wt1 (.cells #[.string ⟨#[]⟩] 9))
        refine hK.out _ _ ?_ (fun hH2 => ?_)
        · exact KC.out _ B2.out
        clear hK K hH1
        try simp only [Act.put, List.setIfInBounds_toArray, List.set_cons_zero, List.set_cons_succ, List.getElem_toArray, List.getElem_cons_zero, List.getElem_cons_succ]
        have HBX : Hid (w1.heap.size ≤ wt1.heap.size) := Lib.hid B1.out.size
        refine wpAnyH_ready (rs := [11]) (by kernel_rfl) (by simp) ?_
        refine AllReadyH.cons rfl (fun K hK => ?_) AllReadyH.nil
        go_simp
        with_reducible refine Calls.mono (RP.out _) ?_
        rintro e wr2 ⟨rfl, kr2⟩
        have B3 : Hid (Below w1.heap.size w1 wr2) := Lib.hid (B2.out.trans (kr2.mono B2.out.size))
        have G3 := Lib.hid ((kr2.block _ (lt_of_block G2.out)).trans G2.out)
        go_wp2_with fail
        refine hK.out _ _ ?_ (fun hH3 => ?_)
        · exact KC.out _ B3.out
        clear hK K hH2
        try simp only [Act.put, List.setIfInBounds_toArray, List.set_cons_zero, List.set_cons_succ, List.getElem_toArray, List.getElem_cons_zero, List.getElem_cons_succ]
        have gg := G3.out
        have gc : wr2.cell? ⟨wt1.heap.size, 0, none⟩ = some (.string ⟨#[]⟩) := by rw [cell_of_row _ _ _ _ _ _ gg]; rfl
        have gf : wr2.frozen? ⟨wt1.heap.size, 0, none⟩ = false := frozen_of_row _ _ _ _ _ gg
        have GN := Lib.hid (heap_setCell_same wr2 wt1.heap.size 0 _ _ (.string full) gg)
        have BN : Hid (Below w1.heap.size w1 (wr2.setCell ⟨wt1.heap.size, 0, none⟩ (.string full))) := Lib.hid (B3.out.setCell (p := ⟨wt1.heap.size, 0, none⟩) HBX.out _)
        clear gg
        refine wpAnyH_ready (rs := [13]) (by kernel_rfl) (by simp) ?_
        refine AllReadyH.cons rfl (fun K hK => ?_) AllReadyH.nil
        go_simp
        refine hK.out _ _ ?_ (fun hHz => ?_)
        · exact KC.out _ BN.out
        clear hK K hH3 gc gf
        try simp only [Act.put, List.setIfInBounds_toArray, List.set_cons_zero, List.set_cons_succ, List.getElem_toArray, List.getElem_cons_zero, List.getElem_cons_succ]
        refine wpAnyH_done (by kernel_rfl) ?_ _
        go_wp2_with fail
        go_meet
        case rel => exact ⟨wt1.heap.size, rfl, GN.out, HBX.out, BN.out⟩
    · go_simp
      have B1 : Hid (Below w1.heap.size w1 (w1.drew.alloc (.cells #[.string ⟨#[]⟩] 9))) := Lib.hid (B0.out.alloc B0.out.size _)
      have G1 : Hid ((w1.drew.alloc (.cells #[.string ⟨#[]⟩] 9)).heap[w1.heap.size]? = some (.cells #[.string ⟨#[]⟩] 9 (0, 0))) := Lib.hid (World.alloc_heap_new w1.drew (.cells #[.string ⟨#[]⟩] 9))
      refine hK.out _ _ ?_ (fun hH1 => ?_)
      · exact KC.out _ B1.out
      clear hK K hH0
      try simp only [Act.put, List.setIfInBounds_toArray, List.set_cons_zero, List.set_cons_succ, List.getElem_toArray, List.getElem_cons_zero, List.getElem_cons_succ]
      have HBX : Hid (w1.heap.size ≤ w1.heap.size) := Lib.hid B0.out.size
      refine wpAnyH_ready (rs := [5]) (by kernel_rfl) (by simp) ?_
      refine AllReadyH.cons rfl (fun K hK => ?_) AllReadyH.nil
      go_simp
      with_reducible refine Calls.mono (TX.out _) ?_
      rintro e wt3 ⟨rfl, kt3⟩
      have B2 : Hid (Below w1.heap.size w1 wt3) := Lib.hid (B1.out.trans (kt3.mono B1.out.size))
      have G2 := Lib.hid ((kt3.block _ (lt_of_block G1.out)).trans G1.out)
      go_wp2_with fail
      refine hK.out _ _ ?_ (fun hH2 => ?_)
      · exact KC.out _ B2.out
      clear hK K hH1
      try simp only [Act.put, List.setIfInBounds_toArray, List.set_cons_zero, List.set_cons_succ, List.getElem_toArray, List.getElem_cons_zero, List.getElem_cons_succ]
      refine wpAnyH_ready (rs := [11]) (by kernel_rfl) (by simp) ?_
      refine AllReadyH.cons rfl (fun K hK => ?_) AllReadyH.nil
      go_simp
      with_reducible refine Calls.mono (RP.out _) ?_
      rintro e wr3 ⟨rfl, kr3⟩
      have B3 : Hid (Below w1.heap.size w1 wr3) := Lib.hid (B2.out.trans (kr3.mono B2.out.size))
      have G3 := Lib.hid ((kr3.block _ (lt_of_block G2.out)).trans G2.out)
      go_wp2_with fail
      refine hK.out _ _ ?_ (fun hH3 => ?_)
      · exact KC.out _ B3.out
      clear hK K hH2
      try simp only [Act.put, List.setIfInBounds_toArray, List.set_cons_zero, List.set_cons_succ, List.getElem_toArray, List.getElem_cons_zero, List.getElem_cons_succ]
      have gg := G3.out
      have gc : wr3.cell? ⟨w1.heap.size, 0, none⟩ = some (.string ⟨#[]⟩) := by rw [cell_of_row _ _ _ _ _ _ gg]; rfl
      have gf : wr3.frozen? ⟨w1.heap.size, 0, none⟩ = false := frozen_of_row _ _ _ _ _ gg
      have GN := Lib.hid (heap_setCell_same wr3 w1.heap.size 0 _ _ (.string full) gg)
      have BN : Hid (Below w1.heap.size w1 (wr3.setCell ⟨w1.heap.size, 0, none⟩ (.string full))) := Lib.hid (B3.out.setCell (p := ⟨w1.heap.size, 0, none⟩) HBX.out _)
      clear gg
      refine wpAnyH_ready (rs := [13]) (by kernel_rfl) (by simp) ?_
      refine AllReadyH.cons rfl (fun K hK => ?_) AllReadyH.nil
      go_simp
      refine hK.out _ _ ?_ (fun hHz => ?_)
      · exact KC.out _ BN.out
      clear hK K hH3 gc gf
      try simp only [Act.put, List.setIfInBounds_toArray, List.set_cons_zero, List.set_cons_succ, List.getElem_toArray, List.getElem_cons_zero, List.getElem_cons_succ]
      refine wpAnyH_done (by kernel_rfl) ?_ _
      go_wp2_with fail
      go_meet
      case rel => exact ⟨w1.heap.size, rfl, GN.out, HBX.out, BN.out⟩
  case rest => as_aux_lemma =>
    obtain ⟨bx, rfl, hg, hbx, hbc⟩ := hcut
    have f1 : Fr x (paint x w.heap.size t0) (fun e => e = t0) w wc := Fr.of_below (BW1.out.trans (hbc.mono BW1.out.size)) rfl
    have hcov := kcover he1.1 HK.out
    have R1 : Hid (WRr (paint x w.heap.size t0) c0 d0 t0 wc vb n wd ea st ln sb db eb N m nb [(bx, #[.string full], 9)] V wc) := Lib.hid (WRr.start (V0.out.frame f1 (fun e he hc => by subst hc; exact ht (PD_PC c0 d0 _ he))) (I1.out.frame (hbc.block _ I1.out.lt)) (fun p hp => by
      rw [List.mem_singleton] at hp; subst hp; exact hg))
    have F1 := Lib.hid f1
    have X1 : paint x w.heap.size t0 vb = x vb := paint_old I0.out.lt
    have X2 : paint x w.heap.size t0 bx = t0 := paint_new (by have := BW1.out.size; omega)
    have X3 : ¬ PC c0 d0 (paint x w.heap.size t0 vb) := by rw [X1]; exact hxv
    have X4 : paint x w.heap.size t0 vb ≠ t0 := by rw [X1]; exact hxt
    have X5 : ∀ p ∈ [(bx, #[Value.string full], 9)], ¬ PC c0 d0 (paint x w.heap.size t0 p.1) := fun p hp => by
      rw [List.mem_singleton] at hp; subst hp; show ¬ PC c0 d0 (paint x w.heap.size t0 bx); rw [X2]; exact ht
    have FL : full.size ≤ 512 * m := by
      have q : full.data.toList.length = full.size := Array.length_toList
      rw [← q, HFU.out, ← HEA.out]
      show (Lib.repeatL B.data.toList ea).length ≤ ea * wd
      rw [Lib.repeatL_length, HB.out]
      show ea * (bytesN v wd).length ≤ ea * wd
      rw [bytesN_len]; exact Nat.le_refl _
    have W1 := Lib.hid (vwrite_any (paint x w.heap.size t0) c0 d0 t0 wc vb n wd ea st ln sb db eb N m nb k 109 #[.pointer (some ⟨bx, 0, none⟩)] [(bx, #[.string full], 9)] (fun _ => full) V R1.out hcd ht X3 X4 X5 (by omega) he1 HK.out hkl hst (fun _ _ => FL) hN (enters_of Tryz.func109 (by kernel_rfl) rfl) (fun W b hc hb => by
      have g := hc (bx, #[.string full], 9) (by simp)
      have gc : W.cell? ⟨bx, 0, none⟩ = some (.string full) := by rw [cell_of_row _ _ _ _ _ _ g]; rfl
      clear hc g
      show Calls Tryz.prog 109 #[.int .i64 (b : Int), .pointer (some ⟨bx, 0, none⟩)] W _
      go_enter Tryz.func109, Tryz.ntmps109
      go_wp2_with fail
      go_ret
      exact ⟨rfl, rfl⟩))
    clear hg hbc f1 X1 X2 X3 X4 X5 R1 I1 I0 V0 KC
    generalize paint x w.heap.size t0 = x1 at W1 F1
    go_wp2_with fail
    refine W1.out.mono ?_
    rintro e w9 ⟨rfl, V9, r9, hV9⟩
    obtain ⟨x9, f9, v9, -⟩ := r9
    have F9 := Lib.hid ((F1.out.mono (D := GC c0 d0 t0) (fun e he => .inr he)).trans f9)
    have V9' := Lib.hid v9
    have HV9 := Lib.hid hV9
    clear f9 v9 hV9 W1 F1
    go_wp2_with fail
    go_ret
    refine ⟨rfl, x9, V9, F9.out, V9'.out, fill_read (V := V) HEA.out (by omega) (by omega) hcov.1 (by rw [HFU.out, HB.out]) HV9.out, fun j hj => ?_⟩
    rw [HV9.out j, if_neg (by omega)]

end Go.Proofs.YtbgbomlmgkgkoaaGreat.vc

namespace Go.Proofs.YtbgbomlmgkgkoaaGreat.vc
open Go.RowKit Go.Proofs.YtbgbomlmgkgkoaaGreat.own Go.Proofs.YtbgbomlmgkgkoaaGreat.dv Go.Proofs.YtbgbomlmgkgkoaaGreat.po Go.Proofs.YtbgbomlmgkgkoaaGreat.arcI Go.Proofs.YtbgbomlmgkgkoaaGreat.st

theorem zer_list (k : Nat) : (zer k).data.toList = List.replicate k 0 := by simp [zer]
/-- what Load leaves -/
theorem load_read {V V' : Int → ByteArray} {st sz k : Nat} {text : ByteArray} (hz : 0 < sz) (hk : text.size ≤ k * sz)
    (hV : ∀ j, V' j = if (st : Int) ≤ j ∧ j < (st : Int) + (k : Int) then text.extract (min ((j - (st : Int)).toNat * sz) text.size) (min (((j - (st : Int)).toNat + 1) * sz) text.size) ++ zer (sz - (text.extract (min ((j - (st : Int)).toNat * sz) text.size) (min (((j - (st : Int)).toNat + 1) * sz) text.size)).size) else V j) :
    ∀ i, i < text.data.toList.length → (V' ((st : Int) + ((i / sz : Nat) : Int))).data.toList[i % sz]? = text.data.toList[i]? := by
  intro i hi
  have hl : text.data.toList.length = text.size := Array.length_toList
  have hq := Nat.div_add_mod i sz
  have hr := Nat.mod_lt i hz
  have hqk : i / sz < k := Nat.div_lt_of_lt_mul (by rw [Nat.mul_comm]; omega)
  generalize i / sz = q at hq hqk ⊢
  generalize i % sz = r at hq hr ⊢
  have hq' : q * sz + r = i := by rw [Nat.mul_comm]; exact hq
  have h2 : (q + 1) * sz = q * sz + sz := by rw [Nat.add_mul, Nat.one_mul]
  rw [hV, if_pos (by omega), show ((st : Int) + (q : Int) - (st : Int)).toNat = q by omega, ByteArray.data_append, Array.toList_append, List.getElem?_append_left (by rw [extract_list, List.length_take, List.length_drop]; omega), extract_list, List.getElem?_take, if_pos (by omega), List.getElem?_drop, show min (q * sz) text.size + r = i by omega]
theorem vn_read {V : Int → ByteArray} {st sz wd n : Nat} {g : Nat → Nat} (h : VN V st sz wd n g) {st2 sz2 : Nat} {V2 : Int → ByteArray} (h2 : VN V2 st2 sz2 wd n g) : readL V st sz 0 (n * wd) = readL V2 st2 sz2 0 (n * wd) := by
  induction n with
  | zero => simp [readL]
  | succ n ih =>
    rw [Nat.add_mul, Nat.one_mul, readL_add, readL_add, Nat.zero_add, ih (fun i hi => h i (by omega)) (fun i hi => h2 i (by omega)), h n (by omega), h2 n (by omega)]
theorem readL_sub (V : Int → ByteArray) (st sz a b n : Nat) (h : a + b ≤ n) : ((readL V st sz 0 n).drop a).take b = readL V st sz a b := by
  obtain ⟨c, rfl⟩ : ∃ c, n = a + (b + c) := ⟨n - a - b, by omega⟩
  rw [readL_add, readL_add, List.drop_left' (readL_len _ _ _ _ _), List.take_left' (readL_len _ _ _ _ _), Nat.zero_add]

theorem load1_any (W : World) (tb bx b sz : Nat) (text : ByteArray) (h1 : W.cell? ⟨tb, 0, none⟩ = some (.string text)) (h2 : W.cell? ⟨bx, 0, none⟩ = some (.int .i64 (sz : Int))) (hb : b ≤ 4096) (hs : sz ≤ 4096) :
    Calls Tryz.prog 110 #[.int .i64 (b : Int), .pointer (some ⟨tb, 0, none⟩), .pointer (some ⟨bx, 0, none⟩)] W fun e w' => e = .returned (.string (text.extract (min (b * sz) text.size) (min ((b + 1) * sz) text.size))) ∧ W = w' := by
  have q1 := Nat.mul_le_mul hb hs
  obtain ⟨p1, hp1⟩ : ∃ p1, b * sz = p1 := ⟨_, rfl⟩
  obtain ⟨p2, hp2⟩ : ∃ p2, (b + 1) * sz = p2 := ⟨_, rfl⟩
  have h12 : p1 ≤ p2 := by rw [← hp1, ← hp2]; exact Nat.mul_le_mul (by omega) (Nat.le_refl _)
  have hl2 : p2 ≤ 33554432 := by rw [← hp2]; have := Nat.mul_le_mul (show b + 1 ≤ 8192 by omega) hs; omega
  obtain ⟨m1, hm1⟩ : ∃ m1, min p1 text.size = m1 := ⟨_, rfl⟩
  obtain ⟨m2, hm2⟩ : ∃ m2, min p2 text.size = m2 := ⟨_, rfl⟩
  have e1 : IntKind.i64.wrap ((b : Int) * (sz : Int)) = (p1 : Int) := by rw [← Int.natCast_mul, hp1]; exact IntWalk.i64_in _ (by omega)
  have e2 : IntKind.i64.wrap ((b : Int) + 1) = (b : Int) + 1 := IntWalk.i64_in _ (by omega)
  have e3 : IntKind.i64.wrap (((b : Int) + 1) * (sz : Int)) = (p2 : Int) := by rw [show (b : Int) + 1 = ((b + 1 : Nat) : Int) by omega, ← Int.natCast_mul, hp2]; exact IntWalk.i64_in _ (by omega)
  have n1 : min (p1 : Int) (text.size : Int) = (m1 : Int) := by omega
  have n2 : min (p2 : Int) (text.size : Int) = (m2 : Int) := by omega
  have l1 : m1 ≤ m2 := by omega
  have l2 : m2 ≤ text.size := by omega
  have H1 := Lib.hid hp1
  have H2 := Lib.hid hp2
  have H3 := Lib.hid hm1
  have H4 := Lib.hid hm2
  clear hp1 hp2 hm1 hm2
  go_enter Tryz.func110, Tryz.ntmps110
  go_wp2_with fail
  go_ret
  exact ⟨by rw [H1.out, H2.out, H3.out, H4.out]; rfl, rfl⟩

set_option maxRecDepth 100000 in
set_option maxHeartbeats 6400000 in
theorem vLoad_any (x : Nat → Nat) (c0 d0 t0 : Nat) (w : World) (vb n wd ea st ln sb db eb N m nb k : Nat) (text : ByteArray) (V : Int → ByteArray) (hv : VV x c0 d0 w sb db eb N m nb V) (hvi : VI w vb n wd ea st ln sb false) (hcd : c0 + 9 < d0 ∨ d0 + 2 < c0) (ht : ¬ PC c0 d0 t0) (hxv : ¬ PC c0 d0 (x vb)) (hxt : x vb ≠ t0) (hwd : WdOk wd) (hea : ea * wd = 512 * m) (hn : n ≤ 4096) (hk : max 1 ((n + ea - 1) / ea) = k) (hkl : k ≤ ln) (hst : st + ln ≤ nb ∧ nb ≤ 4096) (hN : N + 8 * 4097 < 1099511627776) (htx : text.size = n * wd) :
    Calls Tryz.prog 64 #[.pointer (some ⟨vb, 0, none⟩), .string text] w fun e w' => e = .returned (.int .i64 0) ∧ ∃ x' V', Fr x x' (GC c0 d0 t0) w w' ∧ VV x' c0 d0 w' sb db eb (N + 8 * k) m nb V' ∧ readL V' st (512 * m) 0 (n * wd) = text.data.toList := by
  have hm := hv.size
  have hw8 : 1 ≤ wd ∧ wd ≤ 8 := by rcases hwd with rfl | rfl | rfl | rfl <;> omega
  have he1 : 1 ≤ ea ∧ ea ≤ 4096 := by
    constructor
    · rcases Nat.eq_zero_or_pos ea with h | h
      · subst h; rw [Nat.zero_mul] at hea; omega
      · exact h
    · have := Nat.mul_le_mul (Nat.le_refl ea) hw8.1; omega
  have hcov := kcover he1.1 hk
  have hcov2 : text.size ≤ k * (512 * m) := by
    rw [htx, ← hea, ← Nat.mul_assoc]; exact Nat.mul_le_mul hcov.1 (Nat.le_refl wd)
  have hnw : n * wd ≤ 32768 := by have := Nat.mul_le_mul hn hw8.2; omega
  have hb0 : Below w.heap.size w (w.alloc (.cells #[.string text] 9)) := (Below.refl _ w).alloc (Nat.le_refl _) _
  have G0 := Lib.hid (World.alloc_heap_new w (.cells #[.string text] 9))
  have BW := Lib.hid hb0
  have I0 := Lib.hid (hvi.frame (hb0.block _ hvi.lt))
  have LV := Lib.hid hvi.lt
  have V0 := Lib.hid hv
  have RD := Lib.hid (vready_any _ vb n wd ea st ln sb I0.out)
  obtain ⟨p, hp⟩ : ∃ p, n * wd = p := ⟨_, rfl⟩
  obtain ⟨sz, hsz⟩ : ∃ sz, 512 * m = sz := ⟨_, rfl⟩
  rw [hp] at htx hnw ⊢
  rw [hsz] at hcov2
  have e1 : IntKind.i64.wrap ((n : Int) * (wd : Int)) = (p : Int) := by rw [← Int.natCast_mul, hp]; exact IntWalk.i64_in _ (by omega)
  have e2 : IntKind.i64.wrap ((ea : Int) * (wd : Int)) = (sz : Int) := by rw [← Int.natCast_mul, hea, hsz]; exact IntWalk.i64_in _ (by omega)
  obtain ⟨c0', c1', c2', -, -, -, -, -⟩ := I0.out.cells
  have HTX := Lib.hid htx
  have HSZ := Lib.hid hsz
  have HK := Lib.hid hk
  have hszl : 512 ≤ sz ∧ sz ≤ 4096 := by omega
  clear hv hvi hb0 hea hk hsz hp
  go_enter Tryz.func64, Tryz.ntmps64
  go_upto_region 1 with fail
  generalize hW0 : w.alloc _ = W0 at G0 BW I0 RD c0' c1' c2' ⊢
  clear hW0
  generalize hnq : w.heap.size = tb at G0 BW LV ⊢
  have HNQ := Lib.hid hnq
  clear hnq
  have g0 : W0.cell? ⟨tb, 0, none⟩ = some (.string text) := by rw [cell_of_row _ _ _ _ _ _ G0.out]; rfl
  go_wp2_with fail
  refine RD.out.mono ?_
  rintro e w1 ⟨rfl, rfl⟩
  go_upto_region 4 with fail
  go_quiet (fail)
  have BQ : Hid (Below W0.heap.size W0 (W0.drewN nq)) := Lib.hid ⟨rfl, rfl, rfl, Nat.le_refl _, fun _ _ => rfl⟩
  have c1' : (W0.drewN nq).cell? ⟨vb, 1, none⟩ = some (.int .i64 (wd : Int)) := c1'
  have c2' : (W0.drewN nq).cell? ⟨vb, 2, none⟩ = some (.int .i64 (ea : Int)) := c2'
  have BW0 := Lib.hid (BW.out.trans (BQ.out.mono (by have := BW.out.size; have := HNQ.out; omega)))
  have I1 := Lib.hid (I0.out.frame (BQ.out.block _ I0.out.lt))
  have G1 := Lib.hid ((BQ.out.block _ (lt_of_block G0.out)).trans G0.out)
  clear RD c0' g0 BQ I0 G0 BW
  generalize W0.drewN nq = W1 at c1' c2' BW0 I1 G1 ⊢
  go_upto_region 6 with fail
  go_cut [6] from 26 to 39 (fun s6 wc => ∃ bx, s6 = .pointer (some ⟨bx, 0, none⟩) ∧ wc.heap[bx]? = some (.cells #[.int .i64 (sz : Int)] 3 (0, 0)) ∧ W1.heap.size ≤ bx ∧ Below W1.heap.size W1 wc)
  case first => as_aux_lemma =>
    have GN := Lib.hid (World.alloc_heap_new W1.drew (.cells #[.int .i64 (sz : Int)] 3))
    have BN := Lib.hid ((Below.refl _ W1).drew.alloc (Nat.le_refl _) (.cells #[.int .i64 (sz : Int)] 3))
    have ca1 : (W1.alloc (.cells #[.int .i64 0] 3)).cell? ⟨vb, 1, none⟩ = some (.int .i64 (wd : Int)) := ((Below.refl _ W1).alloc (Nat.le_refl _) _).cell (p := ⟨vb, 1, none⟩) I1.out.lt |>.trans c1'
    have ca2 : (W1.alloc (.cells #[.int .i64 0] 3)).cell? ⟨vb, 2, none⟩ = some (.int .i64 (ea : Int)) := ((Below.refl _ W1).alloc (Nat.le_refl _) _).cell (p := ⟨vb, 2, none⟩) I1.out.lt |>.trans c2'
    go_upto_region 6 with fail
    go_region
    all_goals
      go_wp2_with fail
      go_meet
      case rel => exact ⟨_, rfl, GN.out, Nat.le_refl _, BN.out⟩
  case rest => as_aux_lemma =>
    obtain ⟨bx, rfl, hg, hbx, hbc⟩ := hcut
    have BA := Lib.hid (BW0.out.trans (hbc.mono (by have := BW0.out.size; have := HNQ.out; omega)))
    have f1 : Fr x (paint x w.heap.size t0) (fun e => e = t0) w wc := Fr.of_below (by rw [HNQ.out]; exact BA.out) rfl
    have gt := (hbc.block _ (lt_of_block G1.out)).trans G1.out
    have R1 : Hid (WRr (paint x w.heap.size t0) c0 d0 t0 wc vb n wd ea st ln sb db eb N m nb [(tb, #[.string text], 9), (bx, #[.int .i64 (sz : Int)], 3)] V wc) := Lib.hid (WRr.start (V0.out.frame f1 (fun e he hc => by subst hc; exact ht (PD_PC c0 d0 _ he))) (I1.out.frame (hbc.block _ I1.out.lt)) (fun p hp => by
      rcases List.mem_cons.1 hp with rfl | hp
      · exact gt
      · rw [List.mem_singleton] at hp; subst hp; exact hg))
    have F1 := Lib.hid f1
    have X1 : paint x w.heap.size t0 vb = x vb := paint_old (by rw [HNQ.out]; exact LV.out)
    have X2 : paint x w.heap.size t0 bx = t0 := paint_new (by have := BW0.out.size; have := HNQ.out; omega)
    have X6 : paint x w.heap.size t0 tb = t0 := paint_new (by have := HNQ.out; omega)
    have X3 : ¬ PC c0 d0 (paint x w.heap.size t0 vb) := by rw [X1]; exact hxv
    have X4 : paint x w.heap.size t0 vb ≠ t0 := by rw [X1]; exact hxt
    have X5 : ∀ p ∈ [(tb, #[Value.string text], 9), (bx, #[Value.int .i64 (sz : Int)], 3)], ¬ PC c0 d0 (paint x w.heap.size t0 p.1) := fun p hp => by
      rcases List.mem_cons.1 hp with rfl | hp
      · show ¬ PC c0 d0 (paint x w.heap.size t0 tb); rw [X6]; exact ht
      · rw [List.mem_singleton] at hp; subst hp; show ¬ PC c0 d0 (paint x w.heap.size t0 bx); rw [X2]; exact ht
    have W2 := Lib.hid (vwrite_any (paint x w.heap.size t0) c0 d0 t0 wc vb n wd ea st ln sb db eb N m nb k 110 #[.pointer (some ⟨tb, 0, none⟩), .pointer (some ⟨bx, 0, none⟩)] [(tb, #[.string text], 9), (bx, #[.int .i64 (sz : Int)], 3)] (fun b => text.extract (min (b * sz) text.size) (min ((b + 1) * sz) text.size)) V R1.out hcd ht X3 X4 X5 (by omega) he1 HK.out hkl hst (fun b _ => by
      rw [HSZ.out, ByteArray.size_extract, Nat.add_mul, Nat.one_mul]; omega) hN (enters_of Tryz.func110 (by kernel_rfl) rfl) (fun W b hc hb => by
      have g1 := hc (tb, #[.string text], 9) (by simp)
      have g2 := hc (bx, #[.int .i64 (sz : Int)], 3) (by simp)
      exact load1_any W tb bx b sz text (by rw [cell_of_row _ _ _ _ _ _ g1]; rfl) (by rw [cell_of_row _ _ _ _ _ _ g2]; rfl) (by omega) hszl.2))
    clear hg hbc f1 X1 X2 X3 X4 X5 X6 R1 I1 V0 gt
    generalize paint x w.heap.size t0 = x1 at W2 F1
    go_wp2_with fail
    refine W2.out.mono ?_
    rintro e w9 ⟨rfl, V9, r9, hV9⟩
    obtain ⟨x9, f9, v9, -⟩ := r9
    have F9 := Lib.hid ((F1.out.mono (D := GC c0 d0 t0) (fun e he => .inr he)).trans f9)
    have V9' := Lib.hid v9
    rw [HSZ.out] at hV9
    have HV9 := Lib.hid hV9
    clear f9 v9 hV9 W2 F1
    go_wp2_with fail
    go_ret
    refine ⟨rfl, x9, V9, F9.out, V9'.out, ?_⟩
    have q := readL_of (load_read (V := V) (st := st) (sz := sz) (k := k) (text := text) (by omega) hcov2 HV9.out) (off := 0) (n := p) (by rw [Array.length_toList]; show 0 + p ≤ text.size; omega)
    rw [HSZ.out, q, List.drop_zero]
    exact List.take_of_length_le (by rw [Array.length_toList]; show text.size ≤ p; omega)

/-- what stands in a round of Save -/
structure SVr (x : Nat → Nat) (c0 d0 q0 : Nat) (w : World) (vb n wd ea st ln sb db eb N m nb ob : Nat) (V : Int → ByteArray) (l : List UInt8) (wr : World) : Prop where
  ex : ∃ x', Fr x x' (RC c0 d0 q0) w wr ∧ VV x' c0 d0 wr sb db eb N m nb V ∧ BL x' q0 wr ob l ∧ VI wr vb n wd ea st ln sb false ∧ x' vb = x vb
section
variable {x : Nat → Nat} {c0 d0 q0 : Nat} {w : World} {vb n wd ea st ln sb db eb N m nb ob : Nat} {V : Int → ByteArray} {l : List UInt8} {wr : World}
theorem SVr.vi (h : SVr x c0 d0 q0 w vb n wd ea st ln sb db eb N m nb ob V l wr) : VI wr vb n wd ea st ln sb false := by obtain ⟨x', f, s, b, r, e⟩ := h; exact r
theorem SVr.mono (h : SVr x c0 d0 q0 w vb n wd ea st ln sb db eb N m nb ob V l wr) {N' : Nat} (hN : N ≤ N') : SVr x c0 d0 q0 w vb n wd ea st ln sb db eb N' m nb ob V l wr := by obtain ⟨x', f, s, b, r, e⟩ := h; exact ⟨x', f, s.mono hN, b, r, e⟩
theorem SVr.below (h : SVr x c0 d0 q0 w vb n wd ea st ln sb db eb N m nb ob V l wr) (hq : ¬ PC c0 d0 q0) {wc : World} (hb : Below wr.heap.size wr wc) : SVr x c0 d0 q0 w vb n wd ea st ln sb db eb N m nb ob V l wc := by
  obtain ⟨x', f, s, b, r, e⟩ := h
  have f2 : Fr x' (paint x' wr.heap.size q0) (fun e => e = q0) wr wc := Fr.of_below hb rfl
  refine ⟨_, f.trans (f2.mono (fun e he => .inr (.inl he))), s.frame f2 (fun e he hc => hq (by rw [← hc]; exact PD_PC c0 d0 _ he)), ?_, r.frame (hb.block _ r.lt), by rw [paint_old r.lt]; exact e⟩
  obtain ⟨⟨pv, sv, hb1, hp, ho, hx, hn⟩, xo⟩ := b
  exact ⟨⟨pv, sv, (hb.block _ (lt_of_block hb1)).trans hb1, hp, own_below ho hb, fun b hb2 => by rw [paint_old (ho.lt b hb2).2]; exact hx b hb2, hn⟩, by rw [paint_old (lt_of_block hb1)]; exact xo⟩
theorem SVr.read (h : SVr x c0 d0 q0 w vb n wd ea st ln sb db eb N m nb ob V l wr) (hcd : c0 + 9 < d0 ∨ d0 + 2 < c0) (hq0 : ¬ PC c0 d0 q0) (hq1 : ¬ PC c0 d0 (q0 + 1)) (hxv : ¬ PC c0 d0 (x vb)) {no : Int} (h0 : 0 ≤ no) (h1 : no < nb) (hN : N + 8 < 1099511627776) :
    Calls Tryz.prog 48 #[.pointer (some ⟨sb, 0, none⟩), .int .i64 no] wr fun e w' => e = .returned (.tuple #[.string (V no), .int .i64 0]) ∧ SVr x c0 d0 q0 w vb n wd ea st ln sb db eb (N + 8) m nb ob V l w' := by
  obtain ⟨x', f, s, b, r, e0⟩ := h
  refine (s.read hcd h0 h1 hN).mono ?_
  rintro e w' ⟨rfl, x2, f2, s2⟩
  exact ⟨rfl, x2, f.trans (f2.mono (fun e he => .inl he)), s2, b.frame f2 hq0 hq1, r.frame (f2.old _ r.lt (by rw [e0]; exact hxv)), (f2.col _ r.lt).trans e0⟩
theorem SVr.write (h : SVr x c0 d0 q0 w vb n wd ea st ln sb db eb N m nb ob V l wr) (hq0 : ¬ PC c0 d0 q0) (hq1 : ¬ PC c0 d0 (q0 + 1)) (hxq : x vb ≠ q0 ∧ x vb ≠ q0 + 1) (t : ByteArray) (ht : 0 < t.size) (hl : l.length + t.size ≤ 1099511627776) :
    Calls Tryz.prog 53 #[.pointer (some ⟨ob, 0, none⟩), .string t] wr fun e w' => (∃ v, e = .returned (.tuple v)) ∧ SVr x c0 d0 q0 w vb n wd ea st ln sb db eb N m nb ob V (l ++ t.data.toList) w' := by
  obtain ⟨x', f, s, b, r, e0⟩ := h
  refine (WriteString_any x' q0 wr ob l t b ht hl).mono ?_
  rintro e w' ⟨he, x2, f2, b2⟩
  exact ⟨he, x2, f.trans (f2.mono (fun e he => .inr he)), s.frame f2 (fun e he hc => by rcases hc with rfl | rfl; exact hq0 (PD_PC c0 d0 _ he); exact hq1 (PD_PC c0 d0 _ he)), b2, r.frame (f2.old _ r.lt (by rw [e0]; rintro (q | q); exact hxq.1 q; exact hxq.2 q)), (f2.col _ r.lt).trans e0⟩
end

set_option maxRecDepth 100000 in
set_option maxHeartbeats 6400000 in
theorem vSave_any (x : Nat → Nat) (q0 c0 d0 : Nat) (w : World) (vb n wd ea st ln sb db eb N m nb k : Nat) (V : Int → ByteArray) (hv : VV x c0 d0 w sb db eb N m nb V) (hvi : VI w vb n wd ea st ln sb false) (hcd : c0 + 9 < d0 ∨ d0 + 2 < c0) (hq0 : ¬ PC c0 d0 q0) (hq1 : ¬ PC c0 d0 (q0 + 1)) (hxv : ¬ PC c0 d0 (x vb)) (hxq : x vb ≠ q0 ∧ x vb ≠ q0 + 1) (hwd : WdOk wd) (hea : ea * wd = 512 * m) (hn : n ≤ 4096) (hk : max 1 ((n + ea - 1) / ea) = k) (hkl : k ≤ ln) (hst : st + ln ≤ nb ∧ nb ≤ 4096) (hN : N + 8 * 4097 < 1099511627776) :
    Calls Tryz.prog 73 #[.pointer (some ⟨vb, 0, none⟩)] w fun e w' => e = .returned (.tuple #[.string ⟨(readL V st (512 * m) 0 (n * wd)).toArray⟩, .int .i64 0]) ∧ ∃ x', Fr x x' (RC c0 d0 q0) w w' ∧ VV x' c0 d0 w' sb db eb (N + 8 * k) m nb V := by
  have hm := hv.size
  have hVs := hv.text
  have hw8 : 1 ≤ wd ∧ wd ≤ 8 := by rcases hwd with rfl | rfl | rfl | rfl <;> omega
  have he1 : 1 ≤ ea ∧ ea ≤ 4096 := by
    constructor
    · rcases Nat.eq_zero_or_pos ea with h | h
      · subst h; rw [Nat.zero_mul] at hea; omega
      · exact h
    · have := Nat.mul_le_mul (Nat.le_refl ea) hw8.1; omega
  have hcov := kcover he1.1 hk
  have V0 := Lib.hid hv
  have I0 := Lib.hid hvi
  have RD := Lib.hid (vready_any w vb n wd ea st ln sb hvi)
  obtain ⟨sz, hsz⟩ : ∃ sz, 512 * m = sz := ⟨_, rfl⟩
  have hszl : 512 ≤ sz ∧ sz ≤ 4096 := by omega
  rw [hsz] at hVs hea ⊢
  have HVS := Lib.hid hVs
  have HEA := Lib.hid hea
  have hkc : 8 * k ≤ 8 * 4096 := by omega
  obtain ⟨c0', -⟩ := hvi.cells
  have hcv1 := hcov.1
  have HCV := Lib.hid hcv1
  clear hv hvi hVs hea hsz hk hcov hcv1
  go_enter Tryz.func73, Tryz.ntmps73
  go_wp2_with fail
  refine RD.out.mono ?_
  rintro e w1 ⟨rfl, rfl⟩
  have hb0 : Below w.heap.size w (w.alloc (.cells #[.pointer none, .slice none 0 0] 135)) := (Below.refl _ w).alloc (Nat.le_refl _) _
  have hf0 : Fr x (paint x w.heap.size q0) (fun e => e = q0) w (w.alloc (.cells #[.pointer none, .slice none 0 0] 135)) := Fr.of_below hb0 rfl
  have RS : Hid (SVr x c0 d0 q0 w vb n wd ea st ln sb db eb N m nb w.heap.size V (readL V st sz 0 0) (w.alloc (.cells #[.pointer none, .slice none 0 0] 135))) := Lib.hid ⟨_, hf0.mono (fun e he => .inr (.inl he)), V0.out.frame hf0 (fun e he hc => hq0 (by rw [← hc]; exact PD_PC c0 d0 _ he)), ⟨⟨_, _, World.alloc_heap_new w _, .inl rfl, World.ownsRow_nil _ _ _ _, fun b hb => by simp [Value.ownBlock] at hb, fun _ => rfl⟩, paint_new (Nat.le_refl _)⟩, I0.out.frame (hb0.block _ I0.out.lt), paint_old I0.out.lt⟩
  clear hb0 hf0 V0 I0 RD c0'
  go_upto_region 5 with fail
  generalize hW0 : w.alloc _ = W1 at RS ⊢
  clear hW0
  generalize hob : w.heap.size = ob at RS ⊢
  clear hob
  obtain ⟨c0', -⟩ := RS.out.vi.cells
  go_wp2_with fail
  go_loopw [6, 7] (fun le bb wr => ∃ b : Nat, b ≤ k ∧ le = .int .i64 ((n - b * ea : Nat) : Int) ∧ bb = .int .i64 (b : Int) ∧ SVr x c0 d0 q0 w vb n wd ea st ln sb db eb (N + 8 * b) m nb ob V (readL V st sz 0 (min (b * ea) n * wd)) wr) (fun le _ _ => (intOf le).toNat)
  case atStart => exact ⟨0, by omega, by simp, rfl, by rw [Nat.zero_mul, Nat.zero_min, Nat.zero_mul]; exact RS.out⟩
  case round =>
    obtain ⟨b, hb, rfl, rfl, hR⟩ := hrel
    have HR := Lib.hid hR
    obtain ⟨-, c1', c2', c3', -, c5', -, -⟩ := hR.vi.cells
    clear hR c0'
    obtain ⟨p, hp⟩ : ∃ p, b * ea = p := ⟨_, rfl⟩
    rw [hp] at HR ⊢
    obtain ⟨le, hle⟩ : ∃ le, n - p = le := ⟨_, rfl⟩
    rw [hle]
    have HP := Lib.hid hp
    have HLE := Lib.hid hle
    by_cases hlt : 0 < le
    · have hbk : b < k := by
        rcases Nat.lt_or_ge b k with h | h
        · exact h
        · have := Nat.mul_le_mul h (Nat.le_refl ea); have := HCV.out; omega
      rw [Nat.min_eq_left (show p ≤ n by omega)] at HR
      clear hp hle
      have e1 : IntKind.i64.wrap ((st : Int) + (b : Int)) = (st : Int) + (b : Int) := IntWalk.i64_in _ (by omega)
      have z0 : (0 : Int) ≤ (st : Int) + (b : Int) := by omega
      have z1 : (st : Int) + (b : Int) < nb := by omega
      have z2 : N + 8 * b + 8 < 1099511627776 := by omega
      go_upto_region 8 with fail
      have R2 : wr.drew.cell? ⟨vb, 5, none⟩ = some (.pointer (some ⟨sb, 0, none⟩)) ∧ wr.drew.cell? ⟨vb, 3, none⟩ = some (.int .i64 (st : Int)) := ⟨c5', c3'⟩
      have W4B := Lib.hid (HR.out.below hq0 (Below.refl _ wr).drew)
      clear HR c1' c2' c3' c5'
      go_region_held3 (fun w' => w'.cell? ⟨vb, 5, none⟩ = some (.pointer (some ⟨sb, 0, none⟩)) ∧ w'.cell? ⟨vb, 3, none⟩ = some (.int .i64 (st : Int)))
        (first
        | (with_reducible assumption)
        | (exact R2))
        (first
        | (go_at_call 48; with_reducible refine Calls.mono (W4B.out.read hcd hq0 hq1 hxv z0 z1 z2) ?_; rintro e w5 ⟨rfl, h5⟩; have R5 := Lib.hid h5; clear R2; have R2 := (by (obtain ⟨-, -, -, q3, -, q5, -, -⟩ := R5.out.vi.cells; exact ⟨q5, q3⟩) : w5.cell? ⟨vb, 5, none⟩ = some (.pointer (some ⟨sb, 0, none⟩)) ∧ w5.cell? ⟨vb, 3, none⟩ = some (.int .i64 (st : Int))); clear h5))
      clear R2 W4B
      obtain ⟨-, c1', c2', -, -, -, -, -⟩ := R5.out.vi.cells
      obtain ⟨t, ht⟩ : ∃ t, V ((st : Int) + (b : Int)) = t := ⟨_, rfl⟩
      have hts : t.size = sz := by rw [← ht]; exact HVS.out _
      have HT := Lib.hid ht
      rw [ht]
      clear ht
      obtain ⟨nn, hnn⟩ : ∃ nn, min le ea = nn := ⟨_, rfl⟩
      have n1 : min (le : Int) (ea : Int) = (nn : Int) := by omega
      have hnn1 : 0 < nn ∧ nn ≤ le ∧ nn ≤ ea := by omega
      obtain ⟨qq, hqq⟩ : ∃ qq, nn * wd = qq := ⟨_, rfl⟩
      have hqs : qq ≤ sz := by rw [← hqq, ← HEA.out]; exact Nat.mul_le_mul hnn1.2.2 (Nat.le_refl wd)
      have hq1' : 0 < qq := by rw [← hqq]; exact Nat.mul_pos hnn1.1 (by omega)
      have e2 : IntKind.i64.wrap ((nn : Int) * (wd : Int)) = (qq : Int) := by rw [← Int.natCast_mul, hqq]; exact IntWalk.i64_in _ (by omega)
      have HNN := Lib.hid hnn
      have HQQ := Lib.hid hqq
      clear hnn hqq
      go_wp2_with fail
      obtain ⟨u, hu⟩ : ∃ u, t.extract 0 qq = u := ⟨_, rfl⟩
      have UL : Hid (u.data.toList = t.data.toList.take qq) := Lib.hid (by
        rw [← hu, extract_list, List.drop_zero, Nat.sub_zero])
      have hus : u.size = qq := by rw [← hu, ByteArray.size_extract]; omega
      rw [hu]
      clear hu
      have hpw : p * wd ≤ 32768 := by have := Nat.mul_le_mul (show p ≤ 4096 by have := HLE.out; omega) hw8.2; omega
      refine (R5.out.write hq0 hq1 hxq u (by omega) (by rw [readL_len]; omega)).mono ?_
      rintro e w6 ⟨⟨v6, rfl⟩, h6⟩
      have R6 : Hid (SVr x c0 d0 q0 w vb n wd ea st ln sb db eb (N + 8 * (b + 1)) m nb ob V (readL V st sz 0 (min ((b + 1) * ea) n * wd)) w6) := Lib.hid (by
        have hpz : p * wd = b * sz := by rw [← HP.out, ← HEA.out, Nat.mul_assoc]
        have hmin : min ((b + 1) * ea) n = p + nn := by
          rw [Nat.add_mul, Nat.one_mul, HP.out]; have := HNN.out; have := HLE.out; omega
        have q2 := readL_chunk (V := V) (st := st) (sz := sz) (off := b * sz) (k := qq) (by omega) (by rw [Nat.mul_div_cancel _ (by omega : 0 < sz)]; exact HVS.out _) (by rw [Nat.mul_mod_left]; omega)
        rw [Nat.mul_div_cancel _ (by omega : 0 < sz), Nat.mul_mod_left, HT.out, List.drop_zero, ← UL.out, ← hpz] at q2
        rw [hmin, Nat.add_mul, HQQ.out, readL_add, Nat.zero_add, q2]
        exact h6.mono (by omega))
      have e6 : IntKind.i64.wrap ((le : Int) - (nn : Int)) = ((le - nn : Nat) : Int) := by rw [IntWalk.i64_in _ (by have := HLE.out; omega)]; omega
      have e7 : IntKind.i64.wrap ((b : Int) + 1) = (b : Int) + 1 := IntWalk.i64_in _ (by omega)
      clear h6 R5 c1' c2'
      go_wp2_with fail
      go_roundw
      case rel =>
        refine ⟨b + 1, by omega, ?_, by go_num, R6.out⟩
        rw [show n - (b + 1) * ea = le - nn by rw [Nat.add_mul, Nat.one_mul, HP.out]; have := HNN.out; have := HLE.out; omega]
      case measure => simp [intOf]; omega
    · obtain rfl : le = 0 := by omega
      rw [Nat.min_eq_right (show n ≤ p by omega)] at HR
      clear hp hle
      obtain ⟨x5, f5, s5, b5, -, -⟩ := HR.out
      have F5 := Lib.hid f5
      have S5 := Lib.hid s5
      have B5 := Lib.hid b5
      have hlen : n * wd ≤ 32768 := by have := Nat.mul_le_mul hn hw8.2; omega
      clear f5 s5 b5 HR c1' c2' c3' c5'
      go_wp2_with fail
      refine (String_any x5 q0 wr ob _ B5.out (by rw [readL_len]; omega)).mono ?_
      rintro e w6 ⟨rfl, x6, f6⟩
      have F6 := Lib.hid f6
      clear f6
      go_wp2_with fail
      refine bodyPost_ret (v := .tuple #[.string ⟨(readL V st sz 0 (n * wd)).toArray⟩, .int .i64 0]) (by simp [results, Tryz.f73, go_sem]) rfl ?_
      exact ⟨rfl, x6, F5.out.trans (F6.out.mono (fun e he => .inr he)), (S5.out.frame F6.out (fun e he hc => by rcases hc with rfl | rfl; exact hq0 (PD_PC c0 d0 _ he); exact hq1 (PD_PC c0 d0 _ he))).mono (by omega)⟩

end Go.Proofs.YtbgbomlmgkgkoaaGreat.vc

namespace Go.Proofs.YtbgbomlmgkgkoaaGreat.vc
open Go.RowKit Go.Proofs.YtbgbomlmgkgkoaaGreat.own Go.Proofs.YtbgbomlmgkgkoaaGreat.dv Go.Proofs.YtbgbomlmgkgkoaaGreat.po Go.Proofs.YtbgbomlmgkgkoaaGreat.arcI Go.Proofs.YtbgbomlmgkgkoaaGreat.st

theorem takeWhile_rep (k : Nat) : (List.replicate k 0).takeWhile (fun v : Nat => v == 0) = List.replicate k 0 := by
  induction k with
  | zero => rfl
  | succ k ih => rw [List.replicate_succ]; show 0 :: (List.replicate k 0).takeWhile _ = _; rw [ih]
/-- a map in which all is free -/
theorem firstFit_fresh (nb frm k : Nat) (h : frm + k ≤ nb) (hk : 1 ≤ k) : firstFit (List.replicate nb 0) frm k = some frm := by
  unfold firstFit runs
  have hlen : (List.replicate nb (0 : Nat)).length = nb := List.length_replicate
  have e1 : runEnd (List.replicate nb 0) frm = nb := by
    unfold runEnd
    rw [List.drop_replicate, takeWhile_rep, List.length_replicate]; omega
  rw [hlen]
  have e2 : runsF (List.replicate nb 0) (nb + 1) frm = (if frm < (List.replicate nb (0 : Nat)).length then (if runEnd (List.replicate nb 0) frm - frm = 0 then [] else [(frm, runEnd (List.replicate nb 0) frm - frm)]) ++ runsF (List.replicate nb 0) nb (runEnd (List.replicate nb 0) frm + 1) else []) := rfl
  rw [e2, hlen, if_pos (by omega), e1, if_neg (by omega), List.singleton_append, List.find?_cons_of_pos (by simp; omega)]
  rfl

def S2 (c0 d0 e0 : Nat) : Nat → Prop := fun e => PC c0 d0 e ∨ EC e0 e
set_option maxRecDepth 100000 in
theorem space_any (x : Nat → Nat) (c0 d0 e0 : Nat) (hcd : c0 + 9 < d0 ∨ d0 + 2 < c0) (hde : d0 + 2 < e0 ∨ e0 + 1 < d0) (hce : c0 + 9 < e0 ∨ e0 + 1 < c0) (w : World) (nb m fr : Nat) (hnb : 16 ≤ nb ∧ nb ≤ 4096) (hm : 1 ≤ m ∧ m ≤ 8) (h1 : 1 ≤ fr) (h2 : fr ≤ 1024) :
    Calls Tryz.prog 19 #[.int .i64 (nb : Int), .int .i64 (m : Int), .int .i64 (fr : Int)] w fun e w' => ∃ sb db eb x' V, e = .returned (.tuple #[.pointer (some ⟨sb, 0, none⟩), .pointer (some ⟨db, 0, none⟩)]) ∧
      Fr x x' (S2 c0 d0 e0) w w' ∧ VV x' c0 d0 w' sb db eb 0 m nb V ∧ EIs x' e0 w' eb 2 (List.replicate nb 0) := by
  go_enter Tryz.func19, Tryz.ntmps19
  go_wp2_with fail
  refine (DNew_any x d0 w nb m hnb hm).mono ?_
  rintro e w1 ⟨db, x1, rfl, f1, d1, b1⟩
  have F1 := Lib.hid (f1.mono (D := S2 c0 d0 e0) (fun e he => .inl (.inr he)))
  have D1 := Lib.hid d1
  clear f1 d1 b1
  go_wp2_with fail
  refine (ENew_any x1 e0 w1 2 nb (by omega) (by omega)).mono ?_
  rintro e w2 ⟨eb, x2, rfl, f2, e2, b2⟩
  have D2 := Lib.hid (D1.out.frame f2 (fun e he hc => by have a := he.1; have a2 := he.2; have b := hc.1; have b2 := hc.2; omega))
  have F2 := Lib.hid (F1.out.trans (f2.mono (D := S2 c0 d0 e0) (fun e he => .inr he)))
  have E2 := Lib.hid e2
  clear f2 e2 b2 F1 D1
  go_wp2_with fail
  refine (PNew_any x2 c0 db eb w2 fr h1 h2).mono ?_
  rintro e w3 ⟨sb, cb, pm, x3, rfl, f3, t3, b3⟩
  have D3 := Lib.hid (D2.out.frame f3 (fun e he hc => by have a := he.1; have a2 := he.2; have b := hc.1.1; have b2 := hc.1.2; omega))
  have E3 := Lib.hid (E2.out.frame f3 (fun e he hc => by have a := he.1; have a2 := he.2; have b := hc.1.1; have b2 := hc.1.2; omega))
  have F3 := Lib.hid (F2.out.trans (f3.mono (D := S2 c0 d0 e0) (fun e he => .inl (.inl he.1))))
  obtain ⟨V, hV⟩ := VV.made (x := x3) (c0 := c0) (d0 := d0) (w := w3) (sb := sb) (db := db) (eb := eb) (m := m) (nb := nb) (fr := fr) ⟨⟨cb, pm, _, t3⟩, D3.out⟩ hnb hm h1 h2
  have V3 := Lib.hid hV
  clear f3 b3 t3 F2 D2 E2 hV
  go_wp2_with fail
  refine bodyPost_ret (v := .tuple #[.pointer (some ⟨sb, 0, none⟩), .pointer (some ⟨db, 0, none⟩)]) (by simp [results, Tryz.f19, go_sem]) rfl ?_
  exact ⟨sb, db, eb, x3, V, rfl, F3.out, V3.out, E3.out⟩

def NC (c0 d0 e0 t0 v0 : Nat) : Nat → Prop := fun e => PC c0 d0 e ∨ EC e0 e ∨ e = t0 ∨ e = v0
set_option maxRecDepth 100000 in
set_option maxHeartbeats 6400000 in
theorem vNew_any (x : Nat → Nat) (c0 d0 e0 t0 v0 : Nat) (w : World) (sb db eb N m nb n wd ea k st frm : Nat) (V : Int → ByteArray) (L : List Nat) (hv : VV x c0 d0 w sb db eb N m nb V) (hE : EIs x e0 w eb frm L) (hcd : c0 + 9 < d0 ∨ d0 + 2 < c0) (hde : d0 + 2 < e0 ∨ e0 + 1 < d0) (hce : c0 + 9 < e0 ∨ e0 + 1 < c0) (ht : ¬ PC c0 d0 t0) (hte : ¬ EC e0 t0) (hv0 : ¬ PC c0 d0 v0) (hve : ¬ EC e0 v0) (hvt : v0 ≠ t0)
    (hwd : WdOk wd) (hea : ea * wd = 512 * m) (hn : n ≤ 4096) (hk : max 1 ((n + ea - 1) / ea) = k) (hL : L.length = nb) (hnb : 16 ≤ nb ∧ nb ≤ 4096) (hfl : frm ≤ nb) (hff : firstFit L frm k = some st) (hN : N + 8 * 4097 < 1099511627776) :
    Calls Tryz.prog 26 #[.pointer (some ⟨sb, 0, none⟩), .int .i64 (n : Int), .int .i64 (wd : Int)] w fun e w' => ∃ vb x' V', e = .returned (.tuple #[.pointer (some ⟨vb, 0, none⟩), .int .i64 0]) ∧ Fr x x' (NC c0 d0 e0 t0 v0) w w' ∧ VV x' c0 d0 w' sb db eb (N + 8 * k) m nb V' ∧
      VI w' vb n wd ea st k sb false ∧ x' vb = v0 ∧ EIs x' e0 w' eb frm (setL L st k 1) ∧ VN V' st (512 * m) wd n (fun _ => 0) ∧ ∀ j, (j < (st : Int) ∨ (st : Int) + (k : Int) ≤ j) → V' j = V j := by
  have hm := hv.size
  have hw8 : 1 ≤ wd ∧ wd ≤ 8 := by rcases hwd with rfl | rfl | rfl | rfl <;> omega
  have he1 : 1 ≤ ea ∧ ea ≤ 4096 := by
    constructor
    · rcases Nat.eq_zero_or_pos ea with h | h
      · subst h; rw [Nat.zero_mul] at hea; omega
      · exact h
    · have := Nat.mul_le_mul (Nat.le_refl ea) hw8.1; omega
  have hcov := kcover he1.1 hk
  obtain ⟨hf1, hf2, -⟩ := firstFit_free hff
  rw [hL] at hf2
  have V0 := Lib.hid hv
  have E0 := Lib.hid hE
  have SZ := Lib.hid hv.Size
  have BK := Lib.hid (fun W => blocks_any W n wd ea k (by omega) he1 hk)
  unfold shV at BK
  have hq : Int.tdiv ((512 * m : Nat) : Int) (wd : Int) = (ea : Int) := by
    rw [← hea, ← Int.ofNat_tdiv, Nat.mul_div_cancel _ (by omega)]
  have hw0 : ¬ ((wd : Int) = 0) := by omega
  have hw1 : ¬ (wd = 0) := by omega
  have eq1 : IntKind.i64.wrap (ea : Int) = (ea : Int) := IntWalk.i64_in _ (by omega)
  have d1 : decide ((n : Int) < 0) = false := decide_eq_false (by omega)
  have d2 : decide ((4194304 : Int) < (n : Int)) = false := decide_eq_false (by omega)
  have d3 : decide (4194304 < n) = false := decide_eq_false (by omega)
  obtain ⟨sz, hsz⟩ : ∃ sz, 512 * m = sz := ⟨_, rfl⟩
  have hszl : sz ≤ 4096 := by omega
  rw [hsz] at SZ hq
  have HSZ := Lib.hid hsz
  have HEA := Lib.hid hea
  have HK := Lib.hid hk
  have HL := Lib.hid hL
  have HFF := Lib.hid hff
  have hkl : k ≤ nb := by omega
  clear hv hE hea hk hL hff hsz
  go_enter Tryz.func26, Tryz.ntmps26
  go_upto_region 3 with fail
  go_cut [15] from 15 to 37 (fun s15 wc => s15 = .bool false ∧ w = wc)
  case first => as_aux_lemma =>
    clear hq hw0 hw1 eq1
    rcases hwd with rfl | rfl | rfl | rfl
    all_goals
      go_wp2_with fail
      go_meet
      case rel => exact ⟨by simp, rfl⟩
  case rest => as_aux_lemma =>
    obtain ⟨rfl, rfl⟩ := hcut
    go_wp2_with fail
    refine SZ.out.mono ?_
    rintro e w1 ⟨rfl, rfl⟩
    go_wp2_with fail
    have hb0 : Below w.heap.size w (w.alloc (.cells #[.int .i64 (n : Int), .int .i64 (wd : Int), .int .i64 (ea : Int), .int .i64 0, .int .i64 0, .pointer (some ⟨sb, 0, none⟩), .bool false] 171)) := (Below.refl _ w).alloc (Nat.le_refl _) _
    have f0 : Fr x (paint x w.heap.size v0) (fun e => e = v0) w (w.alloc (.cells #[.int .i64 (n : Int), .int .i64 (wd : Int), .int .i64 (ea : Int), .int .i64 0, .int .i64 0, .pointer (some ⟨sb, 0, none⟩), .bool false] 171)) := Fr.of_below hb0 rfl
    have G0 := Lib.hid (World.alloc_heap_new w (.cells #[.int .i64 (n : Int), .int .i64 (wd : Int), .int .i64 (ea : Int), .int .i64 0, .int .i64 0, .pointer (some ⟨sb, 0, none⟩), .bool false] 171))
    have V1 := Lib.hid (V0.out.frame f0 (fun e he hc => by subst hc; exact hv0 (PD_PC c0 d0 _ he)))
    have E1 := Lib.hid (E0.out.frame f0 (fun e he hc => by subst hc; exact hve he))
    have F1 := Lib.hid (f0.mono (D := NC c0 d0 e0 t0 v0) (fun e he => .inr (.inr (.inr he))))
    have X1 : Hid (paint x w.heap.size v0 w.heap.size = v0) := Lib.hid (paint_new (Nat.le_refl _))
    clear hb0 f0 V0 E0 SZ
    generalize w.alloc _ = W1 at G0 V1 E1 F1 ⊢
    generalize paint x w.heap.size v0 = x1 at V1 E1 F1 X1
    generalize hvb : w.heap.size = vb at G0 X1 ⊢
    clear hvb
    refine (BK.out W1).mono ?_
    rintro e w2 ⟨rfl, hb2⟩
    have f2 : Fr x1 (paint x1 W1.heap.size t0) (fun e => e = t0) W1 w2 := Fr.of_below hb2 rfl
    have V2 := Lib.hid (V1.out.frame f2 (fun e he hc => by subst hc; exact ht (PD_PC c0 d0 _ he)))
    have E2 := Lib.hid (E1.out.frame f2 (fun e he hc => by subst hc; exact hte he))
    have F2 := Lib.hid (F1.out.trans (f2.mono (D := NC c0 d0 e0 t0 v0) (fun e he => .inr (.inr (.inl he)))))
    have G2 := Lib.hid ((hb2.block _ (lt_of_block G0.out)).trans G0.out)
    have X2 := Lib.hid ((f2.col _ (lt_of_block G0.out)).trans X1.out)
    clear hb2 f2 V1 E1 F1 G0 X1
    generalize paint x1 W1.heap.size t0 = x2 at V2 E2 F2 X2
    go_wp2_with fail
    refine (Take_any x2 c0 d0 e0 t0 hte w2 sb db eb N m nb frm k st V L V2.out E2.out (by rw [HL.out]; omega) (by rw [HL.out]; exact hfl) (by omega) HFF.out).mono ?_
    rintro e w3 ⟨rfl, x3, f3, e3⟩
    have PE : ∀ e, PD c0 d0 e → ¬ EC e0 e := fun e he hc => by
      have b1 := hc.1; have b2 := hc.2
      rcases he with he | he
      · have q1 := he.1.1; have q2 := he.1.2; omega
      · have q1 := he.1; have q2 := he.2; omega
    have V3 := Lib.hid (V2.out.frame f3 (fun e he hc => by
      rcases hc with hc | hc
      · exact PE e he hc
      · subst hc; exact ht (PD_PC c0 d0 _ he)))
    have E3 := Lib.hid e3
    have F3 := Lib.hid (F2.out.trans (f3.mono (D := NC c0 d0 e0 t0 v0) (fun e he => he.elim (fun h => .inr (.inl h)) (fun h => .inr (.inr (.inl h))))))
    have nv : ¬ (EC e0 v0 ∨ v0 = t0) := fun q => q.elim hve hvt
    have G3 := Lib.hid ((f3.old vb (lt_of_block G2.out) (by rw [X2.out]; exact nv)).trans G2.out)
    have X3 := Lib.hid ((f3.col vb (lt_of_block G2.out)).trans X2.out)
    clear f3 e3 V2 E2 F2 G2 X2
    go_upto_region 7 with fail
    have hb4 : Below w3.heap.size w3 (w3.alloc (.cells #[.int .i64 (st : Int), .int .i64 (k : Int)] 34)) := (Below.refl _ w3).alloc (Nat.le_refl _) _
    have f4 : Fr x3 (paint x3 w3.heap.size t0) (fun e => e = t0) w3 (w3.alloc (.cells #[.int .i64 (st : Int), .int .i64 (k : Int)] 34)) := Fr.of_below hb4 rfl
    have T4 := Lib.hid (World.alloc_heap_new w3 (.cells #[.int .i64 (st : Int), .int .i64 (k : Int)] 34))
    have V4 := Lib.hid (V3.out.frame f4 (fun e he hc => by subst hc; exact ht (PD_PC c0 d0 _ he)))
    have E4 := Lib.hid (E3.out.frame f4 (fun e he hc => by subst hc; exact hte he))
    have F4 := Lib.hid (F3.out.trans (f4.mono (D := NC c0 d0 e0 t0 v0) (fun e he => .inr (.inr (.inl he)))))
    have G4 := Lib.hid ((hb4.block _ (lt_of_block G3.out)).trans G3.out)
    have X4 := Lib.hid ((f4.col _ (lt_of_block G3.out)).trans X3.out)
    have hlt4 := lt_of_block G3.out
    clear hb4 f4 V3 E3 F3 G3 X3 nv
    generalize w3.alloc _ = W4 at T4 V4 E4 F4 G4 ⊢
    generalize paint x3 w3.heap.size t0 = x4 at V4 E4 F4 X4
    generalize w3.heap.size = tb at T4 hlt4 ⊢
    have t0' : W4.cell? ⟨tb, 0, none⟩ = some (.int .i64 (st : Int)) := by rw [cell_of_row _ _ _ _ _ _ T4.out]; rfl
    have t1' : W4.cell? ⟨tb, 1, none⟩ = some (.int .i64 (k : Int)) := by rw [cell_of_row _ _ _ _ _ _ T4.out]; rfl
    have v3' : W4.cell? ⟨vb, 3, none⟩ = some (.int .i64 0) := by rw [cell_of_row _ _ _ _ _ _ G4.out]; rfl
    have v4' : W4.cell? ⟨vb, 4, none⟩ = some (.int .i64 0) := by rw [cell_of_row _ _ _ _ _ _ G4.out]; rfl
    have vf : ∀ j, W4.frozen? ⟨vb, j, none⟩ = false := fun j => frozen_of_row _ _ _ _ _ G4.out
    have vf3 := vf 3
    have vf4 := vf 4
    clear vf
    have f5 : Fr x4 x4 (fun e => e = v0) W4 ((W4.setCell ⟨vb, 3, none⟩ (.int .i64 (st : Int))).setCell ⟨vb, 4, none⟩ (.int .i64 (k : Int))) := Fr.same rfl rfl rfl (by simp) (fun b _ hC => by
      have hne : b ≠ vb := by rintro rfl; exact hC X4.out
      rw [Below.heap_setCell _ _ _ _ hne, Below.heap_setCell _ _ _ _ hne])
    have V5 := Lib.hid (V4.out.frame f5 (fun e he hc => by subst hc; exact hv0 (PD_PC c0 d0 _ he)))
    have E5 := Lib.hid (E4.out.frame f5 (fun e he hc => by subst hc; exact hve he))
    have F5 := Lib.hid (F4.out.trans (f5.mono (D := NC c0 d0 e0 t0 v0) (fun e he => .inr (.inr (.inr he)))))
    have I5 : Hid (VI ((W4.setCell ⟨vb, 3, none⟩ (.int .i64 (st : Int))).setCell ⟨vb, 4, none⟩ (.int .i64 (k : Int))) vb n wd ea st k sb false) := Lib.hid (by
      unfold VI
      rw [heap_setCell_same _ vb 4 _ _ _ (heap_setCell_same W4 vb 3 _ _ _ G4.out)]; rfl)
    clear f5 V4 E4 F4 G4 T4
    go_upto_region 10 with fail
    generalize (W4.setCell ⟨vb, 3, none⟩ (.int .i64 (st : Int))).setCell ⟨vb, 4, none⟩ (.int .i64 (k : Int)) = W5 at V5 E5 F5 I5 ⊢
    clear t0' t1' v3' v4' vf3 vf4
    go_wp2_with fail
    have hp0 : (0 : Nat) < 256 ^ wd := Nat.pow_pos (by omega)
    refine (vFill_any x4 c0 d0 t0 W5 vb n wd ea st k sb db eb N m nb k 0 V V5.out I5.out hcd ht (by rw [X4.out]; exact hv0) (by rw [X4.out]; exact hvt) hwd HEA.out (by omega) HK.out (Nat.le_refl _) (by omega) hN hp0).mono ?_
    rintro e w6 ⟨rfl, x6, V6, f6, v6, vn6, vo6⟩
    have hev : ¬ GC c0 d0 t0 v0 := fun q => q.elim hv0 hvt
    have I6 := Lib.hid (I5.out.frame (f6.old vb I5.out.lt (by rw [X4.out]; exact hev)))
    have X6 := Lib.hid ((f6.col vb I5.out.lt).trans X4.out)
    have E6 := Lib.hid (E5.out.frame f6 (fun e he hc => by
      rcases hc with hc | hc
      · have b1 := he.1; have b2 := he.2
        rcases hc with hc | hc
        · have q1 := hc.1; have q2 := hc.2; omega
        · have q1 := hc.1; have q2 := hc.2; omega
      · subst hc; exact hte he))
    have F6 := Lib.hid (F5.out.trans (f6.mono (D := NC c0 d0 e0 t0 v0) (fun e he => he.elim .inl (fun h => .inr (.inr (.inl h))))))
    have V6' := Lib.hid v6
    have VN6 := Lib.hid vn6
    have VO6 := Lib.hid vo6
    clear f6 v6 vn6 vo6 V5 E5 F5 I5 X4
    go_wp2_with fail
    refine bodyPost_ret (v := .tuple #[.pointer (some ⟨vb, 0, none⟩), .int .i64 0]) (by simp [results, Tryz.f26, go_sem]) rfl ?_
    exact ⟨vb, x6, V6, rfl, F6.out, V6'.out, I6.out, X6.out, E6.out, VN6.out, VO6.out⟩

end Go.Proofs.YtbgbomlmgkgkoaaGreat.vc
